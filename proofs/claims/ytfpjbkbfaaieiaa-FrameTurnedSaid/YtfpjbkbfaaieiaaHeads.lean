/- apportionlaw06.FrameHeads -/
import Derived.Test.YtfpjbkbfaaieiaaBack
namespace Go.Proofs.Ytfpjbkbfaaieiaa
open Go.RowKit
/-- a bit turned within a head: the scan ends ahead of it. -/
theorem scan_heads (L : List (List UInt8)) (W J : Nat) (hW : W < L.length) (hJ : J < 64) (hs : ∀ r ∈ L, r.length ≤ 65536) :
    Fr.scanF (Fr.flipBit (Fr.putAll L) (8 * (Fr.putAll (L.take W)).length + J)) = (L.take W, (Fr.putAll (L.take W)).length, 2) := by
  have e1 : Fr.putAll L = Fr.putAll (L.take W) ++ (Fr.putF (L.getD W []) ++ Fr.putAll (L.drop (W + 1))) := by
    conv => lhs; rw [← List.take_append_drop W L, putAll_append]
    congr 1
    rw [List.drop_eq_getElem_cons hW]
    have : L.getD W [] = L[W] := by simp [List.getD, List.getElem?_eq_getElem hW]
    rw [this]; rfl
  have hmem : L.getD W [] ∈ L := by
    rw [List.getD_eq_getElem?_getD, List.getElem?_eq_getElem hW]
    exact List.getElem_mem _
  rw [e1, Fr.flipBit_behind, Fr.flipBit_append _ _ _ (by rw [Fr.putF_length]; omega),
    Fr.scanF_putAll _ _ (fun r hr => hs r (List.mem_of_mem_take hr))]
  rw [Fr.scanF_eq (Fr.flipBit _ _ ++ _), Fr.heads_bad _ (hs _ hmem) _ _ hJ]
  simp
/-- the frame of record W lies whole among the frames. -/
theorem ends_step (L : List (List UInt8)) (W : Nat) (hW : W < L.length) : (Fr.putAll (L.take (W + 1))).length = (Fr.putAll (L.take W)).length + (L.getD W []).length + 12 ∧ (Fr.putAll (L.take (W + 1))).length ≤ (Fr.putAll L).length := by
  refine ⟨?_, putAll_take_le L (W + 1)⟩
  rw [putAll_succ L W hW, List.length_append, Fr.putF_length]; omega
/-- the row of an owned slice of bytes, opened. -/
theorem OwnB.row {w : World} {base n cap : Nat} {ao : Option Addr} {l : List UInt8} (h : OwnB w base (.slice ao n cap) l) (hl : 0 < n) :
    ∃ g cur, ao = some ⟨g, 0, none⟩ ∧ base ≤ g ∧ w.heap[g]? = some (.cells cur 5 (0, 0)) ∧ l.length = n ∧ n ≤ cur.size := by
  rcases h.1.2 with ⟨e, h0⟩ | ⟨g, cap2, cur, e, hb, hg, hn, hm, hs, ht⟩
  · injection e with e1 e2 e3; omega
  · injection e with e1 e2 e3
    exact ⟨g, cur, e1, hb, hg, e2.symm, by omega⟩
theorem IsBytes.set {w : World} {g n cap i : Nat} {l : List UInt8} {c : UInt8} {cur : Array Value} (h : IsBytes w (some ⟨g, 0, none⟩) n cap l) (hg : w.heap[g]? = some (.cells cur 5 (0, 0))) (hi : i < n) (hsz : n ≤ cur.size) :
    IsBytes (w.setCell ⟨g, i, none⟩ (.int .u8 (c.toNat : Int))) (some ⟨g, 0, none⟩) n cap (l.set i c) := by
  obtain ⟨h1, h2, h3, h4, h5⟩ := h
  refine ⟨by simpa using h1, h2, h3, fun _ => ⟨g, 0, rfl, fun j hj => ?_⟩, h5⟩
  obtain ⟨b, off, e, hat⟩ := h4 (by intro hh; rw [hh] at h1; simp at h1; omega)
  injection e with e
  injection e with e1 e2 _
  subst e1; subst e2
  have hj2 : j < l.length := by simpa using hj
  have hc := hat j hj2
  rw [cell_of_row _ _ _ _ _ _ hg] at hc
  rw [cell_of_row _ _ _ _ _ _ (heap_setCell_same w g i _ _ (.int .u8 (c.toNat : Int)) hg)]
  rw [Nat.zero_add] at hc ⊢
  by_cases hij : i = j
  · subst hij
    rw [Array.getElem?_setIfInBounds_self_of_lt (by omega)]
    simp [List.getD, List.getElem?_set_self hj2]
  · rw [Array.getElem?_setIfInBounds_ne hij, hc]
    simp [List.getD, List.getElem?_set_ne hij]
theorem xor_pow (c : UInt8) (M : Nat) (h : M < 8) : bits .xor .u8 (c.toNat : Int) (2 ^ M % 256) = (((⟨c.toBitVec ^^^ (1#8 <<< M)⟩ : UInt8).toNat : Nat) : Int) := by
  have hd : ((2 : Int) ^ M % 256) = ((((⟨1#8 <<< M⟩ : UInt8)).toNat : Nat) : Int) := by
    have hM : M = 0 ∨ M = 1 ∨ M = 2 ∨ M = 3 ∨ M = 4 ∨ M = 5 ∨ M = 6 ∨ M = 7 := by omega
    rcases hM with rfl | rfl | rfl | rfl | rfl | rfl | rfl | rfl <;> decide
  rw [hd, xor_u8]
  rfl
theorem flip_set (l : List UInt8) (S Q M : Nat) (h : M < 8) : Fr.flipBit l (8 * S + (8 * Q + M)) = l.set (S + Q) ⟨(l.getD (S + Q) 0).toBitVec ^^^ (1#8 <<< M)⟩ := by
  unfold Fr.flipBit
  rw [show (8 * S + (8 * Q + M)) / 8 = S + Q by omega, show (8 * S + (8 * Q + M)) % 8 = M by omega]
set_option maxRecDepth 100000 in
set_option maxHeartbeats 4000000 in
theorem FrameHeads_any (w : World) (ao : Option Addr) (n cap : Nat) (L : List (List UInt8)) (hs : IsLists w ao n cap L) (a1 : Int) (h1 : (Lit.int .i64 a1).wf = true) (a2 : Int) (h2 : (Lit.int .i64 a2).wf = true) :
    Calls Try.prog 8 #[.slice ao n cap, .int .i64 a1, .int .i64 a2] w fun e w' => e = .returned (.bool true) ∧ Below w.heap.size w w' := by
  have hn : n = L.length := hs.1.symm
  subst hn
  have HS := Lib.hid hs
  obtain ⟨hx0, hx1⟩ := wf_i64 h1
  obtain ⟨hy0, hy1⟩ := wf_i64 h2
  clear hs h1 h2
  by_cases hbig : L.length ≤ 20 ∧ 0 < L.length
  case neg =>
    by_cases hb : 20 < L.length
    · have hb1 : (20 : Int) < (L.length : Int) := by omega
      clear hbig
      go_enter Try.func8, Try.ntmps8
      go_wp2_with fail
      refine (awake_any w).mono ?_
      rintro e w1 ⟨rfl, hb⟩
      go_wp2_with fail
      go_ret
      exact ⟨rfl, hb⟩
    · have hb0 : L.length = 0 := by omega
      rw [hb0] at HS ⊢
      clear hbig hb hb0
      go_enter Try.func8, Try.ntmps8
      go_wp2_with fail
      refine (awake_any w).mono ?_
      rintro e w1 ⟨rfl, hb⟩
      go_wp2_with fail
      go_ret
      exact ⟨rfl, hb⟩
  obtain ⟨hbig, hpos⟩ := hbig
  have hb0 : (L.length : Int) ≤ 20 := by omega
  have hpos1 : ((L.length : Int) == 0) = false := by simp; intro h; rw [h] at hpos; simp at hpos
  have hpos2 : (0 : Int) < (L.length : Int) := by omega
  go_enter Try.func8, Try.ntmps8
  go_wp2_with fail
  refine (awake_any w).mono ?_
  rintro e w1 ⟨rfl, hb⟩
  have HB1 := Lib.hid hb
  clear hb
  go_wp2_with fail
  refine (all_any _ _ _ L w1 (HS.out.later HB1.out) hbig).mono ?_
  rintro e w2 ⟨hb2, hcase⟩
  have hsz2 := hb2.size
  have HB2 := Lib.hid (HB1.out.trans (hb2.mono HB1.out.size))
  clear hb2
  rcases hcase with ⟨vb, ve, rfl, hob, hoe, hall⟩ | rfl
  case inr =>
    go_wp2_with fail
    go_ret
    exact ⟨rfl, HB2.out⟩
  have hle := putAll_le L L.length (Nat.le_refl _) hall
  rw [List.take_length] at hle
  have hshort := short_of rfl hall
  obtain ⟨ab, cb, rfl, hrb, hblk⟩ := hob.bytes
  obtain ⟨ae, ce, rfl⟩ := hoe.shape
  obtain ⟨g, rfl, hcells⟩ := hoe.row (endsK_ne L _ hpos)
  have hT2 : (Fr.putAll L).length ≤ 20240 := by omega
  rw [endsK_length] at hoe hcells ⊢
  have HSH := Lib.hid hshort
  have HOB := Lib.hid hob
  have HRB := Lib.hid hrb
  have HCE := Lib.hid hcells
  clear hob hrb hall hle hshort hoe hcells hblk
  go_wp2_with fail
  refine (Pick_any a1 (L.length : Int) w2 hx0 hx1 (by omega) (by omega)).mono ?_
  rintro e w' ⟨rfl, rfl⟩
  obtain ⟨W, hW⟩ : ∃ A : Nat, a1 % (L.length : Int) = (A : Int) := ⟨(a1 % (L.length : Int)).toNat, by have := Int.emod_nonneg a1 (b := (L.length : Int)) (by omega); omega⟩
  have hWL : W < L.length := by have := Int.emod_lt_of_pos a1 (b := (L.length : Int)) (by omega); omega
  rw [hW]
  go_wp2_with fail
  refine (Pick_any a2 64 w2 hy0 hy1 (by omega) (by omega)).mono ?_
  rintro e w' ⟨rfl, rfl⟩
  obtain ⟨J, hJ⟩ : ∃ A : Nat, a2 % 64 = (A : Int) := ⟨(a2 % 64).toNat, by omega⟩
  have hJL : J < 64 := by omega
  rw [hJ]
  obtain ⟨hst, hle⟩ := ends_step L W hWL
  have hcW : w2.cell? ⟨g, W, none⟩ = some (.int .i64 ((Fr.putAll (L.take (W + 1))).length : Int)) := by
    have := HCE.out W (by first | exact hWL | (rw [endsK_length]; exact hWL)); rwa [endsK_get _ _ _ hWL] at this
  obtain ⟨T, hT⟩ : ∃ T, T = (Fr.putAll L).length := ⟨_, rfl⟩
  obtain ⟨S, hS⟩ : ∃ T, T = (Fr.putAll (L.take W)).length := ⟨_, rfl⟩
  obtain ⟨E, hE⟩ : ∃ T, T = (Fr.putAll (L.take (W + 1))).length := ⟨_, rfl⟩
  have hscan := scan_heads L W J hWL hJL HSH.out
  rw [← hS] at hst hscan
  rw [← hT] at hle hT2 ⊢
  rw [← hE] at hst hle hcW
  have hES : S + 12 ≤ E := by omega
  have hcW1 : 0 < W → w2.cell? ⟨g, W - 1, none⟩ = some (.int .i64 (S : Int)) := fun hp => by
    have := HCE.out (W - 1) (by first | omega | (rw [endsK_length]; omega))
    rw [endsK_get _ _ _ (by omega), show W - 1 + 1 = W by omega, ← hS] at this
    exact this
  have HSCAN := Lib.hid hscan
  have HT := Lib.hid hT
  have hob2 := HOB.out
  have hrb2 := HRB.out
  rw [← hT] at hob2 hrb2
  have HOB := Lib.hid hob2
  have HRB := Lib.hid hrb2
  clear hob2 hrb2
  have HCW1 := Lib.hid hcW1
  have hS0 : W = 0 → S = 0 := fun h => by rw [hS, h]; rfl
  have HS0 := Lib.hid hS0
  have hW0 : (0 : Int) ≤ (W : Int) := by omega
  have hW1 : (W : Int) < (L.length : Int) := by omega
  have hTE : ¬ ((T : Int) < (E : Int)) := by omega
  have hTE' : (E : Int) ≤ (T : Int) := by omega
  have hSE : ¬ ((E : Int) - (S : Int) < 12) := by omega
  have hw64 : IntKind.i64.wrap ((E : Int) - (S : Int)) = (E : Int) - (S : Int) := IntWalk.i64_in _ (by omega)
  clear hst hscan hT hcW1 hS0 hE hS
  obtain ⟨gb, cur, rfl, hgb, hcur, hTl, hcs⟩ := HOB.out.row (by omega)
  obtain ⟨Q, hQ⟩ : ∃ Q : Nat, (J : Int) / 8 = (Q : Int) := ⟨J / 8, by omega⟩
  obtain ⟨M, hM⟩ : ∃ M : Nat, (J : Int) % 8 = (M : Int) := ⟨J % 8, by omega⟩
  have hQ8 : Q < 8 := by omega
  have hM8 : M < 8 := by omega
  have hJQ : J = 8 * Q + M := by omega
  have HJQ := Lib.hid hJQ
  have hQn : J / 8 = Q := by omega
  have hMn : J % 8 = M := by omega
  have hQt : (J : Int).tdiv 8 = (Q : Int) := by rw [Int.tdiv_eq_ediv_of_nonneg (by omega)]; exact hQ
  have hMt : (J : Int).tmod 8 = (M : Int) := by rw [Int.tmod_eq_emod_of_nonneg (by omega)]; exact hM
  clear hJQ
  have hat : w2.cell? ⟨gb, S + Q, none⟩ = some (.int .u8 (((Fr.putAll L).getD (S + Q) 0).toNat : Int)) := by
    obtain ⟨b, off, e, hat⟩ := HRB.out.2.2.2.1 (by intro hh; rw [hh] at hTl; simp at hTl; omega)
    injection e with e
    injection e with e1 e2 _
    subst e1; subst e2
    have := hat (S + Q) (by omega)
    rwa [Nat.zero_add] at this
  have hfr : w2.frozen? ⟨gb, S + Q, none⟩ = false := frozen_of_row _ _ _ _ _ hcur
  obtain ⟨c, hc⟩ : ∃ c, c = (Fr.putAll L).getD (S + Q) 0 := ⟨_, rfl⟩
  rw [← hc] at hat
  have HC := Lib.hid hc
  have HCUR := Lib.hid hcur
  have hSQ : (0 : Int) ≤ (S : Int) + (Q : Int) := by omega
  have hSQ2 : (S : Int) + (Q : Int) < (T : Int) := by omega
  have hwSQ : IntKind.i64.wrap ((S : Int) + (Q : Int)) = (S : Int) + (Q : Int) := IntWalk.i64_in _ (by omega)
  have hM0 : (0 : Int) ≤ (M : Int) := by omega
  clear hc hcur
  by_cases hWp : 0 < W
  · have hc1 := HCW1.out hWp
    have hWp' : (0 : Int) < (W : Int) := by omega
    go_wp2_with fail
    go_region
    go_wp2_with fail
    rw [xor_pow c M hM8]
    have hbs := (HRB.out.set (c := ⟨c.toBitVec ^^^ (1#8 <<< M)⟩) HCUR.out (show S + Q < T by omega) hcs)
    have hfl := flip_set (Fr.putAll L) S Q M hM8
    rw [← HC.out, ← HJQ.out] at hfl
    rw [← hfl] at hbs
    have hb3 : Below w.heap.size w (w2.setCell ⟨gb, S + Q, none⟩ (.int .u8 ((⟨c.toBitVec ^^^ (1#8 <<< M)⟩ : UInt8).toNat : Int))).drew := (HB2.out.setCell (by have := HB1.out.size; simp; omega) _).drew
    have hbs3 : IsBytes (w2.setCell ⟨gb, S + Q, none⟩ (.int .u8 ((⟨c.toBitVec ^^^ (1#8 <<< M)⟩ : UInt8).toNat : Int))).drew (some ⟨gb, 0, none⟩) T cb (Fr.flipBit (Fr.putAll L) (8 * S + J)) := hbs.later (Below.refl _ _).drew
    obtain ⟨w3, hw3⟩ : ∃ w3, w3 = (w2.setCell ⟨gb, S + Q, none⟩ (.int .u8 ((⟨c.toBitVec ^^^ (1#8 <<< M)⟩ : UInt8).toNat : Int))).drew := ⟨_, rfl⟩
    rw [← hw3] at hb3 hbs3 ⊢
    have HB3 := Lib.hid hb3
    have HBS3 := Lib.hid hbs3
    have hlenW : (L.take W).length = W := by rw [List.length_take]; omega
    have HLW := Lib.hid hlenW
    clear hbs hfl hb3 hbs3 hw3 hlenW hat hfr
    refine (Scan_any _ _ _ _ w3 HBS3.out (by omega)).mono ?_
    rintro e w4 ⟨v4, rfl, hl4, hb4⟩
    rw [HSCAN.out] at hl4 ⊢
    obtain ⟨a4, c4, hv4o, hr4o⟩ := hl4.reads
    have hv4 : v4 = .slice a4 W c4 := by rw [hv4o]; show Value.slice a4 (L.take W).length c4 = _; rw [HLW.out]
    have hr4 : IsLists w4 a4 W c4 (L.take W) := by have := hr4o; rw [show ((L.take W, S, 2).1 : List (List UInt8)).length = W from HLW.out] at this; exact this
    clear hv4o hr4o HLW
    subst hv4
    have HR4 := Lib.hid hr4
    have HB4 := Lib.hid (HB3.out.trans (hb4.mono HB3.out.size))
    obtain ⟨hsl, hcut⟩ := slice_lists (HS.out.later HB4.out) W (by omega)
    have HCT := Lib.hid hcut
    have hSS : ((S : Int) == (S : Int)) = true := by simp
    clear hl4 hb4 hr4 hcut
    go_wp2_with fail
    refine (SameLists_any _ _ _ _ _ _ (L.take W) (L.take W) _ HR4.out HCT.out).mono ?_
    rintro e w6 ⟨rfl, q6, hw6⟩
    rw [show (L.take W == L.take W) = true by simp]
    have hb6 : Below w4.heap.size w4 w6 := by rw [hw6]; exact below_drewN (Below.refl _ _) q6
    have HB6 := Lib.hid (HB4.out.trans (hb6.mono HB4.out.size))
    clear hw6 hb6
    go_wp2_with fail
    go_ret
    exact ⟨rfl, HB6.out⟩
  · have hW00 : W = 0 := by omega
    have hS00 : S = 0 := HS0.out hW00
    subst hW00
    subst hS00
    rw [Nat.zero_add] at hat hfr
    have hsc : Fr.scanF (Fr.flipBit (Fr.putAll L) J) = ([], 0, 2) := by
      have := HSCAN.out
      rw [Nat.mul_zero, Nat.zero_add, List.take_zero] at this
      exact this
    have hc0 := HC.out
    rw [Nat.zero_add] at hc0
    have hfl : Fr.flipBit (Fr.putAll L) J = (Fr.putAll L).set Q ⟨c.toBitVec ^^^ (1#8 <<< M)⟩ := by
      have := flip_set (Fr.putAll L) 0 Q M hM8
      rw [Nat.mul_zero, Nat.zero_add, Nat.zero_add, ← HJQ.out, ← hc0] at this
      exact this
    have hbs := (HRB.out.set (c := ⟨c.toBitVec ^^^ (1#8 <<< M)⟩) HCUR.out (show Q < T by omega) hcs)
    rw [← hfl] at hbs
    have hQT : (Q : Int) < (T : Int) := by omega
    have hQ0 : (0 : Int) ≤ (Q : Int) := by omega
    have hwQ : IntKind.i64.wrap (Q : Int) = (Q : Int) := IntWalk.i64_in _ (by omega)
    have HSC := Lib.hid hsc
    have HBS := Lib.hid hbs
    clear hsc hc0 hfl hbs HC
    go_wp2_with fail
    go_region
    go_wp2_with fail
    rw [xor_pow c M hM8]
    have hb3 : Below w.heap.size w (w2.setCell ⟨gb, Q, none⟩ (.int .u8 ((⟨c.toBitVec ^^^ (1#8 <<< M)⟩ : UInt8).toNat : Int))).drew := (HB2.out.setCell (by have := HB1.out.size; simp; omega) _).drew
    have hbs3 : IsBytes (w2.setCell ⟨gb, Q, none⟩ (.int .u8 ((⟨c.toBitVec ^^^ (1#8 <<< M)⟩ : UInt8).toNat : Int))).drew (some ⟨gb, 0, none⟩) T cb (Fr.flipBit (Fr.putAll L) J) := HBS.out.later (Below.refl _ _).drew
    obtain ⟨w3, hw3⟩ : ∃ w3, w3 = (w2.setCell ⟨gb, Q, none⟩ (.int .u8 ((⟨c.toBitVec ^^^ (1#8 <<< M)⟩ : UInt8).toNat : Int))).drew := ⟨_, rfl⟩
    rw [← hw3] at hb3 hbs3 ⊢
    have HB3 := Lib.hid hb3
    have HBS3 := Lib.hid hbs3
    clear hb3 hbs3 hw3 hat hfr
    refine (Scan_any _ _ _ _ w3 HBS3.out (by omega)).mono ?_
    rintro e w4 ⟨v4, rfl, hl4, hb4⟩
    rw [HSC.out] at hl4 ⊢
    obtain ⟨a4, c4, hv4o, hr4o⟩ := hl4.reads
    have hv4 : v4 = .slice a4 0 c4 := hv4o
    have hr4 : IsLists w4 a4 0 c4 [] := hr4o
    clear hv4o hr4o
    subst hv4
    have HR4 := Lib.hid hr4
    have HB4 := Lib.hid (HB3.out.trans (hb4.mono HB3.out.size))
    obtain ⟨hsl, hcut⟩ := slice_lists (HS.out.later HB4.out) 0 (by omega)
    have hsl : ∀ w', (Instr.slice 33 (.slice ao L.length cap) none (some (.int .i64 0)) none).run Try.prog w' = .ok (.slice ao 0 cap) w' := hsl
    rw [List.take_zero] at hcut
    have HCT := Lib.hid hcut
    clear hl4 hb4 hr4 hcut
    go_wp2_with fail
    refine (SameLists_any _ _ _ _ _ _ [] [] _ HR4.out HCT.out).mono ?_
    rintro e w6 ⟨rfl, q6, hw6⟩
    rw [show (([] : List (List UInt8)) == []) = true by simp]
    have hb6 : Below w4.heap.size w4 w6 := by rw [hw6]; exact below_drewN (Below.refl _ _) q6
    have HB6 := Lib.hid (HB4.out.trans (hb6.mono HB4.out.size))
    clear hw6 hb6
    go_wp2_with fail
    go_ret
    exact ⟨rfl, HB6.out⟩
end Go.Proofs.Ytfpjbkbfaaieiaa

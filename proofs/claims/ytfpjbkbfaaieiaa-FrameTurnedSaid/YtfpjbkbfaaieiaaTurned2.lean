/- apportionlaw06.FrameTurned, walked -/
import Derived.Test.YtfpjbkbfaaieiaaTurned
namespace Go.Proofs.Ytfpjbkbfaaieiaa
open Go.RowKit
/-- the bytes between two rounds. -/
def TInv (w wr : World) (gb T cb F mk k : Nat) (l : List UInt8) : Prop :=
  IsBytes wr (some ⟨gb, 0, none⟩) T cb (Fr.turnN l F (BitVec.ofNat 32 mk) k) ∧ (∃ cur, wr.heap[gb]? = some (.cells cur 5 (0, 0)) ∧ T ≤ cur.size) ∧ Below w.heap.size w wr
theorem TInv.step {w wr : World} {gb T cb F mk k Q M : Nat} {l : List UInt8} (h : TInv w wr gb T cb F mk k l) (hgb : w.heap.size ≤ gb) (hk : k < 32) (hon : mk / 2 ^ k % 2 = 1) (hM : M < 8) (hF : F + k = 8 * Q + M) (hQ : Q < T) :
    TInv w (wr.setCell ⟨gb, Q, none⟩ (.int .u8 (bits .xor .u8 ((((Fr.turnN l F (BitVec.ofNat 32 mk) k).getD Q 0).toNat : Nat) : Int) (2 ^ M % 256)))).drew gb T cb F mk (k + 1) l := by
  obtain ⟨h1, ⟨cur, hc, hs⟩, h3⟩ := h
  rw [xor_pow _ M hM]
  have e := turn_on l F (BitVec.ofNat 32 mk) k Q M hM hF (by rw [mask_bit mk k hk]; simpa using hon)
  refine ⟨?_, ⟨_, heap_setCell_same wr gb Q _ _ _ hc, by simpa using hs⟩, (h3.setCell hgb _).drew⟩
  rw [e]
  exact (h1.set hc hQ hs).later (Below.refl _ _).drew
theorem TInv.skip {w wr : World} {gb T cb F mk k : Nat} {l : List UInt8} (h : TInv w wr gb T cb F mk k l) (hk : k < 32) (hon : ¬ mk / 2 ^ k % 2 = 1) : TInv w wr gb T cb F mk (k + 1) l := by
  obtain ⟨h1, h2, h3⟩ := h
  refine ⟨?_, h2, h3⟩
  rw [turn_off l F (BitVec.ofNat 32 mk) k (by rw [mask_bit mk k hk]; simpa using hon)]
  exact h1
set_option maxRecDepth 100000 in
set_option maxHeartbeats 4000000 in
theorem FrameTurned_any (w : World) (ao : Option Addr) (n cap : Nat) (L : List (List UInt8)) (hs : IsLists w ao n cap L) (a1 : Int) (h1 : (Lit.int .i64 a1).wf = true) (a2 : Int) (h2 : (Lit.int .i64 a2).wf = true) (a3 : Int) (h3 : (Lit.int .u32 a3).wf = true) :
    Calls Try.prog 7 #[.slice ao n cap, .int .i64 a1, .int .i64 a2, .int .u32 a3] w fun e w' => e = .returned (.bool true) ∧ Below w.heap.size w w' := by
  have hn : n = L.length := hs.1.symm
  subst hn
  have HS := Lib.hid hs
  obtain ⟨hx0, hx1⟩ := wf_i64 h1
  obtain ⟨hy0, hy1⟩ := wf_i64 h2
  obtain ⟨hz0, hz1⟩ := wf_u32 h3
  obtain ⟨mk, rfl⟩ : ∃ m : Nat, a3 = (m : Int) := ⟨a3.toNat, by omega⟩
  clear hs h1 h2 h3
  by_cases hbig : L.length ≤ 20 ∧ 0 < L.length
  case neg =>
    by_cases hb : 20 < L.length
    · have hb1 : (20 : Int) < (L.length : Int) := by omega
      clear hbig
      go_enter Try.func7, Try.ntmps7
      go_wp2_with fail
      refine (awake_any w).mono ?_
      rintro e w1 ⟨rfl, hb⟩
      go_wp2_with fail
      go_ret
      exact ⟨rfl, hb⟩
    · have hb0 : L.length = 0 := by omega
      rw [hb0] at HS ⊢
      clear hbig hb hb0
      go_enter Try.func7, Try.ntmps7
      go_wp2_with fail
      refine (awake_any w).mono ?_
      rintro e w1 ⟨rfl, hb⟩
      go_wp2_with fail
      go_ret
      exact ⟨rfl, hb⟩
  obtain ⟨hbig, hpos⟩ := hbig
  have hb0 : (L.length : Int) ≤ 20 := by omega
  have hpos1 : ((L.length : Int) == 0) = false := by simp; intro h; rw [h] at hpos; simp at hpos
  have hpos2 : (0 : Int) < (L.length : Int) := by omega
  by_cases hmk : mk = 0
  · subst hmk
    go_enter Try.func7, Try.ntmps7
    go_wp2_with fail
    refine (awake_any w).mono ?_
    rintro e w1 ⟨rfl, hb⟩
    go_wp2_with fail
    go_ret
    exact ⟨rfl, hb⟩
  have hmk1 : ((mk : Int) == 0) = false := by simp; exact hmk
  have hmk2 : ¬ (mk : Int) = 0 := by omega
  go_enter Try.func7, Try.ntmps7
  go_wp2_with fail
  refine (awake_any w).mono ?_
  rintro e w1 ⟨rfl, hb⟩
  have HB1 := Lib.hid hb
  clear hb
  go_wp2_with fail
  refine (all_any _ _ _ L w1 (HS.out.later HB1.out) hbig).mono ?_
  rintro e w2 ⟨hb2, hcase⟩
  have hsz2 := hb2.size
  have HB2 := Lib.hid (HB1.out.trans (hb2.mono HB1.out.size))
  clear hb2
  rcases hcase with ⟨vb, ve, rfl, hob, hoe, hall⟩ | rfl
  case inr =>
    go_wp2_with fail
    go_ret
    exact ⟨rfl, HB2.out⟩
  have hle := putAll_le L L.length (Nat.le_refl _) hall
  rw [List.take_length] at hle
  have hshort := short_of rfl hall
  obtain ⟨ab, cb, rfl, hrb, hblk⟩ := hob.bytes
  obtain ⟨ae, ce, rfl⟩ := hoe.shape
  obtain ⟨g, rfl, hcells⟩ := hoe.row (endsK_ne L _ hpos)
  have hT2 : (Fr.putAll L).length ≤ 20240 := by omega
  rw [endsK_length] at hoe hcells ⊢
  have HSH := Lib.hid hshort
  have HOB := Lib.hid hob
  have HRB := Lib.hid hrb
  have HCE := Lib.hid hcells
  clear hob hrb hall hle hshort hoe hcells hblk
  go_wp2_with fail
  refine (Pick_any a1 (L.length : Int) w2 hx0 hx1 (by omega) (by omega)).mono ?_
  rintro e w' ⟨rfl, rfl⟩
  obtain ⟨W, hW⟩ : ∃ A : Nat, a1 % (L.length : Int) = (A : Int) := ⟨(a1 % (L.length : Int)).toNat, by have := Int.emod_nonneg a1 (b := (L.length : Int)) (by omega); omega⟩
  have hWL : W < L.length := by have := Int.emod_lt_of_pos a1 (b := (L.length : Int)) (by omega); omega
  rw [hW]
  obtain ⟨hst, hle⟩ := ends_step L W hWL
  have hcW : w2.cell? ⟨g, W, none⟩ = some (.int .i64 ((Fr.putAll (L.take (W + 1))).length : Int)) := by
    have := HCE.out W (by first | exact hWL | (rw [endsK_length]; exact hWL)); rwa [endsK_get _ _ _ hWL] at this
  obtain ⟨T, hT⟩ : ∃ T, T = (Fr.putAll L).length := ⟨_, rfl⟩
  obtain ⟨S, hS⟩ : ∃ T, T = (Fr.putAll (L.take W)).length := ⟨_, rfl⟩
  obtain ⟨E, hE⟩ : ∃ T, T = (Fr.putAll (L.take (W + 1))).length := ⟨_, rfl⟩
  have hscan : ∀ D, D + 32 ≤ 8 * ((L.getD W []).length + 4) → _ := fun D hD => scan_turned L W D (BitVec.ofNat 32 mk) (mask_ne mk (by omega) hmk) hWL hD HSH.out
  rw [← hS] at hst hscan
  rw [← hT] at hle hT2 ⊢
  rw [← hE] at hst hle hcW
  have hES : S + 12 ≤ E := by omega
  have hcW1 : 0 < W → w2.cell? ⟨g, W - 1, none⟩ = some (.int .i64 (S : Int)) := fun hp => by
    have := HCE.out (W - 1) (by first | omega | (rw [endsK_length]; omega))
    rw [endsK_get _ _ _ (by omega), show W - 1 + 1 = W by omega, ← hS] at this
    exact this
  have HSCAN := Lib.hid hscan
  have HT := Lib.hid hT
  have hob2 := HOB.out
  have hrb2 := HRB.out
  rw [← hT] at hob2 hrb2
  have HOB := Lib.hid hob2
  have HRB := Lib.hid hrb2
  clear hob2 hrb2
  have HCW1 := Lib.hid hcW1
  have hS0 : W = 0 → S = 0 := fun h => by rw [hS, h]; rfl
  have HS0 := Lib.hid hS0
  have hW0 : (0 : Int) ≤ (W : Int) := by omega
  have hW1 : (W : Int) < (L.length : Int) := by omega
  have hTE : ¬ ((T : Int) < (E : Int)) := by omega
  have hTE' : (E : Int) ≤ (T : Int) := by omega
  have hSE : ¬ ((E : Int) - (S : Int) < 12) := by omega
  have hw64 : IntKind.i64.wrap ((E : Int) - (S : Int)) = (E : Int) - (S : Int) := IntWalk.i64_in _ (by omega)
  have HST := Lib.hid hst
  clear hscan hT hcW1 hS0 hE hS hst
  obtain ⟨gb, cur, rfl, hgb, hcur, hTl, hcs⟩ := HOB.out.row (by omega)
  have HCUR := Lib.hid hcur
  clear hcur
  by_cases hWp : 0 < W
  · have hc1 := HCW1.out hWp
    have hWp' : (0 : Int) < (W : Int) := by omega
    go_wp2_with fail
    refine (Pick_any a2 (8 * (E : Int) - 8 * ((S : Int) + 8) - 31) w2 hy0 hy1 (by omega) (by omega)).mono ?_
    rintro e w' ⟨rfl, rfl⟩
    obtain ⟨D, hD⟩ : ∃ A : Nat, a2 % (8 * (E : Int) - 8 * ((S : Int) + 8) - 31) = (A : Int) := ⟨(a2 % (8 * (E : Int) - 8 * ((S : Int) + 8) - 31)).toNat, by have := Int.emod_nonneg a2 (b := (8 * (E : Int) - 8 * ((S : Int) + 8) - 31)) (by omega); omega⟩
    have hDL : (D : Int) < 8 * (E : Int) - 8 * ((S : Int) + 8) - 31 := by have := Int.emod_lt_of_pos a2 (b := (8 * (E : Int) - 8 * ((S : Int) + 8) - 31)) (by omega); omega
    rw [hD]
    have hsc := HSCAN.out D (by have := HST.out; omega)
    obtain ⟨F, hF⟩ : ∃ F, F = 8 * (S + 8) + D := ⟨_, rfl⟩
    rw [← hF] at hsc
    have HSC := Lib.hid hsc
    have hFT : F + 32 ≤ 8 * T := by omega
    have hFi : 8 * ((S : Int) + 8) + (D : Int) = (F : Int) := by omega
    have HFI := Lib.hid hFi
    have HF := Lib.hid hF
    clear hD hsc hF hFi
    go_wp2_with fail
    have hFi := HFI.out
    rw [hFi]
    clear hFi
    go_loopw [16] (fun i wr => ∃ k : Nat, k ≤ 32 ∧ i = .int .i64 k ∧ Hid (TInv w wr gb T cb F mk k (Fr.putAll L))) (fun i _ => 32 - (intOf i).toNat)
    case atStart => exact ⟨0, by omega, rfl, HRB.out, ⟨cur, HCUR.out, hcs⟩, HB2.out⟩
    case round =>
      obtain ⟨k, hk, rfl, hinv⟩ := hrel
      by_cases hlt : k < 32
      · have hk0 : (0 : Int) ≤ (k : Int) := by omega
        have hk1 : (k : Int) < 32 := by omega
        have e0 : (mk : Int) / 2 ^ k = ((mk / 2 ^ k : Nat) : Int) := by push_cast; rfl
        have e : ((mk : Int) / 2 ^ k).tmod 2 = ((mk / 2 ^ k % 2 : Nat) : Int) := by rw [e0, Int.tmod_eq_emod_of_nonneg (Int.natCast_nonneg _)]; rfl
        by_cases hon : mk / 2 ^ k % 2 = 1
        · have hon1 : (((mk : Int) / 2 ^ k).tmod 2 == 1) = true := by rw [e, hon]; rfl
          have hon2 : ((mk : Int) / 2 ^ k).tmod 2 = 1 := by rw [e, hon]; rfl
          obtain ⟨Q, hQ⟩ : ∃ Q : Nat, ((F : Int) + (k : Int)) / 8 = (Q : Int) := ⟨(F + k) / 8, by omega⟩
          obtain ⟨M, hM⟩ : ∃ M : Nat, ((F : Int) + (k : Int)) % 8 = (M : Int) := ⟨(F + k) % 8, by omega⟩
          have hM8 : M < 8 := by omega
          have hQM : F + k = 8 * Q + M := by omega
          have hQT : Q < T := by omega
          have hQn : (F + k) / 8 = Q := by omega
          have hMn : (F + k) % 8 = M := by omega
          have hQt : ((F : Int) + (k : Int)).tdiv 8 = (Q : Int) := by rw [Int.tdiv_eq_ediv_of_nonneg (by omega)]; exact hQ
          have hMt : ((F : Int) + (k : Int)).tmod 8 = (M : Int) := by rw [Int.tmod_eq_emod_of_nonneg (by omega)]; exact hM
          have hfk0 : (0 : Int) ≤ (F : Int) + (k : Int) := by omega
          have hwfk : IntKind.i64.wrap ((F : Int) + (k : Int)) = (F : Int) + (k : Int) := IntWalk.i64_in _ (by omega)
          have hwQ : IntKind.i64.wrap (Q : Int) = (Q : Int) := IntWalk.i64_in _ (by omega)
          have hQ0 : (0 : Int) ≤ (Q : Int) := by omega
          have hQT2 : (Q : Int) < (T : Int) := by omega
          have hM0 : (0 : Int) ≤ (M : Int) := by omega
          obtain ⟨hbs, ⟨cur2, hcur2, hcs2⟩, hbl⟩ := hinv.out
          have hfr : wr.frozen? ⟨gb, Q, none⟩ = false := frozen_of_row _ _ _ _ _ hcur2
          have hat : wr.cell? ⟨gb, Q, none⟩ = some (.int .u8 ((((Fr.turnN (Fr.putAll L) F (BitVec.ofNat 32 mk) k).getD Q 0).toNat : Nat) : Int)) := by
            obtain ⟨b, off, e, hat⟩ := hbs.2.2.2.1 (by intro hh; have := hbs.1; rw [hh] at this; simp at this; omega)
            injection e with e
            injection e with e1 e2 _
            subst e1; subst e2
            have := hat Q (by rw [hbs.1]; exact hQT)
            rwa [Nat.zero_add] at this
          have hstep := hinv.out.step (by have := HB1.out.size; omega) hlt hon hM8 hQM hQT
          obtain ⟨c, hc⟩ : ∃ c, c = (Fr.turnN (Fr.putAll L) F (BitVec.ofNat 32 mk) k).getD Q 0 := ⟨_, rfl⟩
          rw [← hc] at hat hstep
          have HSTEP := Lib.hid hstep
          clear hstep hc hbs hcur2 hcs2 hbl hQM e e0 hon
          go_wp2_with fail
          go_region
          go_wp2_with fail
          go_roundw
          case rel => exact ⟨k + 1, by omega, by go_num, HSTEP⟩
          case measure => simp [intOf]; omega
        · have hn2 : mk / 2 ^ k % 2 = 0 := by omega
          have hon1 : (((mk : Int) / 2 ^ k).tmod 2 == 1) = false := by rw [e, hn2]; rfl
          have hon3 : ¬ ((mk : Int) / 2 ^ k).tmod 2 = 1 := by rw [e, hn2]; decide
          have HSTEP := Lib.hid (hinv.out.skip hlt hon)
          clear e e0 hon hn2
          go_wp2_with fail
          go_roundw
          case rel => exact ⟨k + 1, by omega, by go_num, HSTEP⟩
          case measure => simp [intOf]; omega
      · obtain rfl : k = 32 := by omega
        have HB3 := Lib.hid hinv.out.2.2
        have HBS3 := Lib.hid hinv.out.1
        have hlenW : (L.take W).length = W := by rw [List.length_take]; omega
        have HLW := Lib.hid hlenW
        clear hlenW
        go_wp2_with fail
        refine (Scan_any _ _ _ _ wr HBS3.out (by omega)).mono ?_
        rintro e w4 ⟨v4, rfl, hl4, hb4⟩
        rw [HSC.out] at hl4 ⊢
        obtain ⟨a4, c4, hv4o, hr4o⟩ := hl4.reads
        have hv4 : v4 = .slice a4 W c4 := by rw [hv4o]; show Value.slice a4 (L.take W).length c4 = _; rw [HLW.out]
        have hr4 : IsLists w4 a4 W c4 (L.take W) := by have := hr4o; rw [show ((L.take W, S, 2).1 : List (List UInt8)).length = W from HLW.out] at this; exact this
        clear hv4o hr4o HLW
        subst hv4
        have HR4 := Lib.hid hr4
        have HB4 := Lib.hid (HB3.out.trans (hb4.mono HB3.out.size))
        obtain ⟨hsl, hcut⟩ := slice_lists (HS.out.later HB4.out) W (by omega)
        have HCT := Lib.hid hcut
        have hSS : ((S : Int) == (S : Int)) = true := by simp
        clear hl4 hb4 hr4 hcut
        go_wp2_with fail
        refine (SameLists_any _ _ _ _ _ _ (L.take W) (L.take W) _ HR4.out HCT.out).mono ?_
        rintro e w6 ⟨rfl, q6, hw6⟩
        rw [show (L.take W == L.take W) = true by simp]
        have hb6 : Below w4.heap.size w4 w6 := by rw [hw6]; exact below_drewN (Below.refl _ _) q6
        have HB6 := Lib.hid (HB4.out.trans (hb6.mono HB4.out.size))
        clear hw6 hb6
        go_wp2_with fail
        go_ret
        exact ⟨rfl, HB6.out⟩
  · have hW00 : W = 0 := by omega
    have hS00 : S = 0 := HS0.out hW00
    subst hW00
    subst hS00
    obtain ⟨ln, hln⟩ : ∃ ln, ln = (L.getD 0 []).length := ⟨_, rfl⟩
    have hsc0 := HSCAN.out
    have hst0 := HST.out
    rw [← hln] at hst0
    have hsc1 : ∀ D, D + 32 ≤ 8 * (ln + 4) → Fr.scanF (Fr.turnN (Fr.putAll L) (64 + D) (BitVec.ofNat 32 mk) 32) = ([], 0, 2) := fun D h => by
      have := hsc0 D (by rw [← hln]; exact h)
      rw [show 8 * (0 + 8) + D = 64 + D by omega, List.take_zero] at this
      exact this
    have hE12 : E = ln + 12 := by omega
    have HSC1 := Lib.hid hsc1
    have HE12 := Lib.hid hE12
    clear hsc0 hst0 hsc1 hE12 hln HSCAN HST
    go_wp2_with fail
    refine (Pick_any a2 (8 * (E : Int) - 64 - 31) w2 hy0 hy1 (by omega) (by omega)).mono ?_
    rintro e w' ⟨rfl, rfl⟩
    obtain ⟨D, hD⟩ : ∃ A : Nat, a2 % (8 * (E : Int) - 64 - 31) = (A : Int) := ⟨(a2 % (8 * (E : Int) - 64 - 31)).toNat, by have := Int.emod_nonneg a2 (b := (8 * (E : Int) - 64 - 31)) (by omega); omega⟩
    have hDL : (D : Int) < 8 * (E : Int) - 64 - 31 := by have := Int.emod_lt_of_pos a2 (b := (8 * (E : Int) - 64 - 31)) (by omega); omega
    rw [hD]
    have hsc := HSC1.out D (by have := HE12.out; omega)
    obtain ⟨F, hF⟩ : ∃ F, F = 64 + D := ⟨_, rfl⟩
    rw [← hF] at hsc
    have HSC := Lib.hid hsc
    have hFT : F + 32 ≤ 8 * T := by omega
    have hFi : (64 : Int) + (D : Int) = (F : Int) := by omega
    have HFI := Lib.hid hFi
    have HF := Lib.hid hF
    clear hD hsc hF hFi HSC1 HE12
    go_wp2_with fail
    have hFi := HFI.out
    rw [hFi]
    clear hFi
    go_loopw [16] (fun i wr => ∃ k : Nat, k ≤ 32 ∧ i = .int .i64 k ∧ Hid (TInv w wr gb T cb F mk k (Fr.putAll L))) (fun i _ => 32 - (intOf i).toNat)
    case atStart => exact ⟨0, by omega, rfl, HRB.out, ⟨cur, HCUR.out, hcs⟩, HB2.out⟩
    case round =>
      obtain ⟨k, hk, rfl, hinv⟩ := hrel
      by_cases hlt : k < 32
      · have hk0 : (0 : Int) ≤ (k : Int) := by omega
        have hk1 : (k : Int) < 32 := by omega
        have e0 : (mk : Int) / 2 ^ k = ((mk / 2 ^ k : Nat) : Int) := by push_cast; rfl
        have e : ((mk : Int) / 2 ^ k).tmod 2 = ((mk / 2 ^ k % 2 : Nat) : Int) := by rw [e0, Int.tmod_eq_emod_of_nonneg (Int.natCast_nonneg _)]; rfl
        by_cases hon : mk / 2 ^ k % 2 = 1
        · have hon1 : (((mk : Int) / 2 ^ k).tmod 2 == 1) = true := by rw [e, hon]; rfl
          have hon2 : ((mk : Int) / 2 ^ k).tmod 2 = 1 := by rw [e, hon]; rfl
          obtain ⟨Q, hQ⟩ : ∃ Q : Nat, ((F : Int) + (k : Int)) / 8 = (Q : Int) := ⟨(F + k) / 8, by omega⟩
          obtain ⟨M, hM⟩ : ∃ M : Nat, ((F : Int) + (k : Int)) % 8 = (M : Int) := ⟨(F + k) % 8, by omega⟩
          have hM8 : M < 8 := by omega
          have hQM : F + k = 8 * Q + M := by omega
          have hQT : Q < T := by omega
          have hQn : (F + k) / 8 = Q := by omega
          have hMn : (F + k) % 8 = M := by omega
          have hQt : ((F : Int) + (k : Int)).tdiv 8 = (Q : Int) := by rw [Int.tdiv_eq_ediv_of_nonneg (by omega)]; exact hQ
          have hMt : ((F : Int) + (k : Int)).tmod 8 = (M : Int) := by rw [Int.tmod_eq_emod_of_nonneg (by omega)]; exact hM
          have hfk0 : (0 : Int) ≤ (F : Int) + (k : Int) := by omega
          have hwfk : IntKind.i64.wrap ((F : Int) + (k : Int)) = (F : Int) + (k : Int) := IntWalk.i64_in _ (by omega)
          have hwQ : IntKind.i64.wrap (Q : Int) = (Q : Int) := IntWalk.i64_in _ (by omega)
          have hQ0 : (0 : Int) ≤ (Q : Int) := by omega
          have hQT2 : (Q : Int) < (T : Int) := by omega
          have hM0 : (0 : Int) ≤ (M : Int) := by omega
          obtain ⟨hbs, ⟨cur2, hcur2, hcs2⟩, hbl⟩ := hinv.out
          have hfr : wr.frozen? ⟨gb, Q, none⟩ = false := frozen_of_row _ _ _ _ _ hcur2
          have hat : wr.cell? ⟨gb, Q, none⟩ = some (.int .u8 ((((Fr.turnN (Fr.putAll L) F (BitVec.ofNat 32 mk) k).getD Q 0).toNat : Nat) : Int)) := by
            obtain ⟨b, off, e, hat⟩ := hbs.2.2.2.1 (by intro hh; have := hbs.1; rw [hh] at this; simp at this; omega)
            injection e with e
            injection e with e1 e2 _
            subst e1; subst e2
            have := hat Q (by rw [hbs.1]; exact hQT)
            rwa [Nat.zero_add] at this
          have hstep := hinv.out.step (by have := HB1.out.size; omega) hlt hon hM8 hQM hQT
          obtain ⟨c, hc⟩ : ∃ c, c = (Fr.turnN (Fr.putAll L) F (BitVec.ofNat 32 mk) k).getD Q 0 := ⟨_, rfl⟩
          rw [← hc] at hat hstep
          have HSTEP := Lib.hid hstep
          clear hstep hc hbs hcur2 hcs2 hbl hQM e e0 hon
          go_wp2_with fail
          go_region
          go_wp2_with fail
          go_roundw
          case rel => exact ⟨k + 1, by omega, by go_num, HSTEP⟩
          case measure => simp [intOf]; omega
        · have hn2 : mk / 2 ^ k % 2 = 0 := by omega
          have hon1 : (((mk : Int) / 2 ^ k).tmod 2 == 1) = false := by rw [e, hn2]; rfl
          have hon3 : ¬ ((mk : Int) / 2 ^ k).tmod 2 = 1 := by rw [e, hn2]; decide
          have HSTEP := Lib.hid (hinv.out.skip hlt hon)
          clear e e0 hon hn2
          go_wp2_with fail
          go_roundw
          case rel => exact ⟨k + 1, by omega, by go_num, HSTEP⟩
          case measure => simp [intOf]; omega
      · obtain rfl : k = 32 := by omega
        have HB3 := Lib.hid hinv.out.2.2
        have HBS3 := Lib.hid hinv.out.1
        go_wp2_with fail
        refine (Scan_any _ _ _ _ wr HBS3.out (by omega)).mono ?_
        rintro e w4 ⟨v4, rfl, hl4, hb4⟩
        rw [HSC.out] at hl4 ⊢
        obtain ⟨a4, c4, hv4o, hr4o⟩ := hl4.reads
        have hv4 : v4 = .slice a4 0 c4 := hv4o
        have hr4 : IsLists w4 a4 0 c4 [] := hr4o
        clear hv4o hr4o
        subst hv4
        have HR4 := Lib.hid hr4
        have HB4 := Lib.hid (HB3.out.trans (hb4.mono HB3.out.size))
        obtain ⟨hsl, hcut⟩ := slice_lists (HS.out.later HB4.out) 0 (by omega)
        have hsl : ∀ w', (Instr.slice 33 (.slice ao L.length cap) none (some (.int .i64 0)) none).run Try.prog w' = .ok (.slice ao 0 cap) w' := hsl
        rw [List.take_zero] at hcut
        have HCT := Lib.hid hcut
        clear hl4 hb4 hr4 hcut
        go_wp2_with fail
        refine (SameLists_any _ _ _ _ _ _ [] [] _ HR4.out HCT.out).mono ?_
        rintro e w6 ⟨rfl, q6, hw6⟩
        rw [show (([] : List (List UInt8)) == []) = true by simp]
        have hb6 : Below w4.heap.size w4 w6 := by rw [hw6]; exact below_drewN (Below.refl _ _) q6
        have HB6 := Lib.hid (HB4.out.trans (hb6.mono HB4.out.size))
        clear hw6 hb6
        go_wp2_with fail
        go_ret
        exact ⟨rfl, HB6.out⟩
end Go.Proofs.Ytfpjbkbfaaieiaa

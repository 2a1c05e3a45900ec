/- apportionlaw06.FrameBack -/
import Derived.Test.YtfpjbkbfaaieiaaAll
import Derived.Test.YtfpjbkbfaaieiaaRowsIn
namespace Go.Proofs.Ytfpjbkbfaaieiaa
open Go.RowKit
theorem wholeN_eq : ∀ (L : List (List UInt8)) (k A : Nat), k ≤ L.length → (Fr.putAll (L.take k)).length ≤ A → (k = L.length ∨ A < (Fr.putAll (L.take (k + 1))).length) → Fr.wholeN L A = k
  | [], k, A, h, _, _ => by have : k = 0 := by simpa using h
                            subst this; rfl
  | r :: L, 0, A, _, _, h => by
    rcases h with h | h
    · simp at h
    · have : A < r.length + 12 := by simpa [Fr.putAll, Fr.putF_length] using h
      unfold Fr.wholeN
      rw [if_neg (by omega)]
  | r :: L, k + 1, A, hk, h1, h2 => by
    have e : ∀ M : List (List UInt8), (Fr.putAll (r :: M)).length = r.length + 12 + (Fr.putAll M).length := fun M => by
      rw [show Fr.putAll (r :: M) = Fr.putF r ++ Fr.putAll M from rfl, List.length_append, Fr.putF_length]
    rw [List.take_succ_cons, e] at h1
    have ih := wholeN_eq L k (A - (r.length + 12)) (by simpa using hk) (by omega) (by
      rcases h2 with h | h
      · exact .inl (by simpa using h)
      · rw [List.take_succ_cons, e] at h
        exact .inr (by omega))
    unfold Fr.wholeN
    rw [if_pos (by omega), ih]
theorem wholeN_le : ∀ (L : List (List UInt8)) (A : Nat), Fr.wholeN L A ≤ L.length
  | [], _ => Nat.le_refl _
  | r :: L, A => by
    unfold Fr.wholeN
    split
    · have := wholeN_le L (A - (r.length + 12)); simp; exact this
    · exact Nat.zero_le _
theorem OwnI.row {w : World} {base n cap : Nat} {ao : Option Addr} {l : List Nat} (h : OwnI w base (.slice ao n cap) l) (hl : l ≠ []) : ∃ g, ao = some ⟨g, 0, none⟩ ∧ ∀ i, i < l.length → w.cell? ⟨g, i, none⟩ = some (.int .i64 ((l.getD i 0 : Nat) : Int)) := by
  obtain ⟨g, cap2, e, hc⟩ := h.reads hl
  injection e with e1 e2 e3
  exact ⟨g, e1, hc⟩
theorem endsK_ne (L : List (List UInt8)) (k : Nat) (h : 0 < k) : endsK L k ≠ [] := fun e => by
  have := endsK_length L k
  rw [e, List.length_nil] at this
  omega
theorem short_of {L : List (List UInt8)} {n : Nat} (hn : L.length = n) (h : ∀ j, j < n → (L.getD j []).length ≤ 1000) : ∀ r ∈ L, r.length ≤ 65536 := by
  intro r hr
  obtain ⟨i, hi, rfl⟩ := List.mem_iff_getElem.1 hr
  have := h i (by omega)
  rw [List.getD_eq_getElem?_getD, List.getElem?_eq_getElem hi] at this
  have h2 : L[i].length ≤ 1000 := this
  omega
set_option maxRecDepth 100000 in
set_option maxHeartbeats 4000000 in
theorem FrameBack_any (w : World) (ao : Option Addr) (n cap : Nat) (L : List (List UInt8)) (hs : IsLists w ao n cap L) (a1 : Int) (h1 : (Lit.int .i64 a1).wf = true) :
    Calls Try.prog 6 #[.slice ao n cap, .int .i64 a1] w fun e w' => e = .returned (.bool true) ∧ Below w.heap.size w w' := by
  have hn : n = L.length := hs.1.symm
  subst hn
  have HL := Lib.hid hs.1
  have HS := Lib.hid hs
  obtain ⟨hx0, hx1⟩ := wf_i64 h1
  clear hs h1
  by_cases hbig : L.length ≤ 20
  case neg =>
    have hb1 : (20 : Int) < (L.length : Int) := by omega
    go_enter Try.func6, Try.ntmps6
    go_wp2_with fail
    refine (awake_any w).mono ?_
    rintro e w1 ⟨rfl, hb⟩
    go_wp2_with fail
    go_ret
    exact ⟨rfl, hb⟩
  have hb0 : (L.length : Int) ≤ 20 := by omega
  go_enter Try.func6, Try.ntmps6
  go_wp2_with fail
  refine (awake_any w).mono ?_
  rintro e w1 ⟨rfl, hb⟩
  have HB1 := Lib.hid hb
  clear hb
  go_wp2_with fail
  refine (all_any _ _ _ L w1 (HS.out.later HB1.out) hbig).mono ?_
  rintro e w2 ⟨hb2, hcase⟩
  have HB2 := Lib.hid (HB1.out.trans (hb2.mono HB1.out.size))
  clear hb2
  rcases hcase with ⟨vb, ve, rfl, hob, hoe, hall⟩ | rfl
  case inr =>
    go_wp2_with fail
    go_ret
    exact ⟨rfl, HB2.out⟩
  have hle := putAll_le L L.length (Nat.le_refl _) hall
  rw [List.take_of_length_le (Nat.le_refl _)] at hle
  have hshort := short_of rfl hall
  have hsc := Fr.scanF_putAll L [] hshort
  rw [List.append_nil, Fr.scanF_nil] at hsc
  simp only [List.append_nil, Nat.add_zero] at hsc
  obtain ⟨ab, cb, rfl, hrb, -⟩ := hob.bytes
  obtain ⟨ae, ce, rfl⟩ := hoe.shape
  obtain ⟨T, hT⟩ : ∃ T, T = (Fr.putAll L).length := ⟨_, rfl⟩
  rw [← hT] at hle hsc hrb ⊢
  rw [endsK_length] at hoe ⊢
  have hT2 : T ≤ 20240 := by omega
  have HSC := Lib.hid hsc
  have HSH := Lib.hid hshort
  have HRB := Lib.hid hrb
  have HOE := Lib.hid hoe
  have HT := Lib.hid hT
  clear hob hrb hall hle hsc hshort hT hoe
  go_wp2_with fail
  refine (Scan_any _ _ _ _ w2 HRB.out (by omega)).mono ?_
  rintro e w3 ⟨v3, rfl, hl3, hb3⟩
  rw [HSC.out] at hl3 ⊢
  obtain ⟨a3, c3, hv3o, hr3o⟩ := hl3.reads
  have hv3 : v3 = .slice a3 L.length c3 := hv3o
  have hr3 : IsLists w3 a3 L.length c3 L := hr3o
  clear hv3o hr3o
  subst hv3
  have HR3 := Lib.hid hr3
  have HB3 := Lib.hid (HB2.out.trans (hb3.mono HB2.out.size))
  have HRB3 := Lib.hid (HRB.out.later hb3)
  have HOE3 := Lib.hid (HOE.out.later hb3)
  clear hl3 hb3 hr3
  go_wp2_with fail
  refine (SameLists_any _ _ _ _ _ _ L L _ HR3.out (HS.out.later HB3.out)).mono ?_
  rintro e w4 ⟨rfl, q, hw4⟩
  rw [show (L == L) = true by simp]
  have hb4 : Below w3.heap.size w3 w4 := by rw [hw4]; exact below_drewN (Below.refl _ _) q
  have HB4 := Lib.hid (HB3.out.trans (hb4.mono HB3.out.size))
  have HRB4 := Lib.hid (HRB3.out.later hb4)
  have HOE4 := Lib.hid (HOE3.out.later hb4)
  clear hw4 hb4
  have hT0 : (0 : Int) ≤ (T : Int) := by omega
  have hTT : ((T : Int) == (T : Int)) = true := by simp
  go_wp2_with fail
  refine (Pick_any a1 ((T : Int) + 1) w4 hx0 hx1 (by omega) (by omega)).mono ?_
  rintro e w' ⟨rfl, rfl⟩
  obtain ⟨A, hA⟩ : ∃ A : Nat, a1 % ((T : Int) + 1) = (A : Int) := ⟨(a1 % ((T : Int) + 1)).toNat, by have := Int.emod_nonneg a1 (b := (T : Int) + 1) (by omega); omega⟩
  have hAT : A ≤ T := by have := Int.emod_lt_of_pos a1 (b := (T : Int) + 1) (by omega); omega
  rw [hA]
  clear hA
  obtain ⟨hsl, hcut⟩ := slice_to HRB4.out A hAT
  have hA0 : (0 : Int) ≤ (A : Int) := by omega
  have hcc := Fr.scan_cut L A HSH.out (by rw [← HT.out]; exact hAT)
  obtain ⟨K, hK⟩ : ∃ K, K = Fr.wholeN L A := ⟨_, rfl⟩
  obtain ⟨E, hE⟩ : ∃ E, E = (Fr.putAll (L.take K)).length := ⟨_, rfl⟩
  rw [← hK, ← hE] at hcc
  obtain ⟨rr, hrr⟩ : ∃ r : Nat, r = if E = A then 0 else 1 := ⟨_, rfl⟩
  rw [← hrr] at hcc
  have HRR := Lib.hid hrr
  have HCUT := Lib.hid hcut
  have HCC := Lib.hid hcc
  have HK := Lib.hid hK
  have HE := Lib.hid hE
  clear hcut hcc hK hE hrr
  go_wp2_with fail
  refine (Scan_any _ _ _ _ w4 HCUT.out (by omega)).mono ?_
  rintro e w5 ⟨v5, rfl, hl5, hb5⟩
  rw [HCC.out] at hl5 ⊢
  obtain ⟨a5, c5, hv5o, hr5o⟩ := hl5.reads
  have hlenK : (L.take K).length = K := by rw [List.length_take, HK.out]; have := wholeN_le L A; omega
  have hv5 : v5 = .slice a5 K c5 := by rw [hv5o]; show Value.slice a5 (L.take K).length c5 = _; rw [hlenK]
  have hr5 : IsLists w5 a5 K c5 (L.take K) := by have := hr5o; rw [show ((L.take K, E, rr).1 : List (List UInt8)).length = K from hlenK] at this; exact this
  clear hv5o hr5o
  subst hv5
  clear hlenK
  have HR5 := Lib.hid hr5
  have HB5 := Lib.hid (HB4.out.trans (hb5.mono HB4.out.size))
  have HOE5 := Lib.hid (HOE4.out.later hb5)
  clear hl5 hb5 hr5
  go_wp2_with fail
  go_loopw [15, 16, 17] (fun wh en i wr => ∃ k : Nat, k ≤ L.length ∧ wh = .int .i64 k ∧ i = .int .i64 k ∧ en = .int .i64 ((Fr.putAll (L.take k)).length : Int) ∧ Hid ((Fr.putAll (L.take k)).length ≤ A) ∧ Hid (Below w5.heap.size w5 wr)) (fun _ _ i _ => L.length - (intOf i).toNat)
  case atStart => exact ⟨0, by omega, rfl, rfl, (by simp [Fr.putAll]), (by simp [Fr.putAll, Hid]), Below.refl _ _⟩
  case round =>
    obtain ⟨k, hk, rfl, rfl, rfl, HKA, hbr⟩ := hrel
    have hkA := HKA.out
    by_cases hgo : k < L.length ∧ (Fr.putAll (L.take (k + 1))).length ≤ A
    · obtain ⟨hlt, hle⟩ := hgo
      obtain ⟨g, rfl, hcells⟩ := (HOE5.out.later hbr.out).row (endsK_ne L _ (by omega))
      have hcell := hcells k (by rw [endsK_length]; exact hlt)
      rw [endsK_get _ _ _ hlt] at hcell
      obtain ⟨F, hF⟩ : ∃ F, F = (Fr.putAll (L.take (k + 1))).length := ⟨_, rfl⟩
      obtain ⟨G, hG⟩ : ∃ F, F = (Fr.putAll (L.take k)).length := ⟨_, rfl⟩
      rw [← hF] at hcell hle
      rw [← hG] at hkA ⊢
      have HF := Lib.hid hF
      have HG := Lib.hid hG
      have hk0 : (0 : Int) ≤ (k : Int) := by omega
      have hk1 : (k : Int) < (L.length : Int) := by omega
      have hFA : (F : Int) ≤ (A : Int) := by omega
      clear hcells hF hG
      go_wp2_with fail
      go_roundw
      case rel => exact ⟨k + 1, by omega, by go_num, by go_num, (by rw [← HF.out]), (by rw [← HF.out]; exact hle), hbr⟩
      case measure => simp [intOf]; omega
    · have hKk : K = k := by
        rw [HK.out]
        exact wholeN_eq L k A hk hkA (by
          by_cases h : k < L.length
          · exact .inr (Nat.lt_of_not_le (fun hh => hgo ⟨h, hh⟩))
          · exact .inl (by omega))
      subst hKk
      have hHE := HE.out
      rw [← hHE] at hkA ⊢
      have hbr5 := HB5.out.trans (hbr.out.mono HB5.out.size)
      have HBR := Lib.hid hbr5
      have hlen : (L.take K).length = K := by simp; omega
      have hrd := HR5.out.later hbr.out
      have HRD : Hid (IsLists wr a5 K c5 (L.take K)) := hrd
      obtain ⟨hsl2, hcut2⟩ := slice_lists (HS.out.later hbr5) K hk
      have HC2 := Lib.hid hcut2
      have hK0 : (0 : Int) ≤ (K : Int) := by omega
      by_cases hlt : K < L.length
      · have hgt := Nat.lt_of_not_le (fun hh => hgo ⟨hlt, hh⟩)
        obtain ⟨g, rfl, hcells⟩ := (HOE5.out.later hbr.out).row (endsK_ne L _ (by omega))
        have hcell := hcells K (by rw [endsK_length]; exact hlt)
        rw [endsK_get _ _ _ hlt] at hcell
        obtain ⟨F, hF⟩ : ∃ F, F = (Fr.putAll (L.take (K + 1))).length := ⟨_, rfl⟩
        rw [← hF] at hcell hgt
        have hk1 : (K : Int) < (L.length : Int) := by omega
        have hFA : (A : Int) < (F : Int) := by omega
        clear hcells hF hHE HE HK HCC hbr5 hlen hrd hcut2 hgo
        by_cases hEA : E = A
        · have hr0 : rr = 0 := by rw [HRR.out, if_pos hEA]
          subst hr0
          subst hEA
          clear HRR
          have hEE : ((E : Int) == (E : Int)) = true := by simp
          go_wp2_with fail
          refine (SameLists_any _ _ _ _ _ _ (L.take K) (L.take K) _ HRD.out HC2.out).mono ?_
          rintro e w6 ⟨rfl, q6, hw6⟩
          rw [show (L.take K == L.take K) = true by simp]
          have hb6 : Below wr.heap.size wr w6 := by rw [hw6]; exact below_drewN (Below.refl _ _) q6
          have HB6 := Lib.hid (HBR.out.trans (hb6.mono HBR.out.size))
          clear hw6 hb6
          go_wp2_with fail
          go_ret
          exact ⟨rfl, HB6.out⟩
        · have hr0 : rr = 1 := by rw [HRR.out, if_neg hEA]
          subst hr0
          clear HRR
          have hEA2 : ¬ (E : Int) = (A : Int) := by omega
          have hEE : ((E : Int) == (E : Int)) = true := by simp
          have hEA3 : ((E : Int) == (A : Int)) = false := by simp; omega
          go_wp2_with fail
          refine (SameLists_any _ _ _ _ _ _ (L.take K) (L.take K) _ HRD.out HC2.out).mono ?_
          rintro e w6 ⟨rfl, q6, hw6⟩
          rw [show (L.take K == L.take K) = true by simp]
          have hb6 : Below wr.heap.size wr w6 := by rw [hw6]; exact below_drewN (Below.refl _ _) q6
          have HB6 := Lib.hid (HBR.out.trans (hb6.mono HBR.out.size))
          clear hw6 hb6
          go_wp2_with fail
          go_ret
          exact ⟨rfl, HB6.out⟩
      · have hKn : ¬ (K : Int) < (L.length : Int) := by omega
        have hKL : (L.length : Int) ≤ (K : Int) := by omega
        clear hHE HE HK HCC hbr5 hlen hrd hcut2 hgo
        by_cases hEA : E = A
        · have hr0 : rr = 0 := by rw [HRR.out, if_pos hEA]
          subst hr0
          subst hEA
          clear HRR
          have hEE : ((E : Int) == (E : Int)) = true := by simp
          go_wp2_with fail
          refine (SameLists_any _ _ _ _ _ _ (L.take K) (L.take K) _ HRD.out HC2.out).mono ?_
          rintro e w6 ⟨rfl, q6, hw6⟩
          rw [show (L.take K == L.take K) = true by simp]
          have hb6 : Below wr.heap.size wr w6 := by rw [hw6]; exact below_drewN (Below.refl _ _) q6
          have HB6 := Lib.hid (HBR.out.trans (hb6.mono HBR.out.size))
          clear hw6 hb6
          go_wp2_with fail
          go_ret
          exact ⟨rfl, HB6.out⟩
        · have hr0 : rr = 1 := by rw [HRR.out, if_neg hEA]
          subst hr0
          clear HRR
          have hEA2 : ¬ (E : Int) = (A : Int) := by omega
          have hEE : ((E : Int) == (E : Int)) = true := by simp
          have hEA3 : ((E : Int) == (A : Int)) = false := by simp; omega
          go_wp2_with fail
          refine (SameLists_any _ _ _ _ _ _ (L.take K) (L.take K) _ HRD.out HC2.out).mono ?_
          rintro e w6 ⟨rfl, q6, hw6⟩
          rw [show (L.take K == L.take K) = true by simp]
          have hb6 : Below wr.heap.size wr w6 := by rw [hw6]; exact below_drewN (Below.refl _ _) q6
          have HB6 := Lib.hid (HBR.out.trans (hb6.mono HBR.out.size))
          clear hw6 hb6
          go_wp2_with fail
          go_ret
          exact ⟨rfl, HB6.out⟩
end Go.Proofs.Ytfpjbkbfaaieiaa

/- apportionkit.SameInts -/
import Derived.Test.YtjiiikeniocmfaaGreatMSInts
set_option linter.unusedSimpArgs false
set_option linter.unusedVariables false
namespace Go.Proofs.YtjiiikeniocmfaaGreat
open Go.RowKit
theorem eq_of_getDI {L M : List Int} (h : L.length = M.length) (hi : ∀ i, i < L.length → L.getD i 0 = M.getD i 0) : L = M := by
  apply List.ext_getElem?
  intro i
  by_cases h1 : i < L.length
  · have := hi i h1
    rw [List.getD_eq_getElem?_getD, List.getD_eq_getElem?_getD, List.getElem?_eq_getElem h1, List.getElem?_eq_getElem (by omega)] at this
    rw [List.getElem?_eq_getElem h1, List.getElem?_eq_getElem (by omega)]
    simpa using this
  · rw [List.getElem?_eq_none (by omega), List.getElem?_eq_none (by omega)]
set_option maxRecDepth 100000 in
theorem SameInts_any (ao bo : Option Addr) (n m cap cap2 : Nat) (L M : List Int) (w : World) (h1 : IsInts w ao n cap L) (h2 : IsInts w bo m cap2 M) :
    Calls Tryz.prog 16 #[.slice ao n cap, .slice bo m cap2] w fun e w' => e = .returned (.bool (L == M)) ∧ Grew w w' := by
  obtain ⟨r, hr⟩ : ∃ r, r = (L == M) := ⟨_, rfl⟩
  rw [← hr]
  have HR := Lib.hid hr
  have HI1 := Lib.hid h1
  have HI2 := Lib.hid h2
  have hnc := h1.2.1
  have hmc := h2.2.1
  have hcm := h1.2.2.1
  have hcm2 := h2.2.2.1
  unfold maxLen at hcm hcm2
  have HL1 : Hid (L.length = n) := h1.1
  have HL2 : Hid (M.length = m) := h2.1
  by_cases hnm : n = m
  · subst hnm
    clear hr h1 h2
    go_enter Tryz.func16, Tryz.ntmps16
    go_wp2
    go_loopw [5] (fun i wr => ∃ k : Nat, k ≤ n ∧ i = .int .i64 k ∧ Hid (∀ j, j < k → L.getD j 0 = M.getD j 0) ∧ Hid (Grew w wr)) (fun i _ => n - (intOf i).toNat)
    case atStart => exact ⟨0, by omega, rfl, fun j hj => absurd hj (by omega), Grew.refl _⟩
    case round =>
      obtain ⟨k, hk, rfl, hall, hgr⟩ := hrel
      by_cases hlt : k < n
      · have hi0 : (0 : Int) ≤ (k : Int) := by omega
        have hi1 : (k : Int) < (n : Int) := by omega
        obtain ⟨b, off, rfl, hcs⟩ := (HI1.out.grew hgr.out).2.2.2.1 (by omega)
        obtain ⟨b2, off2, rfl, hcs2⟩ := (HI2.out.grew hgr.out).2.2.2.1 (by omega)
        have hc := hcs k hlt
        have hc2 := hcs2 k hlt
        obtain ⟨x, hx⟩ : ∃ x, x = L.getD k 0 := ⟨_, rfl⟩
        obtain ⟨y, hy⟩ : ∃ y, y = M.getD k 0 := ⟨_, rfl⟩
        rw [← hx] at hc
        rw [← hy] at hc2
        have HX := Lib.hid hx
        have HY := Lib.hid hy
        clear hcs hcs2 hx hy
        by_cases hxy : x = y
        · subst hxy
          go_wp2_with fail
          go_region
          go_wp2_with fail
          go_roundw
          case rel =>
            refine ⟨k + 1, by omega, by go_num, fun j hj => ?_, hgr.out.drew⟩
            by_cases hjk : j < k
            · exact hall.out j hjk
            · obtain rfl : j = k := by omega
              rw [← HX.out, ← HY.out]
          case measure => simp [intOf]; omega
        · have hb1 : (x == y) = false := by simpa using hxy
          have hb2 : (x != y) = true := by simpa using hxy
          have hrf : r = false := by
            rw [HR.out, beq_eq_false_iff_ne]
            rintro rfl
            exact hxy (by rw [HX.out, HY.out])
          have HRF := Lib.hid hrf
          clear hxy hrf
          go_wp2_with fail
          go_region
          go_wp2_with fail
          go_ret
          exact ⟨by rw [HRF.out]; rfl, hgr.out.drew⟩
      · obtain rfl : k = n := by omega
        have hrt : r = true := by
          rw [HR.out, beq_iff_eq]
          exact eq_of_getDI (by rw [HL1.out, HL2.out]) (fun i hi => hall.out i (by rw [← HL1.out]; exact hi))
        have HRT := Lib.hid hrt
        clear hrt
        go_wp2
        go_ret
        exact ⟨by rw [HRT.out]; rfl, hgr.out⟩
  · have hb1 : ((n : Int) == (m : Int)) = false := by simp; omega
    have hb2 : (n == m) = false := by simpa using hnm
    have hrf : r = false := by
      rw [hr, beq_eq_false_iff_ne]
      rintro rfl
      exact hnm (by rw [← HL1.out, ← HL2.out])
    have HRF := Lib.hid hrf
    clear hr h1 h2 hnm hrf
    go_enter Tryz.func16, Tryz.ntmps16
    go_wp2
    go_ret
    exact ⟨by rw [HRF.out]; rfl, Grew.refl _⟩
end Go.Proofs.YtjiiikeniocmfaaGreat

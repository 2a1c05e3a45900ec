/- layer 16: apportionkit.SameTexts; All, told by the rising lists -/
import Derived.Test.YtbgihfjagfbfgaaDoorMW3
set_option linter.unusedSimpArgs false
set_option linter.unusedVariables false
namespace Go.Proofs.YtbgihfjagfbfgaaDoor
open Go.RowKit Go.Words
attribute [local go_sem] Oper.semAt_some
theorem texts_eq {L M : List Wd} (h : L.length = M.length) (hi : ∀ i, i < L.length → L.getD i [] = M.getD i []) : L = M := by
  apply List.ext_getElem?
  intro i
  by_cases h1 : i < L.length
  · have := hi i h1
    rw [List.getD_eq_getElem?_getD, List.getD_eq_getElem?_getD, List.getElem?_eq_getElem h1, List.getElem?_eq_getElem (by omega)] at this
    rw [List.getElem?_eq_getElem h1, List.getElem?_eq_getElem (by omega)]
    simpa using this
  · rw [List.getElem?_eq_none (by omega), List.getElem?_eq_none (by omega)]
set_option maxRecDepth 100000 in
theorem SameTexts_any (ao bo : Option Addr) (n m cap cap2 : Nat) (L M : List Wd) (w : World) (h1 : IsS w ao n cap L) (h2 : IsS w bo m cap2 M) :
    Calls Tryd.prog 15 #[.slice ao n cap, .slice bo m cap2] w fun e w' => e = .returned (.bool (decide (L = M))) ∧ Below w.heap.size w w' := by
  have HI1 := Lib.hid h1
  have HI2 := Lib.hid h2
  have hnc := h1.2.1
  have hmc := h2.2.1
  have hcm : cap ≤ 9223372036854775807 := h1.2.2.1
  have hcm2 : cap2 ≤ 9223372036854775807 := h2.2.2.1
  by_cases hnm : n = m
  · subst hnm
    clear h1 h2
    obtain ⟨r, hr⟩ : ∃ r, r = decide (L = M) := ⟨_, rfl⟩
    rw [← hr]
    have HR := Lib.hid hr
    clear hr
    go_enter Tryd.func15, Tryd.ntmps15
    go_wp2
    go_loopw [5] (fun i wr => ∃ k : Nat, k ≤ n ∧ i = .int .i64 k ∧ Hid (∀ j, j < k → L.getD j [] = M.getD j []) ∧ Hid (Below w.heap.size w wr)) (fun i _ => n - (intOf i).toNat)
    case atStart => exact ⟨0, by omega, rfl, Lib.hid (fun j hj => absurd hj (by omega)), Lib.hid (Below.refl _ _)⟩
    case round =>
      obtain ⟨k, hk, rfl, hall, hgr⟩ := hrel
      by_cases hlt : k < n
      · have hi0 : (0 : Int) ≤ (k : Int) := by omega
        have hi1 : (k : Int) < (n : Int) := by omega
        obtain ⟨b, off, rfl, hc⟩ := (HI1.out.later hgr.out (Nat.le_refl _)).at hlt
        obtain ⟨b2, off2, rfl, hc2⟩ := (HI2.out.later hgr.out (Nat.le_refl _)).at hlt
        obtain ⟨x, hx⟩ : ∃ x, x = L.getD k [] := ⟨_, rfl⟩
        obtain ⟨y, hy⟩ : ∃ y, y = M.getD k [] := ⟨_, rfl⟩
        rw [← hx] at hc
        rw [← hy] at hc2
        have HX := Lib.hid hx
        have HY := Lib.hid hy
        clear hx hy
        by_cases hxy : x = y
        · subst hxy
          have hbx : ((bs x).toList == (bs x).toList) = true := (bs_eq _ _).trans (decide_eq_true rfl)
          go_wp2_with fail
          go_region
          go_wp2_with fail
          go_roundw
          case rel =>
            refine ⟨k + 1, by omega, by go_num, Lib.hid (fun j hj => ?_), Lib.hid hgr.out.drew⟩
            rcases Nat.lt_succ_iff_lt_or_eq.1 hj with hj | rfl
            · exact hall.out j hj
            · rw [← HX.out, ← HY.out]
          case measure => simp [intOf]; omega
        · have hbx : ((bs x).toList == (bs y).toList) = false := (bs_eq _ _).trans (decide_eq_false hxy)
          have hne : L ≠ M := by
            intro e
            apply hxy
            rw [HX.out, HY.out, e]
          obtain rfl : r = false := by rw [HR.out]; exact decide_eq_false hne
          clear hxy hne
          go_wp2_with fail
          go_region
          go_wp2_with fail
          go_ret
          exact ⟨rfl, hgr.out.drew⟩
      · obtain rfl : k = n := by omega
        have : L = M := texts_eq (by rw [HI1.out.1, HI2.out.1]) (fun i hi => hall.out i (by rw [HI1.out.1] at hi; exact hi))
        obtain rfl : r = true := by rw [HR.out]; exact decide_eq_true this
        clear this
        go_wp2_with fail
        go_ret
        exact ⟨rfl, hgr.out⟩
  · have hnm2 : ¬ (n : Int) = (m : Int) := by omega
    have hne : L ≠ M := by
      intro e
      exact hnm (by rw [← h1.1, ← h2.1, e])
    rw [decide_eq_false hne]
    clear h1 h2 hne
    go_enter Tryd.func15, Tryd.ntmps15
    go_wp2
    go_ret
    exact ⟨rfl, Below.refl _ _⟩
theorem All_kind (k : Int) (w : World) (h : Tb w) : Calls Tryd.prog 13 #[.int .i64 k] w fun e w' => ∃ ao cap, e = .returned (.slice ao (kindS k).length cap) ∧ IsS w' ao (kindS k).length cap (kindS k) ∧ OwnS w' w.heap.size (.slice ao (kindS k).length cap) (kindS k) ∧ Below w.heap.size w w' := by
  have hl := kindS_len k
  have hcon := All_any k w h (by rw [kindS_is]; omega)
  rw [kindS_is] at hcon
  refine hcon.mono ?_
  rintro e w' ⟨v, rfl, ho, hb⟩
  obtain ⟨ao, cap, rfl, hi⟩ := ho.strs
  exact ⟨ao, cap, rfl, hi, ho, hb⟩
end Go.Proofs.YtbgihfjagfbfgaaDoor

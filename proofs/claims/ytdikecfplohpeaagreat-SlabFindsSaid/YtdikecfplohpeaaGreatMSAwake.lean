/- law13: is, awake -/
import Derived.Test.YtdikecfplohpeaaGreatMSLaw0
set_option linter.unusedSimpArgs false
set_option linter.unusedVariables false
namespace Go.Proofs.YtdikecfplohpeaaGreat
open Go.RowKit Go.Geo
attribute [local go_sem] Oper.semAt_some
set_option maxRecDepth 100000 in
set_option maxHeartbeats 1000000 in
theorem is_true (g i many : Nat) (H : List Int) (Es : List (List Edg)) (low high : Int) (w : World) (h : SlabIs w g H Es) (hi : i < Es.length) (h1 : H.getD i 0 = low) (h2 : H.getD (i + 1) 0 = high) (h3 : (Es.getD i []).length = many) :
    Calls Tryz.prog 17 #[.pointer (some ⟨g, 0, none⟩), .int .i64 (i : Int), .int .i64 low, .int .i64 high, .int .i64 (many : Int)] w fun e w' => e = .returned (.bool true) ∧ Below w.heap.size w w' := by
  have hS := Slab_any g i H Es w h hi
  rw [h1, h2, h3] at hS
  have HS := Lib.hid hS
  clear h hi h1 h2 h3 hS
  go_enter Tryz.func17, Tryz.ntmps17
  go_wp2_with fail
  refine HS.out.mono ?_
  rintro e w1 ⟨rfl, hb⟩
  have HB := Lib.hid hb
  clear hb
  go_wp2_with fail
  go_ret
  exact ⟨rfl, HB.out⟩
theorem sm_h (i : Nat) : (heightsP smR).getD i 0 = ([0, 2, 4, 9] : List Int).getD i 0 := by rw [sm_facts.2.1]
theorem sm_n : (slabsR smR).length = 3 := by have h := congrArg List.length sm_facts.2.2.1; simpa using h
theorem sm_e (i : Nat) (hi : i < 3) : ((slabsR smR).getD i []).length = ([2, 4, 2] : List Nat).getD i 0 := by
  have h := sm_facts.2.2.1
  have hn := sm_n
  rw [← h, List.getD_eq_getElem?_getD, List.getD_eq_getElem?_getD, List.getElem?_map, List.getElem?_eq_getElem (by omega)]; rfl
theorem sm_in (p : Pt) (n : Nat) (h : crossR p smR = n) : oddB (crossE (heightsP smR) (slabsR smR) p) = oddB n := by rw [crossE_R, h]
set_option maxRecDepth 100000 in
set_option maxHeartbeats 2000000 in
theorem awake_any (w : World) : Calls Tryz.prog 5 #[] w fun e w' => e = .returned (.bool true) ∧ Below w.heap.size w w' := by
  go_enter Tryz.func5, Tryz.ntmps5
  go_wp2_with fail
  refine (sample_any w).mono ?_
  rintro e w1 ⟨g, rfl, hS, hb⟩
  have HS := Lib.hid hS
  have HB := Lib.hid hb
  have HLE := Len_any g _ _ w1 hS
  rw [sm_n] at HLE
  have HLE := Lib.hid HLE
  have HI0 := Lib.hid (is_true g 0 2 _ _ 0 2 w1 hS (by rw [sm_n]; omega) (sm_h 0) (sm_h 1) (sm_e 0 (by omega)))
  clear hS hb
  go_wp2_with fail
  refine HLE.out.mono ?_
  rintro e w2 ⟨rfl, rfl⟩
  go_wp2_with fail
  refine HI0.out.mono ?_
  rintro e w3 ⟨rfl, hb3⟩
  have hI1 := SIn_any g _ _ ⟨3, 3⟩ w3 (HS.out.later hb3) (heights_sorted smR)
  rw [sm_in _ _ sm_facts.2.2.2.1] at hI1
  have HI1 := Lib.hid hI1
  have HB3 := Lib.hid hb3
  clear hb3 hI1
  go_wp2_with fail
  refine HI1.out.mono ?_
  rintro e w4 ⟨rfl, hb4⟩
  have HB4 := Lib.hid (HB3.out.trans (hb4.mono HB3.out.size))
  have hI2 := SIn_any g _ _ ⟨1, 1⟩ w4 (HS.out.later HB4.out) (heights_sorted smR)
  rw [sm_in _ _ sm_facts.2.2.2.2.1] at hI2
  have HI2 := Lib.hid hI2
  clear hb4 hI2
  have ho : oddB 2 = false := rfl
  go_wp2_with fail
  refine HI2.out.mono ?_
  rintro e w5 ⟨rfl, hb5⟩
  have HB5 := Lib.hid (HB.out.trans ((HB4.out.trans (hb5.mono HB4.out.size)).mono HB.out.size))
  clear hb5
  have ho1 : oddB 1 = true := rfl
  go_wp2_with fail
  go_ret
  exact ⟨rfl, HB5.out⟩
end Go.Proofs.YtdikecfplohpeaaGreat

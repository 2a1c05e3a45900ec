/- SlabKnown: the walk -/
import Derived.Test.YtdikecfplohpeaaMSAwake
set_option linter.unusedSimpArgs false
set_option linter.unusedVariables false
namespace Go.Proofs.Ytdikecfplohpeaa
open Go.RowKit Go.Geo
attribute [local go_sem] Oper.semAt_some
theorem sm_c (p : Pt) (n : Nat) (h : crossR p smR = n) : crossE (heightsP smR) (slabsR smR) p = n := by rw [crossE_R, h]
set_option maxRecDepth 100000 in
set_option maxHeartbeats 4000000 in
theorem SlabKnown_any (w : World) : Calls Try.prog 5 #[] w fun e w' => e = .returned (.bool true) ∧ Below w.heap.size w w' := by
  have HF := Lib.hid sm_facts
  go_enter Try.func5, Try.ntmps5
  go_wp2_with fail
  refine (sample_any w).mono ?_
  rintro e w1 ⟨g, rfl, hS, hb⟩
  have HS := Lib.hid hS
  have HB := Lib.hid hb
  have HO := Lib.hid (Slab_out g 3 _ _ w1 hS (.inr (by rw [sm_n]; omega)))
  clear hS hb
  go_wp2_with fail
  refine HO.out.mono ?_
  rintro e w2 ⟨rfl, hb2⟩
  have HB2 := Lib.hid hb2
  clear hb2
  go_wp2_with fail
  refine (awake_any w2).mono ?_
  rintro e w3 ⟨rfl, hb3⟩
  have HB3 := Lib.hid (HB2.out.trans (hb3.mono HB2.out.size))
  have HI1 := Lib.hid (is_true g 1 4 _ _ 2 4 w3 (HS.out.later HB3.out) (by rw [sm_n]; omega) (sm_h 1) (sm_h 2) (sm_e 1 (by omega)))
  clear hb3
  go_wp2_with fail
  refine HI1.out.mono ?_
  rintro e w4 ⟨rfl, hb4⟩
  have HB4 := Lib.hid (HB3.out.trans (hb4.mono HB3.out.size))
  have hM := Most_any g _ _ w4 (HS.out.later HB4.out)
  rw [HF.out.2.2.2.2.2.2.2] at hM
  have HM := Lib.hid hM
  clear hb4 hM
  go_wp2_with fail
  refine HM.out.mono ?_
  rintro e w5 ⟨rfl, hb5⟩
  have HB5 := Lib.hid (HB4.out.trans (hb5.mono HB4.out.size))
  have hI2 := SIn_any g _ _ ⟨9, 1⟩ w5 (HS.out.later HB5.out) (heights_sorted smR)
  rw [sm_in _ _ HF.out.2.2.2.2.2.1] at hI2
  have HI2 := Lib.hid hI2
  clear hb5 hI2
  go_wp2_with fail
  refine HI2.out.mono ?_
  rintro e w6 ⟨rfl, hb6⟩
  have HB6 := Lib.hid (HB5.out.trans (hb6.mono HB5.out.size))
  have hC1 := Crossings_any g _ _ ⟨3, 3⟩ w6 (HS.out.later HB6.out) (heights_sorted smR)
  rw [sm_c _ _ HF.out.2.2.2.1] at hC1
  have HC1 := Lib.hid hC1
  clear hb6 hC1
  have ho : oddB 0 = false := rfl
  go_wp2_with fail
  refine HC1.out.mono ?_
  rintro e w7 ⟨rfl, hb7⟩
  have HB7 := Lib.hid (HB6.out.trans (hb7.mono HB6.out.size))
  have hC2 := Crossings_any g _ _ ⟨1, 3⟩ w7 (HS.out.later HB7.out) (heights_sorted smR)
  rw [sm_c _ _ HF.out.2.2.2.2.2.2.1] at hC2
  have HC2 := Lib.hid hC2
  clear hb7 hC2
  go_wp2_with fail
  refine HC2.out.mono ?_
  rintro e w8 ⟨rfl, hb8⟩
  have HB8 := Lib.hid (HB.out.trans ((HB7.out.trans (hb8.mono HB7.out.size)).mono HB.out.size))
  clear hb8
  go_wp2_with fail
  go_ret
  exact ⟨rfl, HB8.out⟩
end Go.Proofs.Ytdikecfplohpeaa

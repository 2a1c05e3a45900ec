/- law14: awake -/
import Derived.Test.YtjiiikeniocmfaaGreatMIDo
import Derived.Test.YtjiiikeniocmfaaGreatMIIn
import Derived.Test.YtjiiikeniocmfaaGreatMBSame
set_option linter.unusedSimpArgs false
set_option linter.unusedVariables false
namespace Go.Proofs.YtjiiikeniocmfaaGreat
open Go.RowKit Go.Geo
attribute [local go_sem] Oper.semAt_some
theorem two_ints (w : World) (x y : Int) : IsInts (w.alloc (Obj.cells #[.int .i64 x, .int .i64 y] 3)) (some ⟨w.heap.size, 0, none⟩) 2 2 [x, y] := by
  have k := alloc_new w (Obj.cells #[.int .i64 x, .int .i64 y] 3)
  refine ⟨rfl, Nat.le_refl _, by unfold maxLen; omega, fun _ => ⟨_, 0, rfl, fun i hi => ?_⟩, fun h => by cases h⟩
  match i, hi with
  | 0, _ => exact cell_of_row _ _ _ _ _ _ k
  | 1, _ => exact cell_of_row _ _ _ _ _ _ k
theorem sm11 : askG (inR ⟨1, 1⟩) smG = [0, 2] := by decide +kernel
theorem sm41 : askG (inR ⟨4, 1⟩) smG = [1, 2] := by decide +kernel
theorem sm88 : askG (inR ⟨8, 8⟩) smG = [] := by decide +kernel
/-- At, of an index whose foreign blocks are let go. -/
theorem IAt_low (B g og sg : Nat) (G : List Reg) (p : Pt) (w : World) (h : IdxOn (fun _ => False) w B g og sg G) (hB : B ≤ w.heap.size) :
    Calls Tryz.prog 12 #[.pointer (some ⟨g, 0, none⟩), ptV p] w fun e w' => ∃ ao cap, e = .returned (.slice ao (askG (inR p) G).length cap) ∧ IsInts w' ao (askG (inR p) G).length cap (askG (inR p) G) ∧ IdxOn (fun _ => False) w' B g og sg G ∧ Below B w w' := by
  refine (IAt_any (fun _ => False) B g og sg G p w h (fun k hk => hk.elim)).mono ?_
  rintro e w' ⟨v, rfl, ho, hi, ht⟩
  obtain ⟨ao, cap, rfl, hs⟩ := ho.ints
  exact ⟨ao, cap, rfl, hs, hi.step (Nat.le_refl _) (fun _ _ _ => rfl) (fun k hk => hk.elim), ht.below h.lo h.ls hB⟩
set_option maxRecDepth 100000 in
set_option maxHeartbeats 2000000 in
theorem awakeI_any (w : World) : Calls Tryz.prog 8 #[] w fun e w' => e = .returned (.bool true) ∧ Below w.heap.size w w' := by
  go_enter Tryz.func8, Tryz.ntmps8
  go_wp2_with fail
  refine (sampleI_any w).mono ?_
  rintro e w1 ⟨g, og, sg, rfl, hx, hb⟩
  have HX1 := Lib.hid hx
  have HB1 := Lib.hid hb
  clear hx hb
  go_wp2_with fail
  refine (atI_any 1 1 w1).mono ?_
  rintro e w2 ⟨rfl, hb2⟩
  have HX2 := Lib.hid (HX1.out.later hb2)
  have HB2 := Lib.hid (HB1.out.trans (hb2.mono HB1.out.size))
  clear hb2
  go_wp2_with fail
  have ha := IAt_low _ g og sg smG ⟨1, 1⟩ w2 HX2.out HB2.out.size
  rw [sm11] at ha
  refine ha.mono ?_
  rintro e w3 ⟨a3, c3, rfl, hi3, hx3, hb3⟩
  have HI3 := Lib.hid hi3
  have HX3 := Lib.hid hx3
  have HB3 := Lib.hid (HB2.out.trans hb3)
  clear hi3 hx3 hb3 ha
  go_wp2_with fail
  refine (SameInts_any a3 _ _ _ c3 2 [0, 2] [0, 2] _ (HI3.out.later ((Below.refl _ _).alloc (Nat.le_refl _) _) (Nat.le_refl _)) (two_ints w3 0 2)).mono ?_
  rintro e w4 ⟨rfl, hg4⟩
  have hb4 : Below w3.heap.size w3 w4 := ((Below.refl _ _).alloc (Nat.le_refl _) _).trans (hg4.1.mono (by simp))
  have HX4 := Lib.hid (HX3.out.later hb4)
  have HB4 := Lib.hid (HB3.out.trans (hb4.mono HB3.out.size))
  have q0 : (([0, 2] : List Int) == [0, 2]) = true := by decide
  clear hg4 hb4
  go_wp2_with fail
  refine (atI_any 4 1 w4).mono ?_
  rintro e w5 ⟨rfl, hb5⟩
  have HX5 := Lib.hid (HX4.out.later hb5)
  have HB5 := Lib.hid (HB4.out.trans (hb5.mono HB4.out.size))
  clear hb5
  go_wp2_with fail
  have ha := IAt_low _ g og sg smG ⟨4, 1⟩ w5 HX5.out HB5.out.size
  rw [sm41] at ha
  refine ha.mono ?_
  rintro e w6 ⟨a6, c6, rfl, hi6, hx6, hb6⟩
  have HI6 := Lib.hid hi6
  have HX6 := Lib.hid hx6
  have HB6 := Lib.hid (HB5.out.trans hb6)
  clear hi6 hx6 hb6 ha
  go_wp2_with fail
  refine (SameInts_any a6 _ _ _ c6 2 [1, 2] [1, 2] _ (HI6.out.later ((Below.refl _ _).alloc (Nat.le_refl _) _) (Nat.le_refl _)) (two_ints w6 1 2)).mono ?_
  rintro e w7 ⟨rfl, hg7⟩
  have hb7 : Below w6.heap.size w6 w7 := ((Below.refl _ _).alloc (Nat.le_refl _) _).trans (hg7.1.mono (by simp))
  have HX7 := Lib.hid (HX6.out.later hb7)
  have HB7 := Lib.hid (HB6.out.trans (hb7.mono HB6.out.size))
  have q1 : (([1, 2] : List Int) == [1, 2]) = true := by decide
  clear hg7 hb7
  go_wp2_with fail
  refine (atI_any 8 8 w7).mono ?_
  rintro e w8 ⟨rfl, hb8⟩
  have HX8 := Lib.hid (HX7.out.later hb8)
  have HB8 := Lib.hid (HB7.out.trans (hb8.mono HB7.out.size))
  clear hb8
  go_wp2_with fail
  have ha := IAt_low _ g og sg smG ⟨8, 8⟩ w8 HX8.out HB8.out.size
  rw [sm88] at ha
  refine ha.mono ?_
  rintro e w9 ⟨a9, c9, rfl, hi9, hx9, hb9⟩
  have HB9 := Lib.hid (HB8.out.trans hb9)
  clear hi9 hx9 hb9 ha
  go_wp2_with fail
  go_ret
  exact ⟨rfl, HB9.out⟩
end Go.Proofs.YtjiiikeniocmfaaGreat

/- law 20: stack, awake -/
import Derived.Test.YtbidappkmnedaaaJStack
import Derived.Test.YtbidappkmnedaaaJAboveA
import Derived.Test.YtbidappkmnedaaaJWhole
import Derived.Test.YtbidappkmnedaaaJSame
namespace Go.Proofs.Ytbidappkmnedaaa
open Go.RowKit
theorem sortedJ_iff {L : List Jur} {M : List Int} : SortedJ L M ↔ M.Pairwise (fun x y => ¬ ordJ L y x < 0) := by
  rw [List.pairwise_iff_getElem]
  constructor
  · intro h i j hi hj hij
    have := h i j hij hj
    rwa [List.getD_eq_getElem?_getD, List.getD_eq_getElem?_getD, List.getElem?_eq_getElem hj, List.getElem?_eq_getElem (show i < M.length by omega)] at this
  · intro h i j hij hj
    have := h i j (by omega) hj hij
    rw [List.getD_eq_getElem?_getD, List.getD_eq_getElem?_getD, List.getElem?_eq_getElem hj, List.getElem?_eq_getElem (show i < M.length by omega)]
    exact this
/-- there is one such order. -/
theorem sortedJ_unique {L : List Jur} {M N : List Int} (hp : M.Perm N) (hM : SortedJ L M) (hN : SortedJ L N) : M = N :=
  hp.eq_of_pairwise (le := fun x y => ¬ ordJ L y x < 0) (fun _ _ _ _ h1 h2 => ordJ_tot h2 h1) (sortedJ_iff.1 hM) (sortedJ_iff.1 hN)
theorem samp_check : checkP sampL = (0, 0) := by decide
set_option maxRecDepth 100000 in
theorem stack_any (bo co : Option Addr) (m c1 k c2 : Nat) (ids want : List Int) (w : World) (h1 : IsInts w bo m c1 ids) (h2 : IsInts w co k c2 want) (hm : m ≤ 100000) (hmem : ∀ x ∈ ids, atJ sampL x ≠ none) (hnd : ids.Nodup) (hp : want.Perm ids) (hs : SortedJ sampL want) :
    Calls Try.prog 27 #[.slice bo m c1, .slice co k c2] w fun e w' => e = .returned (.bool true) ∧ Below w.heap.size w w' := by
  have HI1 := Lib.hid h1
  have HI2 := Lib.hid h2
  have HX := Lib.hid (And.intro hmem (And.intro hnd (And.intro hp hs)))
  clear h1 h2 hmem hnd hp hs
  go_enter Try.func27, Try.ntmps27
  go_wp2_with fail
  refine (sample_any w).mono ?_
  rintro e w1 ⟨⟨b, rfl, hj⟩, hg1⟩
  have HST := Lib.hid (Stack_any _ 4 4 sampL bo m c1 ids w1 hj (HI1.out.grew hg1) hm)
  have HG1 := Lib.hid hg1
  clear hj hg1
  go_wp2_with fail
  refine HST.out.mono ?_
  rintro e w2 ⟨v, r, M, rfl, hst, hown, hb2⟩
  obtain ⟨hr, hpm, hso⟩ := hst.2.2.2 (by rw [samp_check]) HX.out.1 HX.out.2.1
  subst hr
  obtain rfl := sortedJ_unique (hpm.trans HX.out.2.2.1.symm) hso HX.out.2.2.2
  obtain ⟨a2, cc2, hv2, hi2⟩ := hown.ints
  subst hv2
  have HB2 := Lib.hid hb2
  have HSM := Lib.hid (SameInts_any a2 co M.length k cc2 c2 M M w2 hi2 ((HI2.out.grew HG1.out).later hb2 (Nat.le_refl _)))
  have hMM : (M == M) = true := by simp
  rw [hMM] at HSM
  clear hst hown hb2 hpm hso hi2 hMM
  go_wp2_with fail
  refine HSM.out.mono ?_
  rintro e w3 ⟨rfl, hg3⟩
  go_wp2_with fail
  go_ret
  exact ⟨rfl, HG1.out.1.trans ((HB2.out.trans (hg3.1.mono HB2.out.size)).mono HG1.out.size)⟩
theorem lit3 (w : World) (x y z : Int) : IsInts (w.alloc (Obj.cells #[.int .i64 x, .int .i64 y, .int .i64 z] 3)) (some ⟨w.heap.size, 0, none⟩) 3 3 [x, y, z] := lit_ints w [x, y, z] (by simp)
theorem lit2 (w : World) (x y : Int) : IsInts (w.alloc (Obj.cells #[.int .i64 x, .int .i64 y] 3)) (some ⟨w.heap.size, 0, none⟩) 2 2 [x, y] := lit_ints w [x, y] (by simp)
theorem chain9 : Chain sampL 9 [5, 1] := .on (i := 2) (by decide) (by decide) (.on (i := 1) (by decide) (by decide) (.top (i := 0) (by decide) (by decide)))
theorem chain12 : Chain sampL 12 [] := .top (i := 3) (by decide) (by decide)
set_option maxRecDepth 100000 in
set_option maxHeartbeats 1000000 in
theorem awake_any (w : World) : Calls Try.prog 9 #[] w fun e w' => e = .returned (.bool true) ∧ Below w.heap.size w w' := by
  go_enter Try.func9, Try.ntmps9
  go_wp2_with fail
  have hb0 : Below w.heap.size w ((w.alloc (Obj.cells #[.int .i64 12, .int .i64 9, .int .i64 1] 3)).alloc (Obj.cells #[.int .i64 1, .int .i64 9, .int .i64 12] 3)) := ((Below.refl _ _).alloc (Nat.le_refl _) _).alloc (by simp) _
  have hs := stack_any _ _ 3 3 3 3 [12, 9, 1] [1, 9, 12] _ ((lit3 w 12 9 1).later ((Below.refl _ _).alloc (Nat.le_refl _) _) (Nat.le_refl _)) (lit3 (w.alloc (Obj.cells #[.int .i64 12, .int .i64 9, .int .i64 1] 3)) 1 9 12) (by omega) (by decide) (by decide) (by decide) (sortedJ_iff.2 (by decide))
  rw [show (w.alloc (Obj.cells #[.int .i64 12, .int .i64 9, .int .i64 1] 3)).heap.size = w.heap.size + 1 by simp] at hs
  generalize (w.alloc (Obj.cells #[.int .i64 12, .int .i64 9, .int .i64 1] 3)).alloc (Obj.cells #[.int .i64 1, .int .i64 9, .int .i64 12] 3) = w0 at hs hb0 ⊢
  refine hs.mono ?_
  rintro e w1 ⟨rfl, hb1⟩
  have HB1 := Lib.hid (hb0.trans (hb1.mono hb0.size))
  clear hs hb0 hb1
  go_wp2_with fail
  refine (sample_any w1).mono ?_
  rintro e w2 ⟨⟨b2, rfl, hj2⟩, hg2⟩
  have HAB := Lib.hid (Above_any _ 4 4 sampL 9 w2 hj2)
  have HB2 := Lib.hid (HB1.out.trans (hg2.1.mono HB1.out.size))
  clear hj2 hg2
  go_wp2_with fail
  refine HAB.out.mono ?_
  rintro e w3 ⟨v3, M, rfl, hab, hown3, hb3⟩
  obtain rfl := (hab.2 (by rw [samp_check])).unique chain9
  obtain ⟨a3, c3, hv3, hi3⟩ := hown3.ints
  subst hv3
  have HB3 := Lib.hid (HB2.out.trans (hb3.mono HB2.out.size))
  have hal : Below w3.heap.size w3 (w3.alloc (Obj.cells #[.int .i64 5, .int .i64 1] 3)) := (Below.refl _ _).alloc (Nat.le_refl _) _
  have HSM := Lib.hid (SameInts_any a3 _ 2 2 c3 2 [5, 1] [5, 1] _ (hi3.later hal (Nat.le_refl _)) (lit2 w3 5 1))
  have HB4 := Lib.hid (HB3.out.trans (hal.mono HB3.out.size))
  have hMM : (([5, 1] : List Int) == [5, 1]) = true := by decide
  rw [hMM] at HSM
  clear hab hown3 hb3 hi3 hal hMM
  go_wp2_with fail
  refine HSM.out.mono ?_
  rintro e w4 ⟨rfl, hg4⟩
  have HB5 := Lib.hid (HB4.out.trans (hg4.1.mono HB4.out.size))
  clear hg4
  go_wp2_with fail
  refine (sample_any w4).mono ?_
  rintro e w5 ⟨⟨b5, rfl, hj5⟩, hg5⟩
  have hwr := wrong_any _ 4 4 sampL 0 0 w5 hj5
  have hq : ((0 : Int) == (checkP sampL).1 && (checkP sampL).2 == 0) = true := by rw [samp_check]; rfl
  rw [hq] at hwr
  have HWR := Lib.hid hwr
  have HB6 := Lib.hid (HB5.out.trans (hg5.1.mono HB5.out.size))
  clear hj5 hg5 hwr hq
  go_wp2_with fail
  refine HWR.out.mono ?_
  rintro e w6 ⟨rfl, hg6⟩
  go_wp2_with fail
  go_ret
  exact ⟨rfl, HB6.out.trans (hg6.1.mono HB6.out.size)⟩
end Go.Proofs.Ytbidappkmnedaaa

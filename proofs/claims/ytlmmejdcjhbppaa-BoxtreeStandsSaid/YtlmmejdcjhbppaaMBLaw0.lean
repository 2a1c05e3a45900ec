/- law12: box, sample, awake -/
import Derived.Test.YtlmmejdcjhbppaaMBBox
import Derived.Test.YtlmmejdcjhbppaaMBSame
set_option linter.unusedSimpArgs false
set_option linter.unusedVariables false
namespace Go.Proofs.Ytlmmejdcjhbppaa
open Go.RowKit Go.Geo
attribute [local go_sem] Oper.semAt_some
def smB : List Bx := [(⟨0, 0⟩, ⟨4, 4⟩), (⟨2, 2⟩, ⟨6, 6⟩), (⟨9, 9⟩, ⟨9, 12⟩)]
theorem smB_in : InB smB := by
  intro b hb
  simp only [smB, List.mem_cons, List.not_mem_nil, or_false] at hb
  rcases hb with rfl | rfl | rfl <;> simp [InI]
theorem smB_facts : askB (atQ ⟨3, 3⟩) smB = [0, 1] ∧ askB (atQ ⟨4, 4⟩) smB = [1] ∧ askB (atQ ⟨9, 9⟩) smB = [] ∧ askB (overQ (⟨3, 3⟩, ⟨9, 9⟩)) smB = [0, 1] ∧ depthN 3 = 3 := by decide +kernel
theorem smB_order {O : List Int} (h : Laid smB true (allI 3) O) : O = [0, 1, 2] := by
  have h1 : Laid smB true [0, 1, 2] ([0, 1] ++ [2]) := by
    refine .cut (s := [0, 1, 2]) (by decide) (List.Perm.refl _) (by simp [ltI, keyB, bxI, smB]) ?_ (.few (by decide))
    have h2 : Laid smB false [0, 1] ([0] ++ [1]) := .cut (s := [0, 1]) (by decide) (List.Perm.refl _) (by simp [ltI, keyB, bxI, smB]) (.few (by decide)) (.few (by decide))
    exact h2
  exact h.same h1 (List.Perm.refl _)
set_option maxRecDepth 100000 in
theorem box_any (a b c d : Int) (w : World) : Calls Try.prog 22 #[.int .i64 a, .int .i64 b, .int .i64 c, .int .i64 d] w fun e w' => e = .returned (.agg #[.int .i64 a, .int .i64 b, .int .i64 c, .int .i64 d]) ∧ Below w.heap.size w w' := by
  go_enter Try.func22, Try.ntmps22
  go_wp2_with fail
  exact bodyPost_ret (results_cell_row rfl _ _ _ _ _ _ _ rfl (alloc_new _ _) Try.underlying33 rfl (by kernel_rfl)) rfl ⟨rfl, (Below.refl _ _).alloc (Nat.le_refl _) _⟩
theorem lit_smB (w : World) {B : Nat} (hB : B = w.heap.size) : IsX (w.alloc (.cells #[.int .i64 0, .int .i64 0, .int .i64 4, .int .i64 4, .int .i64 2, .int .i64 2, .int .i64 6, .int .i64 6, .int .i64 9, .int .i64 9, .int .i64 9, .int .i64 12] 33)) (some ⟨B, 0, none⟩) 3 3 smB := by
  subst hB; exact lit_X w smB (by simp [smB])
set_option maxRecDepth 100000 in
set_option maxHeartbeats 1000000 in
theorem sample_any (w : World) : Calls Try.prog 26 #[] w fun e w' => ∃ g, e = .returned (.pointer (some ⟨g, 0, none⟩)) ∧ TreeIs w' g smB ∧ Below w.heap.size w w' := by
  go_enter Try.func26, Try.ntmps26
  go_wp2_with fail
  refine (box_any 0 0 4 4 w).mono ?_
  rintro e w1 ⟨rfl, hb1⟩
  have HB1 := Lib.hid hb1
  clear hb1
  go_wp2_with fail
  refine (box_any 2 2 6 6 w1).mono ?_
  rintro e w2 ⟨rfl, hb2⟩
  have HB2 := Lib.hid (HB1.out.trans (hb2.mono HB1.out.size))
  clear hb2
  go_wp2_with fail
  refine (box_any 9 9 9 12 w2).mono ?_
  rintro e w3 ⟨rfl, hb3⟩
  have HB3 := Lib.hid (HB2.out.trans (hb3.mono HB2.out.size))
  obtain ⟨W, hW⟩ : ∃ W, W = w3.alloc (.cells #[.int .i64 0, .int .i64 0, .int .i64 4, .int .i64 4, .int .i64 2, .int .i64 2, .int .i64 6, .int .i64 6, .int .i64 9, .int .i64 9, .int .i64 9, .int .i64 12] 33) := ⟨_, rfl⟩
  have hix : IsX W (some ⟨w3.heap.size, 0, none⟩) 3 3 smB := by rw [hW]; exact lit_smB w3 rfl
  have hbw : Below w3.heap.size w3 W := by rw [hW]; exact (Below.refl _ _).alloc (Nat.le_refl _) _
  have HBU := Lib.hid (BuildT_any _ 3 3 smB W hix smB_in)
  have HBW := Lib.hid (HB3.out.trans (hbw.mono HB3.out.size))
  clear hb3 hix hbw
  go_wp2_with fail
  rw [← hW]
  clear hW
  refine HBU.out.mono ?_
  rintro e w4 ⟨_, hok, hb4⟩
  obtain ⟨g, rfl, _, ht⟩ := hok (by simp [smB])
  have HT := Lib.hid ht
  have HB4 := Lib.hid (HBW.out.trans (hb4.mono HBW.out.size))
  clear hok ht hb4
  go_wp2_with fail
  go_ret
  exact ⟨g, rfl, HT.out, HB4.out⟩
theorem lit_ints_at (w : World) (L : List Int) (hn : L.length ≤ 1000000) {n : Nat} (h : n = L.length) : IsInts (w.alloc (Obj.cells (flatI L).toArray 3)) (some ⟨w.heap.size, 0, none⟩) n n L := by subst h; exact lit_ints w L hn
set_option maxRecDepth 100000 in
set_option maxHeartbeats 2000000 in
theorem awake_any (w : World) : Calls Try.prog 10 #[] w fun e w' => e = .returned (.bool true) ∧ Below w.heap.size w w' := by
  go_enter Try.func10, Try.ntmps10
  go_wp2_with fail
  refine (sample_any w).mono ?_
  rintro e w1 ⟨g, rfl, hT, hb⟩
  have HT := Lib.hid hT
  have HB := Lib.hid hb
  have hA := At_any g smB ⟨3, 3⟩ w1 hT
  unfold ptV at hA
  have HA := Lib.hid hA
  clear hT hb hA
  go_wp2_with fail
  refine HA.out.mono ?_
  rintro e w2 ⟨v2, rfl, ho2, hb2⟩
  rw [smB_facts.1] at ho2
  obtain ⟨a2, c2, hv2, hi2⟩ := ho2.ints
  subst hv2
  have HB2 := Lib.hid (HB.out.trans (hb2.mono HB.out.size))
  have HT2 := Lib.hid (HT.out.later hb2)
  have hal : Below w2.heap.size w2 (w2.alloc (.cells #[.int .i64 0, .int .i64 1] 3)) := (Below.refl _ _).alloc (Nat.le_refl _) _
  have HS := Lib.hid (SameInts_any a2 (some ⟨w2.heap.size, 0, none⟩) 2 2 c2 2 [0, 1] [0, 1] _ (hi2.later hal (Nat.le_refl _)) (lit_ints w2 [0, 1] (by simp)))
  have HAL := Lib.hid hal
  clear ho2 hb2 hi2 hal
  go_wp2_with fail
  refine HS.out.mono ?_
  rintro e w3 ⟨rfl, hg3⟩
  have HB3 := Lib.hid ((HB2.out.trans (HAL.out.mono HB2.out.size)).trans (hg3.1.mono (Nat.le_trans HB2.out.size HAL.out.size)))
  have HT3 := Lib.hid ((HT2.out.later HAL.out).later hg3.1)
  have hA := At_any g smB ⟨4, 4⟩ w3 HT3.out
  unfold ptV at hA
  have HA4 := Lib.hid hA
  have hbe : (([0, 1] : List Int) == [0, 1]) = true := by decide
  clear hg3 hA
  go_wp2_with fail
  refine HA4.out.mono ?_
  rintro e w4 ⟨v4, rfl, ho4, hb4⟩
  rw [smB_facts.2.1] at ho4
  obtain ⟨a4, c4, hv4, hi4⟩ := ho4.ints
  subst hv4
  have HB4 := Lib.hid (HB3.out.trans (hb4.mono HB3.out.size))
  have HT4 := Lib.hid (HT3.out.later hb4)
  have hal : Below w4.heap.size w4 (w4.alloc (.cells #[.int .i64 1] 3)) := (Below.refl _ _).alloc (Nat.le_refl _) _
  have HS4 := Lib.hid (SameInts_any a4 (some ⟨w4.heap.size, 0, none⟩) 1 1 c4 1 [1] [1] _ (hi4.later hal (Nat.le_refl _)) (lit_ints w4 [1] (by simp)))
  have HAL4 := Lib.hid hal
  clear ho4 hb4 hi4 hal
  go_wp2_with fail
  refine HS4.out.mono ?_
  rintro e w5 ⟨rfl, hg5⟩
  have HB5 := Lib.hid ((HB4.out.trans (HAL4.out.mono HB4.out.size)).trans (hg5.1.mono (Nat.le_trans HB4.out.size HAL4.out.size)))
  have hde := DepthT_any g smB w5 ((HT4.out.later HAL4.out).later hg5.1)
  have hsl : smB.length = 3 := rfl
  rw [hsl, smB_facts.2.2.2.2] at hde
  have HDE := Lib.hid hde
  have hbe2 : (([1] : List Int) == [1]) = true := by decide
  clear hg5 hde hsl
  go_wp2_with fail
  refine HDE.out.mono ?_
  rintro e w6 ⟨rfl, rfl⟩
  go_wp2_with fail
  go_ret
  exact ⟨rfl, HB5.out⟩
end Go.Proofs.Ytlmmejdcjhbppaa

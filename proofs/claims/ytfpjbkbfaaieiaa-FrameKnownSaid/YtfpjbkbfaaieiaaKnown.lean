/- apportionlaw06.FrameKnown -/
import Derived.Test.YtfpjbkbfaaieiaaLaw0
namespace Go.Proofs.Ytfpjbkbfaaieiaa
open Go.RowKit
theorem scan_nil : Fr.scanF [] = ([], 0, 0) := by kernel_rfl
set_option maxRecDepth 100000 in
set_option maxHeartbeats 1000000 in
theorem FrameKnown_any (w : World) : Calls Try.prog 10 #[] w fun e w' => e = .returned (.bool true) ∧ Below w.heap.size w w' := by
  go_enter Try.func10, Try.ntmps10
  go_wp2_with fail
  refine (Scan_any _ _ _ [] w (IsBytes.nil w) (by omega)).mono ?_
  rintro e w1 ⟨v1, rfl, -, hb1⟩
  rw [scan_nil]
  have HB1 := Lib.hid hb1
  clear hb1
  go_wp2_with fail
  refine (empty_any w1).mono ?_
  rintro e w2 ⟨g, rfl, hg, hgb, hb2⟩
  have hcell : w2.cell? ⟨g, 11, none⟩ = some (.int .u8 0) := by rw [cell_of_row _ _ _ _ _ _ hg]; rfl
  have hfr : w2.frozen? ⟨g, 11, none⟩ = false := frozen_of_row _ _ _ _ _ hg
  have hset := heap_setCell_same w2 g 11 _ _ (.int .u8 1) hg
  have hsb : Below w1.heap.size w1 (w2.setCell ⟨g, 11, none⟩ (.int .u8 1)) := hb2.setCell hgb _
  have HG := Lib.hid hset
  have HB2 := Lib.hid (HB1.out.trans (hsb.mono HB1.out.size))
  clear hg hset hb2 hsb
  go_wp2_with fail
  have hown : IsBytes (w2.setCell ⟨g, 11, none⟩ (.int .u8 1)) (some ⟨g, 0, none⟩) 12 12 (emptyL.set 11 1) := by
    have := block_IsBytes (l := emptyL.set 11 1) (g := g) HG.out (by simp [emptyL, maxLen])
    exact this
  obtain ⟨w3, hw3⟩ : ∃ w3, w3 = w2.setCell ⟨g, 11, none⟩ (.int .u8 1) := ⟨_, rfl⟩
  rw [← hw3] at hown ⊢
  have hb3 := HB2.out
  rw [← hw3] at hb3
  have HB3 := Lib.hid hb3
  clear hw3 HG HB2 hb3
  refine (Scan_any _ _ _ _ w3 hown (by omega)).mono ?_
  rintro e w4 ⟨v4, rfl, -, hb4⟩
  rw [scan_odd]
  have HB4 := Lib.hid (HB3.out.trans (hb4.mono HB3.out.size))
  clear hb4 hown
  go_wp2_with fail
  refine (Scan_any _ 8 8 [1, 0, 0, 0, 0, 0, 0, 0] _ ?_ (by omega)).mono ?_
  · exact block_IsBytes (l := [1, 0, 0, 0, 0, 0, 0, 0]) (heap_alloc_new w4 _) (by simp [maxLen])
  rintro e w5 ⟨v5, rfl, -, hb5⟩
  rw [scan_one]
  have HB5 := Lib.hid ((HB4.out.alloc HB4.out.size _).trans (hb5.mono (by have := HB4.out.size; simp; omega)))
  clear hb5
  go_wp2_with fail
  refine (awake_any w5).mono ?_
  rintro e w6 ⟨rfl, hb6⟩
  have HB6 := Lib.hid (HB5.out.trans (hb6.mono HB5.out.size))
  clear hb6
  go_wp2_with fail
  refine (Sum_any _ _ _ [] w6 (IsBytes.nil w6)).mono ?_
  rintro e w7 ⟨rfl, hb7⟩
  rw [sum_none]
  have HB7 := Lib.hid (HB6.out.trans (hb7.mono HB6.out.size))
  clear hb7
  go_wp2_with fail
  go_ret
  exact ⟨rfl, HB7.out⟩
end Go.Proofs.Ytfpjbkbfaaieiaa

/- layer 27's statements: awake -/
import Derived.Test.YtmpjjkfbojhfoaaDOne
namespace Go.Proofs.Ytmpjjkfbojhfoaa
open Go.RowKit
/-- no such block. -/
instance zone0 : Zone := ⟨none⟩
theorem ZW0 (w : World) : ZW w := fun _ h => by cases h
set_option maxRecDepth 100000 in
set_option maxHeartbeats 1000000 in
theorem awake_any (w : World) : Calls Try.prog 10 #[] w fun e w' => e = .returned (.bool true) ∧ Below w.heap.size w w' := by
  go_enter Try.func10, Try.ntmps10
  go_wp2_with fail
  refine (New_G w (fun _ => ([], [])) (ZW0 w)).mono ?_
  rintro e w1 ⟨d, mb, rfl, hmb, hmd, hg, hb⟩
  have HG := Lib.hid hg
  have HB := Lib.hid hb
  clear hg hb
  go_wp2_with fail
  have h1 : DiskG (w1.alloc (.cells (u8s [1, 2, 3]).toArray 5)) 0 (-1) false d mb w.heap.size [] (fun _ => ([], [])) := HG.out.later ((Below.refl _ _).alloc (Nat.le_refl _) _)
  have hk1 : Kept d mb w.heap.size w1 (w1.alloc (.cells (u8s [1, 2, 3]).toArray 5)) := .of_below ((Below.refl _ _).alloc (Nat.le_refl _) _) HB.out.size
  refine (Append_one_new (nm := nA) d mb w.heap.size _ 0 (-1) _ 3 3 [1, 2, 3] _ (Nat.le_trans HB.out.size (by simp)) nA_fit h1 (IsBytes.lit w1 [1, 2, 3] _ (by decide)) (by omega)).mono ?_
  rintro e w2 ⟨z, rfl, hs, hk⟩
  obtain ⟨rfl, f, hf, ho⟩ := hs.done (by omega)
  rw [dec_none] at ho
  have H2 := Lib.hid (And.intro ho (hk1.trans hk))
  have HS2 := Lib.hid (Nat.le_trans HB.out.size (hk1.trans hk).below.size)
  clear ho hk hk1 hs h1
  go_wp2_with fail
  refine (Sync_one (nm := nA) d mb w.heap.size f _ _ _ _ w2 HS2.out H2.out.1).mono ?_
  rintro e w3 ⟨z, rfl, hs, hk⟩
  obtain ⟨rfl, ho⟩ := hs.done (by omega)
  rw [dec_none] at ho
  have H3 := Lib.hid (And.intro ho (H2.out.2.trans hk))
  have HS3 := Lib.hid (Nat.le_trans HS2.out hk.below.size)
  clear ho hk hs
  go_wp2_with fail
  have h4 := H3.out.1.later (w' := w3.alloc (.cells (u8s [4, 5]).toArray 5)) ((Below.refl _ _).alloc (Nat.le_refl _) _)
  have hk4 : Kept d mb w.heap.size w3 (w3.alloc (.cells (u8s [4, 5]).toArray 5)) := .of_below ((Below.refl _ _).alloc (Nat.le_refl _) _) HS3.out
  refine (Append_one (nm := nA) d mb w.heap.size f _ _ _ _ _ 2 2 [4, 5] _ (Nat.le_trans HS3.out (by simp)) nA_fit h4 (IsBytes.lit w3 [4, 5] _ (by decide)) (by decide) (by decide) (by decide)).mono ?_
  rintro e w4 ⟨z, rfl, hs, hk⟩
  obtain ⟨rfl, ho⟩ := hs.done (by omega)
  rw [dec_none] at ho
  have H4 := Lib.hid (And.intro ho ((H3.out.2.trans hk4).trans hk))
  have HS4 := Lib.hid (Nat.le_trans HS3.out (hk4.trans hk).below.size)
  clear ho hk hs h4 hk4
  go_wp2_with fail
  refine (Loose_one (nm := nA) d mb w.heap.size f _ _ _ _ _ w4 H4.out.1).mono ?_
  rintro e w' ⟨rfl, rfl⟩
  go_wp2_with fail
  have h5 := H4.out.1.later (w' := w4.alloc (.cells #[.int .i64 1] 3)) ((Below.refl _ _).alloc (Nat.le_refl _) _)
  have hk5 : Kept d mb w.heap.size w4 (w4.alloc (.cells #[.int .i64 1] 3)) := .of_below ((Below.refl _ _).alloc (Nat.le_refl _) _) HS4.out
  refine (Crash_one (nm := nA) d mb w.heap.size f _ _ _ _ _ _ 1 1 [1] _ (Nat.le_trans HS4.out (by simp)) h5 (IsKeeps.lit w4 1 (by omega) (by omega) _ (by decide))).mono ?_
  rintro e w5 ⟨rfl, ho, hk⟩
  have H5 := Lib.hid (And.intro ho ((H4.out.2.trans hk5).trans hk))
  have HS5 := Lib.hid (Nat.le_trans HS4.out (hk5.trans hk).below.size)
  clear ho hk h5 hk5
  go_wp2_with fail
  have h6 := H5.out.1.later (w' := w5.alloc (.cells (u8s [1, 2, 3, 4]).toArray 5)) ((Below.refl _ _).alloc (Nat.le_refl _) _)
  refine (reads_one (nm := nA) d mb w.heap.size f _ _ _ _ _ 4 4 [1, 2, 3, 4] _ h6 (IsBytes.lit w5 [1, 2, 3, 4] _ (by decide))).mono ?_
  rintro e w6 ⟨rfl, hb6⟩
  have hb6 : Below w5.heap.size w5 w6 := ((Below.refl _ _).alloc (Nat.le_refl _) _).trans (hb6.mono (by simp))
  have H6 := Lib.hid (And.intro (H5.out.1.later hb6) hb6)
  clear h6 hb6
  go_wp2_with fail
  refine (Loose_one (nm := nA) d mb w.heap.size f _ _ _ _ _ w6 H6.out.1).mono ?_
  rintro e w' ⟨rfl, rfl⟩
  go_wp2_with fail
  go_ret
  exact ⟨rfl, (HB.out.trans (H5.out.2.below)).trans (H6.out.2.mono HS5.out)⟩
end Go.Proofs.Ytmpjjkfbojhfoaa

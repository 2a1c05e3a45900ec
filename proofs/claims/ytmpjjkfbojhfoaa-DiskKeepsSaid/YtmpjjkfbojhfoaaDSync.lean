/- disk: what Sync does behind the step -/
import Derived.Test.YtmpjjkfbojhfoaaDSettle
import Derived.Deep.RegionHeld3
namespace Go.Proofs.Ytmpjjkfbojhfoaa
open Go.RowKit
set_option linter.unusedSectionVars false
theorem FileAt.drew {w : World} {f : Nat} {S : List UInt8} {D : List Deed} (h : FileAt w f S D) : FileAt w.drew f S D := by
  obtain ⟨⟨ao, n, cap, al, m, capl, hr, hs, hd⟩, hf, hsm⟩ := h
  exact ⟨⟨ao, n, cap, al, m, capl, hr, hs.later (Below.refl _ _).drew, hd.later (Below.refl _ _).drew⟩, hf, hsm⟩
theorem loose_at (f : Nat) (S : List UInt8) (D : List Deed) (w : World) (h : FileAt w f S D) :
    Calls Try.prog 43 #[.pointer (some ⟨f, 0, none⟩)] w fun e w' => e = .returned (.int .i64 (unitsD D : Nat)) ∧ w = w' := by
  obtain ⟨⟨ao, n, cap, al, m, capl, hr, hs, hd⟩, hf, hsm⟩ := h
  exact loose_any f _ al m capl D w hr hd (by omega)
set_option maxRecDepth 100000 in
theorem SyncDo_any (vb f : Nat) (S : List UInt8) (D : List Deed) (w : World) (hne : vb ≠ f) (hv : w.heap[vb]? = some (.cells #[.pointer (some ⟨f, 0, none⟩)] 72 (0, 0))) (h : FileAt w f S D) :
    Calls Try.prog 41 #[.pointer (some ⟨vb, 0, none⟩)] w fun e w' => e = .returned (.tuple #[]) ∧ (∃ v, FileRow w' f v (.slice none 0 0) ∧ OwnB w' w.heap.size v (allB S D)) ∧ w.grownBy w' (some f) := by
  have hu : unitsD D ≤ 1099511627776 := by have := h.small; unfold unitsD; omega
  have h0 : w.cell? ⟨vb, 0, none⟩ = some (.pointer (some ⟨f, 0, none⟩)) := cell_of_row _ _ _ _ _ _ hv
  have hvb : vb < w.heap.size := block_lt_of_cell h0
  have HL := Lib.hid (loose_at f S D w.drew h.drew)
  have HT := Lib.hid (settle_any f S D w.drew (unitsD D : Nat) (by omega) (by omega) h.drew)
  have HNE := Lib.hid hne
  have HVB := Lib.hid hvb
  clear hne hvb h hv hu
  have hall : allB S D = afterZ S D (unitsD D : Nat) := rfl
  generalize unitsD D = u at HL HT hall
  have HALL := Lib.hid hall
  clear hall
  go_enter Try.func41, Try.ntmps41
  go_wp2_with fail
  go_region_held3 (fun w' => w'.cell? ⟨vb, 0, none⟩ = some (.pointer (some ⟨f, 0, none⟩)))
    (first
      | (exact h0)
      | (exact (World.cell?_of_block (w := w.drew) (hgr.block vb HVB.out (by intro e; injection e with e; exact HNE.out e))).trans h0))
    (first
      | (go_at_call 43; refine HL.out.mono ?_; rintro e w1 ⟨rfl, rfl⟩)
      | (go_at_call 42; refine HT.out.mono ?_; rintro e w1 ⟨rfl, hv1, hgr⟩))
  all_goals
    go_wp2_with fail
    go_end0
    refine ⟨rfl, ?_, ⟨hgr.os, hgr.tape, hgr.output, hgr.size, hgr.block⟩⟩
    rw [HALL.out]
    exact hv1
end Go.Proofs.Ytmpjjkfbojhfoaa

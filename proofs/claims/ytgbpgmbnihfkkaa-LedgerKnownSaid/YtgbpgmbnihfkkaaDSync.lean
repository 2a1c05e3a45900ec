/- disk: settle -/
import Derived.Test.YtgbpgmbnihfkkaaDRead
import Derived.Deep.RegionHeld3
namespace Go.Proofs.Ytgbpgmbnihfkkaa
open Go.RowKit
set_option linter.unusedSectionVars false
theorem grownBy_of_below {w w1 w2 : World} {f : Nat} (h : Below w.heap.size w w1) (hs : w1.heap.size ≤ w2.heap.size) (ho : w2.os = w1.os) (ht : w2.tape = w1.tape) (hu : w2.output = w1.output) (hb : ∀ j, j ≠ f → w2.heap[j]? = w1.heap[j]?) : w.grownBy w2 (some f) :=
  ⟨ho.trans h.os, ht.trans h.tape, hu.trans h.output, Nat.le_trans h.size hs, fun j hj hne => (hb j (fun e => hne (by rw [e]))).trans (h.block j hj)⟩
set_option maxRecDepth 100000 in
theorem settle_any (f : Nat) (S : List UInt8) (D : List Deed) (w : World) (z : Int) (hz0 : 0 ≤ z) (hz1 : z ≤ 1099511627776) (h : FileAt w f S D) :
    Calls Try.prog 22 #[.pointer (some ⟨f, 0, none⟩), .int .i64 z] w fun e w' => e = .returned (.tuple #[]) ∧ (∃ v, FileRow w' f v (.slice none 0 0) ∧ OwnB w' w.heap.size v (afterZ S D z)) ∧ w.grownBy w' (some f) := by
  obtain ⟨⟨ao, n, cap, al, m, capl, hr, hs, hd⟩, hf, hsm⟩ := h
  have hn := hs.1
  have HA := Lib.hid (after_any f ao n cap S al m capl D z w hr hs hd hf (by omega) (by omega) hz1 (by omega))
  have HR := Lib.hid hr
  have hfb : f < w.heap.size := block_lt_of_cell (cell_of_row _ _ _ _ _ _ hr : w.cell? ⟨f, 0, none⟩ = some (.slice ao n cap))
  have HFB := Lib.hid hfb
  clear hr hs hd hf hsm hn hfb
  go_enter Try.func22, Try.ntmps22
  go_wp2_with fail
  refine HA.out.mono ?_
  rintro e w1 ⟨v, rfl, hown, hb⟩
  obtain ⟨av, cv, hvs⟩ := ownsRow_shape hown.1
  obtain ⟨lv, hlv⟩ : ∃ lv, lv = (afterZ S D z).length := ⟨_, rfl⟩
  rw [← hlv] at hvs
  subst hvs
  clear hlv
  have hrow : w1.heap[f]? = some (.cells #[.slice ao n cap, .slice al m capl] 61 (0, 0)) := (hb.block f HFB.out).trans HR.out
  have c0 : w1.cell? ⟨f, 0, none⟩ = some (.slice ao n cap) := cell_of_row _ _ _ _ _ _ hrow
  have c1 : w1.cell? ⟨f, 1, none⟩ = some (.slice al m capl) := cell_of_row _ _ _ _ _ _ hrow
  have z0 : w1.frozen? ⟨f, 0, none⟩ = false := frozen_of_row _ _ _ _ _ hrow
  have z1 : w1.frozen? ⟨f, 1, none⟩ = false := frozen_of_row _ _ _ _ _ hrow
  have HROW := Lib.hid hrow
  have HO := Lib.hid hown
  have HB := Lib.hid hb
  clear hrow hown hb
  go_wp2_with fail
  go_end0
  refine ⟨rfl, ⟨_, ?_, HO.out.move ?_⟩, ?_⟩
  · have h1 := heap_setCell_same w1 f 0 _ _ (.slice av lv cv) HROW.out
    have h2 := heap_setCell_same _ f 1 _ _ (.slice none 0 0) h1
    exact h2
  · intro g hg
    have hne : g ≠ f := by
      have := (HO.out.1.lt g hg).1
      have := HFB.out
      omega
    rw [Below.heap_setCell _ _ _ _ hne, Below.heap_setCell _ _ _ _ hne]
  · exact grownBy_of_below HB.out (by simp) rfl rfl rfl (fun j hj => by rw [Below.heap_setCell _ _ _ _ hj, Below.heap_setCell _ _ _ _ hj])
end Go.Proofs.Ytgbpgmbnihfkkaa

/- disk: what Sync does behind the step -/
namespace Go.Proofs.Ytgbpgmbnihfkkaa
open Go.RowKit
set_option linter.unusedSectionVars false
theorem FileAt.drew {w : World} {f : Nat} {S : List UInt8} {D : List Deed} (h : FileAt w f S D) : FileAt w.drew f S D := by
  obtain ⟨⟨ao, n, cap, al, m, capl, hr, hs, hd⟩, hf, hsm⟩ := h
  exact ⟨⟨ao, n, cap, al, m, capl, hr, hs.later (Below.refl _ _).drew, hd.later (Below.refl _ _).drew⟩, hf, hsm⟩
theorem loose_at (f : Nat) (S : List UInt8) (D : List Deed) (w : World) (h : FileAt w f S D) :
    Calls Try.prog 21 #[.pointer (some ⟨f, 0, none⟩)] w fun e w' => e = .returned (.int .i64 (unitsD D : Nat)) ∧ w = w' := by
  obtain ⟨⟨ao, n, cap, al, m, capl, hr, hs, hd⟩, hf, hsm⟩ := h
  exact loose_any f _ al m capl D w hr hd (by omega)
set_option maxRecDepth 100000 in
theorem SyncDo_any (vb f : Nat) (S : List UInt8) (D : List Deed) (w : World) (hne : vb ≠ f) (hv : w.heap[vb]? = some (.cells #[.pointer (some ⟨f, 0, none⟩)] 55 (0, 0))) (h : FileAt w f S D) :
    Calls Try.prog 39 #[.pointer (some ⟨vb, 0, none⟩)] w fun e w' => e = .returned (.tuple #[]) ∧ (∃ v, FileRow w' f v (.slice none 0 0) ∧ OwnB w' w.heap.size v (allB S D)) ∧ w.grownBy w' (some f) := by
  have hu : unitsD D ≤ 1099511627776 := by have := h.small; unfold unitsD; omega
  have h0 : w.cell? ⟨vb, 0, none⟩ = some (.pointer (some ⟨f, 0, none⟩)) := cell_of_row _ _ _ _ _ _ hv
  have hvb : vb < w.heap.size := block_lt_of_cell h0
  have HL := Lib.hid (loose_at f S D w.drew h.drew)
  have HT := Lib.hid (settle_any f S D w.drew (unitsD D : Nat) (by omega) (by omega) h.drew)
  have HNE := Lib.hid hne
  have HVB := Lib.hid hvb
  clear hne hvb h hv hu
  have hall : allB S D = afterZ S D (unitsD D : Nat) := rfl
  generalize unitsD D = u at HL HT hall
  have HALL := Lib.hid hall
  clear hall
  go_enter Try.func39, Try.ntmps39
  go_wp2_with fail
  go_region_held3 (fun w' => w'.cell? ⟨vb, 0, none⟩ = some (.pointer (some ⟨f, 0, none⟩)))
    (first
      | (exact h0)
      | (exact (World.cell?_of_block (w := w.drew) (hgr.block vb HVB.out (by intro e; injection e with e; exact HNE.out e))).trans h0))
    (first
      | (go_at_call 21; refine HL.out.mono ?_; rintro e w1 ⟨rfl, rfl⟩)
      | (go_at_call 22; refine HT.out.mono ?_; rintro e w1 ⟨rfl, hv1, hgr⟩))
  all_goals
    go_wp2_with fail
    go_end0
    refine ⟨rfl, ?_, ⟨hgr.os, hgr.tape, hgr.output, hgr.size, hgr.block⟩⟩
    rw [HALL.out]
    exact hv1
end Go.Proofs.Ytgbpgmbnihfkkaa

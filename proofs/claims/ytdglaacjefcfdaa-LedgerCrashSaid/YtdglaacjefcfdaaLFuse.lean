/- disk: Fuse; ledger: Broken, Add of a broken ledger -/
import Derived.Test.YtdglaacjefcfdaaLFail
namespace Go.Proofs.Ytdglaacjefcfdaa
open Go.RowKit
variable {fu : Int}
set_option maxRecDepth 100000 in
theorem Fuse_any (d mb f base : Nat) (z : Int) (S : List UInt8) (D : List Deed) (w : World) (hz0 : 0 ≤ z) (hz1 : z ≤ 9223372036854775807) (h : DiskOwn w fu d mb f base S D) :
    Calls Try.prog 24 #[.pointer (some ⟨d, 0, none⟩), .int .i64 z] w fun e w' => e = .returned (.int .i64 0) ∧ DiskOwn w' z d mb f base S D ∧ Moved d mb f base w w' := by
  obtain ⟨st, c, b, hfx, hmd, hd, hm, hf⟩ := h
  obtain ⟨h0, h1, h2, h3⟩ := hd.cells
  have z2 : w.frozen? ⟨d, 2, none⟩ = false := frozen_of_row _ _ _ _ _ hd
  have HN := Lib.hid (none_any d mb st fu false w hd)
  have hz2 : ¬ z < 0 := by omega
  have hres : DiskOwn (w.setCell ⟨d, 2, none⟩ (.int .i64 z)) z d mb f base S D ∧ Moved d mb f base w (w.setCell ⟨d, 2, none⟩ (.int .i64 z)) := by
    refine ⟨⟨st, c, b, ⟨hz1, hfx.2⟩, hmd, heap_setCell_same w d 2 _ _ (.int .i64 z) hd, (Below.heap_setCell _ _ _ _ (by dsimp only; omega)).trans hm, ?_⟩, (Moved.refl _ _ _ _ _).setCell (p := ⟨d, 2, none⟩) (.inl rfl) _⟩
    exact hf.moved (· = d) (fun _ e => e ▸ hd.plain) (hf.at.ne_disk hd) (fun c t j e hj => by subst e; unfold DiskRow at hd; rw [hd] at hj; cases hj) (fun _ _ hn => Below.heap_setCell _ _ _ _ hn)
  have HRES := Lib.hid hres
  clear hd hm hf h0 h1 h3 hres hfx hmd
  go_enter Try.func24, Try.ntmps24
  go_wp2_with fail
  refine HN.out.mono ?_
  rintro e w' ⟨rfl, rfl⟩
  go_wp2_with fail
  go_ret
  exact ⟨rfl, HRES.out⟩
theorem Broken_any (l d : Nat) (n sz : Int) (br : Bool) (w : World) (h : LedRow w l d n sz br) :
    Calls Try.prog 21 #[.pointer (some ⟨l, 0, none⟩)] w fun e w' => e = .returned (.bool br) ∧ w = w' := by
  obtain ⟨h0, h1, h2, h3, h4⟩ := h.cells
  have H := Lib.hid (lnone_any l d n sz br w h)
  clear h h0 h1 h2 h3
  go_enter Try.func21, Try.ntmps21
  go_wp2_with fail
  refine H.out.mono ?_
  rintro e w' ⟨rfl, rfl⟩
  go_wp2_with fail
  go_ret
  exact ⟨rfl, rfl⟩
set_option maxRecDepth 100000 in
theorem Add_broken (l d : Nat) (n sz : Int) (s : Value) (w : World) (h : LedRow w l d n sz true) :
    Calls Try.prog 11 #[.pointer (some ⟨l, 0, none⟩), s] w fun e w' => e = .returned (.int .i64 9) ∧ Below w.heap.size w w' := by
  have HL := Lib.hid h
  clear h
  go_enter_defers Try.func11, Try.ntmps11
  go_wp2_with fail
  generalize hw1 : (w.alloc (.cells #[.pointer (some ⟨l, 0, none⟩)] 27)).alloc (.cells #[.int .i64 0] 30) = w1
  obtain ⟨b0, b1, hB1, hS1⟩ := add_boxes l w w1 hw1
  clear hw1
  have hl1 := HL.out.later hB1
  obtain ⟨l0, l1, l2, l3, l4⟩ := hl1.cells
  obtain ⟨N, hN⟩ : ∃ N, N = w.heap.size := ⟨_, rfl⟩
  have HBX := Lib.hid b1
  have HBB := Lib.hid hB1
  rw [← hN] at b0 b1 ⊢
  have c0 : w1.cell? ⟨N, 0, none⟩ = some (.pointer (some ⟨l, 0, none⟩)) := cell_of_row _ _ _ _ _ _ b0
  have c1 : w1.cell? ⟨N + 1, 0, none⟩ = some (.int .i64 0) := cell_of_row _ _ _ _ _ _ b1
  have z1 : w1.frozen? ⟨N + 1, 0, none⟩ = false := frozen_of_row _ _ _ _ _ b1
  have hr2 := heap_setCell_same w1 (N + 1) 0 _ _ (.int .i64 9) b1
  have hc : (w1.setCell ⟨N + 1, 0, none⟩ (.int .i64 9)).cell? ⟨N + 1, 0, none⟩ = some (.int .i64 9) := cell_of_row _ _ _ _ _ _ hr2
  have hb2 : Below w.heap.size w (w1.setCell ⟨N + 1, 0, none⟩ (.int .i64 9)) := hB1.setCell (p := ⟨N + 1, 0, none⟩) (by dsimp only; omega) _
  have HC := Lib.hid (And.intro hc hb2)
  have HNN := Lib.hid (lnone_any l d n sz true w1 hl1)
  clear hl1 l0 l1 l2 l3 hr2 hc hb2 b0 b1 hB1 hS1 hN
  refine HNN.out.mono ?_
  rintro e w' ⟨rfl, rfl⟩
  go_wp2_with fail
  generalize w1.setCell ⟨N + 1, 0, none⟩ (.int .i64 9) = w2 at HC ⊢
  have hc := HC.out.1
  simp [bodyPostD, Leaves, results, Try.results11, go_sem, hc]
  exact HC.out.2
end Go.Proofs.Ytdglaacjefcfdaa

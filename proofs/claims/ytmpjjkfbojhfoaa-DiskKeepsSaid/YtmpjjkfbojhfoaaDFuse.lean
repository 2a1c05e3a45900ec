/- disk: Fuse, Steps -/
import Derived.Test.YtmpjjkfbojhfoaaDPlain
namespace Go.Proofs.Ytmpjjkfbojhfoaa
open Go.RowKit
variable {nm : ByteArray}
set_option maxRecDepth 100000 in
theorem Fuse_any (d mb : Nat) (M : List Ent) (z st fu : Int) (out : Bool) (w : World) (hz1 : z ≤ 9223372036854775807) (h : DiskM w st fu out d mb M) :
    Calls Try.prog 24 #[.pointer (some ⟨d, 0, none⟩), .int .i64 z] w fun e w' => (z < 0 ∧ e = .returned (.int .i64 2) ∧ w' = w) ∨ (0 ≤ z ∧ e = .returned (.int .i64 0) ∧ DiskM w' st z out d mb M ∧ w' = w.setCell ⟨d, 2, none⟩ (.int .i64 z)) := by
  obtain ⟨hfu, hmd, hd, c, hfit, hm⟩ := h
  obtain ⟨h0, h1, h2, h3⟩ := hd.cells
  have z2 : w.frozen? ⟨d, 2, none⟩ = false := frozen_of_row _ _ _ _ _ hd
  have HN := Lib.hid (none_any d mb st fu out w hd)
  have HRES := Lib.hid (show DiskM (w.setCell ⟨d, 2, none⟩ (.int .i64 z)) st z out d mb M from ⟨hz1, hmd, heap_setCell_same w d 2 _ _ (.int .i64 z) hd, c, hfit, (Below.heap_setCell _ _ _ _ (by dsimp only; omega)).trans hm⟩)
  clear hd hm h0 h1 h3 hfu hmd hfit
  by_cases hz : z < 0
  · go_enter Try.func24, Try.ntmps24
    go_wp2_with fail
    refine HN.out.mono ?_
    rintro e w' ⟨rfl, rfl⟩
    go_wp2_with fail
    go_ret
    exact .inl ⟨hz, rfl, rfl⟩
  · go_enter Try.func24, Try.ntmps24
    go_wp2_with fail
    refine HN.out.mono ?_
    rintro e w' ⟨rfl, rfl⟩
    go_wp2_with fail
    go_ret
    exact .inr ⟨by omega, rfl, HRES.out, rfl⟩
end Go.Proofs.Ytmpjjkfbojhfoaa

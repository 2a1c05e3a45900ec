/- ledger: none, Len, Size, Broken; what Add defers -/
import Derived.Test.YtdglaacjefcfdaaDApp5
import Derived.Defers
namespace Go.Proofs.Ytdglaacjefcfdaa
open Go.RowKit
/-- a ledger's own cells. -/
def LedRow (w : World) (l d : Nat) (n sz : Int) (br : Bool) : Prop := w.heap[l]? = some (.cells #[.pointer (some ⟨d, 0, none⟩), .string logB, .int .i64 n, .int .i64 sz, .bool br] 46 (0, 0))
theorem LedRow.cells {w : World} {l d : Nat} {n sz : Int} {br : Bool} (h : LedRow w l d n sz br) :
    w.cell? ⟨l, 0, none⟩ = some (.pointer (some ⟨d, 0, none⟩)) ∧ w.cell? ⟨l, 1, none⟩ = some (.string logB) ∧ w.cell? ⟨l, 2, none⟩ = some (.int .i64 n) ∧ w.cell? ⟨l, 3, none⟩ = some (.int .i64 sz) ∧ w.cell? ⟨l, 4, none⟩ = some (.bool br) :=
  ⟨cell_of_row _ _ _ _ _ _ h, cell_of_row _ _ _ _ _ _ h, cell_of_row _ _ _ _ _ _ h, cell_of_row _ _ _ _ _ _ h, cell_of_row _ _ _ _ _ _ h⟩
theorem lnone_any (l d : Nat) (n sz : Int) (br : Bool) (w : World) (h : LedRow w l d n sz br) :
    Calls Try.prog 26 #[.pointer (some ⟨l, 0, none⟩)] w fun e w' => e = .returned (.bool false) ∧ w = w' := by
  obtain ⟨h0, h1, h2, h3, h4⟩ := h.cells
  clear h h1 h2 h3 h4
  go_enter Try.func26, Try.ntmps26
  go_wp2
  go_ret
  exact ⟨rfl, rfl⟩
theorem lnone_nil (w : World) : Calls Try.prog 26 #[.pointer none] w fun e w' => e = .returned (.bool true) ∧ w = w' := by
  go_enter Try.func26, Try.ntmps26
  go_wp2
  go_ret
  exact ⟨rfl, rfl⟩
theorem lnone_zero (l : Nat) (w : World) (h : w.cell? ⟨l, 0, none⟩ = some (.pointer none)) : Calls Try.prog 26 #[.pointer (some ⟨l, 0, none⟩)] w fun e w' => e = .returned (.bool true) ∧ w = w' := by
  go_enter Try.func26, Try.ntmps26
  go_wp2
  go_ret
  exact ⟨rfl, rfl⟩
theorem Len_any (l d : Nat) (n sz : Int) (br : Bool) (w : World) (h : LedRow w l d n sz br) :
    Calls Try.prog 19 #[.pointer (some ⟨l, 0, none⟩)] w fun e w' => e = .returned (.int .i64 n) ∧ w = w' := by
  obtain ⟨h0, h1, h2, h3, h4⟩ := h.cells
  have H := Lib.hid (lnone_any l d n sz br w h)
  clear h h0 h1 h3 h4
  go_enter Try.func19, Try.ntmps19
  go_wp2_with fail
  refine H.out.mono ?_
  rintro e w' ⟨rfl, rfl⟩
  go_wp2_with fail
  go_ret
  exact ⟨rfl, rfl⟩
theorem Size_any (l d : Nat) (n sz : Int) (br : Bool) (w : World) (h : LedRow w l d n sz br) :
    Calls Try.prog 20 #[.pointer (some ⟨l, 0, none⟩)] w fun e w' => e = .returned (.int .i64 sz) ∧ w = w' := by
  obtain ⟨h0, h1, h2, h3, h4⟩ := h.cells
  have H := Lib.hid (lnone_any l d n sz br w h)
  clear h h0 h1 h2 h4
  go_enter Try.func20, Try.ntmps20
  go_wp2_with fail
  refine H.out.mono ?_
  rintro e w' ⟨rfl, rfl⟩
  go_wp2_with fail
  go_ret
  exact ⟨rfl, rfl⟩
theorem Len_none (v : Value) (w : World) (h : Calls Try.prog 26 #[v] w fun e w' => e = .returned (.bool true) ∧ w = w') :
    Calls Try.prog 19 #[v] w fun e w' => e = .returned (.int .i64 0) ∧ w = w' := by
  have H := Lib.hid h
  clear h
  go_enter Try.func19, Try.ntmps19
  go_wp2_with fail
  refine H.out.mono ?_
  rintro e w' ⟨rfl, rfl⟩
  go_wp2_with fail
  go_ret
  exact ⟨rfl, rfl⟩
theorem Size_none (v : Value) (w : World) (h : Calls Try.prog 26 #[v] w fun e w' => e = .returned (.bool true) ∧ w = w') :
    Calls Try.prog 20 #[v] w fun e w' => e = .returned (.int .i64 0) ∧ w = w' := by
  have H := Lib.hid h
  clear h
  go_enter Try.func20, Try.ntmps20
  go_wp2_with fail
  refine H.out.mono ?_
  rintro e w' ⟨rfl, rfl⟩
  go_wp2_with fail
  go_ret
  exact ⟨rfl, rfl⟩
theorem Broken_none (v : Value) (w : World) (h : Calls Try.prog 26 #[v] w fun e w' => e = .returned (.bool true) ∧ w = w') :
    Calls Try.prog 21 #[v] w fun e w' => e = .returned (.bool false) ∧ w = w' := by
  have H := Lib.hid h
  clear h
  go_enter Try.func21, Try.ntmps21
  go_wp2_with fail
  refine H.out.mono ?_
  rintro e w' ⟨rfl, rfl⟩
  go_wp2_with fail
  go_ret
  exact ⟨rfl, rfl⟩
theorem AddEnd_ok (rp fp bp l : Nat) (b0 : Bool) (u : FrameMode) (w : World) (hr : w.cell? ⟨rp, 0, none⟩ = some (.int .i64 0)) (_hf : w.cell? ⟨fp, 0, none⟩ = some (.bool b0)) (hb : w.cell? ⟨bp, 0, none⟩ = some (.pointer (some ⟨l, 0, none⟩)))
    (hl : w.cell? ⟨l, 4, none⟩ = some (.bool false)) (hz : w.frozen? ⟨l, 4, none⟩ = false) :
    CallsD Try.prog 28 #[.pointer (some ⟨rp, 0, none⟩), .pointer (some ⟨fp, 0, none⟩), .pointer (some ⟨bp, 0, none⟩)] u w fun e u' w' => u' = u ∧ (e = .returned (.tuple #[]) ∧ w' = w.setCell ⟨l, 4, none⟩ (.bool false)) := by
  go_enter_d Try.func28, Try.ntmps28
  go_wp2
  go_end0
  exact ⟨rfl, rfl⟩
end Go.Proofs.Ytdglaacjefcfdaa

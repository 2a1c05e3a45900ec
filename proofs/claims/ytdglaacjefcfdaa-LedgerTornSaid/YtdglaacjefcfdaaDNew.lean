/- disk: New, none, down; atomic.Int64.Add -/
import Derived.Test.YtdglaacjefcfdaaKit
import Derived.Carry
import Derived.Laws.LoneSync
import Derived.WalkSpells
namespace Go.Proofs.Ytdglaacjefcfdaa
open Go.RowKit
/-- a disk's own cells: its files' map, how many steps, its fuse, whether it is out. -/
def DiskRow (w : World) (d mb : Nat) (st fu : Int) (out : Bool) : Prop := w.heap[d]? = some (.cells #[.map (some mb), .int .i64 st, .int .i64 fu, .bool out] 67 (0, 0))
theorem DiskRow.cells {w : World} {d mb : Nat} {st fu : Int} {out : Bool} (h : DiskRow w d mb st fu out) :
    w.cell? ⟨d, 0, none⟩ = some (.map (some mb)) ∧ w.cell? ⟨d, 1, none⟩ = some (.int .i64 st) ∧ w.cell? ⟨d, 2, none⟩ = some (.int .i64 fu) ∧ w.cell? ⟨d, 3, none⟩ = some (.bool out) :=
  ⟨cell_of_row _ _ _ _ _ _ h, cell_of_row _ _ _ _ _ _ h, cell_of_row _ _ _ _ _ _ h, cell_of_row _ _ _ _ _ _ h⟩
theorem New_any (w : World) : Calls Try.prog 9 #[] w fun e w' => ∃ d mb, e = .returned (.pointer (some ⟨d, 0, none⟩)) ∧ w.heap.size ≤ mb ∧ mb < d ∧ DiskRow w' d mb 0 (-1) false ∧ w'.heap[mb]? = some (.map #[] 0) ∧ Below w.heap.size w w' := by
  have hmm := @run_makeMap Try.prog
  go_enter Try.func9, Try.ntmps9
  go_wp2
  go_ret
  refine ⟨w.heap.size + 1, w.heap.size, rfl, Nat.le_refl _, Nat.lt_succ_self _, ?_, ?_, ((Below.refl _ _).alloc (Nat.le_refl _) _).alloc (by simp) _⟩
  · unfold DiskRow
    have h := heap_alloc_new (w.alloc (Obj.map #[] 0)) (Obj.cells #[Value.map (some w.heap.size), Value.int IntKind.i64 0, Value.int IntKind.i64 (-1), Value.bool false] 67)
    rwa [show (w.alloc (Obj.map #[] 0)).heap.size = w.heap.size + 1 by simp] at h
  · rw [Below.heap_alloc _ _ _ (by simp)]
    exact heap_alloc_new _ _
theorem AddInt_any (b off : Nat) (n : Int) (w : World) (h : w.cell? ⟨b, off, none⟩ = some (.int .i64 n)) (hf : w.frozen? ⟨b, off, none⟩ = false) :
    Calls Try.prog 49 #[.pointer (some ⟨b, off, none⟩), .int .i64 1] w fun e w' => (∃ v, e = .returned v) ∧ w' = w.setCell ⟨b, off, none⟩ (.int .i64 (wrap64 (n + 1))) := by
  have hadd := run_call_add (P := Try.prog) Try.func55 (by kernel_rfl) (by kernel_rfl) (by kernel_rfl) .i64 (by kernel_rfl) (y := 1) (s := wrap64 (n + 1)) h hf (by simp [go_sem]; exact IntWalk.i64_left _)
  go_enter Try.func49, Try.ntmps49
  go_wp2
  go_ret
  exact ⟨⟨_, rfl⟩, rfl⟩
set_option maxRecDepth 100000 in
theorem none_any (d mb : Nat) (st fu : Int) (out : Bool) (w : World) (h : DiskRow w d mb st fu out) :
    Calls Try.prog 44 #[.pointer (some ⟨d, 0, none⟩)] w fun e w' => e = .returned (.bool false) ∧ w = w' := by
  obtain ⟨h0, h1, h2, h3⟩ := h.cells
  clear h h1 h2 h3
  have hem := fun w' => run_eql_map_nil (P := Try.prog) w' 60 9 69 (some mb) Try.underlying60
  go_enter Try.func44, Try.ntmps44
  go_wp2
  go_ret
  exact ⟨rfl, rfl⟩
theorem none_nil (w : World) : Calls Try.prog 44 #[.pointer none] w fun e w' => e = .returned (.bool true) ∧ w = w' := by
  go_enter Try.func44, Try.ntmps44
  go_wp2
  go_ret
  exact ⟨rfl, rfl⟩
theorem down_any (d mb : Nat) (st fu : Int) (w : World) (h : DiskRow w d mb st fu false) :
    Calls Try.prog 31 #[.pointer (some ⟨d, 0, none⟩)] w fun e w' => e = .returned (.int .i64 0) ∧ w = w' := by
  obtain ⟨h0, h1, h2, h3⟩ := h.cells
  have H := Lib.hid h
  clear h h0 h1 h2
  go_enter Try.func31, Try.ntmps31
  go_wp2_with fail
  refine (none_any _ _ _ _ _ _ H.out).mono ?_
  rintro e w' ⟨rfl, rfl⟩
  go_wp2_with fail
  go_ret
  exact ⟨rfl, rfl⟩
theorem down_nil (w : World) : Calls Try.prog 31 #[.pointer none] w fun e w' => e = .returned (.int .i64 1) ∧ w = w' := by
  go_enter Try.func31, Try.ntmps31
  go_wp2_with fail
  refine (none_nil _).mono ?_
  rintro e w' ⟨rfl, rfl⟩
  go_wp2_with fail
  go_ret
  exact ⟨rfl, rfl⟩
/-- may bytes be a file's name? -/
def nameP (s : List UInt8) : Bool := s.all (fun b => decide (33 ≤ b.toNat) && decide (b.toNat ≤ 126)) && decide (1 ≤ s.length) && decide (s.length ≤ 64)
end Go.Proofs.Ytdglaacjefcfdaa

/- disk: New, none, down; atomic.Int64.Add -/
import Derived.Test.YtdglaacjefcfdaaKit
import Derived.Carry
import Derived.Laws.LoneSync
import Derived.WalkSpells
namespace Go.Proofs.Ytdglaacjefcfdaa
open Go.RowKit
/-- a disk's own cells: its files' map, how many steps, its fuse, whether it is out. -/
def DiskRow (w : World) (d mb : Nat) (st fu : Int) (out : Bool) : Prop := w.heap[d]? = some (.cells #[.map (some mb), .int .i64 st, .int .i64 fu, .bool out] 67 (0, 0))
theorem DiskRow.cells {w : World} {d mb : Nat} {st fu : Int} {out : Bool} (h : DiskRow w d mb st fu out) :
    w.cell? ⟨d, 0, none⟩ = some (.map (some mb)) ∧ w.cell? ⟨d, 1, none⟩ = some (.int .i64 st) ∧ w.cell? ⟨d, 2, none⟩ = some (.int .i64 fu) ∧ w.cell? ⟨d, 3, none⟩ = some (.bool out) :=
  ⟨cell_of_row _ _ _ _ _ _ h, cell_of_row _ _ _ _ _ _ h, cell_of_row _ _ _ _ _ _ h, cell_of_row _ _ _ _ _ _ h⟩
theorem New_any (w : World) : Calls Try.prog 9 #[] w fun e w' => ∃ d mb, e = .returned (.pointer (some ⟨d, 0, none⟩)) ∧ w.heap.size ≤ mb ∧ mb < d ∧ DiskRow w' d mb 0 (-1) false ∧ w'.heap[mb]? = some (.map #[] 0) ∧ Below w.heap.size w w' := by
  have hmm := @run_makeMap Try.prog
  go_enter Try.func9, Try.ntmps9
  go_wp2
  go_ret
  refine ⟨w.heap.size + 1, w.heap.size, rfl, Nat.le_refl _, Nat.lt_succ_self _, ?_, ?_, ((Below.refl _ _).alloc (Nat.le_refl _) _).alloc (by simp) _⟩
  · unfold DiskRow
    have h := heap_alloc_new (w.alloc (Obj.map #[] 0)) (Obj.cells #[Value.map (some w.heap.size), Value.int IntKind.i64 0, Value.int IntKind.i64 (-1), Value.bool false] 67)
    rwa [show (w.alloc (Obj.map #[] 0)).heap.size = w.heap.size + 1 by simp] at h
  · rw [Below.heap_alloc _ _ _ (by simp)]
    exact heap_alloc_new _ _
theorem AddInt_any (b off : Nat) (n : Int) (w : World) (h : w.cell? ⟨b, off, none⟩ = some (.int .i64 n)) (hf : w.frozen? ⟨b, off, none⟩ = false) :
    Calls Try.prog 49 #[.pointer (some ⟨b, off, none⟩), .int .i64 1] w fun e w' => (∃ v, e = .returned v) ∧ w' = w.setCell ⟨b, off, none⟩ (.int .i64 (wrap64 (n + 1))) := by
  have hadd := run_call_add (P := Try.prog) Try.func55 (by kernel_rfl) (by kernel_rfl) (by kernel_rfl) .i64 (by kernel_rfl) (y := 1) (s := wrap64 (n + 1)) h hf (by simp [go_sem]; exact IntWalk.i64_left _)
  go_enter Try.func49, Try.ntmps49
  go_wp2
  go_ret
  exact ⟨⟨_, rfl⟩, rfl⟩
set_option maxRecDepth 100000 in
theorem none_any (d mb : Nat) (st fu : Int) (out : Bool) (w : World) (h : DiskRow w d mb st fu out) :
    Calls Try.prog 44 #[.pointer (some ⟨d, 0, none⟩)] w fun e w' => e = .returned (.bool false) ∧ w = w' := by
  obtain ⟨h0, h1, h2, h3⟩ := h.cells
  clear h h1 h2 h3
  have hem := fun w' => run_eql_map_nil (P := Try.prog) w' 60 9 69 (some mb) Try.underlying60
  go_enter Try.func44, Try.ntmps44
  go_wp2
  go_ret
  exact ⟨rfl, rfl⟩
theorem none_nil (w : World) : Calls Try.prog 44 #[.pointer none] w fun e w' => e = .returned (.bool true) ∧ w = w' := by
  go_enter Try.func44, Try.ntmps44
  go_wp2
  go_ret
  exact ⟨rfl, rfl⟩
theorem down_any (d mb : Nat) (st fu : Int) (w : World) (h : DiskRow w d mb st fu false) :
    Calls Try.prog 31 #[.pointer (some ⟨d, 0, none⟩)] w fun e w' => e = .returned (.int .i64 0) ∧ w = w' := by
  obtain ⟨h0, h1, h2, h3⟩ := h.cells
  have H := Lib.hid h
  clear h h0 h1 h2
  go_enter Try.func31, Try.ntmps31
  go_wp2_with fail
  refine (none_any _ _ _ _ _ _ H.out).mono ?_
  rintro e w' ⟨rfl, rfl⟩
  go_wp2_with fail
  go_ret
  exact ⟨rfl, rfl⟩
theorem down_nil (w : World) : Calls Try.prog 31 #[.pointer none] w fun e w' => e = .returned (.int .i64 1) ∧ w = w' := by
  go_enter Try.func31, Try.ntmps31
  go_wp2_with fail
  refine (none_nil _).mono ?_
  rintro e w' ⟨rfl, rfl⟩
  go_wp2_with fail
  go_ret
  exact ⟨rfl, rfl⟩
/-- may bytes be a file's name? -/
def nameP (s : List UInt8) : Bool := s.all (fun b => decide (33 ≤ b.toNat) && decide (b.toNat ≤ 126)) && decide (1 ≤ s.length) && decide (s.length ≤ 64)
end Go.Proofs.Ytdglaacjefcfdaa

/- disk: named, of "log" -/
namespace Go.Proofs.Ytdglaacjefcfdaa
open Go.RowKit
/-- "log". -/
def logB : ByteArray := ⟨#[108, 111, 103]⟩
set_option maxRecDepth 100000 in
theorem named_log (w : World) : Calls Try.prog 32 #[.string logB] w fun e w' => e = .returned (.bool true) ∧ w = w' := by
  go_enter Try.func32, Try.ntmps32
  unfold logB
  go_wp2
  go_loopw [6] (fun i wr => ∃ k : Nat, k ≤ 3 ∧ i = .int .i64 k ∧ w = wr) (fun i _ => 3 - (intOf i).toNat)
  case atStart => exact ⟨0, by omega, rfl, rfl⟩
  case round =>
    obtain ⟨k, hk, rfl, rfl⟩ := hrel
    have hk4 : k = 0 ∨ k = 1 ∨ k = 2 ∨ k = 3 := by omega
    rcases hk4 with rfl | rfl | rfl | rfl
    · go_wp2
      go_roundw
      case rel => exact ⟨1, by omega, rfl, trivial⟩
      case measure => simp [intOf]
    · go_wp2
      go_roundw
      case rel => exact ⟨2, by omega, rfl, trivial⟩
      case measure => simp [intOf]
    · go_wp2
      go_roundw
      case rel => exact ⟨3, by omega, rfl, trivial⟩
      case measure => simp [intOf]
    · go_wp2
      go_ret
      exact ⟨rfl, rfl⟩
end Go.Proofs.Ytdglaacjefcfdaa

/- disk: the map of files, with at most the one name "log" -/
namespace Go.Proofs.Ytdglaacjefcfdaa
open Go.RowKit
theorem check_log (em : Bool) (w : World) : (Instr.checkKey em 10000 9 (.string logB)).run Try.prog w = .ok () w := by
  rw [show (10000 : Nat) = 9999 + 1 from rfl, Instr.checkKey]
  simp [run_underlying Try.underlying9]
theorem find_none (w : World) : (Instr.findKey 9 (.string logB) []).run Try.prog w = .ok none w := by
  simp [Instr.findKey, Instr.findNow, run_underlying Try.underlying9]
theorem find_log (v : Value) (b : Nat) (w : World) : (Instr.findKey 9 (.string logB) [{ key := .string logB, val := v, born := b }]).run Try.prog w = .ok (some (0, v)) w := by
  have e : (logB == logB) = true := by decide
  simp [Instr.findKey, Instr.findNow, Instr.sameNow, run_underlying Try.underlying9, e]
theorem stays_log (w : World) : (Instr.keyThatStays (.string logB) (.string logB)).run Try.prog w = .ok (.string logB) w := by
  have e : Instr.sameBits 10000 (.string logB) (.string logB) = true := by kernel_rfl
  unfold Instr.keyThatStays
  rw [e]
  rfl
theorem look_none (w : World) (mb c : Nat) (h : w.heap[mb]? = some (.map #[] c)) : (Instr.lookup 60 (.map (some mb)) (.string logB) false).run Try.prog w = .ok (.pointer none) w := by
  unfold Instr.lookup
  simp [run_underlying Try.underlying60, MapKept.run_getObj_map h, check_log, find_none, Result.andThen]
theorem look_log (w : World) (mb c : Nat) (b : Nat) (v : Value) (h : w.heap[mb]? = some (.map #[{ key := .string logB, val := v, born := b }] c)) : (Instr.lookup 60 (.map (some mb)) (.string logB) false).run Try.prog w = .ok v w := by
  unfold Instr.lookup
  simp [run_underlying Try.underlying60, MapKept.run_getObj_map h, check_log, find_log, Result.andThen]
/-- the world with another object in block mb. -/
def setObjAt (w : World) (mb : Nat) (o : Obj) : World := { w with heap := w.heap.setIfInBounds mb o }
theorem put_none (w : World) (mb c : Nat) (v : Value) (h : w.heap[mb]? = some (.map #[] c)) : (Instr.mapUpdate 60 (.map (some mb)) (.string logB) v).run Try.prog w = .ok () (setObjAt w mb (.map #[{ key := .string logB, val := v, born := c }] (c + 1))) := by
  unfold Instr.mapUpdate
  simp [run_underlying Try.underlying60, MapKept.run_getObj_map h, check_log, find_none, Result.andThen, MapKept.run_setObj_map _ h]
  rfl
theorem put_log (w : World) (mb c b : Nat) (v u : Value) (h : w.heap[mb]? = some (.map #[{ key := .string logB, val := u, born := b }] c)) : (Instr.mapUpdate 60 (.map (some mb)) (.string logB) v).run Try.prog w = .ok () (setObjAt w mb (.map #[{ key := .string logB, val := v, born := b }] c)) := by
  unfold Instr.mapUpdate
  simp [run_underlying Try.underlying60, MapKept.run_getObj_map h, check_log, find_log, Result.andThen, stays_log, MapKept.run_setObj_map _ h]
  rfl
end Go.Proofs.Ytdglaacjefcfdaa

/- disk: open of "log"; Clone of bytes -/
namespace Go.Proofs.Ytdglaacjefcfdaa
open Go.RowKit
set_option maxRecDepth 100000 in
theorem open_nil (nm : Value) (w : World) : Calls Try.prog 29 #[.pointer none, nm] w fun e w' => e = .returned (.tuple #[.pointer none, .int .i64 1]) ∧ w = w' := by
  go_enter Try.func29, Try.ntmps29
  go_wp2_with fail
  refine (down_nil _).mono ?_
  rintro e w' ⟨rfl, rfl⟩
  go_wp2_with fail
  go_ret2
  exact ⟨rfl, rfl⟩
set_option maxRecDepth 100000 in
theorem open_none (d mb c : Nat) (st fu : Int) (w : World) (h : DiskRow w d mb st fu false) (hm : w.heap[mb]? = some (.map #[] c)) :
    Calls Try.prog 29 #[.pointer (some ⟨d, 0, none⟩), .string logB] w fun e w' => e = .returned (.tuple #[.pointer none, .int .i64 6]) ∧ w = w' := by
  obtain ⟨h0, h1, h2, h3⟩ := h.cells
  have hl := look_none w mb c hm
  have H := Lib.hid h
  generalize logB = nm at hl ⊢
  clear h h1 h2 h3 hm
  go_enter Try.func29, Try.ntmps29
  go_wp2_with fail
  refine (down_any _ _ _ _ _ H.out).mono ?_
  rintro e w' ⟨rfl, rfl⟩
  go_wp2_with fail
  go_ret2
  exact ⟨rfl, rfl⟩
set_option maxRecDepth 100000 in
theorem open_log (d mb c b f : Nat) (st fu : Int) (w : World) (h : DiskRow w d mb st fu false) (hm : w.heap[mb]? = some (.map #[{ key := .string logB, val := .pointer (some ⟨f, 0, none⟩), born := b }] c)) :
    Calls Try.prog 29 #[.pointer (some ⟨d, 0, none⟩), .string logB] w fun e w' => e = .returned (.tuple #[.pointer (some ⟨f, 0, none⟩), .int .i64 0]) ∧ w = w' := by
  obtain ⟨h0, h1, h2, h3⟩ := h.cells
  have hl := look_log w mb c b _ hm
  have H := Lib.hid h
  generalize logB = nm at hl ⊢
  clear h h1 h2 h3 hm
  go_enter Try.func29, Try.ntmps29
  go_wp2_with fail
  refine (down_any _ _ _ _ _ H.out).mono ?_
  rintro e w' ⟨rfl, rfl⟩
  go_wp2_with fail
  go_ret2
  exact ⟨rfl, rfl⟩
theorem OwnB.none_new (w : World) (base : Nat) (hb : base ≤ w.heap.size) : OwnB (w.alloc (.cells #[] 5)) base (.slice (some ⟨w.heap.size, 0, none⟩) 0 0) [] := by
  refine ⟨World.ownsRow_made w #[] 0 hb (by unfold maxLen; omega) (by simp), fun g c t f hg hc u hu => ?_⟩
  simp only [Value.ownBlock, Option.some.injEq] at hg
  subst hg
  rw [heap_alloc_new] at hc
  cases hc
  simp at hu
set_option maxRecDepth 100000 in
theorem CloneB_any (ao : Option Addr) (n cap : Nat) (l : List UInt8) (w : World) (hs : IsBytes w ao n cap l) (hn : n ≤ 4294967296) :
    Calls Try.prog 35 #[.slice ao n cap] w fun e w' => ∃ v, e = .returned v ∧ OwnB w' w.heap.size v l ∧ Below w.heap.size w w' := by
  cases ao with
  | none =>
    obtain ⟨rfl, rfl⟩ := hs.2.2.2.2 rfl
    obtain rfl : l = [] := List.eq_nil_of_length_eq_zero hs.1
    have hql := fun w' => Lib.run_eql_slice_nil (P := Try.prog) w' 24 5 none 0 0 0 0 Try.underlying24
    clear hs hn
    go_enter Try.func35, Try.ntmps35
    go_wp2
    go_ret
    exact ⟨_, rfl, OwnB.nil _ _, Below.refl _ _⟩
  | some ad =>
    have HS := Lib.hid hs
    have hql := fun w' => Lib.run_eql_slice_nil (P := Try.prog) w' 24 5 (some ad) n cap 0 0 Try.underlying24
    have HL : Hid (l.length = n) := Lib.hid hs.1
    clear hs
    go_enter Try.func35, Try.ntmps35
    go_wp2_with (at_builtin; refine wpList_append_bytes rfl _ _ rfl w.heap.size (.slice (some ⟨w.heap.size, 0, none⟩) 0 0) [] rfl (OwnB.none_new w _ (Nat.le_refl _)) (some ad) n cap l rfl (HS.out.later ((Below.refl _ _).alloc (Nat.le_refl _) _)) (by simp; omega) (by simp) ?_; intro v1 w1 hown1 hg1)
    go_ret
    exact ⟨_, rfl, hown1, ((Below.refl _ _).alloc (Nat.le_refl _) _).grown hg1 (by simp) (fun k hk => ((OwnB.none_new w _ (Nat.le_refl _)).1.lt k hk).1)⟩
end Go.Proofs.Ytdglaacjefcfdaa

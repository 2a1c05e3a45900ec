/- disk: the map of files, with at most the one name "log" -/
import Derived.Test.YtdglaacjefcfdaaDNamed
namespace Go.Proofs.Ytdglaacjefcfdaa
open Go.RowKit
theorem check_log (em : Bool) (w : World) : (Instr.checkKey em 10000 9 (.string logB)).run Try.prog w = .ok () w := by
  rw [show (10000 : Nat) = 9999 + 1 from rfl, Instr.checkKey]
  simp [run_underlying Try.underlying9]
theorem find_none (w : World) : (Instr.findKey 9 (.string logB) []).run Try.prog w = .ok none w := by
  simp [Instr.findKey, Instr.findNow, run_underlying Try.underlying9]
theorem find_log (v : Value) (b : Nat) (w : World) : (Instr.findKey 9 (.string logB) [{ key := .string logB, val := v, born := b }]).run Try.prog w = .ok (some (0, v)) w := by
  have e : (logB == logB) = true := by decide
  simp [Instr.findKey, Instr.findNow, Instr.sameNow, run_underlying Try.underlying9, e]
theorem stays_log (w : World) : (Instr.keyThatStays (.string logB) (.string logB)).run Try.prog w = .ok (.string logB) w := by
  have e : Instr.sameBits 10000 (.string logB) (.string logB) = true := by kernel_rfl
  unfold Instr.keyThatStays
  rw [e]
  rfl
theorem look_none (w : World) (mb c : Nat) (h : w.heap[mb]? = some (.map #[] c)) : (Instr.lookup 60 (.map (some mb)) (.string logB) false).run Try.prog w = .ok (.pointer none) w := by
  unfold Instr.lookup
  simp [run_underlying Try.underlying60, MapKept.run_getObj_map h, check_log, find_none, Result.andThen]
theorem look_log (w : World) (mb c : Nat) (b : Nat) (v : Value) (h : w.heap[mb]? = some (.map #[{ key := .string logB, val := v, born := b }] c)) : (Instr.lookup 60 (.map (some mb)) (.string logB) false).run Try.prog w = .ok v w := by
  unfold Instr.lookup
  simp [run_underlying Try.underlying60, MapKept.run_getObj_map h, check_log, find_log, Result.andThen]
/-- the world with another object in block mb. -/
def setObjAt (w : World) (mb : Nat) (o : Obj) : World := { w with heap := w.heap.setIfInBounds mb o }
theorem put_none (w : World) (mb c : Nat) (v : Value) (h : w.heap[mb]? = some (.map #[] c)) : (Instr.mapUpdate 60 (.map (some mb)) (.string logB) v).run Try.prog w = .ok () (setObjAt w mb (.map #[{ key := .string logB, val := v, born := c }] (c + 1))) := by
  unfold Instr.mapUpdate
  simp [run_underlying Try.underlying60, MapKept.run_getObj_map h, check_log, find_none, Result.andThen, MapKept.run_setObj_map _ h]
  rfl
theorem put_log (w : World) (mb c b : Nat) (v u : Value) (h : w.heap[mb]? = some (.map #[{ key := .string logB, val := u, born := b }] c)) : (Instr.mapUpdate 60 (.map (some mb)) (.string logB) v).run Try.prog w = .ok () (setObjAt w mb (.map #[{ key := .string logB, val := v, born := b }] c)) := by
  unfold Instr.mapUpdate
  simp [run_underlying Try.underlying60, MapKept.run_getObj_map h, check_log, find_log, Result.andThen, stays_log, MapKept.run_setObj_map _ h]
  rfl
end Go.Proofs.Ytdglaacjefcfdaa

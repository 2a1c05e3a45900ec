/- an act that came in by value -/
import Derived.Test.YtdglaacjefcfdaaLNone2
import Derived.Test.YtdglaacjefcfdaaIns
namespace Go.Proofs.Ytdglaacjefcfdaa
open Go.RowKit
theorem Try.cellsAct : Try.prog.cellsOf 42 = 5 := by kernel_rfl
theorem Try.cellsInt : Try.prog.cellsOf 3 = 1 := by kernel_rfl
theorem Try.cellsStr : Try.prog.cellsOf 9 = 1 := by kernel_rfl
theorem Try.cellsByt : Try.prog.cellsOf 24 = 1 := by kernel_rfl
/-- an act as a value. -/
structure ActV where
  k : Int
  s : Int
  p : Int
  nm : ByteArray
  ao : Option Addr
  n : Nat
  cap : Nat
def ActV.val (a : ActV) : Value := .agg #[.int .i64 a.k, .int .i64 a.s, .int .i64 a.p, .string a.nm, .slice a.ao a.n a.cap]
section
variable {H : Type} {enc : TypeId × Value → H} {w : World} {base b2 : Nat} {held : Bool}
set_option maxRecDepth 100000 in
theorem act_of_val {r : Reach} {v : Value} {fuel : Nat} {x : DataW H × List MemPlace}
    (hv : Value.okWide Try.prog w r b2 42 v) (h : DataW.trod enc Try.prog w base (fun _ => true) held fuel 42 v.cells.toList = some x) : ∃ a : ActV, v = a.val ∧ a.n ≤ 9223372036854775807 := by
  obtain ⟨cs, rfl, _⟩ := Go.WideShapes.okWide_struct Try.underlying42 hv
  obtain ⟨xs, n, _, _, hl, hxs, hf⟩ := DataW.trod_struct Try.underlying42 h
  rw [Try.cellsAct] at hl
  have hx5 : xs.length = 5 := hxs
  obtain ⟨v0, v1, v2, v3, v4, hcs⟩ : ∃ v0 v1 v2 v3 v4, cs = #[v0, v1, v2, v3, v4] := by
    obtain ⟨l⟩ := cs
    have hl : l.length = 5 := hl
    match l, hl with
    | [a, b, c, d, e], _ => exact ⟨a, b, c, d, e, rfl⟩
  subst hcs
  have f0 : DataW.trod enc Try.prog w base (fun _ => true) held n 3 (([v0, v1, v2, v3, v4].drop 0).take (Try.prog.cellsOf 3)) = xs[0]? := hf 0 _ rfl
  have f1 : DataW.trod enc Try.prog w base (fun _ => true) held n 3 (([v0, v1, v2, v3, v4].drop 1).take (Try.prog.cellsOf 3)) = xs[1]? := hf 1 _ rfl
  have f2 : DataW.trod enc Try.prog w base (fun _ => true) held n 3 (([v0, v1, v2, v3, v4].drop 2).take (Try.prog.cellsOf 3)) = xs[2]? := hf 2 _ rfl
  have f3 : DataW.trod enc Try.prog w base (fun _ => true) held n 9 (([v0, v1, v2, v3, v4].drop 3).take (Try.prog.cellsOf 9)) = xs[3]? := hf 3 _ rfl
  have f4 : DataW.trod enc Try.prog w base (fun _ => true) held n 24 (([v0, v1, v2, v3, v4].drop 4).take (Try.prog.cellsOf 24)) = xs[4]? := hf 4 _ rfl
  rw [List.getElem?_eq_getElem (by omega), Try.cellsInt] at f0
  rw [List.getElem?_eq_getElem (by omega), Try.cellsInt] at f1
  rw [List.getElem?_eq_getElem (by omega), Try.cellsInt] at f2
  rw [List.getElem?_eq_getElem (by omega), Try.cellsStr] at f3
  rw [List.getElem?_eq_getElem (by omega), Try.cellsByt] at f4
  obtain ⟨z0, e0, _, q0⟩ := DataW.trod_int Try.underlying3 f0
  obtain ⟨z1, e1, _, q1⟩ := DataW.trod_int Try.underlying3 f1
  obtain ⟨z2, e2, _, q2⟩ := DataW.trod_int Try.underlying3 f2
  obtain ⟨z3, e3, _, q3⟩ := DataW.trod_string Try.underlying9 f3
  have g0 : [v0] = [Value.int .i64 z0] := e0
  have g1 : [v1] = [Value.int .i64 z1] := e1
  have g2 : [v2] = [Value.int .i64 z2] := e2
  have g3 : [v3] = [Value.string z3] := e3
  have f5 : DataW.trod enc Try.prog w base (fun _ => true) held n 24 [v4] = some xs[4] := f4
  have g4 : ∃ ao len cap, v4 = .slice ao len cap := by
    rcases Go.ChangeShapes.open_ints Try.underlying24 Try.underlying5 (by kernel_rfl) f5 with ⟨hcs, _⟩ | ⟨a, l, c, zs, hcs, _⟩
    · cases hcs; exact ⟨_, _, _, rfl⟩
    · cases hcs; exact ⟨_, _, _, rfl⟩
  obtain ⟨ao, len, cap, rfl⟩ := g4
  obtain ⟨L, hL⟩ := bytes_in f5
  cases g0
  cases g1
  cases g2
  cases g3
  have h2 := hL.2.1
  have h3 := hL.2.2.1
  unfold maxLen at h3
  exact ⟨⟨z0, z1, z2, z3, ao, len, cap⟩, rfl, by show len ≤ _; omega⟩
end
end Go.Proofs.Ytdglaacjefcfdaa

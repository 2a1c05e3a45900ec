/- regions, points that came in -/
import Derived.Test.YtlmmejdcjhbppaaMQBox
import Derived.WideShapes
namespace Go.Proofs.Ytlmmejdcjhbppaa
open Go.RowKit Go.Geo
/-- a region: its one cell, a slice. -/
structure Rg where
  a : Option Addr
  n : Nat
  c : Nat
def Rg.val (g : Rg) : Value := .agg #[.slice g.a g.n g.c]
section
variable {H : Type} {enc : TypeId × Value → H} {w : World} {base : Nat} {held : Bool}
set_option maxRecDepth 100000 in
theorem point_of_val {r : Reach} {b2 fuel : Nat} {v : Value} {x : DataW H × List MemPlace} (hv : Value.okWide Try.prog w r b2 31 v) (h : DataW.trod enc Try.prog w base (fun _ => true) held fuel 31 v.cells.toList = some x) : ∃ p : Pt, v = ptV p ∧ True := by
  obtain ⟨cs, rfl, _⟩ := Go.WideShapes.okWide_struct Try.underlying31 hv
  obtain ⟨p, hp⟩ := point_cells h
  refine ⟨p, ?_, trivial⟩
  have : cs.toList = [.int .i64 p.x, .int .i64 p.y] := hp
  unfold ptV
  rw [show cs = #[.int .i64 p.x, .int .i64 p.y] from Array.toList_inj.1 this]
end
end Go.Proofs.Ytlmmejdcjhbppaa

/- a certificate that came in by value -/
import Derived.Test.YtlmimocmllhbkaaCMore
import Derived.WideShapes
namespace Go.Proofs.Ytlmimocmllhbkaa
open Go.RowKit
theorem cert_of_val {H : Type} {enc : TypeId × Value → H} {w : World} {base b2 : Nat} {spare : Nat → Bool} {held : Bool} {r : Reach} {v : Value} {fuel : Nat} {x : DataW H × List MemPlace}
    (hv : Value.okWide Try.prog w r b2 30 v) (h : DataW.trod enc Try.prog w base spare held fuel 30 v.cells.toList = some x) : ∃ c : Crt, v = c.val := by
  obtain ⟨cs, rfl, _⟩ := Go.WideShapes.okWide_struct Try.underlying30 hv
  obtain ⟨c, hc, _⟩ := cert_cells h
  refine ⟨c, ?_⟩
  show Value.agg cs = Value.agg c.row
  have : cs.toList = c.row.toList := hc
  rw [Array.toList_inj.1 this]
end Go.Proofs.Ytlmimocmllhbkaa

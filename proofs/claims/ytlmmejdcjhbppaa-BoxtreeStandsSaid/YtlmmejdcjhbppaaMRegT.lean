/- a region in whatever order: as StdJ, and draws are not undone -/
import Derived.Test.YtlmmejdcjhbppaaMRegC
import Derived.Test.YtlmmejdcjhbppaaMQLay
set_option linter.unusedSimpArgs false
set_option linter.unusedVariables false
namespace Go.Proofs.Ytlmmejdcjhbppaa
open Go Go.RowKit
structure StdT (W : World) (val : Nat → Option Value) (als : List Alo) (L : Nat → Bool) (V : Nat → Value) (w : World) : Prop where
  std : StdJ W val als L V w
  dr : W.drawn ≤ w.drawn
theorem StdT.grew {W w : World} {val : Nat → Option Value} {als : List Alo} {L : Nat → Bool} {V : Nat → Value} (h : StdT W val als L V w) : Grew W w := ⟨h.std.below, h.dr⟩
theorem StdT.vals {W w : World} {val : Nat → Option Value} {als : List Alo} {L : Nat → Bool} {V : Nat → Value} (h : StdT W val als L V w) : ∀ i v, val i = some v → L i = true → V i = v := h.std.vals
theorem StdT.start {W w : World} {val : Nat → Option Value} {als : List Alo} {V : Nat → Value} (h : Grew W w) : StdT W val als (fun _ => false) V w := ⟨StdJ.start h.1, h.2⟩
theorem StdT.val {W w w' : World} {val : Nat → Option Value} {als : List Alo} {L : Nat → Bool} {V : Nat → Value} (h : StdT W val als L V w) (hb : Grew w w') (i : Nat) (v : Value) (hf : aloFree als i = true) (hv : (match val i with | some u => u = v | none => True)) :
    StdT W val als (upd L i true) (upd V i v) w' := ⟨h.std.val hb.1 i v hf hv, Nat.le_trans h.dr hb.2⟩
theorem StdT.alloc {W w : World} {val : Nat → Option Value} {als : List Alo} {L : Nat → Bool} {V : Nat → Value} (h : StdT W val als L V w) (hok : aloOk als = true) (A : Alo) (hA : A ∈ als) (hl : L A.i = false) (hv : val A.i = none) :
    StdT W val als (upd L A.i true) (upd V A.i (.pointer (some ⟨w.heap.size, 0, none⟩))) (w.alloc (.cells A.zero A.t)) := ⟨h.std.alloc hok A hA hl hv, h.dr⟩
theorem StdT.ptr {W w : World} {val : Nat → Option Value} {als : List Alo} {L : Nat → Bool} {V : Nat → Value} (h : StdT W val als L V w) (A : Alo) (hA : A ∈ als) (hl : L A.i = true) (hs : L A.st = false) :
    ∃ g, V A.i = .pointer (some ⟨g, 0, none⟩) ∧ w.heap[g]? = some (.cells A.zero A.t (0, 0)) := h.std.ptr A hA hl hs
theorem StdT.got {W w : World} {val : Nat → Option Value} {als : List Alo} {L : Nat → Bool} {V : Nat → Value} (h : StdT W val als L V w) (A : Alo) (hA : A ∈ als) (hl : L A.i = true) (hs : L A.st = true) :
    ∃ g, V A.i = .pointer (some ⟨g, 0, none⟩) ∧ W.heap.size ≤ g ∧ w.heap[g]? = some (.cells A.full A.t (0, 0)) := h.std.got A hA hl hs
theorem StdT.fill {W w : World} {val : Nat → Option Value} {als : List Alo} {L : Nat → Bool} {V : Nat → Value} (h : StdT W val als L V w) (hok : aloOk als = true) (A : Alo) (hA : A ∈ als) (hl : L A.i = true) (hs : L A.st = false) (hv : val A.st = none) (g : Nat) (hg : V A.i = .pointer (some ⟨g, 0, none⟩)) (v : Value) :
    StdT W val als (upd L A.st true) (upd V A.st v) (w.setRow g A.full) := ⟨h.std.fill hok A hA hl hs hv g hg v, h.dr⟩
end Go.Proofs.Ytlmmejdcjhbppaa

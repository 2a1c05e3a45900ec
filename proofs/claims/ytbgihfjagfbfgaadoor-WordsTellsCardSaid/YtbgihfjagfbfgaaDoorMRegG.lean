/- a region in whatever order that only makes memory: values, and facts that growth keeps -/
import Derived.Test.YtbgihfjagfbfgaaDoorMRegS
set_option linter.unusedSimpArgs false
set_option linter.unusedVariables false
namespace Go.Proofs.YtbgihfjagfbfgaaDoor
open Go Go.RowKit
structure Fct where
  i : Nat
  P : Value → World → Prop
structure GrowJ (W : World) (val : Nat → Option Value) (fs : List Fct) (L : Nat → Bool) (V : Nat → Value) (w : World) : Prop where
  below : Below W.heap.size W w
  vals : ∀ i v, val i = some v → L i = true → V i = v
  facts : ∀ f ∈ fs, L f.i = true → f.P (V f.i) w
def FctOk (f : Fct) : Prop := ∀ v w w', f.P v w → Below w.heap.size w w' → f.P v w'
theorem GrowJ.start {W w : World} {val : Nat → Option Value} {fs : List Fct} {V : Nat → Value} (h : Below W.heap.size W w) : GrowJ W val fs (fun _ => false) V w :=
  ⟨h, fun _ _ _ h => (by cases h), fun _ _ h => (by cases h)⟩
theorem GrowJ.step {W w w' : World} {val : Nat → Option Value} {fs : List Fct} {L : Nat → Bool} {V : Nat → Value} (h : GrowJ W val fs L V w) (hok : ∀ f ∈ fs, FctOk f) (i : Nat) (v : Value) (hv : (match val i with | some u => u = v | none => True)) (hb : Below w.heap.size w w') (hnew : ∀ f ∈ fs, f.i = i → f.P v w') : GrowJ W val fs (upd L i true) (upd V i v) w' := by
  refine ⟨h.below.trans (hb.mono h.below.size), fun j u hj hl => ?_, fun f hf hl => ?_⟩
  · by_cases hji : j = i
    · subst hji
      rw [upd_at]
      rw [hj] at hv
      exact hv.symm
    · rw [upd_ne _ _ _ _ hji] at hl ⊢
      exact h.vals j u hj hl
  · by_cases hfi : f.i = i
    · rw [hfi, upd_at]
      exact hnew f hf hfi
    · rw [upd_ne _ _ _ _ hfi] at hl ⊢
      exact hok f hf _ _ _ (h.facts f hf hl) hb
theorem GrowJ.val {W w w' : World} {val : Nat → Option Value} {fs : List Fct} {L : Nat → Bool} {V : Nat → Value} (h : GrowJ W val fs L V w) (hok : ∀ f ∈ fs, FctOk f) (i : Nat) (v : Value) (hn : fs.all (fun f => f.i != i) = true) (hv : (match val i with | some u => u = v | none => True)) (hb : Below w.heap.size w w') : GrowJ W val fs (upd L i true) (upd V i v) w' :=
  h.step hok i v hv hb (fun f hf hfi => by
    have := List.all_eq_true.1 hn f hf
    simp [hfi] at this)
end Go.Proofs.YtbgihfjagfbfgaaDoor

/- a region in whatever order whose effects are one chain, beside operations that float (fl): the predicate of a stage knows what the floating ones have got -/
import Derived.Test.YtjiiikeniocmfaaGreatMRegS
set_option linter.unusedSimpArgs false
set_option linter.unusedVariables false
namespace Go.Proofs.YtjiiikeniocmfaaGreat
open Go Go.RowKit
/-- what the floating ones have got so far. -/
def flo (fl : List Nat) (L : Nat → Bool) (V : Nat → Value) : Nat → Option Value := fun x => if (fl.contains x && L x) = true then some (V x) else none
theorem flo_at {fl : List Nat} {L : Nat → Bool} {V : Nat → Value} {i : Nat} (h : fl.contains i = true) (hl : L i = true) : flo fl L V i = some (V i) := by unfold flo; rw [h, hl]; rfl
theorem flo_not {fl : List Nat} {L : Nat → Bool} {V : Nat → Value} {i : Nat} (hl : L i = false) : flo fl L V i = none := by unfold flo; rw [hl, Bool.and_false]; rfl
theorem flo_none (fl : List Nat) (V : Nat → Value) : flo fl (fun _ => false) V = fun _ => none := by funext x; exact flo_not rfl
theorem flo_same {fl : List Nat} {L : Nat → Bool} {V : Nat → Value} {i : Nat} {v : Value} (h : fl.contains i = false) : flo fl (upd L i true) (upd V i v) = flo fl L V := by
  funext x
  unfold flo
  by_cases e : x = i
  · subst e; rw [h]; rfl
  · rw [upd_ne _ _ _ _ e, upd_ne _ _ _ _ e]
theorem flo_more {fl : List Nat} {L : Nat → Bool} {V : Nat → Value} {i : Nat} {v : Value} (h : fl.contains i = true) : flo fl (upd L i true) (upd V i v) = upd (flo fl L V) i (some v) := by
  funext x
  by_cases e : x = i
  · subst e; rw [upd_at, flo_at h (upd_at _ _ _), upd_at]
  · rw [upd_ne _ _ _ _ e]; unfold flo; rw [upd_ne _ _ _ _ e, upd_ne _ _ _ _ e]
structure FloatJ (val : Nat → Option Value) (chain : List Nat) (fl : List Nat) (S : List Value → (Nat → Option Value) → World → Prop) (L : Nat → Bool) (V : Nat → Value) (w : World) : Prop where
  vals : ∀ i v, val i = some v → L i = true → V i = v
  here : ∃ vs : List Value, vs.length ≤ chain.length ∧ (∀ j, j < chain.length → L (chain.getD j 0) = decide (j < vs.length)) ∧ (∀ j, j < vs.length → V (chain.getD j 0) = vs.getD j undef) ∧ S vs (flo fl L V) w
theorem FloatJ.start {val : Nat → Option Value} {chain : List Nat} {fl : List Nat} {S : List Value → (Nat → Option Value) → World → Prop} {V : Nat → Value} {w : World} (h : S [] (fun _ => none) w) : FloatJ val chain fl S (fun _ => false) V w :=
  ⟨fun _ _ _ h => (by cases h), [], Nat.zero_le _, fun j _ => by simp, fun j h => absurd h (by simp), by rw [flo_none]; exact h⟩
theorem FloatJ.val {val : Nat → Option Value} {chain : List Nat} {fl : List Nat} {S : List Value → (Nat → Option Value) → World → Prop} {L : Nat → Bool} {V : Nat → Value} {w w' : World} (h : FloatJ val chain fl S L V w) (i : Nat) (v : Value) (hc : chain.contains i = false) (hv : (match val i with | some u => u = v | none => True)) (hfl : fl.contains i = false) (hS : ∀ vs F, S vs F w → S vs F w') : FloatJ val chain fl S (upd L i true) (upd V i v) w' := by
  obtain ⟨h1, vs, h2, h3, h4, h5⟩ := h
  have hne : ∀ j, j < chain.length → chain.getD j 0 ≠ i := fun j hj e => by
    have : chain.contains i = true := List.contains_iff_mem.2 (by
      rw [← e, List.getD_eq_getElem?_getD, List.getElem?_eq_getElem hj, Option.getD_some]
      exact List.getElem_mem _)
    rw [hc] at this
    cases this
  refine ⟨fun j u hj hl => ?_, vs, h2, fun j hj => by rw [upd_ne _ _ _ _ (hne j hj)]; exact h3 j hj, fun j hj => by rw [upd_ne _ _ _ _ (hne j (by omega))]; exact h4 j hj, by rw [flo_same hfl]; exact hS vs _ h5⟩
  by_cases hji : j = i
  · subst hji
    rw [upd_at]
    rw [hj] at hv
    exact hv.symm
  · rw [upd_ne _ _ _ _ hji] at hl ⊢
    exact h1 j u hj hl
theorem FloatJ.float {val : Nat → Option Value} {chain : List Nat} {fl : List Nat} {S : List Value → (Nat → Option Value) → World → Prop} {L : Nat → Bool} {V : Nat → Value} {w w' : World} (h : FloatJ val chain fl S L V w) (i : Nat) (v : Value) (hc : chain.contains i = false) (hv : (match val i with | some u => u = v | none => True)) (hfl : fl.contains i = true) (hl0 : L i = false) (hS : ∀ vs F, F i = none → S vs F w → S vs (upd F i (some v)) w') : FloatJ val chain fl S (upd L i true) (upd V i v) w' := by
  obtain ⟨h1, vs, h2, h3, h4, h5⟩ := h
  have hne : ∀ j, j < chain.length → chain.getD j 0 ≠ i := fun j hj e => by
    have : chain.contains i = true := List.contains_iff_mem.2 (by
      rw [← e, List.getD_eq_getElem?_getD, List.getElem?_eq_getElem hj, Option.getD_some]
      exact List.getElem_mem _)
    rw [hc] at this
    cases this
  refine ⟨fun j u hj hl => ?_, vs, h2, fun j hj => by rw [upd_ne _ _ _ _ (hne j hj)]; exact h3 j hj, fun j hj => by rw [upd_ne _ _ _ _ (hne j (by omega))]; exact h4 j hj, by rw [flo_more hfl]; exact hS vs _ (flo_not hl0) h5⟩
  by_cases hji : j = i
  · subst hji
    rw [upd_at]
    rw [hj] at hv
    exact hv.symm
  · rw [upd_ne _ _ _ _ hji] at hl ⊢
    exact h1 j u hj hl
/-- how far the chain is, at most. -/
theorem FloatJ.upto {val : Nat → Option Value} {chain : List Nat} {fl : List Nat} {S : List Value → (Nat → Option Value) → World → Prop} {L : Nat → Bool} {V : Nat → Value} {w : World} (h : FloatJ val chain fl S L V w) (j : Nat) (hj : j < chain.length) (hl : L (chain.getD j 0) = false) : ∃ vs : List Value, vs.length ≤ j ∧ S vs (flo fl L V) w := by
  obtain ⟨h1, vs, h2, h3, h4, h5⟩ := h
  refine ⟨vs, ?_, h5⟩
  have := h3 j hj
  rw [hl] at this
  have := of_decide_eq_false this.symm
  omega
theorem FloatJ.next {val : Nat → Option Value} {chain : List Nat} {fl : List Nat} {S : List Value → (Nat → Option Value) → World → Prop} {L : Nat → Bool} {V : Nat → Value} {w : World} (h : FloatJ val chain fl S L V w) (hn : decide chain.Nodup = true) (j : Nat) (hj : decide (j < chain.length) = true) (hl : L (chain.getD j 0) = false) (hp : j = 0 ∨ L (chain.getD (j - 1) 0) = true) (hv : val (chain.getD j 0) = none) (hfl : fl.contains (chain.getD j 0) = false) :
    ∃ vs : List Value, vs.length = j ∧ (∀ t, t < j → V (chain.getD t 0) = vs.getD t undef) ∧ S vs (flo fl L V) w ∧ ∀ v w', S (vs ++ [v]) (flo fl L V) w' → FloatJ val chain fl S (upd L (chain.getD j 0) true) (upd V (chain.getD j 0) v) w' := by
  obtain ⟨h1, vs, h2, h3, h4, h5⟩ := h
  have hj := of_decide_eq_true hj
  have hn := of_decide_eq_true hn
  have e1 := h3 j hj
  rw [hl] at e1
  have e1 := of_decide_eq_false e1.symm
  have hlen : vs.length = j := by
    rcases hp with rfl | hp
    · omega
    · by_cases hz : j = 0
      · omega
      · have e2 := h3 (j - 1) (by omega)
        rw [hp] at e2
        have e2 := of_decide_eq_true e2.symm
        omega
  have hne : ∀ t, t < chain.length → t ≠ j → chain.getD t 0 ≠ chain.getD j 0 := fun t ht hne e => by
    rw [List.getD_eq_getElem?_getD, List.getElem?_eq_getElem ht, List.getD_eq_getElem?_getD, List.getElem?_eq_getElem hj, Option.getD_some, Option.getD_some] at e
    exact hne ((List.getElem_inj hn).1 e)
  refine ⟨vs, hlen, fun t ht => h4 t (by omega), h5, fun v w' hS => ⟨fun k u hk hlk => ?_, vs ++ [v], by simp; omega, fun t ht => ?_, fun t ht => ?_, by rw [flo_same hfl]; exact hS⟩⟩
  · have hki : k ≠ chain.getD j 0 := fun e => by subst e; rw [hv] at hk; cases hk
    rw [upd_ne _ _ _ _ hki] at hlk ⊢
    exact h1 k u hk hlk
  · by_cases htj : t = j
    · subst htj
      rw [upd_at]
      simp [hlen]
    · rw [upd_ne _ _ _ _ (hne t ht htj), h3 t ht]
      rw [Bool.eq_iff_iff]
      simp
      omega
  · have ht' : t < j + 1 := by simpa [hlen] using ht
    by_cases htj : t = j
    · subst htj
      rw [upd_at]
      simp [List.getD_eq_getElem?_getD, ← hlen]
    · rw [upd_ne _ _ _ _ (hne t (by omega) htj), h4 t (by omega)]
      simp [List.getD_eq_getElem?_getD, List.getElem?_append_left (show t < vs.length by omega)]
theorem FloatJ.all {val : Nat → Option Value} {chain : List Nat} {fl : List Nat} {S : List Value → (Nat → Option Value) → World → Prop} {n : Nat} {V : Nat → Value} {w : World} (h : FloatJ val chain fl S (fun i => decide (i < n)) V w) (hn : chain.all (fun i => decide (i < n)) = true) : ∃ vs : List Value, vs.length = chain.length ∧ (∀ t, t < chain.length → V (chain.getD t 0) = vs.getD t undef) ∧ S vs (flo fl (fun i => decide (i < n)) V) w := by
  obtain ⟨h1, vs, h2, h3, h4, h5⟩ := h
  have hlen : vs.length = chain.length := by
    by_cases hz : chain.length = 0
    · omega
    · have e := h3 (chain.length - 1) (by omega)
      have hm : chain.getD (chain.length - 1) 0 ∈ chain := by
        rw [List.getD_eq_getElem?_getD, List.getElem?_eq_getElem (by omega), Option.getD_some]
        exact List.getElem_mem _
      have := List.all_eq_true.1 hn _ hm
      rw [this] at e
      have := of_decide_eq_true e.symm
      omega
  exact ⟨vs, hlen, fun t ht => h4 t (by omega), h5⟩
end Go.Proofs.YtjiiikeniocmfaaGreat

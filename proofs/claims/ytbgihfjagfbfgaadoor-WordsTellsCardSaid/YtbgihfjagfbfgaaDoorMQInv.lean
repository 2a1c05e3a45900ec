/- a region in whatever order: one invariant over the listed operations, one proof for each operation -/
import Derived.Orders
set_option linter.unusedSimpArgs false
set_option linter.unusedVariables false
namespace Go.Proofs.YtbgihfjagfbfgaaDoor
open Go
theorem count_lt {α : Type} {p q : α → Bool} : ∀ {l : List α}, (∀ x ∈ l, q x = true → p x = true) → (∃ x ∈ l, p x = true ∧ q x = false) → l.countP q < l.countP p
  | [], _, h => by obtain ⟨x, hx, _⟩ := h; cases hx
  | y :: l, hs, h => by
    have hle : l.countP q ≤ l.countP p := List.countP_mono_left fun x hx => hs x (List.mem_cons_of_mem _ hx)
    rw [List.countP_cons, List.countP_cons]
    obtain ⟨x, hx, h1, h2⟩ := h
    rcases List.mem_cons.1 hx with rfl | hx
    · rw [h1, h2]; simp; omega
    · have := count_lt (l := l) (fun x hx => hs x (List.mem_cons_of_mem _ hx)) ⟨x, hx, h1, h2⟩
      have hy := hs y (List.mem_cons_self ..)
      cases h3 : q y with
      | false => simp; omega
      | true => rw [hy h3]; simp; omega
variable {P : Program} {ops : Array Oper} {Q : Exit → Act → World → Prop} {md : Region.Mode}
/-- how many are not listed yet. -/
def unlisted (ops : Array Oper) (listed : Array Bool) : Nat := (List.range ops.size).countP fun i => !listed.getD i true
theorem ready_nil {listed : Array Bool} (h : unlisted ops listed = 0) : Region.ready md ops listed = [] := by
  unfold unlisted at h
  rw [List.countP_eq_zero] at h
  unfold Region.ready
  rw [List.filter_eq_nil_iff]
  intro i hi
  have := h i hi
  simp at this
  simp [this]
theorem unlisted_lt {listed : Array Bool} {i : Nat} (hl : listed.size = ops.size) (h : i ∈ Region.ready md ops listed) : unlisted ops (listed.setIfInBounds i true) < unlisted ops listed := by
  obtain ⟨h1, o, ho, _⟩ := mem_ready.1 h
  have hlt : i < ops.size := (Array.getElem?_eq_some_iff.1 ho).1
  refine count_lt (fun x hx hq => ?_) ⟨i, List.mem_range.2 hlt, by rw [h1]; rfl, ?_⟩
  · by_cases hxi : i = x
    · subst hxi
      simp [Array.getD, hl, hlt] at hq
    · rw [getD_set_ne true hxi] at hq
      exact hq
  · simp [Array.getD, hl, hlt]
theorem wpAny_inv (I : Array Bool → Act → World → Prop)
    (step : ∀ (listed : Array Bool) (a : Act) (w : World) (i : Nat) (o : Oper), ops[i]? = some o → listed.getD i true = false → (∀ e ∈ o.after, Region.binds md e = true → listed.getD e.on false = true) → I listed a w →
      wpOp P ops Q i (fun a' w' => I (listed.setIfInBounds i true) a' w') a w)
    (done : ∀ (listed : Array Bool) (a : Act) (w : World), listed.size = ops.size → Region.ready md ops listed = [] → I listed a w → Q .normal a w) :
    ∀ (fuel : Nat) (listed : Array Bool) (a : Act) (w : World), listed.size = ops.size → unlisted ops listed ≤ fuel → I listed a w → wpAny P md ops Q fuel listed a w
  | 0, listed, a, w, hl, hu, hI => ⟨ready_nil (by omega), done listed a w hl (ready_nil (by omega)) hI⟩
  | fuel + 1, listed, a, w, hl, hu, hI => by
    refine ⟨fun h => done listed a w hl h hI, fun i hi => ?_⟩
    obtain ⟨h1, o, ho, h2⟩ := mem_ready.1 hi
    have hlt := unlisted_lt hl hi
    exact wpOp_mono (fun a' w' h => wpAny_inv I step done fuel _ a' w' (by simp [hl]) (by omega) h) (step listed a w i o ho h1 h2 hI)
theorem unlisted_start : unlisted ops (Array.replicate ops.size false) ≤ ops.size := by
  unfold unlisted
  exact Nat.le_trans List.countP_le_length (by simp)
/-- the region, begun. -/
theorem wp_region_inv {id : Nat} {a : Act} {w : World} (hm : P.follows .mixedOrders = true) (I : Array Bool → Act → World → Prop)
    (start : I (Array.replicate ops.size false) a { w with drawn := w.drawn + 1 })
    (step : ∀ (listed : Array Bool) (a : Act) (w : World) (i : Nat) (o : Oper), ops[i]? = some o → listed.getD i true = false → (∀ e ∈ o.after, Region.binds .any e = true → listed.getD e.on false = true) → I listed a w →
      wpOp P ops Q i (fun a' w' => I (listed.setIfInBounds i true) a' w') a w)
    (done : ∀ (listed : Array Bool) (a : Act) (w : World), listed.size = ops.size → Region.ready .any ops listed = [] → I listed a w → Q .normal a w) :
    (Code.region id ops true).wp P Q a w :=
  wp_region_any hm (wpAny_inv I step done _ _ a _ (by simp) unlisted_start start)
end Go.Proofs.YtbgihfjagfbfgaaDoor

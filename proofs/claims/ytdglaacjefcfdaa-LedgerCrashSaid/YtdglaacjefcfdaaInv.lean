/- a region that draws its order, by an invariant: one obligation an operation, whatever the order -/
import Derived.OrdersIn
import Derived.Orders
import Derived.CallsIn
import Derived.OwnWalkIn
import Derived.WalkKit
import Derived.Test.YtdglaacjefcfdaaRows
namespace Go.Proofs.Ytdglaacjefcfdaa
open Go.RowKit
def upd (L : Nat → Bool) (i : Nat) : Nat → Bool := fun j => if j = i then true else L j
theorem upd_same (L : Nat → Bool) (i : Nat) : upd L i i = true := by simp [upd]
theorem upd_other (L : Nat → Bool) (i j : Nat) (h : j ≠ i) : upd L i j = L j := by simp [upd, h]
/-- may operation i come up, those of L being done? -/
def mayCome (ops : Array Oper) (L : Nat → Bool) (i : Nat) : Bool := ((ops[i]?).map (·.after.all fun e => !Region.binds .any e || L e.on)).getD false
def backward (ops : Array Oper) : Bool := (List.range ops.size).all fun i => ((ops[i]?).map (·.after.all fun e => !Region.binds .any e || decide (e.on < i))).getD true
def lst (listed : Array Bool) : Nat → Bool := fun j => listed.getD j false
theorem lst_set (listed : Array Bool) (i : Nat) (h : i < listed.size) : lst (listed.setIfInBounds i true) = upd (lst listed) i := by
  funext j
  unfold lst upd
  by_cases hj : j = i
  · subst hj; simp [h]
  · have hj' : ¬ i = j := fun e => hj e.symm
    simp [hj, hj', Array.getD_eq_getD_getElem?]
theorem ready_iff {ops : Array Oper} {listed : Array Bool} (hs : listed.size = ops.size) (i : Nat) :
    i ∈ Region.ready .any ops listed ↔ i < ops.size ∧ lst listed i = false ∧ mayCome ops (lst listed) i = true := by
  unfold Region.ready
  rw [List.mem_filter, List.mem_range]
  constructor
  · rintro ⟨h1, h2⟩
    simp only [Bool.and_eq_true] at h2
    refine ⟨h1, ?_, h2.2⟩
    have h3 := h2.1
    have hl : i < listed.size := by omega
    simp only [lst, Array.getD_eq_getD_getElem?, Array.getElem?_eq_getElem hl, Option.getD_some] at h3 ⊢
    simpa using h3
  · rintro ⟨h1, h2, h3⟩
    refine ⟨h1, ?_⟩
    simp only [Bool.and_eq_true]
    refine ⟨?_, h3⟩
    have hl : i < listed.size := by omega
    simp only [lst, Array.getD_eq_getD_getElem?, Array.getElem?_eq_getElem hl, Option.getD_some] at h2 ⊢
    simp [h2]
theorem ready_nil {ops : Array Oper} {listed : Array Bool} (hb : backward ops = true) (hs : listed.size = ops.size) (h : Region.ready .any ops listed = []) : ∀ j, j < ops.size → lst listed j = true := by
  intro j
  induction j using Nat.strongRecOn with
  | _ j ih =>
    intro hj
    cases hl : lst listed j with
    | true => rfl
    | false =>
      exfalso
      have : j ∈ Region.ready .any ops listed := by
        rw [ready_iff hs]
        refine ⟨hj, hl, ?_⟩
        have hbj := List.all_eq_true.1 hb j (List.mem_range.2 hj)
        unfold mayCome
        rw [Array.getElem?_eq_getElem hj] at hbj ⊢
        simp only [Option.map_some, Option.getD_some, Array.all_eq_true, Bool.or_eq_true, decide_eq_true_eq] at hbj ⊢
        intro k hk
        rcases hbj k hk with h1 | h1
        · exact .inl h1
        · exact .inr (ih _ h1 (by omega))
      rw [h] at this
      simp at this
section
variable {F : Fence} {n : Nat} {P : Program} {ops : Array Oper} {Q : Exit → Act → World → Prop} {I : (Nat → Bool) → Act → World → Prop}
theorem count_upd (listed : Array Bool) (i : Nat) (h : i < listed.size) (hi : lst listed i = false) : (listed.setIfInBounds i true).count false + 1 = listed.count false := by
  have hg : listed[i] = false := by simpa [lst, Array.getD_eq_getD_getElem?, h] using hi
  have e : (listed.setIfInBounds i true) = listed.set i true h := by simp [Array.setIfInBounds, h]
  have hpos : 0 < listed.count false := by
    rw [Array.count_pos_iff]
    rw [← hg]; exact Array.getElem_mem h
  rw [e, Array.count_set]
  simp [hg]; omega
theorem wpAnyIn_inv (hb : backward ops = true)
    (hstep : ∀ i, i < ops.size → ∀ L a w, L i = false → mayCome ops L i = true → I L a w → wpOpIn F n P ops Q i (I (upd L i)) a w)
    (hend : ∀ L a w, (∀ j, j < ops.size → L j = true) → I L a w → Q .normal a w) :
    ∀ (fuel : Nat) (listed : Array Bool) (a : Act) (w : World), listed.size = ops.size → listed.count false ≤ fuel → I (lst listed) a w → wpAnyIn F n P .any ops Q fuel listed a w := by
  intro fuel
  induction fuel with
  | zero =>
    intro listed a w hs hc hI
    have hall : ∀ j, j < ops.size → lst listed j = true := by
      intro j hj
      cases hl : lst listed j with
      | true => rfl
      | false => exfalso; have := count_upd listed j (by omega) hl; omega
    refine ⟨?_, hend _ _ _ hall hI⟩
    apply List.eq_nil_iff_forall_not_mem.2
    intro i hi
    rw [ready_iff hs] at hi
    rw [hall i hi.1] at hi
    exact absurd hi.2.1 (by simp)
  | succ fuel ih =>
    intro listed a w hs hc hI
    refine ⟨fun h => hend _ _ _ (ready_nil hb hs h) hI, fun i hi => ?_⟩
    rw [ready_iff hs] at hi
    refine wpOpIn_mono (fun a' w' hI' => ?_) (hstep i hi.1 _ a w hi.2.1 hi.2.2 hI)
    have := count_upd listed i (by omega) hi.2.1
    exact ih _ a' w' (by simpa using hs) (by omega) (by rw [lst_set _ _ (by omega)]; exact hI')
/-- a region that draws, inside a fence. -/
theorem wpIn_region_inv {id : Nat} {a : Act} {w : World} (hm : P.follows .mixedOrders = true) (hb : backward ops = true)
    (hstep : ∀ i, i < ops.size → ∀ L a w, L i = false → mayCome ops L i = true → I L a w → wpOpIn F n P ops Q i (I (upd L i)) a w)
    (hend : ∀ L a w, (∀ j, j < ops.size → L j = true) → I L a w → Q .normal a w) (h0 : I (fun _ => false) a w.drew) :
    (Code.region id ops true).wpIn F n P Q a w := by
  refine wpIn_region_any hm (wpAnyIn_inv hb hstep hend ops.size _ a _ (by simp) ?_ ?_)
  · rw [Array.count_replicate]; simp
  · have : lst (Array.replicate ops.size false) = fun _ => false := by
      funext j; simp only [lst, Array.getD_eq_getD_getElem?, Array.getElem?_replicate]; split <;> rfl
    rw [this]; exact h0
theorem wpAny_inv (hb : backward ops = true)
    (hstep : ∀ i, i < ops.size → ∀ L a w, L i = false → mayCome ops L i = true → I L a w → wpOp P ops Q i (I (upd L i)) a w)
    (hend : ∀ L a w, (∀ j, j < ops.size → L j = true) → I L a w → Q .normal a w) :
    ∀ (fuel : Nat) (listed : Array Bool) (a : Act) (w : World), listed.size = ops.size → listed.count false ≤ fuel → I (lst listed) a w → wpAny P .any ops Q fuel listed a w := by
  intro fuel
  induction fuel with
  | zero =>
    intro listed a w hs hc hI
    have hall : ∀ j, j < ops.size → lst listed j = true := by
      intro j hj
      cases hl : lst listed j with
      | true => rfl
      | false => exfalso; have := count_upd listed j (by omega) hl; omega
    refine ⟨?_, hend _ _ _ hall hI⟩
    apply List.eq_nil_iff_forall_not_mem.2
    intro i hi
    rw [ready_iff hs] at hi
    rw [hall i hi.1] at hi
    exact absurd hi.2.1 (by simp)
  | succ fuel ih =>
    intro listed a w hs hc hI
    refine ⟨fun h => hend _ _ _ (ready_nil hb hs h) hI, fun i hi => ?_⟩
    rw [ready_iff hs] at hi
    refine wpOp_mono (fun a' w' hI' => ?_) (hstep i hi.1 _ a w hi.2.1 hi.2.2 hI)
    have := count_upd listed i (by omega) hi.2.1
    exact ih _ a' w' (by simpa using hs) (by omega) (by rw [lst_set _ _ (by omega)]; exact hI')
theorem wp_region_inv {id : Nat} {a : Act} {w : World} (hm : P.follows .mixedOrders = true) (hb : backward ops = true)
    (hstep : ∀ i, i < ops.size → ∀ L a w, L i = false → mayCome ops L i = true → I L a w → wpOp P ops Q i (I (upd L i)) a w)
    (hend : ∀ L a w, (∀ j, j < ops.size → L j = true) → I L a w → Q .normal a w) (h0 : I (fun _ => false) a w.drew) :
    (Code.region id ops true).wp P Q a w := by
  refine wp_region_any hm (wpAny_inv hb hstep hend ops.size _ a _ (by simp) ?_ ?_)
  · rw [Array.count_replicate]; simp
  · have : lst (Array.replicate ops.size false) = fun _ => false := by
      funext j; simp only [lst, Array.getD_eq_getD_getElem?, Array.getElem?_replicate]; split <;> rfl
    rw [this]; exact h0
/-- an operation that yields a value. -/
theorem wpOpIn_value {i : Nat} {o : Oper} {K : Act → World → Prop} {a : Act} {w w' : World} {v : Value} (ho : ops[i]? = some o) (hg : o.guard = none)
    (hd : ∀ c, o.op ≠ .defer c) (hab : o.about P w a.eval = none)
    (hrun : (execOp a.eval o).run P w = .ok (.value v) w') (h : K (a.put o.dst v) w') : wpOpIn F n P ops Q i K a w := by
  unfold wpOpIn
  simp only [ho, Region.wanted, hg, if_true]
  unfold Oper.wpIn
  refine ⟨fun f hf => (by rw [hab] at hf; cases hf), ?_⟩
  rw [Oper.semAt_plain F _ _ (fun c e => hd c e), hrun]
  exact h
theorem wpOpIn_skip {i : Nat} {o : Oper} {K : Act → World → Prop} {a : Act} {w w' : World} (ho : ops[i]? = some o) (hg : o.guard = none)
    (hd : ∀ c, o.op ≠ .defer c) (hab : o.about P w a.eval = none)
    (hrun : (execOp a.eval o).run P w = .ok .skip w') (h : K (a.put o.dst undef) w') : wpOpIn F n P ops Q i K a w := by
  unfold wpOpIn
  simp only [ho, Region.wanted, hg, if_true]
  unfold Oper.wpIn
  refine ⟨fun f hf => (by rw [hab] at hf; cases hf), ?_⟩
  rw [Oper.semAt_plain F _ _ (fun c e => hd c e), hrun]
  exact h
end
end Go.Proofs.Ytdglaacjefcfdaa

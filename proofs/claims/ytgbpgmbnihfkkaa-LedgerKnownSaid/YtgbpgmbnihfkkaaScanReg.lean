/- a region that draws its order, by an invariant: one obligation an operation, whatever the order -/
import Derived.OrdersIn
import Derived.Orders
import Derived.CallsIn
import Derived.OwnWalkIn
import Derived.WalkKit
import Derived.Test.YtgbpgmbnihfkkaaRows
import Derived.Test.YtgbpgmbnihfkkaaKit
namespace Go.Proofs.Ytgbpgmbnihfkkaa
open Go.RowKit
def upd (L : Nat → Bool) (i : Nat) : Nat → Bool := fun j => if j = i then true else L j
theorem upd_same (L : Nat → Bool) (i : Nat) : upd L i i = true := by simp [upd]
theorem upd_other (L : Nat → Bool) (i j : Nat) (h : j ≠ i) : upd L i j = L j := by simp [upd, h]
/-- may operation i come up, those of L being done? -/
def mayCome (ops : Array Oper) (L : Nat → Bool) (i : Nat) : Bool := ((ops[i]?).map (·.after.all fun e => !Region.binds .any e || L e.on)).getD false
def backward (ops : Array Oper) : Bool := (List.range ops.size).all fun i => ((ops[i]?).map (·.after.all fun e => !Region.binds .any e || decide (e.on < i))).getD true
def lst (listed : Array Bool) : Nat → Bool := fun j => listed.getD j false
theorem lst_set (listed : Array Bool) (i : Nat) (h : i < listed.size) : lst (listed.setIfInBounds i true) = upd (lst listed) i := by
  funext j
  unfold lst upd
  by_cases hj : j = i
  · subst hj; simp [h]
  · have hj' : ¬ i = j := fun e => hj e.symm
    simp [hj, hj', Array.getD_eq_getD_getElem?]
theorem ready_iff {ops : Array Oper} {listed : Array Bool} (hs : listed.size = ops.size) (i : Nat) :
    i ∈ Region.ready .any ops listed ↔ i < ops.size ∧ lst listed i = false ∧ mayCome ops (lst listed) i = true := by
  unfold Region.ready
  rw [List.mem_filter, List.mem_range]
  constructor
  · rintro ⟨h1, h2⟩
    simp only [Bool.and_eq_true] at h2
    refine ⟨h1, ?_, h2.2⟩
    have h3 := h2.1
    have hl : i < listed.size := by omega
    simp only [lst, Array.getD_eq_getD_getElem?, Array.getElem?_eq_getElem hl, Option.getD_some] at h3 ⊢
    simpa using h3
  · rintro ⟨h1, h2, h3⟩
    refine ⟨h1, ?_⟩
    simp only [Bool.and_eq_true]
    refine ⟨?_, h3⟩
    have hl : i < listed.size := by omega
    simp only [lst, Array.getD_eq_getD_getElem?, Array.getElem?_eq_getElem hl, Option.getD_some] at h2 ⊢
    simp [h2]
theorem ready_nil {ops : Array Oper} {listed : Array Bool} (hb : backward ops = true) (hs : listed.size = ops.size) (h : Region.ready .any ops listed = []) : ∀ j, j < ops.size → lst listed j = true := by
  intro j
  induction j using Nat.strongRecOn with
  | _ j ih =>
    intro hj
    cases hl : lst listed j with
    | true => rfl
    | false =>
      exfalso
      have : j ∈ Region.ready .any ops listed := by
        rw [ready_iff hs]
        refine ⟨hj, hl, ?_⟩
        have hbj := List.all_eq_true.1 hb j (List.mem_range.2 hj)
        unfold mayCome
        rw [Array.getElem?_eq_getElem hj] at hbj ⊢
        simp only [Option.map_some, Option.getD_some, Array.all_eq_true, Bool.or_eq_true, decide_eq_true_eq] at hbj ⊢
        intro k hk
        rcases hbj k hk with h1 | h1
        · exact .inl h1
        · exact .inr (ih _ h1 (by omega))
      rw [h] at this
      simp at this
section
variable {F : Fence} {n : Nat} {P : Program} {ops : Array Oper} {Q : Exit → Act → World → Prop} {I : (Nat → Bool) → Act → World → Prop}
theorem count_upd (listed : Array Bool) (i : Nat) (h : i < listed.size) (hi : lst listed i = false) : (listed.setIfInBounds i true).count false + 1 = listed.count false := by
  have hg : listed[i] = false := by simpa [lst, Array.getD_eq_getD_getElem?, h] using hi
  have e : (listed.setIfInBounds i true) = listed.set i true h := by simp [Array.setIfInBounds, h]
  have hpos : 0 < listed.count false := by
    rw [Array.count_pos_iff]
    rw [← hg]; exact Array.getElem_mem h
  rw [e, Array.count_set]
  simp [hg]; omega
theorem wpAnyIn_inv (hb : backward ops = true)
    (hstep : ∀ i, i < ops.size → ∀ L a w, L i = false → mayCome ops L i = true → I L a w → wpOpIn F n P ops Q i (I (upd L i)) a w)
    (hend : ∀ L a w, (∀ j, j < ops.size → L j = true) → I L a w → Q .normal a w) :
    ∀ (fuel : Nat) (listed : Array Bool) (a : Act) (w : World), listed.size = ops.size → listed.count false ≤ fuel → I (lst listed) a w → wpAnyIn F n P .any ops Q fuel listed a w := by
  intro fuel
  induction fuel with
  | zero =>
    intro listed a w hs hc hI
    have hall : ∀ j, j < ops.size → lst listed j = true := by
      intro j hj
      cases hl : lst listed j with
      | true => rfl
      | false => exfalso; have := count_upd listed j (by omega) hl; omega
    refine ⟨?_, hend _ _ _ hall hI⟩
    apply List.eq_nil_iff_forall_not_mem.2
    intro i hi
    rw [ready_iff hs] at hi
    rw [hall i hi.1] at hi
    exact absurd hi.2.1 (by simp)
  | succ fuel ih =>
    intro listed a w hs hc hI
    refine ⟨fun h => hend _ _ _ (ready_nil hb hs h) hI, fun i hi => ?_⟩
    rw [ready_iff hs] at hi
    refine wpOpIn_mono (fun a' w' hI' => ?_) (hstep i hi.1 _ a w hi.2.1 hi.2.2 hI)
    have := count_upd listed i (by omega) hi.2.1
    exact ih _ a' w' (by simpa using hs) (by omega) (by rw [lst_set _ _ (by omega)]; exact hI')
/-- a region that draws, inside a fence. -/
theorem wpIn_region_inv {id : Nat} {a : Act} {w : World} (hm : P.follows .mixedOrders = true) (hb : backward ops = true)
    (hstep : ∀ i, i < ops.size → ∀ L a w, L i = false → mayCome ops L i = true → I L a w → wpOpIn F n P ops Q i (I (upd L i)) a w)
    (hend : ∀ L a w, (∀ j, j < ops.size → L j = true) → I L a w → Q .normal a w) (h0 : I (fun _ => false) a w.drew) :
    (Code.region id ops true).wpIn F n P Q a w := by
  refine wpIn_region_any hm (wpAnyIn_inv hb hstep hend ops.size _ a _ (by simp) ?_ ?_)
  · rw [Array.count_replicate]; simp
  · have : lst (Array.replicate ops.size false) = fun _ => false := by
      funext j; simp only [lst, Array.getD_eq_getD_getElem?, Array.getElem?_replicate]; split <;> rfl
    rw [this]; exact h0
theorem wpAny_inv (hb : backward ops = true)
    (hstep : ∀ i, i < ops.size → ∀ L a w, L i = false → mayCome ops L i = true → I L a w → wpOp P ops Q i (I (upd L i)) a w)
    (hend : ∀ L a w, (∀ j, j < ops.size → L j = true) → I L a w → Q .normal a w) :
    ∀ (fuel : Nat) (listed : Array Bool) (a : Act) (w : World), listed.size = ops.size → listed.count false ≤ fuel → I (lst listed) a w → wpAny P .any ops Q fuel listed a w := by
  intro fuel
  induction fuel with
  | zero =>
    intro listed a w hs hc hI
    have hall : ∀ j, j < ops.size → lst listed j = true := by
      intro j hj
      cases hl : lst listed j with
      | true => rfl
      | false => exfalso; have := count_upd listed j (by omega) hl; omega
    refine ⟨?_, hend _ _ _ hall hI⟩
    apply List.eq_nil_iff_forall_not_mem.2
    intro i hi
    rw [ready_iff hs] at hi
    rw [hall i hi.1] at hi
    exact absurd hi.2.1 (by simp)
  | succ fuel ih =>
    intro listed a w hs hc hI
    refine ⟨fun h => hend _ _ _ (ready_nil hb hs h) hI, fun i hi => ?_⟩
    rw [ready_iff hs] at hi
    refine wpOp_mono (fun a' w' hI' => ?_) (hstep i hi.1 _ a w hi.2.1 hi.2.2 hI)
    have := count_upd listed i (by omega) hi.2.1
    exact ih _ a' w' (by simpa using hs) (by omega) (by rw [lst_set _ _ (by omega)]; exact hI')
theorem wp_region_inv {id : Nat} {a : Act} {w : World} (hm : P.follows .mixedOrders = true) (hb : backward ops = true)
    (hstep : ∀ i, i < ops.size → ∀ L a w, L i = false → mayCome ops L i = true → I L a w → wpOp P ops Q i (I (upd L i)) a w)
    (hend : ∀ L a w, (∀ j, j < ops.size → L j = true) → I L a w → Q .normal a w) (h0 : I (fun _ => false) a w.drew) :
    (Code.region id ops true).wp P Q a w := by
  refine wp_region_any hm (wpAny_inv hb hstep hend ops.size _ a _ (by simp) ?_ ?_)
  · rw [Array.count_replicate]; simp
  · have : lst (Array.replicate ops.size false) = fun _ => false := by
      funext j; simp only [lst, Array.getD_eq_getD_getElem?, Array.getElem?_replicate]; split <;> rfl
    rw [this]; exact h0
/-- an operation that yields a value. -/
theorem wpOpIn_value {i : Nat} {o : Oper} {K : Act → World → Prop} {a : Act} {w w' : World} {v : Value} (ho : ops[i]? = some o) (hg : o.guard = none)
    (hd : ∀ c, o.op ≠ .defer c) (hab : o.about P w a.eval = none)
    (hrun : (execOp a.eval o).run P w = .ok (.value v) w') (h : K (a.put o.dst v) w') : wpOpIn F n P ops Q i K a w := by
  unfold wpOpIn
  simp only [ho, Region.wanted, hg, if_true]
  unfold Oper.wpIn
  refine ⟨fun f hf => (by rw [hab] at hf; cases hf), ?_⟩
  rw [Oper.semAt_plain F _ _ (fun c e => hd c e), hrun]
  exact h
theorem wpOpIn_skip {i : Nat} {o : Oper} {K : Act → World → Prop} {a : Act} {w w' : World} (ho : ops[i]? = some o) (hg : o.guard = none)
    (hd : ∀ c, o.op ≠ .defer c) (hab : o.about P w a.eval = none)
    (hrun : (execOp a.eval o).run P w = .ok .skip w') (h : K (a.put o.dst undef) w') : wpOpIn F n P ops Q i K a w := by
  unfold wpOpIn
  simp only [ho, Region.wanted, hg, if_true]
  unfold Oper.wpIn
  refine ⟨fun f hf => (by rw [hab] at hf; cases hf), ?_⟩
  rw [Oper.semAt_plain F _ _ (fun c e => hd c e), hrun]
  exact h
end
end Go.Proofs.Ytgbpgmbnihfkkaa

/- 'out, size = append(out, append([]byte{}, rec...)), end': what holds between its operations, in whatever order they come -/
namespace Go.Proofs.Ytgbpgmbnihfkkaa
open Go.RowKit
theorem OwnB.setCell {w : World} {base b off t : Nat} {v u : Value} {l : List UInt8} {c : Array Value} {f : Nat × Nat} (h : OwnB w base v l) (hb : w.heap[b]? = some (.cells c t f)) (ht : t ≠ 5) : OwnB (w.setCell ⟨b, off, none⟩ u) base v l :=
  h.move fun g hg => Below.heap_setCell _ _ _ _ (by intro e; simp only at e; subst e; exact box_ne hb h.1 ht hg.symm)
/-- W: the world ahead of the statement; v: out's value there, which owns vs; sl: the record's slice. -/
structure RegW (W : World) (B : Nat) (k' : Nat) (v : Value) (pre : List (List UInt8)) (r : List UInt8) (sl : Value) (L : Nat → Bool) (wr : World) (t14 t15 t16 t17 t18 t19 t20 : Value) : Prop where
  o3 : L 3 = true → L 1 = true ∧ L 2 = true
  o4 : L 4 = true → L 3 = true
  o5 : L 5 = true → L 4 = true
  o50 : L 5 = true → L 0 = true
  o7 : L 7 = true → L 5 = true
  o8 : L 8 = true → L 7 = true
  h14 : L 0 = true → t14 = v
  h15 : L 1 = true → L 3 = false → OwnB wr W.heap.size t15 []
  h16 : L 2 = true → t16 = sl
  h17 : L 3 = true → OwnB wr W.heap.size t17 r
  h18 : L 4 = true → L 5 = false → ∃ g, t18 = .slice (some ⟨g, 0, none⟩) 1 1 ∧ W.heap.size ≤ g ∧ wr.heap[g]? = some (.cells #[t17] 30 (0, 0))
  h19 : L 5 = true → Lists wr (B + 5) t19 (pre ++ [r])
  h20 : L 6 = true → t20 = .int .i64 (k' : Int)
  h7 : L 7 = true → wr.heap[B]? = some (.cells #[t19] 25 (0, 0))
  h8 : L 8 = true → wr.heap[B + 1]? = some (.cells #[.int .i64 (k' : Int)] 3 (0, 0))
  keep : ∀ j, j < W.heap.size → (L 7 = true → j ≠ B) → (L 8 = true → j ≠ B + 1) → (L 5 = true → some j ≠ v.ownBlock) → wr.heap[j]? = W.heap[j]?
  size : W.heap.size ≤ wr.heap.size
  os : wr.os = W.os
  tape : wr.tape = W.tape
  output : wr.output = W.output
variable {W : World} {B k' : Nat} {v : Value} {pre : List (List UInt8)} {r : List UInt8} {sl : Value} {L : Nat → Bool} {wr : World} {t14 t15 t16 t17 t18 t19 t20 : Value}
theorem RegW.op0 (h : RegW W B k' v pre r sl L wr t14 t15 t16 t17 t18 t19 t20) : RegW W B k' v pre r sl (upd L 0) wr v t15 t16 t17 t18 t19 t20 := by
  obtain ⟨o3, o4, o5, o50, o7, o8, h14, h15, h16, h17, h18, h19, h20, h7, h8, keep, size, os, tape, output⟩ := h
  exact ⟨o3, o4, o5, fun _ => rfl, o7, o8, fun _ => rfl, h15, h16, h17, h18, h19, h20, h7, h8, keep, size, os, tape, output⟩
theorem RegW.op2 (h : RegW W B k' v pre r sl L wr t14 t15 t16 t17 t18 t19 t20) : RegW W B k' v pre r sl (upd L 2) wr t14 t15 sl t17 t18 t19 t20 := by
  obtain ⟨o3, o4, o5, o50, o7, o8, h14, h15, h16, h17, h18, h19, h20, h7, h8, keep, size, os, tape, output⟩ := h
  exact ⟨fun e => ⟨(o3 e).1, rfl⟩, o4, o5, o50, o7, o8, h14, h15, fun _ => rfl, h17, h18, h19, h20, h7, h8, keep, size, os, tape, output⟩
theorem RegW.op6 (h : RegW W B k' v pre r sl L wr t14 t15 t16 t17 t18 t19 t20) : RegW W B k' v pre r sl (upd L 6) wr t14 t15 t16 t17 t18 t19 (.int .i64 (k' : Int)) := by
  obtain ⟨o3, o4, o5, o50, o7, o8, h14, h15, h16, h17, h18, h19, h20, h7, h8, keep, size, os, tape, output⟩ := h
  exact ⟨o3, o4, o5, o50, o7, o8, h14, h15, h16, h17, h18, h19, fun _ => rfl, h7, h8, keep, size, os, tape, output⟩
theorem RegW.op1 (h : RegW W B k' v pre r sl L wr t14 t15 t16 t17 t18 t19 t20) (hL : L 1 = false) :
    RegW W B k' v pre r sl (upd L 1) (wr.alloc (.cells #[] 5)) t14 (.slice (some ⟨wr.heap.size, 0, none⟩) 0 0) t16 t17 t18 t19 t20 := by
  obtain ⟨o3, o4, o5, o50, o7, o8, h14, h15, h16, h17, h18, h19, h20, h7, h8, keep, size, os, tape, output⟩ := h
  have n3 : L 3 = false := by cases e : L 3 with | false => rfl | true => rw [(o3 e).1] at hL; cases hL
  have n4 : L 4 = false := by cases e : L 4 with | false => rfl | true => rw [o4 e] at n3; cases n3
  have n5 : L 5 = false := by cases e : L 5 with | false => rfl | true => rw [o5 e] at n4; cases n4
  have n7 : L 7 = false := by cases e : L 7 with | false => rfl | true => rw [o7 e] at n5; cases n5
  have n8 : L 8 = false := by cases e : L 8 with | false => rfl | true => rw [o8 e] at n7; cases n7
  refine ⟨fun e => ⟨rfl, (o3 e).2⟩, o4, o5, o50, o7, o8, h14, fun _ _ => ?_, h16, fun e => ?_, fun e => ?_, fun e => ?_, h20, fun e => ?_, fun e => ?_, fun j hj a b c => ?_, by simp; omega, os, tape, output⟩
  · refine ⟨World.ownsRow_made wr #[] 0 size (by unfold maxLen; omega) (by simp), fun g c t f hg hc u hu => ?_⟩
    simp only [Value.ownBlock, Option.some.injEq] at hg
    subst hg
    rw [heap_alloc_new] at hc
    cases hc
    simp at hu
  · exact absurd (show L 3 = true from e) (by simp [n3])
  · exact absurd (show L 4 = true from e) (by simp [n4])
  · exact absurd (show L 5 = true from e) (by simp [n5])
  · exact absurd (show L 7 = true from e) (by simp [n7])
  · exact absurd (show L 8 = true from e) (by simp [n8])
  · rw [Below.heap_alloc _ _ _ (by omega)]
    exact keep j hj a b c
theorem RegW.op3 (h : RegW W B k' v pre r sl L wr t14 t15 t16 t17 t18 t19 t20) (hL : L 3 = false) (h1 : L 1 = true) (h2 : L 2 = true) {x : Value} {w' : World}
    (hx : OwnB w' W.heap.size x r) (hg : wr.grownBy w' t15.ownBlock) :
    RegW W B k' v pre r sl (upd L 3) w' t14 t15 t16 x t18 t19 t20 := by
  obtain ⟨o3, o4, o5, o50, o7, o8, h14, h15, h16, h17, h18, h19, h20, h7, h8, keep, size, os, tape, output⟩ := h
  have n4 : L 4 = false := by cases e : L 4 with | false => rfl | true => rw [o4 e] at hL; cases hL
  have n5 : L 5 = false := by cases e : L 5 with | false => rfl | true => rw [o5 e] at n4; cases n4
  have n7 : L 7 = false := by cases e : L 7 with | false => rfl | true => rw [o7 e] at n5; cases n5
  have n8 : L 8 = false := by cases e : L 8 with | false => rfl | true => rw [o8 e] at n7; cases n7
  have hold := h15 h1 hL
  refine ⟨fun _ => ⟨h1, h2⟩, fun _ => rfl, o5, o50, o7, o8, h14, fun _ e => absurd (show true = false from e) (by simp), h16, fun _ => hx, fun e => ?_, fun e => ?_, h20, fun e => ?_, fun e => ?_, fun j hj a b c => ?_, Nat.le_trans size hg.size, hg.os.trans os, hg.tape.trans tape, hg.output.trans output⟩
  · exact absurd (show L 4 = true from e) (by simp [n4])
  · exact absurd (show L 5 = true from e) (by simp [n5])
  · exact absurd (show L 7 = true from e) (by simp [n7])
  · exact absurd (show L 8 = true from e) (by simp [n8])
  · rw [hg.block j (by omega) (fun e => by have := (hold.1.lt j e.symm).1; omega)]
    exact keep j hj a b c
theorem RegW.op4 (h : RegW W B k' v pre r sl L wr t14 t15 t16 t17 t18 t19 t20) (hL : L 4 = false) (h3 : L 3 = true) :
    RegW W B k' v pre r sl (upd L 4) (wr.alloc (.cells #[t17] 30)) t14 t15 t16 t17 (.slice (some ⟨wr.heap.size, 0, none⟩) 1 1) t19 t20 := by
  obtain ⟨o3, o4, o5, o50, o7, o8, h14, h15, h16, h17, h18, h19, h20, h7, h8, keep, size, os, tape, output⟩ := h
  have n5 : L 5 = false := by cases e : L 5 with | false => rfl | true => rw [o5 e] at hL; cases hL
  have n7 : L 7 = false := by cases e : L 7 with | false => rfl | true => rw [o7 e] at n5; cases n5
  have n8 : L 8 = false := by cases e : L 8 with | false => rfl | true => rw [o8 e] at n7; cases n7
  refine ⟨o3, fun _ => h3, fun e => rfl, o50, o7, o8, h14, fun _ e => absurd (show L 3 = false from e) (by simp [h3]), h16, fun _ => (h17 h3).later ((Below.refl _ _).alloc (Nat.le_refl _) _), fun _ _ => ⟨_, rfl, size, heap_alloc_new _ _⟩, fun e => ?_, h20, fun e => ?_, fun e => ?_, fun j hj a b c => ?_, by simp; omega, os, tape, output⟩
  · exact absurd (show L 5 = true from e) (by simp [n5])
  · exact absurd (show L 7 = true from e) (by simp [n7])
  · exact absurd (show L 8 = true from e) (by simp [n8])
  · rw [Below.heap_alloc _ _ _ (by omega)]
    exact keep j hj a b c
theorem RegW.row (h : RegW W B k' v pre r sl L wr t14 t15 t16 t17 t18 t19 t20) (hL : L 5 = false) {e s n : Nat} {u : Value} {xs : List Value} (hu : W.ownsRow (B + 5) e s u n xs) : wr.ownsRow (B + 5) e s u n xs ∧ (∀ g, u.ownBlock = some g → wr.heap[g]? = W.heap[g]?) := by
  have n7 : L 7 = false := by cases e : L 7 with | false => rfl | true => rw [h.o7 e] at hL; cases hL
  have n8 : L 8 = false := by cases e : L 8 with | false => rfl | true => rw [h.o8 e] at n7; cases n7
  have hk : ∀ g, u.ownBlock = some g → wr.heap[g]? = W.heap[g]? := fun g hg => h.keep g (hu.lt g hg).2 (by simp [n7]) (by simp [n8]) (by simp [hL])
  refine ⟨⟨hu.1, ?_⟩, hk⟩
  rcases hu.2 with hn | ⟨g, cap, cur, rfl, hb, hg, rest⟩
  · exact .inl hn
  · exact .inr ⟨g, cap, cur, rfl, hb, by rw [hk g rfl]; exact hg, rest⟩
theorem RegW.op5 (h : RegW W B k' v pre r sl L wr t14 t15 t16 t17 t18 t19 t20) (hL : L 5 = false) (h0 : L 0 = true) (h4 : L 4 = true) {vs : List Value} (hl : vs.length = pre.length) (hBW : B + 5 ≤ W.heap.size)
    (hv : W.ownsRow (B + 5) 30 1 v pre.length vs) (hi : ∀ i, i < pre.length → ∃ u, vs[i]? = some u ∧ OwnB W (B + 5) u (pre.getD i []))
    {x : Value} {w' : World} (hx : w'.ownsRow (B + 5) 30 1 x (pre.length + 1) (vs ++ [t17]) ∧ AllCells w' x (fun u => plainV u = true)) (hg : wr.grownBy w' v.ownBlock) :
    RegW W B k' v pre r sl (upd L 5) w' t14 t15 t16 t17 t18 x t20 := by
  have hrow := fun (u : Value) (e s n : Nat) (xs : List Value) (hu : W.ownsRow (B + 5) e s u n xs) => h.row hL hu
  obtain ⟨o3, o4, o5, o50, o7, o8, h14, h15, h16, h17, h18, h19, h20, h7, h8, keep, size, os, tape, output⟩ := h
  have h3 := o4 h4
  have n7 : L 7 = false := by cases e : L 7 with | false => rfl | true => rw [o7 e] at hL; cases hL
  have n8 : L 8 = false := by cases e : L 8 with | false => rfl | true => rw [o8 e] at n7; cases n7
  have hvr := (hrow v _ _ _ _ hv).1
  have hur := h17 h3
  refine ⟨o3, o4, fun _ => h4, fun _ => h0, fun e => rfl, o8, h14, fun _ e => absurd (show L 3 = false from e) (by simp [h3]), h16, fun _ => hur.kept hg (ownBlock_ne (by decide) hvr hur.1), fun _ e => absurd (show true = false from e) (by simp),
    fun _ => Lists.snoc hl (fun i h => ?_) hvr (hur.base hBW) hx hg, h20, fun e => ?_, fun e => ?_, fun j hj a b c => ?_, Nat.le_trans size hg.size, hg.os.trans os, hg.tape.trans tape, hg.output.trans output⟩
  · obtain ⟨u, hu, ho⟩ := hi i h
    exact ⟨u, hu, ho.move (hrow u _ _ _ _ ho.1).2⟩
  · exact absurd (show L 7 = true from e) (by simp [n7])
  · exact absurd (show L 8 = true from e) (by simp [n8])
  · rw [hg.block j (by omega) (c rfl)]
    exact keep j hj (by simp [n7]) (by simp [n8]) (by simp [hL])
theorem RegW.op7 (h : RegW W B k' v pre r sl L wr t14 t15 t16 t17 t18 t19 t20) (hL : L 7 = false) (h5 : L 5 = true) (hbox : wr.heap[B]? = some (.cells #[v] 25 (0, 0))) :
    RegW W B k' v pre r sl (upd L 7) (wr.setCell ⟨B, 0, none⟩ t19) t14 t15 t16 t17 t18 t19 t20 := by
  obtain ⟨o3, o4, o5, o50, o7, o8, h14, h15, h16, h17, h18, h19, h20, h7, h8, keep, size, os, tape, output⟩ := h
  have n8 : L 8 = false := by cases e : L 8 with | false => rfl | true => rw [o8 e] at hL; cases hL
  have h3 := o4 (o5 h5)
  refine ⟨o3, o4, o5, o50, fun _ => h5, fun e => rfl, h14, fun _ e => absurd (show L 3 = false from e) (by simp [h3]), h16, fun _ => (h17 h3).setCell hbox (by decide), fun _ e => absurd (show L 5 = false from e) (by simp [h5]),
    fun _ => (h19 h5).setCell hbox (by decide) (by decide), h20, fun _ => ?_, fun e => ?_, fun j hj a b c => ?_, by simpa using size, os, tape, output⟩
  · rw [heap_setCell_same _ _ _ _ _ _ hbox]; rfl
  · exact absurd (show L 8 = true from e) (by simp [n8])
  · rw [Below.heap_setCell _ _ _ _ (a rfl)]
    exact keep j hj (by simp [hL]) b c
theorem RegW.op8 (h : RegW W B k' v pre r sl L wr t14 t15 t16 t17 t18 t19 t20) (hL : L 8 = false) (h7' : L 7 = true) {u : Value} (hbox : wr.heap[B + 1]? = some (.cells #[u] 3 (0, 0))) :
    RegW W B k' v pre r sl (upd L 8) (wr.setCell ⟨B + 1, 0, none⟩ (.int .i64 (k' : Int))) t14 t15 t16 t17 t18 t19 t20 := by
  obtain ⟨o3, o4, o5, o50, o7, o8, h14, h15, h16, h17, h18, h19, h20, h7, h8, keep, size, os, tape, output⟩ := h
  have h5 := o7 h7'
  have h3 := o4 (o5 h5)
  refine ⟨o3, o4, o5, o50, o7, fun _ => h7', h14, fun _ e => absurd (show L 3 = false from e) (by simp [h3]), h16, fun _ => (h17 h3).setCell hbox (by decide), fun _ e => absurd (show L 5 = false from e) (by simp [h5]),
    fun _ => (h19 h5).setCell hbox (by decide) (by decide), h20, fun _ => ?_, fun _ => ?_, fun j hj a b c => ?_, by simpa using size, os, tape, output⟩
  · rw [Below.heap_setCell _ _ _ _ (by simp)]; exact h7 h7'
  · rw [heap_setCell_same _ _ _ _ _ _ hbox]; rfl
  · rw [Below.heap_setCell _ _ _ _ (b rfl)]
    exact keep j hj a (by simp [hL]) c
theorem RegW.bytes (h : RegW W B k' v pre r sl L wr t14 t15 t16 t17 t18 t19 t20) (hL : L 5 = false) {ao : Option Addr} {n cap : Nat} {l : List UInt8} (hs : IsBytes W ao n cap l) : IsBytes wr ao n cap l := by
  have n7 : L 7 = false := by cases e : L 7 with | false => rfl | true => rw [h.o7 e] at hL; cases hL
  have n8 : L 8 = false := by cases e : L 8 with | false => rfl | true => rw [h.o8 e] at n7; cases n7
  refine ⟨hs.1, hs.2.1, hs.2.2.1, fun hl => ?_, hs.2.2.2.2⟩
  obtain ⟨b, off, e, hc⟩ := hs.2.2.2.1 hl
  refine ⟨b, off, e, fun i hi => ?_⟩
  rw [← hc i hi]
  exact World.cell?_of_block (h.keep b (hc.lt hl) (by simp [n7]) (by simp [n8]) (by simp [hL]))
theorem RegW.start (W : World) (B k' : Nat) (v : Value) (pre : List (List UInt8)) (r : List UInt8) (sl a b c d e f g : Value) : RegW W B k' v pre r sl (fun _ => false) W.drew a b c d e f g := by
  have no : ∀ {p : Prop}, false = true → p := fun h => by cases h
  exact ⟨no, no, no, no, no, no, no, fun h => no h, no, no, fun h => no h, no, no, no, no, fun _ _ _ _ _ => rfl, Nat.le_refl _, rfl, rfl, rfl⟩
end Go.Proofs.Ytgbpgmbnihfkkaa

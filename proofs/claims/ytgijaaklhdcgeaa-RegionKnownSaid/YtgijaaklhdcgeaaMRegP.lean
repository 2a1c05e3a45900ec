/- a drawn region's points: rows of its own, appends -/
import Derived.Test.YtgijaaklhdcgeaaMRegA
import Derived.Test.YtgijaaklhdcgeaaMQLay
set_option linter.unusedSimpArgs false
set_option linter.unusedVariables false
namespace Go.Proofs.Ytgijaaklhdcgeaa
open Go.RowKit Go.Geo
theorem OwnP.any {w : World} {base : Nat} {v : Value} {L : List Pt} (h : OwnP w base v L) : ownAny v = v.ownBlock := by
  rcases h.2 with ⟨rfl, _⟩ | ⟨g', cap, cur, rfl, _⟩ <;> rfl
theorem OwnP.lit (w : World) (base : Nat) (hb : base ≤ w.heap.size) (P : List Pt) (hp : P.length ≤ 1000000) : OwnP (w.alloc (.cells (flatP P).toArray 27)) base (.slice (some ⟨w.heap.size, 0, none⟩) P.length P.length) P :=
  ⟨flatP_length P, .inr ⟨_, _, (flatP P).toArray, rfl, hb, alloc_new w _, Nat.le_refl _, by unfold maxLen; omega, by simp [flatP_length], by rw [← flatP_length, List.take_of_length_le (by simp)]⟩⟩
theorem resPts_ok {W : World} {k i p : Nat} {c : Option Nat} {ds : List Nat} (L : List Pt) : ResOk W ⟨k, i, p, c, ds, fun V w => OwnP w W.heap.size (V i) L⟩ := resRow_ok _ _ _ _
theorem resPtsAt_ok {W : World} {k i p : Nat} {c : Option Nat} {ds : List Nat} (v0 : Value) (L : List Pt) : ResOk W ⟨k, i, p, c, ds, fun V w => V i = v0 ∧ OwnP w W.heap.size (V i) L⟩ where
  lt := fun V w h => (resPts_ok (k := k) (p := p) (c := c) (ds := ds) L).lt V w h.2
  move := fun V V' w w' h hj h2 h3 => ⟨(hj i (.inl rfl)).trans h.1, (resPts_ok (k := k) (p := p) (c := c) (ds := ds) L).move V V' w w' h.2 hj h2 h3⟩
theorem run_append_ptsF {w : World} (ty base : Nat) (v : Value) (L : List Pt) (hown : OwnP w base v L)
    (ao : Option Addr) (m c : Nat) (L2 : List Pt) (hsrc : IsPts w ao m c L2) (hnm : L.length + m ≤ 1000000000) (hbase : base ≤ w.heap.size) :
    ∃ v' w', (Builtin.append_ #[28, 28] ty #[v, .slice ao m c]).run Try.prog w = .ok v' w' ∧ OwnP w' base v' (L ++ L2) ∧ w.grownBy w' v.ownBlock ∧ (∀ g, v'.ownBlock = some g → w.heap.size ≤ g ∨ v.ownBlock = some g) := by
  obtain ⟨i0, hi, hz0, hz1, hz2⟩ := info_parts' Try.infoPt
  have hl := hsrc.1
  cases ao with
  | none =>
    obtain ⟨rfl, rfl⟩ := hsrc.2.2.2.2 rfl
    obtain rfl : L2 = [] := List.eq_nil_of_length_eq_zero hl
    exact ⟨v, w, run_append_owned_none (P := Try.prog) (w := w) base _ ty _ i0 2 Try.underlying28 hi v _ _ hown, by rw [List.append_nil]; exact hown, ⟨rfl, rfl, rfl, Nat.le_refl _, fun _ _ _ => rfl⟩, fun g hg => .inr hg⟩
  | some ad =>
    obtain ⟨b, off, spot⟩ := ad
    obtain ⟨v', w', hr, h2, h3, _⟩ := run_append_own (P := Try.prog) w base 28 ty _ i0 (.agg #[.int .i64 0, .int .i64 0]) 2 16 Try.underlying28 hi hz0 hz1 hz2 rfl (by decide) v _ _ hown ⟨b, off, spot⟩ m c (flatP L2) (by rw [flatP_length, hl]) hsrc.cells (flatP_one _)
      (by unfold maxLen; omega) (by omega) hbase
    refine ⟨v', w', hr, ?_, h3, append_own_fresh (P := Try.prog) w base 28 ty _ i0 (.agg #[.int .i64 0, .int .i64 0]) 2 16 Try.underlying28 hi hz0 hz1 hz2 rfl (by decide) v _ _ hown ⟨b, off, spot⟩ m c (flatP L2) (by rw [flatP_length, hl]) hsrc.cells (flatP_one _)
      (by unfold maxLen; omega) (by omega) hr⟩
    unfold OwnP
    rw [flatP_append, List.length_append, hl]; exact h2
theorem opwp_append_ptsF {w : World} {o : Oper} {a : Act} {K : Act → World → Prop} {Q : Exit → Act → World → Prop} (s x : Operand)
    (ho : o.op = .call { callee := .builtin .append, args := #[s, x], argTypes := #[28, 28] })
    (base : Nat) (v : Value) (L : List Pt) (hs : a.eval s = v) (hown : OwnP w base v L)
    (ao : Option Addr) (m c : Nat) (L2 : List Pt) (hx : a.eval x = .slice ao m c) (hsrc : IsPts w ao m c L2) (hnm : L.length + m ≤ 1000000000) (hbase : base ≤ w.heap.size)
    (h : ∀ v' w', OwnP w' base v' (L ++ L2) → w.grownBy w' v.ownBlock → (∀ g, ownAny v' = some g → w.heap.size ≤ g ∨ v.ownBlock = some g) → K (a.put o.dst v') w') : o.wp Try.prog a w K Q := by
  obtain ⟨v', w', hr, h2, h3, h4⟩ := run_append_ptsF o.type base v L hown ao m c L2 hsrc hnm hbase
  unfold Oper.wp execOp
  simp only [ho, resolve, invoke, builtin, Sem.run_bind, Sem.run_pure, Result.andThen_ok, List.map_toArray, List.map_cons, List.map_nil, hs, hx, hr]
  exact h v' w' h2 h3 (by rw [h2.any]; exact h4)
theorem eval_tmp {a : Act} {t : Nat} {v : Value} (h : a.tmps[t]? = some v) : a.eval (.tmp t) = v := by simp [Act.eval, h]
end Go.Proofs.Ytgijaaklhdcgeaa

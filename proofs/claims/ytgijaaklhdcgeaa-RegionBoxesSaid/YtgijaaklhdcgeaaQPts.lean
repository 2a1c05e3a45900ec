/- points and rings in rows of the call's own; apportionkit.CopyRings -/
import Derived.Test.YtgijaaklhdcgeaaQDef
import Derived.Laws.AppendOwnNone
namespace Go.Proofs.Ytgijaaklhdcgeaa
open Go.RowKit Go.Geo
theorem ownsRow_move {w w' : World} {base e s n : Nat} {v : Value} {xs : List Value} (h : w.ownsRow base e s v n xs) (hb : ∀ g, v.ownBlock = some g → w'.heap[g]? = w.heap[g]?) : w'.ownsRow base e s v n xs := by
  refine ⟨h.1, ?_⟩
  rcases h.2 with hn | ⟨g, cap, cur, rfl, hbg, hgg, rest⟩
  · exact .inl hn
  · exact .inr ⟨g, cap, cur, rfl, hbg, by rw [hb g rfl]; exact hgg, rest⟩
theorem ownsRow_base {w : World} {base base' e s n : Nat} {v : Value} {xs : List Value} (h : w.ownsRow base e s v n xs) (hb : base' ≤ base) : w.ownsRow base' e s v n xs := by
  refine ⟨h.1, ?_⟩
  rcases h.2 with hn | ⟨g, cap, cur, rfl, hbg, rest⟩
  · exact .inl hn
  · exact .inr ⟨g, cap, cur, rfl, by omega, rest⟩
theorem info_parts' {P : Program} {t : TypeId} {z : Value} {s b : Nat} (h : (P.info? t).map (fun i => (i.zero, i.size, i.bytes)) = some (some z, s, b)) : ∃ i, P.info? t = some i ∧ i.zero = some z ∧ i.size = s ∧ i.bytes = b := by
  cases hi : P.info? t with
  | none => rw [hi] at h; cases h
  | some i => rw [hi] at h; simp only [Option.map_some, Option.some.injEq, Prod.mk.injEq] at h; exact ⟨i, rfl, h.1, h.2.1, h.2.2⟩
theorem Try.infoPt : (Try.prog.info? 27).map (fun i => (i.zero, i.size, i.bytes)) = some (some (.agg #[.int .i64 0, .int .i64 0]), 2, 16) := by kernel_rfl
theorem Try.infoPts : (Try.prog.info? 28).map (fun i => (i.zero, i.size, i.bytes)) = some (some (.slice none 0 0), 1, 24) := by kernel_rfl
def flatP (P : List Pt) : List Value := P.flatMap fun p => [.int .i64 p.x, .int .i64 p.y]
theorem flatP_cons (p : Pt) (P : List Pt) : flatP (p :: P) = [.int .i64 p.x, .int .i64 p.y] ++ flatP P := rfl
theorem flatP_append (P Q : List Pt) : flatP (P ++ Q) = flatP P ++ flatP Q := by simp [flatP]
theorem flatP_length (P : List Pt) : (flatP P).length = P.length * 2 := by
  induction P with
  | nil => rfl
  | cons c L ih => rw [flatP_cons, List.length_append, ih, List.length_cons]; simp; omega
theorem flatP_get (P : List Pt) (i : Nat) (hi : i < P.length) : (flatP P)[i * 2]? = some (.int .i64 (P.getD i p0).x) ∧ (flatP P)[i * 2 + 1]? = some (.int .i64 (P.getD i p0).y) := by
  induction P generalizing i with
  | nil => simp at hi
  | cons c L ih =>
    rw [flatP_cons]
    cases i with
    | zero => exact ⟨rfl, rfl⟩
    | succ i =>
      obtain ⟨h1, h2⟩ := ih i (by simpa using hi)
      rw [List.getElem?_append_right (by simp; omega), List.getElem?_append_right (by simp; omega)]
      refine ⟨?_, ?_⟩
      · rw [show (i + 1) * 2 - [Value.int IntKind.i64 c.x, Value.int IntKind.i64 c.y].length = i * 2 by simp; omega]; simpa using h1
      · rw [show (i + 1) * 2 + 1 - [Value.int IntKind.i64 c.x, Value.int IntKind.i64 c.y].length = i * 2 + 1 by simp; omega]; simpa using h2
theorem flatP_one (P : List Pt) : ∀ u ∈ flatP P, u.oneCell' = true := by
  intro u hu
  simp only [flatP, List.mem_flatMap] at hu
  obtain ⟨c, _, hc⟩ := hu
  simp at hc
  rcases hc with rfl | rfl <;> rfl
def OwnP (w : World) (base : Nat) (v : Value) (P : List Pt) : Prop := w.ownsRow base 27 2 v P.length (flatP P)
theorem OwnP.later {w w' : World} {base : Nat} {v : Value} {P : List Pt} (h : OwnP w base v P) (hb : Below w.heap.size w w') : OwnP w' base v P := ownsRow_move h fun g hg => hb.block g (h.lt g hg).2
theorem OwnP.base {w : World} {base base' : Nat} {v : Value} {P : List Pt} (h : OwnP w base v P) (hb : base' ≤ base) : OwnP w base' v P := ownsRow_base h hb
theorem add_cell (g o : Nat) : (⟨g, 0, none⟩ : Addr).add o = ⟨g, 0 + o, none⟩ := by unfold Addr.add; split <;> simp_all
theorem OwnP.pts {w : World} {base : Nat} {v : Value} {P : List Pt} (h : OwnP w base v P) : ∃ ao cap, v = .slice ao P.length cap ∧ IsPts w ao P.length cap P := by
  rcases h.2 with ⟨rfl, h0⟩ | ⟨g, cap, cur, rfl, hb, hg, hn, hm, hs, ht⟩
  · have : P = [] := List.eq_nil_of_length_eq_zero h0
    subst this
    exact ⟨none, 0, rfl, rfl, Nat.le_refl _, by unfold maxLen; omega, fun h => absurd h (by simp), fun _ => ⟨rfl, rfl⟩⟩
  · refine ⟨_, cap, rfl, rfl, hn, hm, fun _ => ⟨g, 0, rfl, fun i hi => ?_⟩, fun h => by cases h⟩
    have hc := h.cells (g := g) rfl (i * 2) _ (flatP_get P i hi).1
    have hd := h.cells (g := g) rfl (i * 2 + 1) _ (flatP_get P i hi).2
    rw [add_cell] at hc hd
    exact ⟨hc, hd⟩
theorem IsPts.cells {w : World} {b off : Nat} {spot : Option Nat} {n cap : Nat} {P : List Pt} (h : IsPts w (some ⟨b, off, spot⟩) n cap P) :
    ∀ j u, (flatP P)[j]? = some u → w.cell? ((⟨b, off, spot⟩ : Addr).add j) = some u := by
  intro j u hu
  have hj : j < P.length * 2 := by
    have := (List.getElem?_eq_some_iff.1 hu).1; rwa [flatP_length] at this
  have hi : j / 2 < P.length := by omega
  obtain ⟨e0, e1⟩ := flatP_get P (j / 2) hi
  obtain ⟨b', off', e2, hc⟩ := h.2.2.2.1 (by rw [← h.1]; omega)
  cases e2
  obtain ⟨c0, c1⟩ := hc (j / 2) (by rw [← h.1]; exact hi)
  have ha : (⟨b, off, none⟩ : Addr).add j = ⟨b, off + j, none⟩ := by unfold Addr.add; split <;> simp_all
  rw [ha]
  by_cases hm : j % 2 = 0
  · rw [show j / 2 * 2 = j by omega, hu] at e0
    cases e0
    rw [show off + j / 2 * 2 = off + j by omega] at c0
    exact c0
  · rw [show j / 2 * 2 + 1 = j by omega, hu] at e1
    cases e1
    rw [show off + j / 2 * 2 + 1 = off + j by omega] at c1
    exact c1
theorem OwnP.none_new (w : World) (base : Nat) (hb : base ≤ w.heap.size) : OwnP (w.alloc (Obj.cells #[] 27)) base (.slice (some ⟨w.heap.size, 0, none⟩) 0 0) [] :=
  ⟨rfl, .inr ⟨_, _, #[], rfl, hb, alloc_new w _, Nat.le_refl _, by unfold maxLen; omega, rfl, rfl⟩⟩
theorem run_append_pts {w : World} (ty base : Nat) (v : Value) (L : List Pt) (hown : OwnP w base v L)
    (ao : Option Addr) (m c : Nat) (L2 : List Pt) (hsrc : IsPts w ao m c L2) (hnm : L.length + m ≤ 1000000000) (hbase : base ≤ w.heap.size) :
    ∃ v' w', (Builtin.append_ #[28, 28] ty #[v, .slice ao m c]).run Try.prog w = .ok v' w' ∧ OwnP w' base v' (L ++ L2) ∧ w.grownBy w' v.ownBlock := by
  obtain ⟨i0, hi, hz0, hz1, hz2⟩ := info_parts' Try.infoPt
  have hl := hsrc.1
  cases ao with
  | none =>
    obtain ⟨rfl, rfl⟩ := hsrc.2.2.2.2 rfl
    obtain rfl : L2 = [] := List.eq_nil_of_length_eq_zero hl
    exact ⟨v, w, run_append_owned_none (P := Try.prog) (w := w) base _ ty _ i0 2 Try.underlying28 hi v _ _ hown, by rw [List.append_nil]; exact hown, ⟨rfl, rfl, rfl, Nat.le_refl _, fun _ _ _ => rfl⟩⟩
  | some ad =>
    obtain ⟨b, off, spot⟩ := ad
    obtain ⟨v', w', hr, h2, h3, _⟩ := run_append_own (P := Try.prog) w base 28 ty _ i0 (.agg #[.int .i64 0, .int .i64 0]) 2 16 Try.underlying28 hi hz0 hz1 hz2 rfl (by decide) v _ _ hown ⟨b, off, spot⟩ m c (flatP L2) (by rw [flatP_length, hl]) hsrc.cells (flatP_one _)
      (by unfold maxLen; omega) (by omega) hbase
    refine ⟨v', w', hr, ?_, h3⟩
    unfold OwnP
    rw [flatP_append, List.length_append, hl]; exact h2
theorem wpList_append_pts {w : World} {ops : Array Oper} {rest : List Oper} {o : Oper} {a : Act} {Q : Exit → Act → World → Prop} (hgd : o.guard = none) (s x : Operand)
    (ho : o.op = .call { callee := .builtin .append, args := #[s, x], argTypes := #[28, 28] })
    (base : Nat) (v : Value) (L : List Pt) (hs : a.eval s = v) (hown : OwnP w base v L)
    (ao : Option Addr) (m c : Nat) (L2 : List Pt) (hx : a.eval x = .slice ao m c) (hsrc : IsPts w ao m c L2) (hnm : L.length + m ≤ 1000000000) (hbase : base ≤ w.heap.size)
    (h : ∀ v' w', OwnP w' base v' (L ++ L2) → w.grownBy w' v.ownBlock → wpList Try.prog ops Q rest (a.put o.dst v') w') : wpList Try.prog ops Q (o :: rest) a w := by
  obtain ⟨v', w', hr, h2, h3⟩ := run_append_pts o.type base v L hown ao m c L2 hsrc hnm hbase
  refine wpList_plain hgd fun K hK => ?_
  unfold Oper.wp execOp
  simp only [ho, resolve, invoke, builtin, Sem.run_bind, Sem.run_pure, Result.andThen_ok, List.map_toArray, List.map_cons, List.map_nil, hs, hx, hr]
  exact hK _ _ (h v' w' h2 h3)
/-- rings of the call's own, one behind the other. -/
def OwnR (w : World) (base : Nat) (v : Value) (R : List (List Pt)) : Prop :=
  ∃ vs : List Value, vs.length = R.length ∧ w.ownsRow base 28 1 v R.length vs ∧
    ∀ i, i < R.length → ∃ u, vs[i]? = some u ∧ OwnP w base u (R.getD i [])
theorem OwnR.nil (w : World) (base : Nat) : OwnR w base (.slice none 0 0) [] := ⟨[], rfl, World.ownsRow_nil _ _ _ _, fun i h => absurd h (by simp)⟩
theorem OwnR.later {w w' : World} {base : Nat} {v : Value} {R : List (List Pt)} (h : OwnR w base v R) (hb : Below w.heap.size w w') : OwnR w' base v R := by
  obtain ⟨vs, h1, h2, h3⟩ := h
  refine ⟨vs, h1, ownsRow_move h2 fun g hg => hb.block g (h2.lt g hg).2, fun i hi => ?_⟩
  obtain ⟨u, hu, ho⟩ := h3 i hi
  exact ⟨u, hu, ho.later hb⟩
theorem OwnR.base {w : World} {base base' : Nat} {v : Value} {R : List (List Pt)} (h : OwnR w base v R) (hb : base' ≤ base) : OwnR w base' v R := by
  obtain ⟨vs, h1, h2, h3⟩ := h
  refine ⟨vs, h1, ownsRow_base h2 hb, fun i hi => ?_⟩
  obtain ⟨x, hx, ho⟩ := h3 i hi
  exact ⟨x, hx, ho.base hb⟩
theorem OwnR.lt {w : World} {base : Nat} {v : Value} {R : List (List Pt)} (h : OwnR w base v R) : ∀ g, v.ownBlock = some g → base ≤ g ∧ g < w.heap.size := by
  obtain ⟨vs, _, h2, _⟩ := h
  exact fun g hg => h2.lt g hg
/-- a step that turns no block with cells of these two types. -/
theorem OwnR.move {w w' : World} {base : Nat} {v : Value} {R : List (List Pt)} (h : OwnR w base v R)
    (hb : ∀ (g : Nat) (c : Array Value) (t : Nat), w.heap[g]? = some (Obj.cells c t (0, 0)) → t = 28 ∨ t = 27 → w'.heap[g]? = w.heap[g]?) : OwnR w' base v R := by
  have key : ∀ {e s n : Nat} {u : Value} {xs : List Value}, w.ownsRow base e s u n xs → e = 28 ∨ e = 27 → ∀ g, u.ownBlock = some g → w'.heap[g]? = w.heap[g]? := by
    intro e s n u xs hu he g hg
    rcases hu.2 with ⟨rfl, _⟩ | ⟨g', cap, cur, rfl, _, hg', _⟩
    · simp [Value.ownBlock] at hg
    · simp only [Value.ownBlock, Option.some.injEq] at hg
      subst hg
      exact hb _ _ _ hg' he
  obtain ⟨vs, h1, h2, h3⟩ := h
  refine ⟨vs, h1, ownsRow_move h2 (key h2 (.inl rfl)), fun i hi => ?_⟩
  obtain ⟨u, hu, ho⟩ := h3 i hi
  exact ⟨u, hu, ownsRow_move ho (key ho (.inr rfl))⟩
theorem OwnR.setCell {w : World} {base b off t : Nat} {v u : Value} {R : List (List Pt)} {c : Array Value} {f : Nat × Nat} (h : OwnR w base v R) (hb : w.heap[b]? = some (.cells c t f)) (ht : t ≠ 28) (ht2 : t ≠ 27) :
    OwnR (w.setCell ⟨b, off, none⟩ u) base v R :=
  OwnR.move h fun g c' t' hg he => Below.heap_setCell _ _ _ _ (by
    intro e
    simp only at e
    subst e
    rw [hb] at hg
    injection hg with hg
    injection hg with _ h2
    subst h2
    rcases he with he | he
    · exact ht he
    · exact ht2 he)
theorem own_apart {w : World} {base b2 e e' s s' : Nat} {v u : Value} {n m : Nat} {xs ys : List Value} (he : e ≠ e') (hv : w.ownsRow base e s v n xs) (hu : w.ownsRow b2 e' s' u m ys) : u.ownBlock = none ∨ u.ownBlock ≠ v.ownBlock := by
  rcases hu.2 with ⟨rfl, _⟩ | ⟨g', cap', cur', rfl, _, hg', _⟩
  · exact .inl rfl
  · refine .inr fun e1 => ?_
    rcases hv.2 with ⟨rfl, _⟩ | ⟨g, cap, cur, rfl, _, hg, _⟩
    · simp [Value.ownBlock] at e1
    · simp only [Value.ownBlock, Option.some.injEq] at e1
      subst e1
      rw [hg] at hg'
      injection hg' with hg'
      injection hg' with _ h2
      exact he h2
theorem OwnR.snoc {w w' : World} {base : Nat} {v v' u : Value} {R : List (List Pt)} {r : List Pt} {vs : List Value} (hL : vs.length = R.length)
    (hi : ∀ i, i < R.length → ∃ u, vs[i]? = some u ∧ OwnP w base u (R.getD i []))
    (hv : w.ownsRow base 28 1 v R.length vs) (hu : OwnP w base u r) (hown : w'.ownsRow base 28 1 v' (R.length + 1) (vs ++ [u])) (hg : w.grownBy w' v.ownBlock) :
    OwnR w' base v' (R ++ [r]) := by
  refine ⟨vs ++ [u], by simp [hL], by simpa using hown, fun i hi' => ?_⟩
  by_cases h : i < R.length
  · obtain ⟨x, hx, ho⟩ := hi i h
    have e : (R ++ [r]).getD i [] = R.getD i [] := by simp [List.getD_eq_getElem?_getD, List.getElem?_append_left h]
    refine ⟨x, by rw [List.getElem?_append_left (by omega)]; exact hx, ?_⟩
    rw [e]
    exact World.ownsRow.kept ho hg (own_apart (by decide) hv ho)
  · obtain rfl : i = R.length := by simp at hi'; omega
    have e : (R ++ [r]).getD R.length [] = r := by simp [List.getD_eq_getElem?_getD]
    refine ⟨u, by rw [← hL]; simp, ?_⟩
    rw [e]
    exact World.ownsRow.kept hu hg (own_apart (by decide) hv hu)
theorem OwnR.rings {w : World} {base : Nat} {v : Value} {R : List (List Pt)} (h : OwnR w base v R) : ∃ ao cap, v = .slice ao R.length cap ∧ IsRings w ao R.length cap R := by
  obtain ⟨vs, h1, h2, h3⟩ := h
  rcases h2.2 with ⟨rfl, h0⟩ | ⟨g, cap, cur, rfl, hb, hg, hn, hm, hs, ht⟩
  · have : R = [] := List.eq_nil_of_length_eq_zero h0
    subst this
    exact ⟨none, 0, rfl, rfl, Nat.le_refl _, by unfold maxLen; omega, fun _ => ⟨rfl, rfl⟩, fun k hk => absurd hk (by simp)⟩
  · refine ⟨_, cap, rfl, rfl, hn, hm, fun h => (by cases h), fun k hk => ?_⟩
    obtain ⟨u, hu, ho⟩ := h3 k hk
    obtain ⟨x, z, rfl, hp⟩ := ho.pts
    have hc := h2.cells (g := g) rfl k _ hu
    rw [add_cell] at hc
    exact ⟨g, 0, x, _, z, rfl, hc, hp.1 ▸ hp⟩
theorem wpList_append_rings {w : World} {ops : Array Oper} {rest : List Oper} {o : Oper} {a : Act} {Q : Exit → Act → World → Prop} (hgd : o.guard = none) (s x : Operand)
    (ho : o.op = .call { callee := .builtin .append, args := #[s, x], argTypes := #[23, 23] })
    (base : Nat) (v : Value) (L : List (List Pt)) (hs : a.eval s = v) (hown : OwnR w base v L)
    (g : Nat) (hx : a.eval x = .slice (some ⟨g, 0, none⟩) 1 1) (au : Option Addr) (cu : Nat) (r : List Pt) (hu : OwnP w base (.slice au r.length cu) r) (hg : w.heap[g]? = some (.cells #[.slice au r.length cu] 28 (0, 0)))
    (hn : L.length ≤ 4294967296) (hbase : base ≤ w.heap.size)
    (h : ∀ v' w', OwnR w' base v' (L ++ [r]) → w.grownBy w' v.ownBlock → wpList Try.prog ops Q rest (a.put o.dst v') w') : wpList Try.prog ops Q (o :: rest) a w := by
  obtain ⟨i0, hi, hz0, hz1, hz2⟩ := info_parts' Try.infoPts
  obtain ⟨vs, h1, h2, h3⟩ := hown
  obtain ⟨v', w', hr, hx2, hgr, _⟩ := run_append_own (P := Try.prog) w base 23 o.type 28 i0 (.slice none 0 0) 1 24 Try.underlying23 hi hz0 hz1 hz2 rfl (by decide) v L.length vs h2 ⟨g, 0, none⟩ 1 1 [.slice au r.length cu] rfl
    (by
      intro j u hu
      match j, hu with
      | 0, hu =>
        simp at hu; subst hu
        rw [show (⟨g, 0, none⟩ : Addr).add 0 = ⟨g, 0, none⟩ from rfl, cell_of_row _ _ _ _ _ _ hg]; rfl)
    (by intro u hu; simp at hu; subst hu; rfl) (by unfold maxLen; omega) (by omega) hbase
  refine wpList_plain hgd fun K hK => ?_
  unfold Oper.wp execOp
  simp only [ho, resolve, invoke, builtin, Sem.run_bind, Sem.run_pure, Result.andThen_ok, List.map_toArray, List.map_cons, List.map_nil, hs, hx, hr]
  exact hK _ _ (h v' w' (OwnR.snoc h1 h3 h2 hu hx2 hgr) hgr)
end Go.Proofs.Ytgijaaklhdcgeaa

/- ints in slices: what came in, rows of the call's own, append, Clone, Contains, Compact, SameInts -/
import Derived.Test.YtbidappkmnedaaaJDef
import Derived.Test.YtbidappkmnedaaaJLay
namespace Go.Proofs.Ytbidappkmnedaaa
open Go.RowKit
def IntsAt (w : World) (b off n : Nat) (L : List Int) : Prop := ∀ i, i < n → w.cell? ⟨b, off + i, none⟩ = some (.int .i64 (L.getD i 0))
def IsInts (w : World) (ao : Option Addr) (n cap : Nat) (L : List Int) : Prop :=
  L.length = n ∧ n ≤ cap ∧ cap ≤ maxLen ∧ (0 < n → ∃ b off, ao = some ⟨b, off, none⟩ ∧ IntsAt w b off n L) ∧ (ao = none → n = 0 ∧ cap = 0)
theorem IntsAt.lt {w : World} {b off n : Nat} {L : List Int} (h : IntsAt w b off n L) (hl : 0 < n) : b < w.heap.size := block_lt_of_cell (h 0 hl)
theorem IsInts.later {w w' : World} {B : Nat} {ao : Option Addr} {n cap : Nat} {L : List Int} (h : IsInts w ao n cap L) (hb : Below B w w') (hB : w.heap.size ≤ B) : IsInts w' ao n cap L := by
  obtain ⟨h1, h2, h3, h4, h5⟩ := h
  refine ⟨h1, h2, h3, fun hn => ?_, h5⟩
  obtain ⟨b, off, rfl, hc⟩ := h4 hn
  exact ⟨b, off, rfl, fun i hi => (hb.cell (p := ⟨b, off + i, none⟩) (Nat.lt_of_lt_of_le (hc.lt hn) hB)).trans (hc i hi)⟩
theorem IsInts.grew {w w' : World} {ao : Option Addr} {n cap : Nat} {L : List Int} (h : IsInts w ao n cap L) (hb : Grew w w') : IsInts w' ao n cap L := h.later hb.1 (Nat.le_refl _)
theorem Try.infoInt : (Try.prog.info? 3).map (fun i => (i.zero, i.size, i.bytes)) = some (some (.int .i64 0), 1, 8) := by kernel_rfl
def flatI (L : List Int) : List Value := L.map (Value.int .i64)
theorem flatI_length (L : List Int) : (flatI L).length = L.length := by simp [flatI]
theorem flatI_append (L M : List Int) : flatI (L ++ M) = flatI L ++ flatI M := by simp [flatI]
theorem flatI_get (L : List Int) (i : Nat) (hi : i < L.length) : (flatI L)[i]? = some (.int .i64 (L.getD i 0)) := by
  simp [flatI, List.getElem?_eq_getElem hi]
theorem flatI_one (L : List Int) : ∀ u ∈ flatI L, u.oneCell' = true := by
  intro u hu
  obtain ⟨x, _, rfl⟩ := List.mem_map.1 hu
  rfl
theorem ownsRow_move {w w' : World} {base e s n : Nat} {v : Value} {xs : List Value} (h : w.ownsRow base e s v n xs) (hb : ∀ g, v.ownBlock = some g → w'.heap[g]? = w.heap[g]?) : w'.ownsRow base e s v n xs := by
  refine ⟨h.1, ?_⟩
  rcases h.2 with hn | ⟨g, cap, cur, rfl, hbg, hgg, rest⟩
  · exact .inl hn
  · exact .inr ⟨g, cap, cur, rfl, hbg, by rw [hb g rfl]; exact hgg, rest⟩
theorem ownsRow_base {w : World} {base base' e s n : Nat} {v : Value} {xs : List Value} (h : w.ownsRow base e s v n xs) (hb : base' ≤ base) : w.ownsRow base' e s v n xs := by
  refine ⟨h.1, ?_⟩
  rcases h.2 with hn | ⟨g, cap, cur, rfl, hbg, rest⟩
  · exact .inl hn
  · exact .inr ⟨g, cap, cur, rfl, by omega, rest⟩
def OwnI (w : World) (base : Nat) (v : Value) (L : List Int) : Prop := w.ownsRow base 3 1 v L.length (flatI L)
theorem OwnI.nil (w : World) (base : Nat) : OwnI w base (.slice none 0 0) [] := World.ownsRow_nil _ _ _ _
theorem OwnI.later {w w' : World} {base : Nat} {v : Value} {L : List Int} (h : OwnI w base v L) (hb : Below w.heap.size w w') : OwnI w' base v L := ownsRow_move h fun g hg => hb.block g (h.lt g hg).2
theorem OwnI.laterB {w w' : World} {base B : Nat} {v : Value} {L : List Int} (h : OwnI w base v L) (hb : Below B w w') (hB : w.heap.size ≤ B) : OwnI w' base v L := ownsRow_move h fun g hg => hb.block g (Nat.lt_of_lt_of_le (h.lt g hg).2 hB)
theorem OwnI.base {w : World} {base base' : Nat} {v : Value} {L : List Int} (h : OwnI w base v L) (hb : base' ≤ base) : OwnI w base' v L := ownsRow_base h hb
theorem OwnI.ints {w : World} {base : Nat} {v : Value} {L : List Int} (h : OwnI w base v L) : ∃ ao cap, v = .slice ao L.length cap ∧ IsInts w ao L.length cap L := by
  rcases h.2 with ⟨rfl, h0⟩ | ⟨g, cap, cur, rfl, hb, hg, hn, hm, hs, ht⟩
  · have : L = [] := List.eq_nil_of_length_eq_zero h0
    subst this
    exact ⟨none, 0, rfl, rfl, Nat.le_refl _, by unfold maxLen; omega, fun h => absurd h (by simp), fun _ => ⟨rfl, rfl⟩⟩
  · refine ⟨_, cap, rfl, rfl, hn, hm, fun _ => ⟨g, 0, rfl, fun i hi => ?_⟩, fun h => by cases h⟩
    have hc := h.cells (g := g) rfl i _ (flatI_get L i hi)
    have : (⟨g, 0, none⟩ : Addr).add i = ⟨g, 0 + i, none⟩ := by unfold Addr.add; split <;> simp_all
    rw [this] at hc; exact hc
theorem IsInts.cells {w : World} {b off : Nat} {spot : Option Nat} {n cap : Nat} {L : List Int} (h : IsInts w (some ⟨b, off, spot⟩) n cap L) :
    ∀ j u, (flatI L)[j]? = some u → w.cell? ((⟨b, off, spot⟩ : Addr).add j) = some u := by
  intro j u hu
  have hj : j < L.length := by
    have := (List.getElem?_eq_some_iff.1 hu).1; rwa [flatI_length] at this
  have e := flatI_get L j hj
  rw [hu] at e
  cases e
  obtain ⟨b', off', e2, hc⟩ := h.2.2.2.1 (by rw [← h.1]; omega)
  cases e2
  have : (⟨b, off, none⟩ : Addr).add j = ⟨b, off + j, none⟩ := by unfold Addr.add; split <;> simp_all
  rw [this]
  exact hc _ (by rw [← h.1]; exact hj)
theorem info_parts' {P : Program} {t : TypeId} {z : Value} {s b : Nat} (h : (P.info? t).map (fun i => (i.zero, i.size, i.bytes)) = some (some z, s, b)) : ∃ i, P.info? t = some i ∧ i.zero = some z ∧ i.size = s ∧ i.bytes = b := by
  cases hi : P.info? t with
  | none => rw [hi] at h; cases h
  | some i => rw [hi] at h; simp only [Option.map_some, Option.some.injEq, Prod.mk.injEq] at h; exact ⟨i, rfl, h.1, h.2.1, h.2.2⟩
theorem run_append_ints {w : World} (ty base : Nat) (v : Value) (L : List Int) (hown : OwnI w base v L)
    (ao : Option Addr) (m c : Nat) (L2 : List Int) (hsrc : IsInts w ao m c L2) (hnm : L.length + m ≤ 1000000000) (hbase : base ≤ w.heap.size) :
    ∃ v' w', (Builtin.append_ #[38, 38] ty #[v, .slice ao m c]).run Try.prog w = .ok v' w' ∧ OwnI w' base v' (L ++ L2) ∧ w.grownBy w' v.ownBlock := by
  obtain ⟨i0, hi, hz0, hz1, hz2⟩ := info_parts' Try.infoInt
  have hl := hsrc.1
  cases ao with
  | none =>
    obtain ⟨rfl, rfl⟩ := hsrc.2.2.2.2 rfl
    obtain rfl : L2 = [] := List.eq_nil_of_length_eq_zero hl
    exact ⟨v, w, run_append_owned_none (P := Try.prog) (w := w) base _ ty _ i0 1 Try.underlying38 hi v _ _ hown, by rw [List.append_nil]; exact hown, ⟨rfl, rfl, rfl, Nat.le_refl _, fun _ _ _ => rfl⟩⟩
  | some ad =>
    obtain ⟨b, off, spot⟩ := ad
    obtain ⟨v', w', hr, h2, h3, _⟩ := run_append_own (P := Try.prog) w base 38 ty _ i0 (.int .i64 0) 1 8 Try.underlying38 hi hz0 hz1 hz2 rfl (by decide) v _ _ hown ⟨b, off, spot⟩ m c (flatI L2) (by rw [flatI_length, hl]; omega) hsrc.cells (flatI_one _)
      (by unfold maxLen; omega) (by omega) hbase
    refine ⟨v', w', hr, ?_, h3⟩
    unfold OwnI
    rw [flatI_append, List.length_append, hl]; exact h2
theorem wpList_append_ints {w : World} {ops : Array Oper} {rest : List Oper} {o : Oper} {a : Act} {Q : Exit → Act → World → Prop} (hgd : o.guard = none) (s x : Operand)
    (ho : o.op = .call { callee := .builtin .append, args := #[s, x], argTypes := #[38, 38] })
    (base : Nat) (v : Value) (L : List Int) (hs : a.eval s = v) (hown : OwnI w base v L)
    (ao : Option Addr) (m c : Nat) (L2 : List Int) (hx : a.eval x = .slice ao m c) (hsrc : IsInts w ao m c L2) (hnm : L.length + m ≤ 1000000000) (hbase : base ≤ w.heap.size)
    (h : ∀ v' w', OwnI w' base v' (L ++ L2) → w.grownBy w' v.ownBlock → wpList Try.prog ops Q rest (a.put o.dst v') w') : wpList Try.prog ops Q (o :: rest) a w := by
  obtain ⟨v', w', hr, h2, h3⟩ := run_append_ints o.type base v L hown ao m c L2 hsrc hnm hbase
  refine wpList_plain hgd fun K hK => ?_
  unfold Oper.wp execOp
  simp only [ho, resolve, invoke, builtin, Sem.run_bind, Sem.run_pure, Result.andThen_ok, List.map_toArray, List.map_cons, List.map_nil, hs, hx, hr]
  exact hK _ _ (h v' w' h2 h3)
theorem OwnI.none_new (w : World) (base : Nat) (hb : base ≤ w.heap.size) : OwnI (w.alloc (Obj.cells #[] 3)) base (.slice (some ⟨w.heap.size, 0, none⟩) 0 0) [] :=
  ⟨rfl, .inr ⟨_, _, #[], rfl, hb, alloc_new w _, Nat.le_refl _, by unfold maxLen; omega, rfl, rfl⟩⟩
theorem below_grownI {w w1 w' : World} {base : Nat} {v : Value} {L : List Int} (h : Below base w w1) (hown : OwnI w1 base v L) (hg : w1.grownBy w' v.ownBlock) (hb : base ≤ w1.heap.size) : Below base w w' :=
  h.grown hg hb fun k hk => (hown.lt k hk).1
theorem one_ints (w : World) (x : Int) : IsInts (w.alloc (Obj.cells #[.int .i64 x] 3)) (some ⟨w.heap.size, 0, none⟩) 1 1 [x] := by
  refine ⟨rfl, Nat.le_refl _, by unfold maxLen; omega, fun _ => ⟨_, _, rfl, fun i hi => ?_⟩, fun h => by cases h⟩
  obtain rfl : i = 0 := by omega
  exact alloc_cell w _ _
/-- whatever ints a laid block holds. -/
theorem lit_ints (w : World) (L : List Int) (hn : L.length ≤ 1000000) : IsInts (w.alloc (Obj.cells (flatI L).toArray 3)) (some ⟨w.heap.size, 0, none⟩) L.length L.length L := by
  refine ⟨rfl, Nat.le_refl _, by unfold maxLen; omega, fun _ => ⟨_, _, rfl, fun i hi => ?_⟩, fun h => by cases h⟩
  refine (cell_of_row _ _ _ _ _ _ (alloc_new w _)).trans ?_
  rw [Nat.zero_add]
  simpa using flatI_get L i hi
theorem getD_cells {w : World} {b off n : Nat} {L : List Int} (hl : L.length = n) (h : IntsAt w b off n L) : ∀ j, j < L.length → w.cell? ⟨b, off + j, none⟩ = some (.int .i64 (L.getD j 0)) := fun j hj => h j (by omega)
theorem Clone_any (ao : Option Addr) (n cap : Nat) (L : List Int) (w : World) (h : IsInts w ao n cap L) (hn : n ≤ 100000) :
    Calls Try.prog 35 #[.slice ao n cap] w fun e w' => ∃ v, e = .returned v ∧ OwnI w' w.heap.size v L ∧ Below w.heap.size w w' := by
  obtain ⟨h1, h2, h3, h4, h5⟩ := h
  by_cases h0 : 0 < n
  · obtain ⟨b, off, rfl, hc⟩ := h4 h0
    have hcon := Go.Proofs.AnyG.slices_Clone_int Try.cloneI b off n cap L w (by omega) (by omega) (getD_cells h1 hc)
    change Calls Try.prog 35 _ _ _ at hcon
    refine hcon.mono ?_
    rintro e w' ⟨v, rfl, hown, _, hb⟩
    refine ⟨v, rfl, ?_, hb⟩
    rw [List.take_of_length_le (by omega)] at hown
    unfold OwnI
    rw [h1]
    exact hown
  · obtain rfl : n = 0 := by omega
    obtain rfl : L = [] := List.eq_nil_of_length_eq_zero h1
    cases ao with
    | none =>
      have hcon := Go.Proofs.AnyG.slices_Clone_int_nil Try.cloneI 0 cap w
      change Calls Try.prog 35 _ _ _ at hcon
      refine hcon.mono ?_
      rintro e w' ⟨rfl, rfl⟩
      exact ⟨_, rfl, OwnI.nil _ _, Below.refl _ _⟩
    | some a =>
      have hcon := Go.Proofs.AnyG.slices_Clone_int_zero Try.cloneI a cap w
      change Calls Try.prog 35 _ _ _ at hcon
      refine hcon.mono ?_
      rintro e w' ⟨v, rfl, hown, _, hb⟩
      exact ⟨v, rfl, hown, hb⟩
theorem Contains_any (ao : Option Addr) (n cap : Nat) (L : List Int) (x : Int) (w : World) (h : IsInts w ao n cap L) :
    Calls Try.prog 43 #[.slice ao n cap, .int .i64 x] w fun e w' => e = .returned (.bool (L.contains x)) ∧ w' = w := by
  obtain ⟨h1, h2, h3, h4, h5⟩ := h
  unfold maxLen at h3
  by_cases h0 : 0 < n
  · obtain ⟨b, off, rfl, hc⟩ := h4 h0
    have hcon := Go.Proofs.AnyG.slices_Contains_int Try.containsI b off n cap L x w (by omega) (by omega) (getD_cells h1 hc)
    change Calls Try.prog 43 _ _ _ at hcon
    rw [List.take_of_length_le (by omega)] at hcon
    exact hcon
  · obtain rfl : n = 0 := by omega
    obtain rfl : L = [] := List.eq_nil_of_length_eq_zero h1
    have hcon := Go.Proofs.AnyG.slices_Contains_int_empty Try.containsI ao cap x w
    change Calls Try.prog 43 _ _ _ at hcon
    exact hcon
end Go.Proofs.Ytbidappkmnedaaa

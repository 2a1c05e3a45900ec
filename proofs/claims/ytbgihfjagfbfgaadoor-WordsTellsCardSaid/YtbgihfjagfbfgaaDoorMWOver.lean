/- layer 16: apportionkit.OverTexts; the library's Clone, with its room -/
import Derived.Test.YtbgihfjagfbfgaaDoorMWRefAll
import Derived.Laws.Append
import Derived.Laws.Concat
set_option linter.unusedSimpArgs false
set_option linter.unusedVariables false
namespace Go.Proofs.YtbgihfjagfbfgaaDoor
open Go.RowKit Go.Words
attribute [local go_sem] Oper.semAt_some
/-- a row of strings, its room too. -/
def StrRow (w : World) (base : Nat) (v : Value) : Prop := (∃ n c, v = .slice none n c ∧ n = 0 ∧ c = 0) ∨ ∃ g n cap cs, v = .slice (some ⟨g, 0, none⟩) n cap ∧ base ≤ g ∧ w.heap[g]? = some (.cells cs 9 (0, 0)) ∧ cs.size = cap ∧ cap ≤ maxLen ∧ n ≤ cap ∧ ∀ i, i < cap → ∃ s : Wd, cs[i]? = some (sV s) ∧ s.length ≤ 1000
theorem StrRow.later {w w' : World} {base : Nat} {v : Value} (h : StrRow w base v) (hb : Below w.heap.size w w') : StrRow w' base v := by
  rcases h with h | ⟨g, n, cap, cs, h1, h2, h3, h4⟩
  · exact .inl h
  · exact .inr ⟨g, n, cap, cs, h1, h2, (hb.block _ (heap_lt2 h3)).trans h3, h4⟩
theorem wpList_append_run {w w' : World} {ops : Array Oper} {rest : List Oper} {o : Oper} {a : Act} {Q : Exit → Act → World → Prop} {v1 v2 v' : Value} (hgd : o.guard = none) (s x : Operand)
    (ho : o.op = .call { callee := .builtin .append, args := #[s, x], argTypes := #[26, 26] }) (hs : a.eval s = v1) (hx : a.eval x = v2)
    (hr : (Builtin.append_ #[26, 26] o.type #[v1, v2]).run Tryd.prog w = .ok v' w') (h : wpList Tryd.prog ops Q rest (a.put o.dst v') w') : wpList Tryd.prog ops Q (o :: rest) a w := by
  refine wpList_plain hgd fun K hK => ?_
  unfold Oper.wp execOp
  simp only [ho, resolve, invoke, builtin, Sem.run_bind, Sem.run_pure, Result.andThen_ok, List.map_toArray, List.map_cons, List.map_nil, hs, hx, hr]
  exact hK _ _ h
/-- append to no strings: the whole new row is known. -/
theorem append_room (w : World) (ty : TypeId) (base n cap : Nat) (ao : Option Addr) (L : List Wd) (hb : base ≤ w.heap.size) (hi : IsS w ao n cap L) (hn : n ≤ 100000) (hs : ∀ s ∈ L, s.length ≤ 1000) :
    ∃ v' w', (Builtin.append_ #[26, 26] ty #[.slice (some ⟨w.heap.size, 0, none⟩) 0 0, .slice ao n cap]).run Tryd.prog (w.alloc (Obj.cells #[] 9)) = .ok v' w' ∧ OwnS w' base v' L ∧ StrRow w' base v' ∧ Below w.heap.size w w' := by
  have hb0 : Below w.heap.size w (w.alloc (Obj.cells #[] 9)) := (Below.refl _ _).alloc (Nat.le_refl _) _
  have hown : OwnS (w.alloc (Obj.cells #[] 9)) base (.slice (some ⟨w.heap.size, 0, none⟩) 0 0) [] := ⟨rfl, .inr ⟨_, _, #[], rfl, hb, alloc_new w _, Nat.le_refl _, by unfold maxLen; omega, rfl, rfl⟩⟩
  have hi2 := hi.later hb0 (Nat.le_refl _)
  obtain ⟨v', w', hr, ho, hg⟩ := run_append_strs ty base _ [] hown ao n cap L hi2 (by simp; omega) (by simp; omega)
  have hbel : Below w.heap.size w w' := hb0.grown hg (by simp) (fun k hk => by simp [Value.ownBlock] at hk; omega)
  refine ⟨v', w', hr, by simpa using ho, ?_, hbel⟩
  obtain ⟨i0, hi0, hz0, hz1, hz2⟩ := info_parts' Tryd.infoStrS
  have hl := hi2.1
  have hemp : StrRow (w.alloc (Obj.cells #[] 9)) base (.slice (some ⟨w.heap.size, 0, none⟩) 0 0) := .inr ⟨_, _, _, #[], rfl, hb, alloc_new _ _, rfl, by unfold maxLen; omega, Nat.le_refl _, fun i hi => absurd hi (by omega)⟩
  cases ao with
  | none =>
    obtain ⟨rfl, rfl⟩ := hi2.2.2.2.2 rfl
    rw [run_append_owned_none (P := Tryd.prog) (w := w.alloc (Obj.cells #[] 9)) base _ ty _ i0 1 Tryd.underlying26 hi0 _ _ _ hown] at hr
    injection hr with e1 e2
    subst e1 e2
    exact hemp
  | some ad =>
    by_cases h0 : n = 0
    · subst h0
      obtain rfl : L = [] := List.eq_nil_of_length_eq_zero hl
      rw [run_append_room (P := Tryd.prog) (w.alloc (Obj.cells #[] 9)) 26 ty 9 i0 Tryd.underlying26 hi0 w.heap.size 0 0 #[] (alloc_new _ _) ad 0 cap [] (by simp) (fun j u h => by simp at h) (fun u h => by cases h) (by omega) (by simp)] at hr
      injection hr with e1 e2
      subst e1 e2
      exact .inr ⟨_, _, _, _, rfl, hb, setRow_heap _ _ _ _ _ _ (alloc_new _ _), by simp, by unfold maxLen; omega, by omega, fun i hi => absurd hi (by omega)⟩
    · obtain ⟨b, off, e, hc⟩ := hi2.2.2.2.1 (by omega)
      cases e
      have hr2 := run_append_grow (P := Tryd.prog) (w.alloc (Obj.cells #[] 9)) 26 ty 9 i0 (.string ByteArray.empty) Tryd.underlying26 hi0 hz0 ⟨w.heap.size, 0, none⟩ 0 0 [] (by simp) (fun j v h => by simp at h) ⟨b, off, none⟩ n cap (flatS L) (by rw [flatS_length, hl, hz1, Nat.mul_one]) hi2.cells (by omega) (by omega) (growslice_fits (by omega) (by rw [hz2]; omega))
      have hge := grownCap_ge (w.alloc (Obj.cells #[] 9)) (0 + n) 0 9
      have hle := grownCap_le_maxLen (w.alloc (Obj.cells #[] 9)) (0 + n) 0 9 (by unfold maxLen; omega)
      generalize grownCap (w.alloc (Obj.cells #[] 9)) (0 + n) 0 9 = gc at hr2 hge hle
      rw [hr2] at hr
      injection hr with e1 e2
      subst e1 e2
      have hsz : (([] : List Value).toArray ++ (flatS L).toArray ++ Builtin.zeroCells (Value.string ByteArray.empty).cells (gc - (0 + n))).size = gc := by
        rw [Array.size_append, Array.size_append, size_zeroCells]
        simp [flatS_length, hl, Value.cells]
        omega
      refine .inr ⟨_, _, _, _, rfl, by simp; omega, alloc_new _ _, hsz, hle, hge, fun i hi => ?_⟩
      by_cases hin : i < n
      · refine ⟨L.getD i [], ?_, ?_⟩
        · rw [Array.getElem?_append_left (by simp [flatS_length, hl]; exact hin)]
          simpa using flatS_get L i (by omega)
        · exact hs _ (getD_memS (by omega))
      · refine ⟨[], ?_, by simp⟩
        rw [Array.getElem?_append_right (by simp [flatS_length, hl]; omega)]
        unfold Builtin.zeroCells
        simp [flatS_length, hl, Value.cells]
        refine ⟨i - n, ?_, ?_⟩
        · rw [Array.getElem?_eq_getElem (by simp; omega)]; simp
        · rw [Nat.mod_one]; rfl
end Go.Proofs.YtbgihfjagfbfgaaDoor

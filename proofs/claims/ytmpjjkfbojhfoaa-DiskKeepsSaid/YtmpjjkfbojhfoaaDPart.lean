/- disk: append of a part of what is under way, cuts of own rows of bytes -/
import Derived.Test.YtmpjjkfbojhfoaaDLoose
namespace Go.Proofs.Ytmpjjkfbojhfoaa
open Go.RowKit
set_option linter.unusedSectionVars false
/-- 'append(own, more...)'. -/
theorem run_append_more {w : World} (ty base : Nat) (v : Value) (l : List UInt8) (hown : OwnB w base v l)
    (ao : Option Addr) (m c : Nat) (l2 : List UInt8) (hsrc : IsBytes w ao m c l2) (hnm : l.length + m ≤ 140737488355328) (hbase : base ≤ w.heap.size) :
    ∃ v' w', (Builtin.append_ #[23, 79] ty #[v, .slice ao m c]).run Try.prog w = .ok v' w' ∧ OwnB w' base v' (l ++ l2) ∧ w.grownBy w' v.ownBlock := by
  obtain ⟨v', w', hr, h2, h3, _⟩ := run_append_bytes ty base v l hown ao m c l2 hsrc hnm hbase
  refine ⟨v', w', ?_, h2, h3⟩
  rw [← hr]
  obtain ⟨a, cap, rfl⟩ := ownsRow_shape hown.1
  simp [Builtin.append_, run_underlying Try.underlying23, run_underlying Try.underlying79]
theorem slice_to_more {w : World} {ao : Option Addr} {n cap : Nat} {l : List UInt8} (h : IsBytes w ao n cap l) (hi : Nat) (hhi : hi ≤ n) :
    (∀ w', (Instr.slice 79 (.slice ao n cap) none (some (.int .i64 (hi : Int))) none).run Try.prog w' = .ok (.slice ao hi cap) w') ∧ IsBytes w ao hi cap (l.take hi) := by
  obtain ⟨i0, hi0, hz0, hz1, hz2⟩ := info_parts Try.infoByte
  have h2 := h.2.1
  have hle : hi ≤ cap := by omega
  refine ⟨fun w' => ?_, h.cut hi hhi⟩
  have e1 : (Instr.sliceBounds true n cap none (some (.int .i64 (hi : Int))) none).run Try.prog w' = .ok (0, hi, cap) w' := by
    simp [Instr.sliceBounds, Instr.sliceBound, asIntOf, hle]
  simp [Instr.slice, run_underlying Try.underlying79, e1, sizeOf, typeInfo, hi0, Result.andThen]
  cases ao with
  | none => simp
  | some a => simp [Addr.add]
theorem OwnB.short {w : World} {base : Nat} {ao : Option Addr} {n cap : Nat} {l : List UInt8} (h : OwnB w base (.slice ao n cap) l) (k : Nat) (hk : k ≤ l.length) : OwnB w base (.slice ao k cap) (l.take k) := by
  refine ⟨⟨by rw [u8s_length, Nat.mul_one], ?_⟩, fun g c t f hg hc => h.2 g c t f (by cases ao with | none => (simp [Value.ownBlock] at hg) | some a => exact hg) hc⟩
  rcases h.1.2 with ⟨h1, h0⟩ | ⟨g, cap', cur, he, hb, hg, hn, hm, hs, ht⟩
  · cases h1
    have : k = 0 := by omega
    subst this
    exact .inl ⟨rfl, by simp⟩
  · simp only [Value.slice.injEq] at he
    obtain ⟨rfl, rfl, rfl⟩ := he
    refine .inr ⟨g, cap, cur, by rw [List.length_take, Nat.min_eq_left hk], hb, hg, by rw [List.length_take]; omega, hm, hs, ?_⟩
    rw [List.length_take, Nat.min_eq_left hk]
    have h2 : cur.toList.take (k * 1) = (u8s l).take k := by rw [← ht, List.take_take, Nat.mul_one, Nat.mul_one, Nat.min_eq_left hk]
    rw [h2]
    simp [u8s, List.map_take]
theorem wpList_append_more {w : World} {ops : Array Oper} {rest : List Oper} {o : Oper} {a : Act} {Q : Exit → Act → World → Prop} (hgd : o.guard = none) (s x : Operand)
    (ho : o.op = .call { callee := .builtin .append, args := #[s, x], argTypes := #[23, 79] })
    (base : Nat) (v : Value) (l : List UInt8) (hs : a.eval s = v) (hown : OwnB w base v l)
    (ao : Option Addr) (m c : Nat) (l2 : List UInt8) (hx : a.eval x = .slice ao m c) (hsrc : IsBytes w ao m c l2) (hnm : l.length + m ≤ 140737488355328) (hbase : base ≤ w.heap.size)
    (h : ∀ v' w', OwnB w' base v' (l ++ l2) → w.grownBy w' v.ownBlock → wpList Try.prog ops Q rest (a.put o.dst v') w') : wpList Try.prog ops Q (o :: rest) a w := by
  obtain ⟨v', w', hr, h2, h3⟩ := run_append_more o.type base v l hown ao m c l2 hsrc hnm hbase
  refine wpList_plain hgd fun K hK => ?_
  unfold Oper.wp execOp
  simp only [ho, resolve, invoke, builtin, Sem.run_bind, Sem.run_pure, Result.andThen_ok, List.map_toArray, List.map_cons, List.map_nil, hs, hx, hr]
  exact hK _ _ (h v' w' h2 h3)
end Go.Proofs.Ytmpjjkfbojhfoaa

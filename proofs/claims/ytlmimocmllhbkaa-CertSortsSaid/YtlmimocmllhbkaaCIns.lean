/- for apportionref22.Sort: a certificate laid in its place; cuts of slices -/
import Derived.Test.YtlmimocmllhbkaaCSame
namespace Go.Proofs.Ytlmimocmllhbkaa
open Go.RowKit
theorem mem_take_getD {M : List Crt} {t : Nat} {a : Crt} (h : a ∈ M.take t) : ∃ j, j < t ∧ j < M.length ∧ M.getD j c0 = a := by
  obtain ⟨j, hj, rfl⟩ := List.mem_iff_getElem.1 h
  rw [List.length_take] at hj
  refine ⟨j, by omega, by omega, ?_⟩
  rw [List.getElem_take, List.getD_eq_getElem?_getD, List.getElem?_eq_getElem (by omega)]; rfl
theorem mem_drop_getD {M : List Crt} {t : Nat} {a : Crt} (h : a ∈ M.drop t) : ∃ j, t ≤ j ∧ j < M.length ∧ M.getD j c0 = a := by
  obtain ⟨j, hj, rfl⟩ := List.mem_iff_getElem.1 h
  rw [List.length_drop] at hj
  refine ⟨t + j, by omega, by omega, ?_⟩
  rw [List.getElem_drop, List.getD_eq_getElem?_getD, List.getElem?_eq_getElem (by omega)]; rfl
theorem insert_rising {M : List Crt} {c : Crt} {t : Nat} (h : Rising M) (h1 : ∀ j, j < t → cmpC (M.getD j c0) c < 0) (h2 : t < M.length → cmpC c (M.getD t c0) < 0) : Rising (M.take t ++ [c] ++ M.drop t) := by
  have hc : ∀ b, b ∈ M.drop t → cmpC c b < 0 := fun b hb => by
    obtain ⟨j, hj1, hj2, rfl⟩ := mem_drop_getD hb
    by_cases e : j = t
    · subst e; exact h2 hj2
    · exact cmpC_trans (h2 (by omega)) (rising_getD h (by omega) hj2)
  unfold Rising
  rw [List.pairwise_append, List.pairwise_append]
  refine ⟨⟨List.Pairwise.sublist (List.take_sublist _ _) h, List.pairwise_singleton _ _, fun a ha b hb => ?_⟩, List.Pairwise.sublist (List.drop_sublist _ _) h, fun a ha b hb => ?_⟩
  · obtain ⟨j, hj1, hj2, rfl⟩ := mem_take_getD ha
    rw [List.mem_singleton.1 hb]; exact h1 j hj1
  · rcases List.mem_append.1 ha with ha | ha
    · obtain ⟨j, hj1, hj2, rfl⟩ := mem_take_getD ha
      obtain ⟨i, hi1, hi2, rfl⟩ := mem_drop_getD hb
      exact rising_getD h (by omega) hi2
    · rw [List.mem_singleton.1 ha]; exact hc b hb
theorem insert_mem {M : List Crt} {c : Crt} {t : Nat} (x : Crt) : x ∈ M.take t ++ [c] ++ M.drop t ↔ x ∈ M ∨ x = c := by
  constructor
  · intro h
    simp only [List.mem_append, List.mem_singleton] at h
    rcases h with (h | h) | h
    · exact .inl (List.mem_of_mem_take h)
    · exact .inr h
    · exact .inl (List.mem_of_mem_drop h)
  · intro h
    simp only [List.mem_append, List.mem_singleton]
    rcases h with h | h
    · rw [← List.take_append_drop t M] at h
      rcases List.mem_append.1 h with h | h
      · exact .inl (.inl h)
      · exact .inr h
    · exact .inl (.inr h)
/-- two rising lists of the same members are one. -/
theorem rising_unique : ∀ {M N : List Crt}, Rising M → Rising N → (∀ x, x ∈ M ↔ x ∈ N) → M = N
  | [], [], _, _, _ => rfl
  | [], b :: N, _, _, h => absurd ((h b).2 (List.mem_cons_self)) (by simp)
  | a :: M, [], _, _, h => absurd ((h a).1 (List.mem_cons_self)) (by simp)
  | a :: M, b :: N, h1, h2, h => by
    have r1 := List.pairwise_cons.1 h1
    have r2 := List.pairwise_cons.1 h2
    have hab : a = b := by
      rcases List.mem_cons.1 ((h a).1 List.mem_cons_self) with e | e
      · exact e
      · rcases List.mem_cons.1 ((h b).2 List.mem_cons_self) with e2 | e2
        · exact e2.symm
        · exact absurd (cmpC_trans (r1.1 b e2) (r2.1 a e)) (cmpC_irrefl a)
    subst hab
    congr 1
    refine rising_unique r1.2 r2.2 fun x => ?_
    constructor
    · intro hx
      rcases List.mem_cons.1 ((h x).1 (List.mem_cons_of_mem _ hx)) with e | e
      · rw [e] at hx; exact absurd (r1.1 a hx) (cmpC_irrefl a)
      · exact e
    · intro hx
      rcases List.mem_cons.1 ((h x).2 (List.mem_cons_of_mem _ hx)) with e | e
      · rw [e] at hx; exact absurd (r2.1 a hx) (cmpC_irrefl a)
      · exact e
theorem cut_to {w : World} {ao : Option Addr} {n cap : Nat} {L : List Crt} (h : IsCerts w ao n cap L) (t : Nat) (ht : t ≤ n) :
    (∀ w', (Instr.slice 24 (.slice ao n cap) none (some (.int .i64 (t : Int))) none).run Try.prog w' = .ok (.slice ao t cap) w') ∧ IsCerts w ao t cap (L.take t) := by
  obtain ⟨i0, hi0, hz0, hz1, hz2⟩ := info_parts Try.infoCert
  obtain ⟨h1, h2, h3, h4, h5⟩ := h
  refine ⟨fun w' => ?_, by rw [List.length_take]; omega, by omega, h3, fun hp => ?_, fun e => by have := h5 e; omega⟩
  · have e1 : (Instr.sliceBounds true n cap none (some (.int .i64 (t : Int))) none).run Try.prog w' = .ok (0, t, cap) w' := by
      simp [Instr.sliceBounds, Instr.sliceBound, asIntOf, show t ≤ cap by omega]
    simp [Instr.slice, run_underlying Try.underlying24, e1, sizeOf, typeInfo, hi0, Result.andThen]
    cases ao with
    | none => simp
    | some a => simp [Addr.add]
  · obtain ⟨b, off, e, hc⟩ := h4 (by omega)
    refine ⟨b, off, e, fun i hi j hj => ?_⟩
    rw [hc i (by omega) j hj, List.getD_eq_getElem?_getD, List.getD_eq_getElem?_getD, List.getElem?_take, if_pos hi]
theorem cut_from {w : World} {ao : Option Addr} {n cap : Nat} {L : List Crt} (h : IsCerts w ao n cap L) (t : Nat) (ht : t ≤ n) :
    ∃ ao', (∀ w', (Instr.slice 24 (.slice ao n cap) (some (.int .i64 (t : Int))) none none).run Try.prog w' = .ok (.slice ao' (n - t) (cap - t)) w') ∧ IsCerts w ao' (n - t) (cap - t) (L.drop t) := by
  obtain ⟨i0, hi0, hz0, hz1, hz2⟩ := info_parts Try.infoCert
  obtain ⟨h1, h2, h3, h4, h5⟩ := h
  have e1 : ∀ w', (Instr.sliceBounds true n cap (some (.int .i64 (t : Int))) none none).run Try.prog w' = .ok (t, n, cap) w' := fun w' => by
    simp [Instr.sliceBounds, Instr.sliceBound, asIntOf, ht]
  by_cases hp : t < n
  · obtain ⟨b, off, rfl, hc⟩ := h4 (by omega)
    refine ⟨some ⟨b, off + t * 5, none⟩, fun w' => ?_, by rw [List.length_drop, h1], by omega, by omega, fun _ => ⟨_, _, rfl, fun i hi j hj => ?_⟩, fun e => by cases e⟩
    · simp [Instr.slice, run_underlying Try.underlying24, e1, sizeOf, typeInfo, hi0, Result.andThen, Addr.add, hz1]
      rw [if_neg (by omega)]
      by_cases h : t = 0
      · subst h; rfl
      · rw [if_neg (by omega)]
    · have := hc (t + i) (by omega) j hj
      rw [show off + (t + i) * 5 + j = off + t * 5 + i * 5 + j by omega] at this
      rw [this, List.getD_eq_getElem?_getD, List.getD_eq_getElem?_getD, List.getElem?_drop]
  · have e : t = n := by omega
    subst e
    cases ao with
    | none =>
      obtain ⟨rfl, rfl⟩ := h5 rfl
      refine ⟨none, fun w' => ?_, by simp [h1], by omega, by omega, fun h => absurd h (by omega), fun _ => ⟨rfl, rfl⟩⟩
      have e2 := e1 w'
      simp [Instr.slice, run_underlying Try.underlying24, sizeOf, typeInfo, hi0, Result.andThen, Instr.sliceBounds, Instr.sliceBound, asIntOf]
    | some a =>
      refine ⟨some (if cap = t then a else a.add (t * 5)), fun w' => ?_, by simp [h1], by omega, by omega, fun h => absurd h (by omega), fun h => by cases h⟩
      simp [Instr.slice, run_underlying Try.underlying24, e1, sizeOf, typeInfo, hi0, Result.andThen, hz1]
      split <;> rfl
end Go.Proofs.Ytlmimocmllhbkaa

/- the document's stack, as a list -/
import Derived.Test.YtbidappkmnedaaaJRef2
import Derived.Test.YtbidappkmnedaaaJStackL
namespace Go.Proofs.Ytbidappkmnedaaa
open Go.RowKit
/-- of the first i: those of kind k that are asked for. -/
def refK (L : List Jur) (ids : List Int) (k : Nat) : Nat → List Int
  | 0 => []
  | i + 1 => refK L ids k i ++ if (L.getD i j0).ki = (k : Int) ∧ ids.contains (L.getD i j0).id = true then [(L.getD i j0).id] else []
/-- kind by kind. -/
def refUp (L : List Jur) (ids : List Int) : Nat → List Int
  | 0 => []
  | q + 1 => refUp L ids q ++ refK L ids (q + 1) L.length
theorem refUp_step {L : List Jur} {ids : List Int} {c : Nat} (h : 1 ≤ c) : refUp L ids c = refUp L ids (c - 1) ++ refK L ids c L.length := by
  obtain ⟨q, rfl⟩ : ∃ q, c = q + 1 := ⟨c - 1, by omega⟩
  rfl
theorem refK_len {L : List Jur} {ids : List Int} {k : Nat} : ∀ i, (refK L ids k i).length ≤ i
  | 0 => Nat.le_refl _
  | i + 1 => by
    have := refK_len (L := L) (ids := ids) (k := k) i
    rw [refK, List.length_append]
    split <;> simp <;> omega
theorem refUp_len {L : List Jur} {ids : List Int} : ∀ q, (refUp L ids q).length ≤ q * L.length
  | 0 => by simp [refUp]
  | q + 1 => by
    have h1 := refUp_len (L := L) (ids := ids) q
    have h2 := refK_len (L := L) (ids := ids) (k := q + 1) L.length
    rw [refUp, List.length_append, Nat.add_mul, Nat.one_mul]
    omega
theorem mem_refK {L : List Jur} {ids : List Int} {k : Nat} {x : Int} : ∀ {i : Nat}, x ∈ refK L ids k i ↔ ∃ t, t < i ∧ (L.getD t j0).ki = (k : Int) ∧ (L.getD t j0).id = x ∧ x ∈ ids
  | 0 => by simp [refK]
  | i + 1 => by
    rw [refK, List.mem_append, mem_refK (i := i)]
    constructor
    · rintro (⟨t, h1, h2⟩ | h)
      · exact ⟨t, by omega, h2⟩
      · split at h
        · rename_i hc
          rw [List.mem_singleton] at h
          subst h
          exact ⟨i, by omega, hc.1, rfl, by simpa using hc.2⟩
        · cases h
    · rintro ⟨t, h1, h2, h3, h4⟩
      by_cases ht : t < i
      · exact .inl ⟨t, ht, h2, h3, h4⟩
      · obtain rfl : t = i := by omega
        right
        subst h3
        rw [if_pos ⟨h2, by simpa using h4⟩]
        simp
theorem mem_refUp {L : List Jur} {ids : List Int} {x : Int} : ∀ {q : Nat}, x ∈ refUp L ids q ↔ ∃ k, 1 ≤ k ∧ k ≤ q ∧ x ∈ refK L ids k L.length
  | 0 => by simp [refUp]; intro k h1 h2; omega
  | q + 1 => by
    rw [refUp, List.mem_append, mem_refUp (q := q)]
    constructor
    · rintro (⟨k, h1, h2, h3⟩ | h)
      · exact ⟨k, h1, by omega, h3⟩
      · exact ⟨q + 1, by omega, by omega, h⟩
    · rintro ⟨k, h1, h2, h3⟩
      by_cases hk : k ≤ q
      · exact .inl ⟨k, h1, hk, h3⟩
      · obtain rfl : k = q + 1 := by omega
        exact .inr h3
theorem rank_lt {L : List Jur} (h : (checkP L).1 = 0) {i : Nat} (h0 : 0 < i) (hi : i < L.length) : (L.getD (i - 1) j0).id < (L.getD i j0).id := by
  have := (check_ok h).2.1 i hi
  unfold rankP at this
  split at this
  · cases this
  · split at this
    · cases this
    · omega
theorem ids_lt {L : List Jur} (h : (checkP L).1 = 0) {a b : Nat} (hab : a < b) (hb : b < L.length) : (L.getD a j0).id < (L.getD b j0).id := by
  induction b with
  | zero => omega
  | succ b ih =>
    have h1 := rank_lt h (i := b + 1) (by omega) hb
    rw [Nat.add_sub_cancel] at h1
    by_cases he : a = b
    · subst he; exact h1
    · have := ih (by omega) (by omega)
      omega
theorem at_self {L : List Jur} (h : (checkP L).1 = 0) {t : Nat} (ht : t < L.length) : atJ L (L.getD t j0).id = some t :=
  atJ_some rfl ht rfl (fun i hi => by have := ids_lt h hi ht; omega)
theorem ki_mem {L : List Jur} (h : (checkP L).1 = 0) {ids : List Int} {k i : Nat} (hi : i ≤ L.length) {x : Int} (hx : x ∈ refK L ids k i) : kiOf L x = (k : Int) := by
  obtain ⟨t, h1, h2, h3, _⟩ := mem_refK.1 hx
  subst h3
  rw [kiOf_some (at_self h (by omega)), h2]
theorem refK_strict {L : List Jur} (h : (checkP L).1 = 0) {ids : List Int} {k : Nat} : ∀ i, i ≤ L.length → (refK L ids k i).Pairwise fun x y => ordJ L x y < 0
  | 0, _ => List.Pairwise.nil
  | i + 1, hi => by
    rw [refK, List.pairwise_append]
    refine ⟨refK_strict h i (by omega), ?_, fun x hx y hy => ?_⟩
    · split
      · simp
      · simp
    · split at hy
      · rename_i hc
        rw [List.mem_singleton] at hy
        subst hy
        obtain ⟨t, h1, h2, h3, _⟩ := mem_refK.1 hx
        rw [ordJ_lt, ki_mem h (by omega) hx, kiOf_some (at_self h (by omega)), hc.1]
        right
        subst h3
        exact ⟨rfl, ids_lt h h1 (by omega)⟩
      · cases hy
theorem refUp_strict {L : List Jur} (h : (checkP L).1 = 0) {ids : List Int} : ∀ q, (refUp L ids q).Pairwise fun x y => ordJ L x y < 0
  | 0 => List.Pairwise.nil
  | q + 1 => by
    rw [refUp, List.pairwise_append]
    refine ⟨refUp_strict h q, refK_strict h _ (Nat.le_refl _), fun x hx y hy => ?_⟩
    obtain ⟨k, h1, h2, h3⟩ := mem_refUp.1 hx
    rw [ordJ_lt, ki_mem h (Nat.le_refl _) h3, ki_mem h (Nat.le_refl _) hy]
    left
    omega
theorem ref_stack {L : List Jur} {ids : List Int} (h : (checkP L).1 = 0) (ha : ∀ x ∈ ids, atJ L x ≠ none) (hn : ids.Nodup) : StackIs L ids 0 (refUp L ids 4) := by
  refine ⟨fun hc => absurd h hc, fun _ ⟨x, hx, hy⟩ => absurd hy (ha x hx), fun _ _ hc => absurd hn hc, fun _ _ _ => ⟨rfl, ?_, ?_⟩⟩
  · have hs := refUp_strict h (ids := ids) 4
    have hnd : (refUp L ids 4).Nodup := hs.imp (fun {a b} hab e => by subst e; rw [ordJ_lt] at hab; omega)
    have hmem : ∀ x, x ∈ refUp L ids 4 ↔ x ∈ ids := fun x => by
      constructor
      · intro hx
        obtain ⟨k, _, _, h3⟩ := mem_refUp.1 hx
        obtain ⟨t, _, _, _, h4⟩ := mem_refK.1 h3
        exact h4
      · intro hx
        cases hat : atJ L x with
        | none => exact absurd hat (ha x hx)
        | some t =>
          obtain ⟨h1, h2, _⟩ := atJ_lt hat
          have hk := kind_ok h h1
          obtain ⟨k, hkk⟩ : ∃ k : Nat, (L.getD t j0).ki = (k : Int) := ⟨(L.getD t j0).ki.toNat, by omega⟩
          exact mem_refUp.2 ⟨k, by omega, by omega, mem_refK.2 ⟨t, h1, hkk, h2, hx⟩⟩
    rw [List.perm_iff_count]
    intro x
    have c1 := List.nodup_iff_count.1 hnd x
    have c2 := List.nodup_iff_count.1 hn x
    by_cases hx : x ∈ ids
    · have p1 := List.count_pos_iff.2 hx
      have p2 := List.count_pos_iff.2 ((hmem x).2 hx)
      omega
    · rw [List.count_eq_zero.2 hx, List.count_eq_zero.2 (fun hc => hx ((hmem x).1 hc))]
  · rw [sortedJ_iff]
    exact (refUp_strict h (ids := ids) 4).imp (fun {a b} hab hc => by rw [ordJ_lt] at hab hc; omega)
end Go.Proofs.Ytbidappkmnedaaa

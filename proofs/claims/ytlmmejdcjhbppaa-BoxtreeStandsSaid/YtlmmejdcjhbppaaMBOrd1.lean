/- the document's order: what an insertion does (no program in sight) -/
import Derived.Test.YtlmmejdcjhbppaaMBox1
set_option linter.unusedSimpArgs false
set_option linter.unusedVariables false
namespace Go.Proofs.Ytlmmejdcjhbppaa
open Go.Geo
/-- one place put into a sorted list. -/
theorem insert_sorted {L : List Bx} {ac : Bool} {S : List Int} {x : Int} {k : Nat} (hs : S.Pairwise (ltI L ac)) (hk : k ≤ S.length) (hx : x ∉ S) (hup : ∀ y ∈ S.drop k, ltI L ac x y) (hlow : k = 0 ∨ ¬ ltI L ac x (S.getD (k - 1) 0)) : (S.take k ++ [x] ++ S.drop k).Pairwise (ltI L ac) := by
  have hs2 : (S.take k ++ S.drop k).Pairwise (ltI L ac) := by rw [List.take_append_drop]; exact hs
  obtain ⟨p1, p2, p3⟩ := List.pairwise_append.1 hs2
  have hlt : ∀ a ∈ S.take k, ltI L ac a x := by
    intro a ha
    rcases hlow with h0 | h0
    · subst h0; simp at ha
    · have hk0 : 0 < k := by
        rcases Nat.eq_zero_or_pos k with h | h
        · subst h; simp at ha
        · exact h
      obtain ⟨j, hj⟩ : ∃ j, k = j + 1 := ⟨k - 1, by omega⟩
      subst hj
      have hjl : j < S.length := by omega
      rw [Nat.add_sub_cancel] at h0
      have hget : S.getD j 0 = S[j] := by rw [List.getD_eq_getElem?_getD, List.getElem?_eq_getElem hjl]; rfl
      rw [hget] at h0
      have hlast : ltI L ac S[j] x := by
        rcases ltI_total L ac x S[j] with h | h | h
        · exact absurd h h0
        · exact absurd (h ▸ List.getElem_mem hjl) hx
        · exact h
      rw [List.take_add_one, List.getElem?_eq_getElem hjl, List.pairwise_append] at p1
      rw [List.take_add_one, List.getElem?_eq_getElem hjl] at ha
      rcases List.mem_append.1 ha with h | h
      · exact ltI_trans (p1.2.2 a h S[j] (by simp)) hlast
      · have : a = S[j] := by simpa using h
        rw [this]; exact hlast
  rw [List.append_assoc, List.pairwise_append]
  refine ⟨p1, ?_, ?_⟩
  · rw [List.singleton_append, List.pairwise_cons]
    exact ⟨hup, p2⟩
  · intro a ha b hb
    rcases List.mem_append.1 hb with h | h
    · rw [List.mem_singleton.1 h]; exact hlt a ha
    · exact p3 a ha b h
theorem insert_perm {S : List Int} {x : Int} {k : Nat} : (S.take k ++ [x] ++ S.drop k).Perm (S ++ [x]) := by
  have h1 : (S.take k ++ [x] ++ S.drop k).Perm (S.take k ++ S.drop k ++ [x]) := by
    rw [List.append_assoc, List.append_assoc]
    exact List.Perm.append_left _ List.perm_append_comm
  rw [List.take_append_drop] at h1
  exact h1
/-- the test of the document: less, or as much and the lower place. -/
theorem ahead_lt (L : List Bx) (ac : Bool) (x y : Int) : ((decide (keyB ac (bxI L x) < keyB ac (bxI L y)) || (!(decide (keyB ac (bxI L y) < keyB ac (bxI L x))) && decide (x < y))) = true) ↔ ltI L ac x y := by
  unfold ltI
  simp only [Bool.or_eq_true, Bool.and_eq_true, Bool.not_eq_true', decide_eq_true_eq, decide_eq_false_iff_not]
  omega
theorem drop_step {S : List Int} {k : Nat} (hk : k < S.length) {L : List Bx} {ac : Bool} {x : Int} (hup : ∀ y ∈ S.drop (k + 1), ltI L ac x y) (h : ltI L ac x (S.getD k 0)) : ∀ y ∈ S.drop k, ltI L ac x y := by
  intro y hy
  rw [List.drop_eq_getElem_cons hk] at hy
  rcases List.mem_cons.1 hy with e | h2
  · rw [List.getD_eq_getElem?_getD, List.getElem?_eq_getElem hk] at h
    rw [e]; exact h
  · exact hup y h2
end Go.Proofs.Ytlmmejdcjhbppaa

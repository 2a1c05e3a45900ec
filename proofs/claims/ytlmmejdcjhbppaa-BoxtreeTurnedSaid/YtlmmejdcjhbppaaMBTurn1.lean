/- BoxtreeTurned: the plain law (no program in sight) -/
import Derived.Test.YtlmmejdcjhbppaaMBox1
set_option linter.unusedSimpArgs false
set_option linter.unusedVariables false
namespace Go.Proofs.Ytlmmejdcjhbppaa
open Go.Geo
structure TurnI (L M : List Bx) (A : List Int) : Prop where
  len : M.length = L.length
  perm : A.Perm (allI L.length)
  eq : ∀ j, j < L.length → M.getD j bx0 = bxI L (A.getD j 0)
theorem TurnI.alen {L M : List Bx} {A : List Int} (h : TurnI L M A) : A.length = L.length := by rw [h.perm.length_eq, allI_len]
theorem allI_getD {n j : Nat} (h : j < n) : (allI n).getD j 0 = (j : Int) := by
  unfold allI
  rw [List.getD_eq_getElem?_getD, List.getElem?_map, List.getElem?_range h]; rfl
theorem TurnI.start (L : List Bx) : TurnI L L (allI L.length) := ⟨rfl, List.Perm.refl _, fun j hj => by rw [allI_getD hj]; unfold bxI; rw [Int.toNat_natCast]⟩
theorem getD_sw {α : Type} {X : List α} {a b : Nat} {d : α} (ha : a < X.length) (hb : b < X.length) (j : Nat) : ((X.set a (X.getD b d)).set b (X.getD a d)).getD j d = X.getD (if j = b then a else if j = a then b else j) d := by
  rw [List.getD_eq_getElem?_getD, List.getElem?_set]
  by_cases h1 : b = j
  · subst h1
    rw [if_pos rfl, if_pos (by simpa using hb), if_pos rfl]; rfl
  · rw [if_neg h1, List.getElem?_set, if_neg (show ¬ j = b from fun e => h1 e.symm)]
    by_cases h2 : a = j
    · subst h2
      rw [if_pos rfl, if_pos ha, if_pos rfl]; rfl
    · rw [if_neg h2, if_neg (show ¬ j = a from fun e => h2 e.symm)]; exact (List.getD_eq_getElem?_getD ..).symm
theorem perm_sw {A : List Int} {a b : Nat} (ha : a < A.length) (hb : b < A.length) : ((A.set a (A.getD b 0)).set b (A.getD a 0)).Perm A := by
  have e1 : A.getD b 0 = A[b] := by rw [List.getD_eq_getElem?_getD, List.getElem?_eq_getElem hb]; rfl
  have e2 : A.getD a 0 = A[a] := by rw [List.getD_eq_getElem?_getD, List.getElem?_eq_getElem ha]; rfl
  rw [e1, e2]
  exact List.set_set_perm ha hb
theorem TurnI.swap {L M : List Bx} {A : List Int} (h : TurnI L M A) {a b : Nat} (ha : a < L.length) (hb : b < L.length) : TurnI L ((M.set a (M.getD b bx0)).set b (M.getD a bx0)) ((A.set a (A.getD b 0)).set b (A.getD a 0)) := by
  have hl := h.alen
  refine ⟨by simp [h.len], (perm_sw (by omega) (by omega)).trans h.perm, fun j hj => ?_⟩
  rw [getD_sw (by rw [h.len]; exact ha) (by rw [h.len]; exact hb), getD_sw (by omega) (by omega)]
  refine h.eq _ ?_
  split
  · exact ha
  · split
    · exact hb
    · exact hj
/-- what is asked of the turned list, as places of the list. -/
theorem TurnI.asked {L M : List Bx} {A : List Int} (h : TurnI L M A) (q : Bx → Bool) : ((askB q M).map (fun y => A.getD y.toNat 0)).Perm (askB q L) := by
  have hA : A = (allI L.length).map (fun y => A.getD y.toNat 0) := by
    apply List.ext_getElem?
    intro j
    by_cases hj : j < L.length
    · have hjA : j < A.length := by rw [h.alen]; exact hj
      unfold allI
      rw [List.getElem?_map, List.getElem?_map, List.getElem?_range hj, List.getElem?_eq_getElem hjA]
      simp [List.getElem?_eq_getElem hjA]
    · rw [List.getElem?_eq_none (by rw [h.alen]; omega), List.getElem?_eq_none (by simp [allI]; omega)]
  have e : (askB q M).map (fun y => A.getD y.toNat 0) = A.filter (fun x => q (bxI L x)) := by
    rw [askB_filter, h.len]
    conv => rhs; rw [hA]
    rw [List.filter_map]
    congr 1
    refine List.filter_congr fun y hy => ?_
    obtain ⟨y0, y1⟩ := allI_mem.1 hy
    have := h.eq y.toNat (by omega)
    unfold bxI at this ⊢
    simp only [Function.comp]
    rw [this]
  rw [e, askB_filter]
  exact h.perm.filter _
theorem TurnI.count {L M : List Bx} {A : List Int} (h : TurnI L M A) (q : Bx → Bool) : (askB q M).length = (askB q L).length := by
  have := (h.asked q).length_eq
  rwa [List.length_map] at this
theorem askB_at {q : Bx → Bool} {M : List Bx} {k : Nat} (hk : k < (askB q M).length) : ∃ y : Nat, (askB q M).getD k 0 = (y : Int) ∧ y < M.length := by
  have h1 : (askB q M).getD k 0 ∈ askB q M := by
    rw [List.getD_eq_getElem?_getD, List.getElem?_eq_getElem hk]; exact List.getElem_mem _
  obtain ⟨⟨h2, h3⟩, _⟩ := askB_mem.1 h1
  exact ⟨((askB q M).getD k 0).toNat, by omega, by omega⟩
theorem askB_rise {q : Bx → Bool} {M : List Bx} {k : Nat} (hk : k + 1 < (askB q M).length) : (askB q M).getD k 0 < (askB q M).getD (k + 1) 0 := by
  have h := askB_sorted q M
  rw [List.getD_eq_getElem?_getD, List.getElem?_eq_getElem (by omega), List.getD_eq_getElem?_getD, List.getElem?_eq_getElem hk]
  exact List.pairwise_iff_getElem.1 h _ _ _ _ (by omega)
/-- is a place marked by the first k that are told? -/
def marked (A Y : List Int) (k j : Nat) : Bool := decide (∃ t ∈ Y.take k, A.getD t.toNat 0 = (j : Int))
theorem marked_zero (A Y : List Int) (j : Nat) : marked A Y 0 j = false := by unfold marked; simp
theorem marked_step {A Y : List Int} {k y j : Nat} (hk : k < Y.length) (hy : Y.getD k 0 = (y : Int)) (hj : A.getD y 0 = (j : Int)) (i : Nat) : marked A Y (k + 1) i = if i = j then true else marked A Y k i := by
  unfold marked
  have e : Y.take (k + 1) = Y.take k ++ [(y : Int)] := by
    rw [List.take_add_one, List.getElem?_eq_getElem hk]
    rw [List.getD_eq_getElem?_getD, List.getElem?_eq_getElem hk, Option.getD_some] at hy
    rw [hy]; rfl
  rw [e]
  by_cases h : i = j
  · subst h
    rw [if_pos rfl]
    exact decide_eq_true ⟨(y : Int), by simp, by rw [Int.toNat_natCast]; exact hj⟩
  · rw [if_neg h]
    have e3 : (∃ t ∈ Y.take k ++ [(y : Int)], A.getD t.toNat 0 = (i : Int)) ↔ ∃ t ∈ Y.take k, A.getD t.toNat 0 = (i : Int) := by
      constructor
      · rintro ⟨t, ht, e2⟩
        rcases List.mem_append.1 ht with h1 | h1
        · exact ⟨t, h1, e2⟩
        · obtain rfl := List.mem_singleton.1 h1
          rw [Int.toNat_natCast, hj] at e2
          exact absurd (by omega) h
      · rintro ⟨t, ht, e2⟩
        exact ⟨t, List.mem_append_left _ ht, e2⟩
    exact decide_eq_decide.2 e3
theorem TurnI.marks {L M : List Bx} {A : List Int} (h : TurnI L M A) (q : Bx → Bool) {k x : Nat} (hk : k < (askB q L).length) (hx : (askB q L).getD k 0 = (x : Int)) : marked A (askB q M) (askB q M).length x = true := by
  have hm : (x : Int) ∈ askB q L := by
    rw [← hx, List.getD_eq_getElem?_getD, List.getElem?_eq_getElem hk]; exact List.getElem_mem _
  have := (h.asked q).symm.subset hm
  obtain ⟨t, ht, e⟩ := List.mem_map.1 this
  exact decide_eq_true ⟨t, by rw [List.take_length]; exact ht, e⟩
theorem TurnI.place {L M : List Bx} {A : List Int} (h : TurnI L M A) {y : Nat} (hy : y < L.length) : ∃ j : Nat, A.getD y 0 = (j : Int) ∧ j < L.length := by
  have hl := h.alen
  have h1 : A.getD y 0 ∈ A := by rw [List.getD_eq_getElem?_getD, List.getElem?_eq_getElem (by omega)]; exact List.getElem_mem _
  obtain ⟨h2, h3⟩ := allI_mem.1 (h.perm.subset h1)
  exact ⟨(A.getD y 0).toNat, by omega, by omega⟩
end Go.Proofs.Ytlmmejdcjhbppaa

/- sorted certificates, in plain words: what Check says of them, and for whom they hold -/
import Derived.Test.YtlmimocmllhbkaaCCompW
namespace Go.Proofs.Ytlmimocmllhbkaa
theorem mem_getD {L : List Crt} {i : Nat} (h : i < L.length) : L.getD i c0 ∈ L := by
  rw [List.getD_eq_getElem?_getD, List.getElem?_eq_getElem h]; exact List.getElem_mem h
theorem getD_of_mem {L : List Crt} {c : Crt} (h : c ∈ L) : ∃ i, i < L.length ∧ L.getD i c0 = c := by
  obtain ⟨i, hi, rfl⟩ := List.mem_iff_getElem.1 h
  exact ⟨i, hi, by rw [List.getD_eq_getElem?_getD, List.getElem?_eq_getElem hi]; rfl⟩
def Rising (M : List Crt) : Prop := M.Pairwise fun a b => cmpC a b < 0
theorem dedN_facts {N : List Crt} (hs : ∀ i j, i < j → j < N.length → ¬ cmpC (N.getD j c0) (N.getD i c0) < 0) : ∀ k, 1 ≤ k → k ≤ N.length →
    (∀ c, c ∈ dedN N k ↔ c ∈ N.take k) ∧ (dedN N k).length ≤ k ∧ Rising (dedN N k) ∧ (∀ e ∈ dedN N k, e = N.getD (k - 1) c0 ∨ cmpC e (N.getD (k - 1) c0) < 0)
  | 0, h, _ => absurd h (by omega)
  | 1, _, h1 => by
    refine ⟨fun c => ?_, by simp [dedN], by simp [dedN, Rising], fun e he => ?_⟩
    · have := take_more (L := N) (k := 0) (by omega)
      rw [this]; simp [dedN]
    · simp [dedN] at he; exact .inl he
  | k + 2, _, h2 => by
    obtain ⟨i1, i2, i3, i4⟩ := dedN_facts hs (k + 1) (by omega) (by omega)
    have ht := take_more (L := N) (k := k + 1) (by omega)
    simp only [Nat.add_sub_cancel] at i4
    cases he : eqC (N.getD (k + 1) c0) (N.getD k c0) with
    | true =>
      have e := (eqC_iff _ _).1 he
      have hd := dedN_same (L := N) (k := k + 1) (by omega) (by simpa using he)
      rw [hd]
      refine ⟨fun c => ?_, by omega, i3, fun x hx => ?_⟩
      · rw [ht, List.mem_append, List.mem_singleton, i1 c]
        constructor
        · exact .inl
        · rintro (h | h)
          · exact h
          · rw [h, e]
            have := take_more (L := N) (k := k) (by omega)
            rw [this]; simp
      · have := i4 x hx
        show x = N.getD (k + 2 - 1) c0 ∨ cmpC x (N.getD (k + 2 - 1) c0) < 0
        rw [show k + 2 - 1 = k + 1 by omega, e]; exact this
    | false =>
      have hne := eqC_false.1 he
      have hd := dedN_more (L := N) (k := k + 1) (by omega) (by simpa using he)
      have hlt : cmpC (N.getD k c0) (N.getD (k + 1) c0) < 0 := by
        by_cases h : cmpC (N.getD k c0) (N.getD (k + 1) c0) < 0
        · exact h
        · exact absurd (cmpC_total (hs k (k + 1) (by omega) (by omega)) h) hne
      have hall : ∀ e ∈ dedN N (k + 1), cmpC e (N.getD (k + 1) c0) < 0 := fun e he2 => by
        rcases i4 e he2 with h | h
        · rw [h]; exact hlt
        · exact cmpC_trans h hlt
      rw [hd]
      refine ⟨fun c => ?_, by simp; omega, ?_, fun x hx => ?_⟩
      · rw [ht, List.mem_append, List.mem_append, i1 c]
      · unfold Rising
        rw [List.pairwise_append]
        exact ⟨i3, List.pairwise_singleton _ _, fun a ha b hb => by rw [List.mem_singleton.1 hb]; exact hall a ha⟩
      · show x = N.getD (k + 2 - 1) c0 ∨ cmpC x (N.getD (k + 2 - 1) c0) < 0
        rw [show k + 2 - 1 = k + 1 by omega]
        rcases List.mem_append.1 hx with h | h
        · exact .inr (hall x h)
        · exact .inl (List.mem_singleton.1 h)
theorem chk_zero (L : List Crt) : ∀ f i, (chk L f i).1 = 0 ↔ ∀ j, i ≤ j → j < i + f → fineC (L.getD j c0) = true ∧ placed L j
  | 0, i => by simp only [chk, Nat.add_zero]; exact ⟨fun _ j h1 h2 => absurd h2 (by omega), fun _ => trivial⟩
  | f + 1, i => by
    rw [chk]
    by_cases h1 : fineC (L.getD i c0) = true
    · rw [if_pos h1]
      by_cases h2 : placed L i
      · rw [if_pos h2, chk_zero L f (i + 1)]
        constructor
        · intro h j hj1 hj2
          by_cases e : j = i
          · subst e; exact ⟨h1, h2⟩
          · exact h j (by omega) (by omega)
        · intro h j hj1 hj2; exact h j (by omega) (by omega)
      · rw [if_neg h2]
        constructor
        · intro h; simp at h
        · intro h; exact absurd (h i (by omega) (by omega)).2 h2
    · rw [if_neg h1]
      constructor
      · intro h; simp at h
      · intro h; exact absurd (h i (by omega) (by omega)).1 h1
def okC (c : Crt) : Prop := fineC c = true ∧ c.fr ≤ c.to
theorem check_zero (L : List Crt) : (checkP L).1 = 0 ↔ L.length ≤ 500 ∧ ∀ j, j < L.length → fineC (L.getD j c0) = true ∧ placed L j := by
  unfold checkP
  by_cases h : 500 < L.length
  · rw [if_pos h]
    constructor
    · intro h1; simp at h1
    · intro h1; omega
  · rw [if_neg h, chk_zero]
    constructor
    · intro h1; exact ⟨by omega, fun j hj => h1 j (by omega) (by omega)⟩
    · intro h1 j _ hj; exact h1.2 j (by omega)
theorem check_one (c : Crt) : (checkP [c]).1 = 0 ↔ okC c := by
  rw [check_zero]
  constructor
  · intro h
    have := h.2 0 (by simp)
    exact ⟨this.1, this.2.1⟩
  · intro h
    refine ⟨by simp, fun j hj => ?_⟩
    obtain rfl : j = 0 := by simpa using hj
    exact ⟨h.1, h.2, .inl rfl⟩
theorem rising_getD {M : List Crt} (h : Rising M) {i j : Nat} (hij : i < j) (hj : j < M.length) : cmpC (M.getD i c0) (M.getD j c0) < 0 := by
  have := List.pairwise_iff_getElem.1 h i j (by omega) hj hij
  rw [List.getD_eq_getElem?_getD, List.getD_eq_getElem?_getD, List.getElem?_eq_getElem hj, List.getElem?_eq_getElem (by omega)]
  exact this
theorem check_rising {M : List Crt} (h : Rising M) (hok : ∀ c ∈ M, okC c) (hl : M.length ≤ 500) : (checkP M).1 = 0 := by
  rw [check_zero]
  refine ⟨hl, fun j hj => ?_⟩
  have h1 := hok _ (mem_getD hj)
  refine ⟨h1.1, h1.2, ?_⟩
  by_cases e : j = 0
  · exact .inl e
  · exact .inr (rising_getD h (by omega) hj)
theorem ok_of_check {L : List Crt} (h : (checkP L).1 = 0) : ∀ c ∈ L, okC c := by
  intro c hc
  obtain ⟨i, hi, rfl⟩ := getD_of_mem hc
  have := ((check_zero L).1 h).2 i hi
  exact ⟨this.1, this.2.1⟩
theorem anyP_congr {L M : List Crt} (h : ∀ c, c ∈ M ↔ c ∈ L) (q : Qst) : anyP M q = anyP L q := by
  unfold anyP
  rw [Bool.eq_iff_iff, List.any_eq_true, List.any_eq_true]
  constructor
  · rintro ⟨c, hc, hh⟩; exact ⟨c, (h c).1 hc, hh⟩
  · rintro ⟨c, hc, hh⟩; exact ⟨c, (h c).2 hc, hh⟩
theorem anyP_filter (M : List Crt) (q : Qst) : anyP (M.filter fun c => decide (c.cu = q.cu)) q = anyP M q := by
  unfold anyP
  rw [Bool.eq_iff_iff, List.any_eq_true, List.any_eq_true]
  constructor
  · rintro ⟨c, hc, hh⟩; exact ⟨c, (List.mem_filter.1 hc).1, hh⟩
  · rintro ⟨c, hc, hh⟩
    refine ⟨c, List.mem_filter.2 ⟨hc, ?_⟩, hh⟩
    unfold holdsP fitsP at hh
    simp only [Bool.and_eq_true, decide_eq_true_eq] at hh ⊢
    exact hh.1.1.1
theorem rising_filter {M : List Crt} (h : Rising M) (p : Crt → Bool) : Rising (M.filter p) := List.Pairwise.filter p h
end Go.Proofs.Ytlmimocmllhbkaa

/- layer 16: the reference: All -/
import Derived.Test.YtbgihfjagfbfgaaDoorMWRef2
import Derived.Test.YtbgihfjagfbfgaaDoorMWAll
set_option linter.unusedSimpArgs false
set_option linter.unusedVariables false
namespace Go.Proofs.YtbgihfjagfbfgaaDoor
open Go.RowKit Go.Words
attribute [local go_sem] Oper.semAt_some
/-- may a short form be the next one? -/
def cand (S : List Wd) (m : Nat) (s : Wd) : Prop := m = 0 ∨ S.getD (m - 1) [] < s
/-- the best of the first i. -/
def BestP (S : List Wd) (m : Nat) (P : List Pr) (i : Nat) (b : Wd) : Prop := (b = [] ∧ ∀ j, j < i → ¬ cand S m (P.getD j pr0).2) ∨ (b ≠ [] ∧ cand S m b ∧ b ∈ S ∧ ∀ j, j < i → cand S m (P.getD j pr0).2 → b ≤ (P.getD j pr0).2)
theorem BestP.start (S : List Wd) (m : Nat) (P : List Pr) : BestP S m P 0 [] := .inl ⟨rfl, fun j hj => absurd hj (by omega)⟩
theorem BestP.take {S : List Wd} {m : Nat} {P : List Pr} {i : Nat} {b s : Wd} (h : BestP S m P i b) (hs : s = (P.getD i pr0).2) (hm : s ∈ S) (hne : s ≠ []) (hc : cand S m s) (hb : b = [] ∨ s < b) : BestP S m P (i + 1) s := by
  refine .inr ⟨hne, hc, hm, fun j hj hcj => ?_⟩
  by_cases e : j = i
  · subst e; rw [← hs]; exact List.le_refl _
  · rcases h with ⟨_, h2⟩ | ⟨h1, _, _, h4⟩
    · exact absurd hcj (h2 j (by omega))
    · rcases hb with hb | hb
      · exact absurd hb h1
      · exact List.le_trans (List.le_of_lt hb) (h4 j (by omega) hcj)
theorem BestP.pass {S : List Wd} {m : Nat} {P : List Pr} {i : Nat} {b s : Wd} (h : BestP S m P i b) (hs : s = (P.getD i pr0).2) (hc : ¬ (cand S m s ∧ (b = [] ∨ s < b))) : BestP S m P (i + 1) b := by
  rcases h with ⟨h1, h2⟩ | ⟨h1, h2, h3, h4⟩
  · refine .inl ⟨h1, fun j hj => ?_⟩
    by_cases e : j = i
    · subst e; rw [← hs]; exact fun hq => hc ⟨hq, .inl h1⟩
    · exact h2 j (by omega)
  · refine .inr ⟨h1, h2, h3, fun j hj hcj => ?_⟩
    by_cases e : j = i
    · subst e
      rw [← hs] at hcj ⊢
      exact List.not_lt.1 fun hq => hc ⟨hcj, .inr hq⟩
    · exact h4 j (by omega) hcj
/-- behind all the best is the next one. -/
theorem BestP.done {k : Int} {m : Nat} {b : Wd} (h : BestP (kindS k) m (kindP k) (kindP k).length b) (hm : m < (kindS k).length) : b = (kindS k).getD m [] := by
  have hmem := getD_memS hm
  have hcm : cand (kindS k) m ((kindS k).getD m []) := by
    by_cases h0 : m = 0
    · exact .inl h0
    · exact .inr (all_rise2 k (by omega) hm)
  obtain ⟨p, hp, e⟩ := kindS_mem.1 hmem
  obtain ⟨j, hj, hpj⟩ := List.mem_iff_getElem.1 hp
  have hgj : ((kindP k).getD j pr0).2 = (kindS k).getD m [] := by rw [List.getD_eq_getElem?_getD, List.getElem?_eq_getElem hj, Option.getD_some, hpj, e]
  rcases h with ⟨_, h2⟩ | ⟨_, h2, h3, h4⟩
  · exact absurd (by rw [hgj]; exact hcm) (h2 j hj)
  · have h5 := h4 j hj (by rw [hgj]; exact hcm)
    rw [hgj] at h5
    obtain ⟨t, ht, hbt⟩ := List.mem_iff_getElem.1 h3
    have hbt2 : (kindS k).getD t [] = b := by rw [List.getD_eq_getElem?_getD, List.getElem?_eq_getElem ht, Option.getD_some, hbt]
    by_cases htm : t < m
    · exfalso
      rcases h2 with h2 | h2
      · omega
      · by_cases e2 : t = m - 1
        · rw [← e2, hbt2] at h2
          exact List.lt_irrefl _ h2
        · have := all_rise2 k (j := t) (i := m - 1) (by omega) (by omega)
          rw [hbt2] at this
          exact List.lt_irrefl _ (List.lt_trans this h2)
    · by_cases e2 : t = m
      · rw [← hbt2, e2]
      · have := all_rise2 k (j := m) (i := t) (by omega) ht
        rw [hbt2] at this
        exact absurd this (List.not_lt.2 h5)
theorem kindS_ne (k : Int) : (kindS k).all (fun s => decide (s ≠ [])) = true := by
  unfold kindS
  split
  · decide +kernel
  split
  · decide +kernel
  split
  · decide +kernel
  split
  · decide +kernel
  · decide
theorem kindS_lenP (k : Int) : (kindS k).length = (kindP k).length := by
  rw [← kindS_is]
  unfold sortW
  rw [List.length_mergeSort, List.length_map]
end Go.Proofs.YtbgihfjagfbfgaaDoor

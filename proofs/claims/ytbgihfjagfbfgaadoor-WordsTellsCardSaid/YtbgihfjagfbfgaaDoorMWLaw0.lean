/- layer 16: the laws' awake; what the pairs say -/
import Derived.Test.YtbgihfjagfbfgaaDoorMWShort
import Derived.Test.YtbgihfjagfbfgaaDoorMW2
set_option linter.unusedSimpArgs false
set_option linter.unusedVariables false
namespace Go.Proofs.YtbgihfjagfbfgaaDoor
open Go.RowKit Go.Words
attribute [local go_sem] Oper.semAt_some
theorem kind_cases (k : Int) : kindP k = sufP ∨ kindP k = dirP ∨ kindP k = staP ∨ kindP k = uniP ∨ kindP k = [] := by
  unfold kindP
  by_cases h1 : k = 1
  · exact .inl (if_pos h1)
  rw [if_neg h1]
  by_cases h2 : k = 2
  · exact .inr (.inl (if_pos h2))
  rw [if_neg h2]
  by_cases h3 : k = 3
  · exact .inr (.inr (.inl (if_pos h3)))
  rw [if_neg h3]
  by_cases h4 : k = 4
  · exact .inr (.inr (.inr (.inl (if_pos h4))))
  exact .inr (.inr (.inr (.inr (if_neg h4))))
theorem kind_all {Q : List Pr → Prop} (h1 : Q sufP) (h2 : Q dirP) (h3 : Q staP) (h4 : Q uniP) (h5 : Q []) (k : Int) : Q (kindP k) := by
  rcases kind_cases k with h | h | h | h | h <;> rw [h] <;> assumption
theorem kind_good (k : Int) : goodP (kindP k) = true := kind_all (Q := fun P => goodP P = true) suf_good dir_good sta_good uni_good rfl k
theorem short_is (k : Int) (l : Wd) : shortF (kindP k) l = firstS (kindP k) l := shortF_first _ (kind_good k) l
theorem long_is (k : Int) (l : Wd) : longF (kindP k) l = firstL (kindP k) l := longF_first _ (kind_good k) l
def lenP (P : List Pr) : Bool := P.all fun p => decide (p.2.length ≤ p.1.length)
theorem kind_len (k : Int) : lenP (kindP k) = true := kind_all (Q := fun P => lenP P = true) (by decide +kernel) (by decide +kernel) (by decide +kernel) (by decide +kernel) rfl k
theorem firstS_some {P : List Pr} {l a : Wd} (h : firstS P l = some a) : ∃ p ∈ P, (p.1 = l ∨ p.2 = l) ∧ p.2 = a := by
  unfold firstS at h
  cases hf : P.find? (fun p => decide (p.1 = l) || decide (p.2 = l)) with
  | none => rw [hf] at h; cases h
  | some q =>
    rw [hf] at h
    injection h with h
    have hq := List.find?_some hf
    simp only [Bool.or_eq_true, decide_eq_true_eq] at hq
    exact ⟨q, List.mem_of_find?_eq_some hf, hq, h⟩
theorem firstL_some {P : List Pr} {l a : Wd} (h : firstL P l = some a) : ∃ p ∈ P, p.2 = l ∧ p.1 = a := by
  unfold firstL at h
  cases hf : P.find? (fun p => decide (p.2 = l)) with
  | none => rw [hf] at h; cases h
  | some q =>
    rw [hf] at h
    injection h with h
    have hq := List.find?_some hf
    simp only [decide_eq_true_eq] at hq
    exact ⟨q, List.mem_of_find?_eq_some hf, hq, h⟩
theorem firstS_of {P : List Pr} (hg : goodP P = true) {p : Pr} (hp : p ∈ P) {l : Wd} (h : p.1 = l ∨ p.2 = l) : firstS P l = some p.2 := by
  cases hf : firstS P l with
  | none =>
    unfold firstS at hf
    rw [Option.map_eq_none_iff, List.find?_eq_none] at hf
    have := hf p hp
    simp only [Bool.or_eq_true, decide_eq_true_eq] at this
    exact absurd h this
  | some a =>
    obtain ⟨q, hq, hql, rfl⟩ := firstS_some hf
    have g1 := good_at hg hp hq
    have g2 := good_at hg hq hp
    congr 1
    rcases h with h | h <;> rcases hql with e | e
    · exact g2.1 (e.trans h.symm)
    · exact (g1.2.1 (h.trans e.symm)).symm
    · exact g2.2.1 (e.trans h.symm)
    · exact e.trans h.symm
theorem firstL_of {P : List Pr} (hg : goodP P = true) {p : Pr} (hp : p ∈ P) {l : Wd} (h : p.2 = l) : firstL P l = some p.1 := by
  cases hf : firstL P l with
  | none =>
    unfold firstL at hf
    rw [Option.map_eq_none_iff, List.find?_eq_none] at hf
    have := hf p hp
    simp only [decide_eq_true_eq] at this
    exact absurd h this
  | some a =>
    obtain ⟨q, hq, hql, rfl⟩ := firstL_some hf
    congr 1
    exact (good_at hg hq hp).2.2 (hql.trans h.symm)
theorem firstL_none {P : List Pr} {l : Wd} (h : firstS P l = none) : firstL P l = none := by
  unfold firstS at h
  unfold firstL
  rw [Option.map_eq_none_iff, List.find?_eq_none] at h ⊢
  intro p hp
  have := h p hp
  simp only [Bool.or_eq_true, decide_eq_true_eq] at this ⊢
  exact fun e => this (.inr e)
/-- a short form is its own, and has one long word, whose short form it is. -/
theorem back_of {P : List Pr} (hg : goodP P = true) (hl : lenP P = true) {l a : Wd} (h : firstS P l = some a) : ∃ lg, firstL P a = some lg ∧ firstS P lg = some a ∧ firstS P a = some a ∧ (l = a ∨ l = lg) ∧ a.length ≤ lg.length := by
  obtain ⟨p, hp, hpl, rfl⟩ := firstS_some h
  refine ⟨p.1, firstL_of hg hp rfl, firstS_of hg hp (.inl rfl), firstS_of hg hp (.inr rfl), ?_, of_decide_eq_true (List.all_eq_true.1 hl p hp)⟩
  rcases hpl with e | e
  · exact .inr e.symm
  · exact .inl e.symm
theorem street_st : firstS (kindP 1) [83, 84, 82, 69, 69, 84] = some [83, 84] := by decide +kernel
theorem ny_long : firstL (kindP 3) [78, 89] = some [78, 69, 87, 32, 89, 79, 82, 75] := by decide +kernel
theorem bs_size (l : Wd) : (bs l).size = l.length := by unfold bs ByteArray.size; simp
set_option maxRecDepth 100000 in
set_option maxHeartbeats 1000000 in
theorem awake_any (w : World) (h : Tb w) : Calls Tryd.prog 8 #[] w fun e w' => e = .returned (.bool true) ∧ Below w.heap.size w w' := by
  have HT := Lib.hid h
  have hs := Short_any 1 [83, 84, 82, 69, 69, 84] w h
  rw [short_is, street_st] at hs
  have HS := Lib.hid hs
  clear h hs
  have q1 : ((bs [83, 84]).toList == [83, 84]) = true := (bs_lit _ _).trans (decide_eq_true rfl)
  have q2 : ((bs [78, 69, 87, 32, 89, 79, 82, 75]).toList == [78, 69, 87, 32, 89, 79, 82, 75]) = true := (bs_lit _ _).trans (decide_eq_true rfl)
  go_enter Tryd.func8, Tryd.ntmps8
  go_wp2_with fail
  refine HS.out.mono ?_
  rintro e w1 ⟨rfl, hb⟩
  have HB := Lib.hid hb
  have hl := Long_any 3 [78, 89] w1 (HT.out.later hb)
  rw [long_is, ny_long] at hl
  have HL := Lib.hid hl
  clear hb hl
  unfold foundV
  go_wp2_with fail
  refine HL.out.mono ?_
  rintro e w2 ⟨rfl, hb2⟩
  have HB2 := Lib.hid (HB.out.trans (hb2.mono HB.out.size))
  clear hb2
  unfold foundV
  go_wp2_with fail
  go_ret
  exact ⟨rfl, HB2.out⟩
end Go.Proofs.YtbgihfjagfbfgaaDoor

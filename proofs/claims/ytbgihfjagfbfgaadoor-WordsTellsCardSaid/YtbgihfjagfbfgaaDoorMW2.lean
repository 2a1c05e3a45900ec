/- layer 16: what the tables tell is what the pairs say (no program in sight but the updates) -/
import Derived.Test.YtbgihfjagfbfgaaDoorMWCut0
set_option linter.unusedSimpArgs false
set_option linter.unusedVariables false
namespace Go.Proofs.YtbgihfjagfbfgaaDoor
open Go.Words
def firstS (P : List Pr) (l : Wd) : Option Wd := (P.find? fun p => decide (p.1 = l) || decide (p.2 = l)).map (·.2)
def firstL (P : List Pr) (s : Wd) : Option Wd := (P.find? fun p => decide (p.2 = s)).map (·.1)
/-- no two pairs contradict each other. -/
def fitP (p q : Pr) : Bool := (!decide (p.1 = q.1) || decide (p.2 = q.2)) && (!decide (p.1 = q.2) || decide (p.2 = q.2)) && (!decide (p.2 = q.2) || decide (p.1 = q.1))
def goodP (P : List Pr) : Bool := P.all fun p => P.all fun q => fitP p q
theorem fitP_iff {p q : Pr} : fitP p q = true ↔ (p.1 = q.1 → p.2 = q.2) ∧ (p.1 = q.2 → p.2 = q.2) ∧ (p.2 = q.2 → p.1 = q.1) := by
  unfold fitP
  simp only [Bool.and_eq_true, Bool.or_eq_true, Bool.not_eq_true', decide_eq_false_iff_not, decide_eq_true_eq]
  constructor
  · rintro ⟨⟨h1, h2⟩, h3⟩
    exact ⟨fun e => h1.resolve_left (fun n => n e), fun e => h2.resolve_left (fun n => n e), fun e => h3.resolve_left (fun n => n e)⟩
  · rintro ⟨h1, h2, h3⟩
    refine ⟨⟨?_, ?_⟩, ?_⟩
    · by_cases e : p.1 = q.1
      · exact .inr (h1 e)
      · exact .inl e
    · by_cases e : p.1 = q.2
      · exact .inr (h2 e)
      · exact .inl e
    · by_cases e : p.2 = q.2
      · exact .inr (h3 e)
      · exact .inl e
theorem good_at {P : List Pr} (h : goodP P = true) {p q : Pr} (hp : p ∈ P) (hq : q ∈ P) : (p.1 = q.1 → p.2 = q.2) ∧ (p.1 = q.2 → p.2 = q.2) ∧ (p.2 = q.2 → p.1 = q.1) :=
  fitP_iff.1 (List.all_eq_true.1 (List.all_eq_true.1 h p hp) q hq)
theorem good_init {P : List Pr} {x : Pr} (h : goodP (P ++ [x]) = true) : goodP P = true := by
  refine List.all_eq_true.2 fun p hp => List.all_eq_true.2 fun q hq => ?_
  exact List.all_eq_true.1 (List.all_eq_true.1 h p (List.mem_append_left _ hp)) q (List.mem_append_left _ hq)
theorem shortF_snoc (P : List Pr) (x : Pr) : shortF (P ++ [x]) = stepS (shortF P) x := by unfold shortF; rw [List.foldl_append]; rfl
theorem longF_snoc (P : List Pr) (x : Pr) : longF (P ++ [x]) = stepL (longF P) x := by unfold longF; rw [List.foldl_append]; rfl
theorem snoc_ind {α : Type} {Q : List α → Prop} (h0 : Q []) (h1 : ∀ P x, Q P → Q (P ++ [x])) : ∀ P, Q P := by
  intro P
  have key : ∀ n, ∀ P : List α, P.length = n → Q P := by
    intro n
    induction n with
    | zero => intro P h; rw [List.eq_nil_of_length_eq_zero h]; exact h0
    | succ n ih =>
      intro P h
      have hne : P ≠ [] := fun e => by rw [e] at h; cases h
      rw [← List.dropLast_concat_getLast hne]
      exact h1 _ _ (ih _ (by simp [h]))
  exact key _ P rfl
theorem shortF_first (P : List Pr) : goodP P = true → ∀ l, shortF P l = firstS P l := by
  refine snoc_ind (Q := fun P => goodP P = true → ∀ l, shortF P l = firstS P l) (fun _ _ => rfl) (fun P x ih h l => ?_) P
  have hx : x ∈ P ++ [x] := List.mem_append_right _ (List.mem_singleton_self _)
  rw [shortF_snoc]
  unfold stepS upW firstS
  rw [List.find?_append]
  have ihl := ih (good_init h) l
  unfold firstS at ihl
  cases hf : P.find? (fun p => decide (p.1 = l) || decide (p.2 = l)) with
  | some q =>
    have hq := List.find?_some hf
    have hqm := List.mem_of_find?_eq_some hf
    have hg := good_at h hx (List.mem_append_left _ hqm)
    have hg2 := good_at h (List.mem_append_left _ hqm) hx
    rw [hf] at ihl
    simp only [Bool.or_eq_true, decide_eq_true_eq] at hq
    rw [Option.some_or]
    show (if l = x.2 then some x.2 else if l = x.1 then some x.2 else shortF P l) = some q.2
    by_cases e1 : l = x.2
    · rw [if_pos e1]
      subst e1
      rcases hq with hq | hq
      · rw [hg2.2.1 hq]
      · rw [hq]
    · rw [if_neg e1]
      by_cases e2 : l = x.1
      · rw [if_pos e2]
        subst e2
        rcases hq with hq | hq
        · rw [hg2.1 hq]
        · rw [hg.2.1 hq.symm]
      · rw [if_neg e2, ihl]; rfl
  | none =>
    rw [hf] at ihl
    rw [Option.none_or]
    show (if l = x.2 then some x.2 else if l = x.1 then some x.2 else shortF P l) = _
    by_cases e1 : l = x.2
    · rw [if_pos e1]
      simp [List.find?, e1]
    · rw [if_neg e1]
      by_cases e2 : l = x.1
      · rw [if_pos e2]
        simp [List.find?, e2]
      · rw [if_neg e2, ihl]
        have h1 : (decide (x.1 = l) || decide (x.2 = l)) = false := by
          simp only [Bool.or_eq_false_iff, decide_eq_false_iff_not]
          exact ⟨fun e => e2 e.symm, fun e => e1 e.symm⟩
        simp only [List.find?, h1]
theorem longF_first (P : List Pr) : goodP P = true → ∀ l, longF P l = firstL P l := by
  refine snoc_ind (Q := fun P => goodP P = true → ∀ l, longF P l = firstL P l) (fun _ _ => rfl) (fun P x ih h l => ?_) P
  have hx : x ∈ P ++ [x] := List.mem_append_right _ (List.mem_singleton_self _)
  rw [longF_snoc]
  unfold stepL upW firstL
  rw [List.find?_append]
  have ihl := ih (good_init h) l
  unfold firstL at ihl
  cases hf : P.find? (fun p => decide (p.2 = l)) with
  | some q =>
    have hq := List.find?_some hf
    have hqm := List.mem_of_find?_eq_some hf
    have hg := good_at h (List.mem_append_left _ hqm) hx
    rw [hf] at ihl
    simp only [decide_eq_true_eq] at hq
    rw [Option.some_or]
    show (if l = x.2 then some x.1 else longF P l) = some q.1
    by_cases e1 : l = x.2
    · rw [if_pos e1]
      subst e1
      rw [hg.2.2 hq]
    · rw [if_neg e1, ihl]; rfl
  | none =>
    rw [hf] at ihl
    rw [Option.none_or]
    show (if l = x.2 then some x.1 else longF P l) = _
    by_cases e1 : l = x.2
    · rw [if_pos e1]
      simp [List.find?, e1]
    · rw [if_neg e1, ihl]
      have h1 : decide (x.2 = l) = false := by
        simp only [decide_eq_false_iff_not]
        exact fun e => e1 e.symm
      simp only [List.find?, h1]
theorem suf_good : goodP sufP = true := by decide +kernel
theorem dir_good : goodP dirP = true := by decide +kernel
theorem sta_good : goodP staP = true := by decide +kernel
theorem uni_good : goodP uniP = true := by decide +kernel
/-- the short forms, rising. -/
theorem sort_of {P : List Pr} {S : List Wd} (hp : (P.map (·.2)).isPerm S = true) (hs : S.Pairwise (· < ·)) : (P.map (·.2)).mergeSort (fun x y => decide (x ≤ y)) = S := by
  have h1 : ((P.map (·.2)).mergeSort fun x y => decide (x ≤ y)).Perm S := (List.mergeSort_perm _ _).trans (List.isPerm_iff.1 hp)
  have h2 := List.pairwise_mergeSort (le := fun x y : Wd => decide (x ≤ y)) (fun a b c h1 h2 => by simp only [decide_eq_true_eq] at *; exact List.le_trans h1 h2) (fun a b => by simp only [Bool.or_eq_true, decide_eq_true_eq]; exact List.le_total a b) (P.map (·.2))
  exact List.Perm.eq_of_pairwise (le := fun (a b : Wd) => a ≤ b) (fun a b _ _ h1 h2 => List.le_antisymm h1 h2) (h2.imp fun h => of_decide_eq_true h) (hs.imp fun h => List.le_of_lt h) h1
end Go.Proofs.YtbgihfjagfbfgaaDoor

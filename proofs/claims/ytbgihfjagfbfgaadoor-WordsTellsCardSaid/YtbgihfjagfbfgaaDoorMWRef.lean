/- layer 16: the reference: its pairs -/
import Derived.Test.YtbgihfjagfbfgaaDoorMWLaw0
set_option linter.unusedSimpArgs false
set_option linter.unusedVariables false
namespace Go.Proofs.YtbgihfjagfbfgaaDoor
open Go.RowKit Go.Words
attribute [local go_sem] Oper.semAt_some
theorem kind_cases2 (k : Int) : (k = 1 ∧ kindP k = sufP) ∨ (k = 2 ∧ kindP k = dirP) ∨ (k = 3 ∧ kindP k = staP) ∨ (k = 4 ∧ kindP k = uniP) ∨ (¬ k = 1 ∧ ¬ k = 2 ∧ ¬ k = 3 ∧ ¬ k = 4 ∧ kindP k = []) := by
  unfold kindP
  by_cases h1 : k = 1
  · exact .inl ⟨h1, if_pos h1⟩
  rw [if_neg h1]
  by_cases h2 : k = 2
  · exact .inr (.inl ⟨h2, if_pos h2⟩)
  rw [if_neg h2]
  by_cases h3 : k = 3
  · exact .inr (.inr (.inl ⟨h3, if_pos h3⟩))
  rw [if_neg h3]
  by_cases h4 : k = 4
  · exact .inr (.inr (.inr (.inl ⟨h4, if_pos h4⟩)))
  exact .inr (.inr (.inr (.inr ⟨h1, h2, h3, h4, if_neg h4⟩)))
def flatPr (P : List Pr) : List Value := P.flatMap fun p => [sV p.1, sV p.2]
/-- pairs in a slice. -/
def IsPr (w : World) (ao : Option Addr) (n : Nat) (P : List Pr) : Prop := P.length = n ∧ (0 < n → ∃ b, ao = some ⟨b, 0, none⟩ ∧ w.heap[b]? = some (.cells (flatPr P).toArray 43 (0, 0)))
theorem IsPr.later {w w' : World} {ao : Option Addr} {n : Nat} {P : List Pr} (h : IsPr w ao n P) (hb : Below w.heap.size w w') : IsPr w' ao n P := by
  refine ⟨h.1, fun hn => ?_⟩
  obtain ⟨b, e, hr⟩ := h.2 hn
  exact ⟨b, e, (hb.block _ (heap_lt2 hr)).trans hr⟩
theorem flatPr_get : ∀ (P : List Pr) (i : Nat), i < P.length → (flatPr P)[i * 2]? = some (sV (P.getD i pr0).1) ∧ (flatPr P)[i * 2 + 1]? = some (sV (P.getD i pr0).2)
  | [], i, h => absurd h (by simp)
  | p :: P, 0, _ => ⟨rfl, rfl⟩
  | p :: P, i + 1, h => by
    obtain ⟨h1, h2⟩ := flatPr_get P i (by simpa using h)
    have e : flatPr (p :: P) = sV p.1 :: sV p.2 :: flatPr P := rfl
    rw [e, show (i + 1) * 2 = i * 2 + 1 + 1 by omega]
    exact ⟨by simpa using h1, by simpa using h2⟩
theorem IsPr.at {w : World} {ao : Option Addr} {n : Nat} {P : List Pr} (h : IsPr w ao n P) {i : Nat} (hi : i < n) : ∃ b, ao = some ⟨b, 0, none⟩ ∧ w.cell? ⟨b, i * 2, none⟩ = some (sV (P.getD i pr0).1) ∧ w.cell? ⟨b, i * 2 + 1, none⟩ = some (sV (P.getD i pr0).2) := by
  obtain ⟨b, e, hr⟩ := h.2 (by omega)
  obtain ⟨h1, h2⟩ := flatPr_get P i (by rw [h.1]; exact hi)
  exact ⟨b, e, (cell_of_row _ _ _ _ _ _ hr).trans (by simpa using h1), (cell_of_row _ _ _ _ _ _ hr).trans (by simpa using h2)⟩
def PairsR (P : List Pr) (w : World) (e : Ending) (w' : World) : Prop := ∃ ao, e = .returned (.slice ao P.length P.length) ∧ IsPr w' ao P.length P ∧ Below w.heap.size w w'
theorem pairs_end (P : List Pr) (w : World) (cs : Array Value) (h : cs = (flatPr P).toArray) : IsPr (w.alloc (Obj.cells cs 43)) (some ⟨w.heap.size, 0, none⟩) P.length P ∧ Below w.heap.size w (w.alloc (Obj.cells cs 43)) :=
  ⟨⟨rfl, fun _ => ⟨_, rfl, by rw [h]; exact alloc_new _ _⟩⟩, (Below.refl _ _).alloc (Nat.le_refl _) _⟩
set_option maxRecDepth 100000 in
set_option maxHeartbeats 16000000 in
theorem pairs_any (k : Int) (w : World) : Calls Tryd.prog 19 #[.int .i64 k] w (PairsR (kindP k) w) := by
  rcases kind_cases2 k with ⟨rfl, hP⟩ | ⟨rfl, hP⟩ | ⟨rfl, hP⟩ | ⟨rfl, hP⟩ | ⟨h1, h2, h3, h4, hP⟩
  · rw [hP]
    clear hP
    go_enter Tryd.func19, Tryd.ntmps19
    go_wp2_with fail
    go_ret
    exact ⟨_, rfl, (pairs_end sufP w _ (by kernel_rfl)).1, (pairs_end sufP w _ (by kernel_rfl)).2⟩
  · rw [hP]
    clear hP
    go_enter Tryd.func19, Tryd.ntmps19
    go_wp2_with fail
    go_ret
    exact ⟨_, rfl, (pairs_end dirP w _ (by kernel_rfl)).1, (pairs_end dirP w _ (by kernel_rfl)).2⟩
  · rw [hP]
    clear hP
    go_enter Tryd.func19, Tryd.ntmps19
    go_wp2_with fail
    go_ret
    exact ⟨_, rfl, (pairs_end staP w _ (by kernel_rfl)).1, (pairs_end staP w _ (by kernel_rfl)).2⟩
  · rw [hP]
    clear hP
    go_enter Tryd.func19, Tryd.ntmps19
    go_wp2_with fail
    go_ret
    exact ⟨_, rfl, (pairs_end uniP w _ (by kernel_rfl)).1, (pairs_end uniP w _ (by kernel_rfl)).2⟩
  · rw [hP]
    have hk1 : (k == 1) = false := by simp [h1]
    have hk2 : (k == 2) = false := by simp [h2]
    have hk3 : (k == 3) = false := by simp [h3]
    have hk4 : (k == 4) = false := by simp [h4]
    clear h1 h2 h3 h4 hP
    go_enter Tryd.func19, Tryd.ntmps19
    go_wp2_with fail
    go_ret
    exact ⟨none, rfl, ⟨rfl, fun h => absurd h (by simp)⟩, Below.refl _ _⟩
end Go.Proofs.YtbgihfjagfbfgaaDoor

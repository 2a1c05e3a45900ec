/- BoxtreeTurned: rows of boxes and of ints side by side -/
import Derived.Test.YtlmmejdcjhbppaaMBFinds
import Derived.Test.YtlmmejdcjhbppaaMBTurn1
set_option linter.unusedSimpArgs false
set_option linter.unusedVariables false
namespace Go.Proofs.Ytlmmejdcjhbppaa
open Go.RowKit Go.Geo
theorem make_I (n : Nat) (hn : n ≤ 100000) (w : World) : ∃ W, (Instr.makeSlice 34 (.int .i64 (n : Int)) (.int .i64 (n : Int))).run Try.prog w = .ok (.slice (some ⟨w.heap.size, 0, none⟩) n n) W ∧ OwnI W w.heap.size (.slice (some ⟨w.heap.size, 0, none⟩) n n) (List.replicate n 0) ∧ Below w.heap.size w W := by
  obtain ⟨i0, hi, hz0, hz1, hz2⟩ := info_parts' Try.infoIntS
  obtain ⟨W, hr, ho, hg⟩ := run_make_full (P := Try.prog) w w.heap.size 34 3 i0 _ 1 Try.underlying34 hi hz0 hz1 .i64 .i64 n (by rw [hz2]; omega) (by unfold maxLen; omega) (Nat.le_refl _)
  refine ⟨W, hr, ?_, (Below.refl _ _).grown hg (Nat.le_refl _) (fun g h => by cases h)⟩
  unfold OwnI
  rw [List.length_replicate]
  have e : (madeCells (Value.int .i64 0).cells (n * 1)).toList = flatI (List.replicate n 0) := by
    rw [show (Value.int .i64 0).cells = #[.int .i64 0] from rfl, toList_madeCells_one, Nat.mul_one]
    simp [flatI]
  rw [← e]
  exact ho
/-- a store into a row of ints leaves a row of boxes. -/
theorem OwnX.byI {w : World} {B B2 g n c o : Nat} {v u : Value} {X : List Bx} {A : List Int} (h : OwnX w B v X) (k : OwnI w B2 (.slice (some ⟨g, 0, none⟩) n c) A) : OwnX (w.setCell ⟨g, o, none⟩ u) B v X := by
  refine ownsRow_move h fun j e => Below.heap_setCell _ _ _ _ (by
    show j ≠ g
    intro e2
    subst e2
    rcases k.2 with ⟨h1, _⟩ | ⟨g', cap, cur, e3, _, hg, _⟩
    · simp at h1
    · cases e3
      exact own_typed h hg (by decide) e)
theorem OwnI.byX {w : World} {B B2 g n c o : Nat} {v u : Value} {X : List Bx} {A : List Int} (h : OwnI w B v A) (k : OwnX w B2 (.slice (some ⟨g, 0, none⟩) n c) X) : OwnI (w.setCell ⟨g, o, none⟩ u) B v A := by
  refine ownsRow_move h fun j e => Below.heap_setCell _ _ _ _ (by
    show j ≠ g
    intro e2
    subst e2
    rcases k.2 with ⟨h1, _⟩ | ⟨g', cap, cur, e3, _, hg, _⟩
    · simp at h1
    · cases e3
      exact own_typed h hg (by decide) e)
end Go.Proofs.Ytlmmejdcjhbppaa

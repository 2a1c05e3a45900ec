/- cross.Ends -/
import Derived.Test.YtlmmejdcjhbppaaMQOnG
set_option linter.unusedSimpArgs false
set_option linter.unusedVariables false
namespace Go.Proofs.Ytlmmejdcjhbppaa
open Go.RowKit Go.Geo
theorem pts2 (w : World) (a b : Pt) : IsPts (w.alloc (.cells #[.int .i64 a.x, .int .i64 a.y, .int .i64 b.x, .int .i64 b.y] 31)) (some ⟨w.heap.size, 0, none⟩) 2 2 [a, b] := by
  refine ⟨rfl, Nat.le_refl _, by unfold maxLen; omega, fun _ => ⟨_, _, rfl, fun i hi => ?_⟩, fun h => by cases h⟩
  have h := alloc_new w (.cells #[.int .i64 a.x, .int .i64 a.y, .int .i64 b.x, .int .i64 b.y] 31)
  match i, hi with
  | 0, _ => exact ⟨cell_of_row _ _ _ _ _ _ h, cell_of_row _ _ _ _ _ _ h⟩
  | 1, _ => exact ⟨cell_of_row _ _ _ _ _ _ h, cell_of_row _ _ _ _ _ _ h⟩
theorem pts2d (w : World) (a b : Pt) : IsPts (w.alloc (.cells #[.int .i64 a.x, .int .i64 a.y, .int .i64 b.x, .int .i64 b.y] 31)).drew (some ⟨w.heap.size, 0, none⟩) 2 2 [a, b] := pts2 w.drew a b
theorem pts2n (w : World) (g : Nat) (a b : Pt) (hg : w.heap.size = g) : IsPts (w.alloc (.cells #[.int .i64 a.x, .int .i64 a.y, .int .i64 b.x, .int .i64 b.y] 31)).drew (some ⟨g, 0, none⟩) 2 2 [a, b] := by rw [← hg]; exact pts2d w a b
theorem IsPts.ofDrew {w : World} {ao : Option Addr} {n cap : Nat} {P : List Pt} (h : IsPts w ao n cap P) : IsPts w.drew ao n cap P := h
/-- four points in boxes of their own. -/
def Box4 (B : Nat) (a b c d : Pt) (w : World) : Prop :=
  (w.cell? ⟨B, 0, none⟩ = some (.int .i64 a.x) ∧ w.cell? ⟨B, 1, none⟩ = some (.int .i64 a.y)) ∧ (w.cell? ⟨B + 1, 0, none⟩ = some (.int .i64 b.x) ∧ w.cell? ⟨B + 1, 1, none⟩ = some (.int .i64 b.y)) ∧
  (w.cell? ⟨B + 1 + 1, 0, none⟩ = some (.int .i64 c.x) ∧ w.cell? ⟨B + 1 + 1, 1, none⟩ = some (.int .i64 c.y)) ∧ (w.cell? ⟨B + 1 + 1 + 1, 0, none⟩ = some (.int .i64 d.x) ∧ w.cell? ⟨B + 1 + 1 + 1, 1, none⟩ = some (.int .i64 d.y))
theorem box4_new (w : World) (a b c d : Pt) : Box4 w.heap.size a b c d ((((w.alloc (.cells #[.int .i64 a.x, .int .i64 a.y] 31)).alloc (.cells #[.int .i64 b.x, .int .i64 b.y] 31)).alloc (.cells #[.int .i64 c.x, .int .i64 c.y] 31)).alloc (.cells #[.int .i64 d.x, .int .i64 d.y] 31)) := by
  have h3 : ((w.alloc (.cells #[.int .i64 a.x, .int .i64 a.y] 31)).alloc (.cells #[.int .i64 b.x, .int .i64 b.y] 31)).heap.size = w.heap.size + 1 + 1 := by simp
  have h4 : (((w.alloc (.cells #[.int .i64 a.x, .int .i64 a.y] 31)).alloc (.cells #[.int .i64 b.x, .int .i64 b.y] 31)).alloc (.cells #[.int .i64 c.x, .int .i64 c.y] 31)).heap.size = w.heap.size + 1 + 1 + 1 := by simp
  refine ⟨⟨?_, ?_⟩, ⟨?_, ?_⟩, ⟨?_, ?_⟩, ?_, ?_⟩
  · exact ((((Grew.refl _).alloc _).alloc _).alloc _).cell (cell_of_row _ _ _ _ _ _ (alloc_new w _))
  · exact ((((Grew.refl _).alloc _).alloc _).alloc _).cell (cell_of_row _ _ _ _ _ _ (alloc_new w _))
  · exact (((Grew.refl _).alloc _).alloc _).cell (cell_of_row _ _ _ _ _ _ (alloc_new2 w _ _))
  · exact (((Grew.refl _).alloc _).alloc _).cell (cell_of_row _ _ _ _ _ _ (alloc_new2 w _ _))
  · rw [← h3]; exact ((Grew.refl _).alloc _).cell (cell_of_row _ _ _ _ _ _ (alloc_new _ _))
  · rw [← h3]; exact ((Grew.refl _).alloc _).cell (cell_of_row _ _ _ _ _ _ (alloc_new _ _))
  · rw [← h4]; exact cell_of_row _ _ _ _ _ _ (alloc_new _ _)
  · rw [← h4]; exact cell_of_row _ _ _ _ _ _ (alloc_new _ _)
theorem Box4.later {B base : Nat} {a b c d : Pt} {w w' : World} (h : Box4 B a b c d w) (hb : Below base w w') (hB : B + 4 ≤ base) : Box4 B a b c d w' := by
  obtain ⟨⟨h1, h2⟩, ⟨h3, h4⟩, ⟨h5, h6⟩, h7, h8⟩ := h
  exact ⟨⟨(hb.cell (p := ⟨B, 0, none⟩) (show B < base by omega)).trans h1, (hb.cell (p := ⟨B, 1, none⟩) (show B < base by omega)).trans h2⟩, ⟨(hb.cell (p := ⟨B + 1, 0, none⟩) (show B + 1 < base by omega)).trans h3, (hb.cell (p := ⟨B + 1, 1, none⟩) (show B + 1 < base by omega)).trans h4⟩, ⟨(hb.cell (p := ⟨B + 1 + 1, 0, none⟩) (show B + 1 + 1 < base by omega)).trans h5, (hb.cell (p := ⟨B + 1 + 1, 1, none⟩) (show B + 1 + 1 < base by omega)).trans h6⟩, (hb.cell (p := ⟨B + 1 + 1 + 1, 0, none⟩) (show B + 1 + 1 + 1 < base by omega)).trans h7, (hb.cell (p := ⟨B + 1 + 1 + 1, 1, none⟩) (show B + 1 + 1 + 1 < base by omega)).trans h8⟩
theorem ends_step {B base : Nat} {a b c d : Pt} {W w1 w2 : World} (hb : Below base w1 w2) (hB : B + 4 ≤ base)
    (h1 : w1.cell? ⟨B, 0, none⟩ = some (.int .i64 a.x)) (h2 : w1.cell? ⟨B, 1, none⟩ = some (.int .i64 a.y)) (h3 : w1.cell? ⟨B + 1, 0, none⟩ = some (.int .i64 b.x)) (h4 : w1.cell? ⟨B + 1, 1, none⟩ = some (.int .i64 b.y))
    (h5 : w1.cell? ⟨B + 1 + 1, 0, none⟩ = some (.int .i64 c.x)) (h6 : w1.cell? ⟨B + 1 + 1, 1, none⟩ = some (.int .i64 c.y)) (h7 : w1.cell? ⟨B + 1 + 1 + 1, 0, none⟩ = some (.int .i64 d.x)) (h8 : w1.cell? ⟨B + 1 + 1 + 1, 1, none⟩ = some (.int .i64 d.y)) (h9 : Below base W w1) :
    w2.cell? ⟨B, 0, none⟩ = some (.int .i64 a.x) ∧ w2.cell? ⟨B, 1, none⟩ = some (.int .i64 a.y) ∧ w2.cell? ⟨B + 1, 0, none⟩ = some (.int .i64 b.x) ∧ w2.cell? ⟨B + 1, 1, none⟩ = some (.int .i64 b.y) ∧ w2.cell? ⟨B + 1 + 1, 0, none⟩ = some (.int .i64 c.x) ∧ w2.cell? ⟨B + 1 + 1, 1, none⟩ = some (.int .i64 c.y) ∧ w2.cell? ⟨B + 1 + 1 + 1, 0, none⟩ = some (.int .i64 d.x) ∧ w2.cell? ⟨B + 1 + 1 + 1, 1, none⟩ = some (.int .i64 d.y) ∧ Below base W w2 := by
  obtain ⟨⟨k1, k2⟩, ⟨k3, k4⟩, ⟨k5, k6⟩, k7, k8⟩ := Box4.later (a := a) (b := b) (c := c) (d := d) ⟨⟨h1, h2⟩, ⟨h3, h4⟩, ⟨h5, h6⟩, h7, h8⟩ hb hB
  exact ⟨k1, k2, k3, k4, k5, k6, k7, k8, h9.trans hb⟩
theorem ends_alloc {B : Nat} {a b c d : Pt} {W w1 : World} {o : Obj} (hz : B + 4 ≤ W.heap.size)
    (h1 : w1.cell? ⟨B, 0, none⟩ = some (.int .i64 a.x)) (h2 : w1.cell? ⟨B, 1, none⟩ = some (.int .i64 a.y)) (h3 : w1.cell? ⟨B + 1, 0, none⟩ = some (.int .i64 b.x)) (h4 : w1.cell? ⟨B + 1, 1, none⟩ = some (.int .i64 b.y))
    (h5 : w1.cell? ⟨B + 1 + 1, 0, none⟩ = some (.int .i64 c.x)) (h6 : w1.cell? ⟨B + 1 + 1, 1, none⟩ = some (.int .i64 c.y)) (h7 : w1.cell? ⟨B + 1 + 1 + 1, 0, none⟩ = some (.int .i64 d.x)) (h8 : w1.cell? ⟨B + 1 + 1 + 1, 1, none⟩ = some (.int .i64 d.y)) (h9 : Below (B + 4) W w1) :
    (w1.alloc o).cell? ⟨B, 0, none⟩ = some (.int .i64 a.x) ∧ (w1.alloc o).cell? ⟨B, 1, none⟩ = some (.int .i64 a.y) ∧ (w1.alloc o).cell? ⟨B + 1, 0, none⟩ = some (.int .i64 b.x) ∧ (w1.alloc o).cell? ⟨B + 1, 1, none⟩ = some (.int .i64 b.y) ∧ (w1.alloc o).cell? ⟨B + 1 + 1, 0, none⟩ = some (.int .i64 c.x) ∧ (w1.alloc o).cell? ⟨B + 1 + 1, 1, none⟩ = some (.int .i64 c.y) ∧ (w1.alloc o).cell? ⟨B + 1 + 1 + 1, 0, none⟩ = some (.int .i64 d.x) ∧ (w1.alloc o).cell? ⟨B + 1 + 1 + 1, 1, none⟩ = some (.int .i64 d.y) ∧ Below (B + 4) W (w1.alloc o) :=
  ends_step ((Below.refl _ _).alloc (Nat.le_trans hz h9.size) _) (Nat.le_refl _) h1 h2 h3 h4 h5 h6 h7 h8 h9
theorem ends_alloc_drew {B : Nat} {a b c d : Pt} {W w1 : World} {o : Obj} (hz : B + 4 ≤ W.heap.size)
    (h1 : w1.drew.cell? ⟨B, 0, none⟩ = some (.int .i64 a.x)) (h2 : w1.drew.cell? ⟨B, 1, none⟩ = some (.int .i64 a.y)) (h3 : w1.drew.cell? ⟨B + 1, 0, none⟩ = some (.int .i64 b.x)) (h4 : w1.drew.cell? ⟨B + 1, 1, none⟩ = some (.int .i64 b.y))
    (h5 : w1.drew.cell? ⟨B + 1 + 1, 0, none⟩ = some (.int .i64 c.x)) (h6 : w1.drew.cell? ⟨B + 1 + 1, 1, none⟩ = some (.int .i64 c.y)) (h7 : w1.drew.cell? ⟨B + 1 + 1 + 1, 0, none⟩ = some (.int .i64 d.x)) (h8 : w1.drew.cell? ⟨B + 1 + 1 + 1, 1, none⟩ = some (.int .i64 d.y)) (h9 : Below (B + 4) W w1.drew) :
    (w1.alloc o).drew.cell? ⟨B, 0, none⟩ = some (.int .i64 a.x) ∧ (w1.alloc o).drew.cell? ⟨B, 1, none⟩ = some (.int .i64 a.y) ∧ (w1.alloc o).drew.cell? ⟨B + 1, 0, none⟩ = some (.int .i64 b.x) ∧ (w1.alloc o).drew.cell? ⟨B + 1, 1, none⟩ = some (.int .i64 b.y) ∧ (w1.alloc o).drew.cell? ⟨B + 1 + 1, 0, none⟩ = some (.int .i64 c.x) ∧ (w1.alloc o).drew.cell? ⟨B + 1 + 1, 1, none⟩ = some (.int .i64 c.y) ∧ (w1.alloc o).drew.cell? ⟨B + 1 + 1 + 1, 0, none⟩ = some (.int .i64 d.x) ∧ (w1.alloc o).drew.cell? ⟨B + 1 + 1 + 1, 1, none⟩ = some (.int .i64 d.y) ∧ Below (B + 4) W (w1.alloc o).drew :=
  ends_alloc (w1 := w1.drew) (o := o) hz h1 h2 h3 h4 h5 h6 h7 h8 h9
theorem gatherP_len : ∀ (out l : List Pt), (gatherP out l).length ≤ out.length + l.length
  | out, [] => by simp [gatherP]
  | out, p :: l => by
    rw [gatherP]
    by_cases hp : p ∈ out
    · rw [if_pos hp]
      have := gatherP_len out l
      simp; omega
    · rw [if_neg hp]
      have := gatherP_len (out ++ [p]) l
      simp at this ⊢; omega
/-- a slice of so many. -/
def LenR (m : Nat) (w : World) (e : Ending) (w' : World) : Prop := ∃ ao cap, e = .returned (.slice ao m cap) ∧ Below w.heap.size w w'
end Go.Proofs.Ytlmmejdcjhbppaa

/- the law's at, box, of, s, t, u -/
import Derived.Test.YtdikecfplohpeaaGreatMQRCheck
set_option linter.unusedSimpArgs false
set_option linter.unusedVariables false
namespace Go.Proofs.YtdikecfplohpeaaGreat
open Go.RowKit Go.Geo
attribute [local go_sem] Oper.semAt_some
/-- the points of a box's ring. -/
def boxP (lo hi : Pt) : List Pt := [lo, ⟨hi.x, lo.y⟩, hi, ⟨lo.x, hi.y⟩]
/-- a slice of points that the call has made. -/
def NewP (P : List Pt) (n : Nat) (w : World) (e : Ending) (w' : World) : Prop := ∃ g cap, e = .returned (.slice (some ⟨g, 0, none⟩) n cap) ∧ IsPts w' (some ⟨g, 0, none⟩) n cap P ∧ Below w.heap.size w w'
theorem pt4 (w : World) (lo hi : Pt) {g : Nat} (hg : w.heap.size = g) : IsPts (w.alloc (.cells #[.int .i64 lo.x, .int .i64 lo.y, .int .i64 hi.x, .int .i64 lo.y, .int .i64 hi.x, .int .i64 hi.y, .int .i64 lo.x, .int .i64 hi.y] 40)) (some ⟨g, 0, none⟩) 4 4 (boxP lo hi) := by
  subst hg
  refine ⟨rfl, Nat.le_refl _, by unfold maxLen; omega, fun _ => ⟨_, _, rfl, fun i hlt => ?_⟩, fun h => by cases h⟩
  have h := alloc_new w (.cells #[.int .i64 lo.x, .int .i64 lo.y, .int .i64 hi.x, .int .i64 lo.y, .int .i64 hi.x, .int .i64 hi.y, .int .i64 lo.x, .int .i64 hi.y] 40)
  match i, hlt with
  | 0, _ => exact ⟨cell_of_row _ _ _ _ _ _ h, cell_of_row _ _ _ _ _ _ h⟩
  | 1, _ => exact ⟨cell_of_row _ _ _ _ _ _ h, cell_of_row _ _ _ _ _ _ h⟩
  | 2, _ => exact ⟨cell_of_row _ _ _ _ _ _ h, cell_of_row _ _ _ _ _ _ h⟩
  | 3, _ => exact ⟨cell_of_row _ _ _ _ _ _ h, cell_of_row _ _ _ _ _ _ h⟩
theorem two_step {B : Nat} {lo hi : Pt} {W w1 w2 : World} (hb : Grew w1 w2) (hB : B + 2 ≤ W.heap.size)
    (h1 : w1.cell? ⟨B, 0, none⟩ = some (.int .i64 lo.x)) (h2 : w1.cell? ⟨B, 1, none⟩ = some (.int .i64 lo.y)) (h3 : w1.cell? ⟨B + 1, 0, none⟩ = some (.int .i64 hi.x)) (h4 : w1.cell? ⟨B + 1, 1, none⟩ = some (.int .i64 hi.y)) (h9 : Below W.heap.size W w1) :
    w2.cell? ⟨B, 0, none⟩ = some (.int .i64 lo.x) ∧ w2.cell? ⟨B, 1, none⟩ = some (.int .i64 lo.y) ∧ w2.cell? ⟨B + 1, 0, none⟩ = some (.int .i64 hi.x) ∧ w2.cell? ⟨B + 1, 1, none⟩ = some (.int .i64 hi.y) ∧ Below W.heap.size W w2 :=
  ⟨hb.cell h1, hb.cell h2, hb.cell h3, hb.cell h4, h9.trans (hb.1.mono h9.size)⟩
/-- two rings in a slice that the call has made. -/
theorem rings2 {w : World} {x y : Option Addr} {n m c d : Nat} {P Q : List Pt} (hP : IsPts w x n c P) (hQ : IsPts w y m d Q) {g : Nat} (hg : w.heap.size = g) : IsRings (w.alloc (.cells #[.slice x n c, .slice y m d] 25)) (some ⟨g, 0, none⟩) 2 2 [P, Q] := by
  subst hg
  have hb : Below w.heap.size w (w.alloc (.cells #[.slice x n c, .slice y m d] 25)) := (Below.refl _ _).alloc (Nat.le_refl _) _
  have h := alloc_new w (.cells #[.slice x n c, .slice y m d] 25)
  refine ⟨rfl, Nat.le_refl _, by unfold maxLen; omega, (fun h => by cases h), fun i hi => ?_⟩
  match i, hi with
  | 0, _ => exact ⟨_, _, _, _, _, rfl, cell_of_row _ _ _ _ _ _ h, hP.later hb (Nat.le_refl _)⟩
  | 1, _ => exact ⟨_, _, _, _, _, rfl, cell_of_row _ _ _ _ _ _ h, hQ.later hb (Nat.le_refl _)⟩
end Go.Proofs.YtdikecfplohpeaaGreat

/- cross.Meets -/
import Derived.Test.YtlmmejdcjhbppaaMQEnds
import Derived.ChangeKeysEq
set_option linter.unusedSimpArgs false
set_option linter.unusedVariables false
namespace Go.Proofs.Ytlmmejdcjhbppaa
open Go.RowKit Go.Geo
theorem Try.infoInt : (Try.prog.info? 3).map (fun i => (i.zero, i.size, i.bytes)) = some (some (.int .i64 0), 1, 8) := by kernel_rfl
theorem eqItems_cons (xs ys : Array Value) (i : Nat) (is : List Nat) (a b : Int) (w : World) (hx : xs[i]? = some (.int .i64 a)) (hy : ys[i]? = some (.int .i64 b)) :
    (Op.eqItems 9999 3 1 xs ys (i :: is)).run Try.prog w = if decide (a = b) = true then (Op.eqItems 9999 3 1 xs ys is).run Try.prog w else .ok false w := by
  rw [Op.eqItems, Nat.mul_one]
  simp only [Sem.run_bind, part_int xs i _ hx, part_int ys i _ hy, Result.andThen_ok, show (9999 : Nat) = 9998 + 1 from rfl, run_equalIn_int w 9998 3 .i64 .i64 a b Try.underlying3]
  by_cases h : a = b
  · simp [h]
  · simp [h]
theorem cross4 {s t u v : Int} (hs : s = -1 ∨ s = 0 ∨ s = 1) (ht : t = -1 ∨ t = 0 ∨ t = 1) (hu : u = -1 ∨ u = 0 ∨ u = 1) (hv : v = -1 ∨ v = 0 ∨ v = 1) :
    (decide (s * t < 0) && decide (u * v < 0)) = ((decide (s = 1) && decide (t = -1) && decide (u = 1) && decide (v = -1)) || (decide (s = 1) && decide (t = -1) && decide (u = -1) && decide (v = 1)) || (decide (s = -1) && decide (t = 1) && decide (u = 1) && decide (v = -1)) || (decide (s = -1) && decide (t = 1) && decide (u = -1) && decide (v = 1))) := by
  rcases hs with rfl | rfl | rfl <;> rcases ht with rfl | rfl | rfl <;> rcases hu with rfl | rfl | rfl <;> rcases hv with rfl | rfl | rfl <;> rfl
theorem turn_step {B base : Nat} {a b c d : Pt} {W w1 w2 : World} (hb : Grew w1 w2) (hz : base ≤ W.heap.size) (hB : B + 4 ≤ base)
    (h1 : w1.cell? ⟨B, 0, none⟩ = some (.int .i64 a.x)) (h2 : w1.cell? ⟨B, 1, none⟩ = some (.int .i64 a.y)) (h3 : w1.cell? ⟨B + 1, 0, none⟩ = some (.int .i64 b.x)) (h4 : w1.cell? ⟨B + 1, 1, none⟩ = some (.int .i64 b.y))
    (h5 : w1.cell? ⟨B + 1 + 1, 0, none⟩ = some (.int .i64 c.x)) (h6 : w1.cell? ⟨B + 1 + 1, 1, none⟩ = some (.int .i64 c.y)) (h7 : w1.cell? ⟨B + 1 + 1 + 1, 0, none⟩ = some (.int .i64 d.x)) (h8 : w1.cell? ⟨B + 1 + 1 + 1, 1, none⟩ = some (.int .i64 d.y)) (h9 : Below base W w1) :
    w2.cell? ⟨B, 0, none⟩ = some (.int .i64 a.x) ∧ w2.cell? ⟨B, 1, none⟩ = some (.int .i64 a.y) ∧ w2.cell? ⟨B + 1, 0, none⟩ = some (.int .i64 b.x) ∧ w2.cell? ⟨B + 1, 1, none⟩ = some (.int .i64 b.y) ∧ w2.cell? ⟨B + 1 + 1, 0, none⟩ = some (.int .i64 c.x) ∧ w2.cell? ⟨B + 1 + 1, 1, none⟩ = some (.int .i64 c.y) ∧ w2.cell? ⟨B + 1 + 1 + 1, 0, none⟩ = some (.int .i64 d.x) ∧ w2.cell? ⟨B + 1 + 1 + 1, 1, none⟩ = some (.int .i64 d.y) ∧ Below base W w2 :=
  ends_step (hb.1.mono (Nat.le_trans hz h9.size)) hB h1 h2 h3 h4 h5 h6 h7 h8 h9
def meetN (p q x : Bool) (m : Nat) : Nat := if p && q then (match m with
  | 0 => if x then 2 else 0
  | 1 => 1
  | _ => 3) else 0
/-- how two edges meet. -/
def MeetR (m : Nat) (w : World) (e : Ending) (w' : World) : Prop := e = .returned (.int .i64 (m : Int)) ∧ Below w.heap.size w w'
end Go.Proofs.Ytlmmejdcjhbppaa

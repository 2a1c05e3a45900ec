/- cert: question.fits -/
import Derived.Test.YtlmimocmllhbkaaCFun
namespace Go.Proofs.Ytlmimocmllhbkaa
open Go.RowKit
/-- a certificate; a question. -/
structure Crt where (cu ju ca fr to : Int)
structure Qst where (cu ju ca da : Int)
def Crt.val (c : Crt) : Value := .agg #[.int .i64 c.cu, .int .i64 c.ju, .int .i64 c.ca, .int .i64 c.fr, .int .i64 c.to]
def Qst.val (q : Qst) : Value := .agg #[.int .i64 q.cu, .int .i64 q.ju, .int .i64 q.ca, .int .i64 q.da]
def fitsP (q : Qst) (c : Crt) : Bool := decide (c.cu = q.cu) && (decide (c.ju = 0) || decide (c.ju = q.ju)) && (decide (c.ca = 0) || decide (c.ca = q.ca))
theorem fits_any (q : Qst) (c : Crt) (w : World) :
    Calls Try.prog 17 #[q.val, c.val] w fun e w' => e = .returned (.bool (fitsP q c)) ∧ Below w.heap.size w w' := by
  obtain ⟨q1, q2, q3, q4⟩ := q
  obtain ⟨c1, c2, c3, c4, c5⟩ := c
  unfold fitsP Crt.val Qst.val
  dsimp only
  go_enter Try.func17, Try.ntmps17
  go_wp2
  all_goals
    go_ret
    refine ⟨by first | (simp_all; done) | (by_cases hq : c3 = q3 <;> simp_all), ((Below.refl _ _).alloc (Nat.le_refl _) _).alloc (by simp) _⟩
end Go.Proofs.Ytlmimocmllhbkaa

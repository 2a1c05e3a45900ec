/- cert: key -/
import Derived.Test.YtlmimocmllhbkaaCHold
import Derived.Laws.Rows
namespace Go.Proofs.Ytlmimocmllhbkaa
open Go.RowKit
theorem key_any (c : Crt) (w : World) :
    Calls Try.prog 27 #[c.val] w fun e w' => e = .returned c.val ∧ Below w.heap.size w w' := by
  obtain ⟨c1, c2, c3, c4, c5⟩ := c
  unfold Crt.val
  dsimp only
  go_enter Try.func27, Try.ntmps27
  go_wp2
  refine bodyPost_ret (results_cell_row rfl _ _ _ _ _ _ _ rfl (alloc_new2 w _ _) Try.underlying47 rfl (by kernel_rfl)) rfl ⟨rfl, ?_⟩
  exact ((Below.refl _ _).alloc (Nat.le_refl _) _).alloc (by simp) _
end Go.Proofs.Ytlmimocmllhbkaa

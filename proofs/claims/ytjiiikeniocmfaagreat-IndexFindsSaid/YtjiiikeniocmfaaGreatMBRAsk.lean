/- ref07.In, ref07.Meet, ref12.At, ref12.Over (printed by mkrask12.py) -/
import Derived.Test.YtjiiikeniocmfaaGreatMBBuild
set_option linter.unusedSimpArgs false
set_option linter.unusedVariables false
namespace Go.Proofs.YtjiiikeniocmfaaGreat
open Go.RowKit Go.Geo
attribute [local go_sem] Oper.semAt_some
set_option maxRecDepth 100000 in
set_option maxHeartbeats 1000000 in
theorem rIn_any (p lo hi : Pt) (w : World) :
    Calls Tryz.prog 39 #[ptV p, boxV lo hi] w fun e w' => e = .returned (.bool (boxIn p lo hi)) ∧ Grew w w' := by
  obtain ⟨px, py⟩ := p
  obtain ⟨lx, ly⟩ := lo
  obtain ⟨hx, hy⟩ := hi
  unfold ptV boxV boxIn
  dsimp only
  go_enter Tryz.func39, Tryz.ntmps39
  go_wp2
  all_goals (go_ret; refine ⟨ret_bool ?_, ((Grew.refl _).alloc _).alloc _⟩; first | (simp only [Bool.and_eq_true, decide_eq_true_eq, true_iff, Bool.false_eq_true, false_iff]; omega) | (simp only [Bool.and_eq_true, decide_eq_true_eq]; omega))
end Go.Proofs.YtjiiikeniocmfaaGreat

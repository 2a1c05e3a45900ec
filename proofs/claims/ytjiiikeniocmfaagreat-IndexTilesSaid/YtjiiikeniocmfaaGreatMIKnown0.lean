/- IndexKnown's walk, its parts -/
import Derived.Test.YtjiiikeniocmfaaGreatMIAwake
import Derived.Test.YtjiiikeniocmfaaGreatMRegW
import Derived.Test.YtjiiikeniocmfaaGreatMIClone
set_option linter.unusedSimpArgs false
set_option linter.unusedVariables false
namespace Go.Proofs.YtjiiikeniocmfaaGreat
open Go.RowKit Go.Geo
attribute [local go_sem] Oper.semAt_some
theorem IAt_two (B g og sg : Nat) (G : List Reg) (p : Pt) (w : World) (h : IdxOn (fun _ => False) w B g og sg G) (hB : B ≤ w.heap.size) :
    Calls Tryz.prog 12 #[.pointer (some ⟨g, 0, none⟩), ptV p] w fun e w' => ∃ ao cap, e = .returned (.slice ao (askG (inR p) G).length cap) ∧ IsInts w' ao (askG (inR p) G).length cap (askG (inR p) G) ∧ IdxOn (fun _ => False) w' B g og sg G ∧ Below B w w' ∧ Two og sg w w' := by
  refine (IAt_any (fun _ => False) B g og sg G p w h (fun k hk => hk.elim)).mono ?_
  rintro e w' ⟨v, rfl, ho, hi, ht⟩
  obtain ⟨ao, cap, rfl, hs⟩ := ho.ints
  exact ⟨ao, cap, rfl, hs, hi.step (Nat.le_refl _) (fun _ _ _ => rfl) (fun k hk => hk.elim), ht.below h.lo h.ls hB, ht⟩
end Go.Proofs.YtjiiikeniocmfaaGreat

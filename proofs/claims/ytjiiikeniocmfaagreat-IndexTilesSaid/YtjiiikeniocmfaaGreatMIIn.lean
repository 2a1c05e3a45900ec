/- index.In (printed by mkin14.py) -/
import Derived.Test.YtjiiikeniocmfaaGreatMIAt
import Derived.WalkSpells
set_option linter.unusedSimpArgs false
set_option linter.unusedVariables false
namespace Go.Proofs.YtjiiikeniocmfaaGreat
open Go.RowKit Go.Geo
attribute [local go_sem] Oper.semAt_some
def StIn (X : Nat → Prop) (p : Pt) (B g og sg i : Nat) (G : List Reg) (W : World) : List Value → World → Prop
  | [], w => Below W.heap.size W w
  | [a], w => ∃ gs, a = .pointer (some ⟨gs, 0, none⟩) ∧ IdxOn X w B g og sg G ∧ Two og sg W w ∧ SlabOwn w gs (heightsP (G.getD i [])) (slabsR (G.getD i []))
  | [a, b], w => b = .bool (inR p (G.getD i [])) ∧ IdxOn X w B g og sg G ∧ Two og sg W w
  | [a, b, c], w => c = b ∧ b = .bool (inR p (G.getD i [])) ∧ IdxOn X w B g og sg G ∧ Two og sg W w
  | _, _ => False
theorem StIn.two {X : Nat → Prop} {p : Pt} {B g og sg i : Nat} {G : List Reg} {W : World} {vs : List Value} {w : World} (hl : vs.length ≤ 1) (h : StIn X p B g og sg i G W vs w) : Two og sg W w := by
  match vs, h with
  | [], h => exact Two.of h
  | [_], h => obtain ⟨_, _, _, h, _⟩ := h; exact h
  | _ :: _ :: _, _ => simp at hl
end Go.Proofs.YtjiiikeniocmfaaGreat

/- apportionkit.OverRegion: points of the call's own, written over -/
import Derived.Test.YtjiiikeniocmfaaGreatMSInts
import Derived.Test.YtjiiikeniocmfaaGreatMQUnlike
set_option linter.unusedSimpArgs false
set_option linter.unusedVariables false
namespace Go.Proofs.YtjiiikeniocmfaaGreat
open Go.RowKit Go.Geo
attribute [local go_sem] Oper.semAt_some
/-- nothing has turned but rows of points between two blocks. -/
structure Mid (B L : Nat) (w w' : World) : Prop where
  low : Below B w w'
  high : ∀ k, L ≤ k → w'.heap[k]? = w.heap[k]?
  other : ∀ (k : Nat) (c : Array Value) (t : Nat), w.heap[k]? = some (.cells c t (0, 0)) → t ≠ 24 → w'.heap[k]? = w.heap[k]?
  row : ∀ (k : Nat) (c : Array Value), w.heap[k]? = some (.cells c 24 (0, 0)) → ∃ c', w'.heap[k]? = some (.cells c' 24 (0, 0)) ∧ c'.size = c.size
theorem Mid.refl (B L : Nat) (w : World) : Mid B L w w := ⟨Below.refl _ _, fun _ _ => rfl, fun _ _ _ _ _ => rfl, fun k c h => ⟨c, h, rfl⟩⟩
theorem Mid.put {B L : Nat} {w0 w : World} (h : Mid B L w0 w) {g : Nat} (hB : B ≤ g) (hL : g < L) {c : Array Value} (hg : w.heap[g]? = some (.cells c 24 (0, 0))) (o : Nat) (v : Value) : Mid B L w0 (w.setCell ⟨g, o, none⟩ v) := by
  have hs := heap_setCell_same w g o c _ v hg
  have hne : ∀ k, k ≠ g → (w.setCell ⟨g, o, none⟩ v).heap[k]? = w.heap[k]? := fun k hk => Below.heap_setCell _ _ _ _ hk
  refine ⟨h.low.setCell (p := ⟨g, o, none⟩) hB v, fun k hk => (hne k (by omega)).trans (h.high k hk), fun k c' t hk ht => ?_, fun k c' hk => ?_⟩
  · have h1 := h.other k c' t hk ht
    by_cases he : k = g
    · subst he
      rw [h1, hk] at hg
      injection hg with hg
      injection hg with _ h2
      exact absurd h2 ht
    · exact (hne k he).trans h1
  · obtain ⟨c2, h1, h2⟩ := h.row k c' hk
    by_cases he : k = g
    · subst he
      rw [hg] at h1
      injection h1 with h1
      injection h1 with h3
      subst h3
      exact ⟨_, hs, by simpa using h2⟩
    · exact ⟨c2, (hne k he).trans h1, h2⟩
end Go.Proofs.YtjiiikeniocmfaaGreat

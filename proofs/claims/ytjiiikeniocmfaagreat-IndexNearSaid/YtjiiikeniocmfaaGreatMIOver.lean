/- apportionkit.OverRegion of regions that were written over before -/
import Derived.Test.YtjiiikeniocmfaaGreatMSOver
import Derived.Test.YtjiiikeniocmfaaGreatMIClone
set_option linter.unusedSimpArgs false
set_option linter.unusedVariables false
namespace Go.Proofs.YtjiiikeniocmfaaGreat
open Go.RowKit Go.Geo
attribute [local go_sem] Oper.semAt_some
/-- the shape of a region's rows: points between two blocks. -/
def OverShape (B L : Nat) (w : World) (ao : Option Addr) (n : Nat) : Prop :=
  n ≤ 100000 ∧ ∀ k, k < n → ∃ b off x y z c, ao = some ⟨b, off, none⟩ ∧ w.heap[b]? = some (.cells c 40 (0, 0)) ∧ c[off + k]? = some (.slice x y z) ∧ y ≤ 100000 ∧ (0 < y → ∃ g, x = some ⟨g, 0, none⟩ ∧ B ≤ g ∧ g < L ∧ ∃ c, w.heap[g]? = some (.cells c 24 (0, 0)) ∧ y * 2 ≤ c.size)
theorem OverShape.of {B L : Nat} {w : World} {ao : Option Addr} {n cap : Nat} {R : List (List Pt)} (h : OwnR w B (.slice ao n cap) R) (hs : Small R) (hL : w.heap.size ≤ L) : OverShape B L w ao n := by
  have hn : n = R.length := by
    obtain ⟨ao', cap', e, _⟩ := h.rings
    injection e
  refine ⟨by rw [hn]; exact hs.1, fun k hk => ?_⟩
  obtain ⟨vs, h1, h2, h3⟩ := h
  obtain ⟨u, hu, ho⟩ := h3 k (by omega)
  have hyl : (R.getD k []).length ≤ 100000 := hs.2 k (by omega)
  rcases h2.2 with ⟨e, h0⟩ | ⟨g, cp, cur, e, hbg, hg, hnc, hm, hsz, ht⟩
  · omega
  · injection e with e1 e2 e3
    subst e1
    have hcu : cur[k]? = some u := by
      rw [← ht] at hu
      rw [List.getElem?_take, if_pos (by omega)] at hu
      simpa using hu
    obtain ⟨x, z, rfl, _⟩ := ho.pts
    refine ⟨g, 0, x, (R.getD k []).length, z, cur, rfl, hg, by rw [Nat.zero_add]; exact hcu, hyl, fun hy => ?_⟩
    rcases ho.2 with ⟨e, h0⟩ | ⟨g2, cp2, cur2, e, hbg2, hg2, hnc2, hm2, hsz2, ht2⟩
    · omega
    · injection e with e1 e2 e3
      subst e1
      exact ⟨g2, rfl, hbg2, Nat.lt_of_lt_of_le (heap_lt' hg2) hL, cur2, hg2, by rw [hsz2]; exact Nat.mul_le_mul_right 2 hnc2⟩
/-- memory has grown, and rows of points between two blocks may have turned. -/
structure MidG (B L : Nat) (w w' : World) : Prop where
  os : w'.os = w.os
  tape : w'.tape = w.tape
  output : w'.output = w.output
  size : w.heap.size ≤ w'.heap.size
  out : ∀ k, k < w.heap.size → (k < B ∨ L ≤ k) → w'.heap[k]? = w.heap[k]?
  other : ∀ (k : Nat) (c : Array Value) (t : Nat), w.heap[k]? = some (.cells c t (0, 0)) → t ≠ 24 → w'.heap[k]? = w.heap[k]?
  row : ∀ (k : Nat) (c : Array Value), w.heap[k]? = some (.cells c 24 (0, 0)) → ∃ c', w'.heap[k]? = some (.cells c' 24 (0, 0)) ∧ c'.size = c.size
theorem MidG.refl (B L : Nat) (w : World) : MidG B L w w := ⟨rfl, rfl, rfl, Nat.le_refl _, fun _ _ _ => rfl, fun _ _ _ _ _ => rfl, fun k c h => ⟨c, h, rfl⟩⟩
theorem MidG.trans {B L : Nat} {w w1 w2 : World} (h : MidG B L w w1) (h2 : MidG B L w1 w2) : MidG B L w w2 := by
  refine ⟨h2.os.trans h.os, h2.tape.trans h.tape, h2.output.trans h.output, Nat.le_trans h.size h2.size, fun k hk ho => (h2.out k (Nat.lt_of_lt_of_le hk h.size) ho).trans (h.out k hk ho), fun k c t hk ht => ?_, fun k c hk => ?_⟩
  · exact (h2.other k c t ((h.other k c t hk ht).trans hk) ht).trans (h.other k c t hk ht)
  · obtain ⟨c1, e1, s1⟩ := h.row k c hk
    obtain ⟨c2, e2, s2⟩ := h2.row k c1 e1
    exact ⟨c2, e2, s2.trans s1⟩
theorem MidG.of {B L : Nat} {w w' : World} (h : Below w.heap.size w w') : MidG B L w w' :=
  ⟨h.os, h.tape, h.output, h.size, fun k hk _ => h.block k hk, fun k c t hk _ => h.block k (heap_lt' hk), fun k c hk => ⟨c, (h.block k (heap_lt' hk)).trans hk, rfl⟩⟩
theorem MidG.below {B L : Nat} {w w' : World} (h : MidG B L w w') (hB : B ≤ w.heap.size) : Below B w w' := ⟨h.os, h.tape, h.output, h.size, fun k hk => h.out k (by omega) (.inl hk)⟩
theorem OverShape.keep {B L : Nat} {w w' : World} {ao : Option Addr} {n : Nat} (h : OverShape B L w ao n) (hm : MidG B L w w') : OverShape B L w' ao n := by
  refine ⟨h.1, fun k hk => ?_⟩
  obtain ⟨b, off, x, y, z, c, e1, e2, e3, e4, e5⟩ := h.2 k hk
  refine ⟨b, off, x, y, z, c, e1, (hm.other b c _ e2 (by decide)).trans e2, e3, e4, fun hy => ?_⟩
  obtain ⟨g, f1, f2, f3, c2, f4, f5⟩ := e5 hy
  obtain ⟨c3, g1, g2⟩ := hm.row g c2 f4
  exact ⟨g, f1, f2, f3, c3, g1, by omega⟩
end Go.Proofs.YtjiiikeniocmfaaGreat

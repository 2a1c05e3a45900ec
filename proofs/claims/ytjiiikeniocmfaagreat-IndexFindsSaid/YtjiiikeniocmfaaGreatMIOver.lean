/- apportionkit.OverRegion of regions that were written over before -/
import Derived.Test.YtjiiikeniocmfaaGreatMSOver
import Derived.Test.YtjiiikeniocmfaaGreatMIClone
set_option linter.unusedSimpArgs false
set_option linter.unusedVariables false
namespace Go.Proofs.YtjiiikeniocmfaaGreat
open Go.RowKit Go.Geo
attribute [local go_sem] Oper.semAt_some
/-- the shape of a region's rows: points between two blocks. -/
def OverShape (B L : Nat) (w : World) (ao : Option Addr) (n : Nat) : Prop :=
  n ≤ 100000 ∧ ∀ k, k < n → ∃ b off x y z c, ao = some ⟨b, off, none⟩ ∧ w.heap[b]? = some (.cells c 40 (0, 0)) ∧ c[off + k]? = some (.slice x y z) ∧ y ≤ 100000 ∧ (0 < y → ∃ g, x = some ⟨g, 0, none⟩ ∧ B ≤ g ∧ g < L ∧ ∃ c, w.heap[g]? = some (.cells c 24 (0, 0)) ∧ y * 2 ≤ c.size)
theorem OverShape.of {B L : Nat} {w : World} {ao : Option Addr} {n cap : Nat} {R : List (List Pt)} (h : OwnR w B (.slice ao n cap) R) (hs : Small R) (hL : w.heap.size ≤ L) : OverShape B L w ao n := by
  have hn : n = R.length := by
    obtain ⟨ao', cap', e, _⟩ := h.rings
    injection e
  refine ⟨by rw [hn]; exact hs.1, fun k hk => ?_⟩
  obtain ⟨vs, h1, h2, h3⟩ := h
  obtain ⟨u, hu, ho⟩ := h3 k (by omega)
  have hyl : (R.getD k []).length ≤ 100000 := hs.2 k (by omega)
  rcases h2.2 with ⟨e, h0⟩ | ⟨g, cp, cur, e, hbg, hg, hnc, hm, hsz, ht⟩
  · omega
  · injection e with e1 e2 e3
    subst e1
    have hcu : cur[k]? = some u := by
      rw [← ht] at hu
      rw [List.getElem?_take, if_pos (by omega)] at hu
      simpa using hu
    obtain ⟨x, z, rfl, _⟩ := ho.pts
    refine ⟨g, 0, x, (R.getD k []).length, z, cur, rfl, hg, by rw [Nat.zero_add]; exact hcu, hyl, fun hy => ?_⟩
    rcases ho.2 with ⟨e, h0⟩ | ⟨g2, cp2, cur2, e, hbg2, hg2, hnc2, hm2, hsz2, ht2⟩
    · omega
    · injection e with e1 e2 e3
      subst e1
      exact ⟨g2, rfl, hbg2, Nat.lt_of_lt_of_le (heap_lt' hg2) hL, cur2, hg2, by rw [hsz2]; exact Nat.mul_le_mul_right 2 hnc2⟩
/-- memory has grown, and rows of points between two blocks may have turned. -/
structure MidG (B L : Nat) (w w' : World) : Prop where
  os : w'.os = w.os
  tape : w'.tape = w.tape
  output : w'.output = w.output
  size : w.heap.size ≤ w'.heap.size
  out : ∀ k, k < w.heap.size → (k < B ∨ L ≤ k) → w'.heap[k]? = w.heap[k]?
  other : ∀ (k : Nat) (c : Array Value) (t : Nat), w.heap[k]? = some (.cells c t (0, 0)) → t ≠ 24 → w'.heap[k]? = w.heap[k]?
  row : ∀ (k : Nat) (c : Array Value), w.heap[k]? = some (.cells c 24 (0, 0)) → ∃ c', w'.heap[k]? = some (.cells c' 24 (0, 0)) ∧ c'.size = c.size
theorem MidG.refl (B L : Nat) (w : World) : MidG B L w w := ⟨rfl, rfl, rfl, Nat.le_refl _, fun _ _ _ => rfl, fun _ _ _ _ _ => rfl, fun k c h => ⟨c, h, rfl⟩⟩
theorem MidG.trans {B L : Nat} {w w1 w2 : World} (h : MidG B L w w1) (h2 : MidG B L w1 w2) : MidG B L w w2 := by
  refine ⟨h2.os.trans h.os, h2.tape.trans h.tape, h2.output.trans h.output, Nat.le_trans h.size h2.size, fun k hk ho => (h2.out k (Nat.lt_of_lt_of_le hk h.size) ho).trans (h.out k hk ho), fun k c t hk ht => ?_, fun k c hk => ?_⟩
  · exact (h2.other k c t ((h.other k c t hk ht).trans hk) ht).trans (h.other k c t hk ht)
  · obtain ⟨c1, e1, s1⟩ := h.row k c hk
    obtain ⟨c2, e2, s2⟩ := h2.row k c1 e1
    exact ⟨c2, e2, s2.trans s1⟩
theorem MidG.of {B L : Nat} {w w' : World} (h : Below w.heap.size w w') : MidG B L w w' :=
  ⟨h.os, h.tape, h.output, h.size, fun k hk _ => h.block k hk, fun k c t hk _ => h.block k (heap_lt' hk), fun k c hk => ⟨c, (h.block k (heap_lt' hk)).trans hk, rfl⟩⟩
theorem Mid.toG {B L : Nat} {w w' : World} (h : Mid B L w w') : MidG B L w w' :=
  ⟨h.low.os, h.low.tape, h.low.output, h.low.size, fun k _ ho => by rcases ho with ho | ho; exact h.low.block k ho; exact h.high k ho, h.other, h.row⟩
theorem MidG.below {B L : Nat} {w w' : World} (h : MidG B L w w') (hB : B ≤ w.heap.size) : Below B w w' := ⟨h.os, h.tape, h.output, h.size, fun k hk => h.out k (by omega) (.inl hk)⟩
theorem OverShape.keep {B L : Nat} {w w' : World} {ao : Option Addr} {n : Nat} (h : OverShape B L w ao n) (hm : MidG B L w w') : OverShape B L w' ao n := by
  refine ⟨h.1, fun k hk => ?_⟩
  obtain ⟨b, off, x, y, z, c, e1, e2, e3, e4, e5⟩ := h.2 k hk
  refine ⟨b, off, x, y, z, c, e1, (hm.other b c _ e2 (by decide)).trans e2, e3, e4, fun hy => ?_⟩
  obtain ⟨g, f1, f2, f3, c2, f4, f5⟩ := e5 hy
  obtain ⟨c3, g1, g2⟩ := hm.row g c2 f4
  exact ⟨g, f1, f2, f3, c3, g1, by omega⟩
set_option maxRecDepth 100000 in
set_option maxHeartbeats 4000000 in
theorem OverRegion_shape (B L : Nat) (ao : Option Addr) (n cap : Nat) (w : World) (h : OverShape B L w ao n) (hL : L ≤ w.heap.size) :
    Calls Tryz.prog 22 #[.agg #[.slice ao n cap]] w (OverPost B L w) := by
  obtain ⟨W, hW⟩ : ∃ W, W = w.alloc (.cells #[.slice ao n cap] 30) := ⟨_, rfl⟩
  have hA : Below w.heap.size w W := by rw [hW]; exact (Below.refl _ _).alloc (Nat.le_refl _) _
  have k0 : W.heap[w.heap.size]? = some (.cells #[.slice ao n cap] 30 (0, 0)) := by rw [hW]; exact alloc_new _ _
  have hn1 : n ≤ 100000 := h.1
  have HA := Lib.hid hA
  have hsW := h.keep (MidG.of hA)
  have HR : Hid (∀ k, k < n → ∃ b off x y z, ao = some ⟨b, off, none⟩ ∧ (∀ wr, Mid B L W wr → wr.cell? ⟨b, off + k, none⟩ = some (.slice x y z)) ∧ y ≤ 100000 ∧ (0 < y → ∃ g, x = some ⟨g, 0, none⟩ ∧ B ≤ g ∧ g < L ∧ ∃ c, W.heap[g]? = some (.cells c 24 (0, 0)) ∧ y * 2 ≤ c.size)) := by
    refine Lib.hid fun k hk => ?_
    obtain ⟨b, off, x, y, z, c, e1, e2, e3, e4, e5⟩ := hsW.2 k hk
    exact ⟨b, off, x, y, z, e1, fun wr hm => (cell_of_row _ _ _ _ _ _ ((hm.other b _ _ e2 (by decide)).trans e2)).trans e3, e4, e5⟩
  have HC : Hid (∀ wr, Mid B L W wr → wr.cell? ⟨w.heap.size, 0, none⟩ = some (.slice ao n cap)) := Lib.hid (fun wr hm => cell_of_row _ _ _ _ _ _ ((hm.other _ _ _ k0 (by decide)).trans k0))
  clear h hA hsW k0 hL
  go_enter Tryz.func22, Tryz.ntmps22
  go_wp2_with fail
  rw [← hW]
  clear hW
  go_loopw [2] (fun i wr => ∃ k : Nat, k ≤ n ∧ i = .int .i64 k ∧ Hid (Mid B L W wr)) (fun i _ => n - (intOf i).toNat)
  case atStart => exact ⟨0, by omega, rfl, Mid.refl _ _ _⟩
  case round =>
    obtain ⟨k, hk, rfl, hM⟩ := hrel
    have c0 := HC.out wr hM.out
    by_cases hlt : k < n
    · have hi0 : (0 : Int) ≤ (k : Int) := by omega
      have hi5 : (k : Int) < (n : Int) := by omega
      have hwk : IntKind.i64.wrap ((k : Int) + 1) = (k : Int) + 1 := IntWalk.i64_in _ (by omega)
      obtain ⟨b, off, x, y, z, rfl, hcell, hy, hrow⟩ := HR.out k hlt
      have HCL := Lib.hid hcell
      have HRW := Lib.hid hrow
      clear hcell hrow
      go_wp2_with fail
      clear c0
      go_loopw [3] (fun i wj => ∃ j : Nat, j ≤ y ∧ i = .int .i64 j ∧ Hid (Mid B L W wj)) (fun i _ => y - (intOf i).toNat)
      case atStart => exact ⟨0, by omega, rfl, hM⟩
      case round =>
        clear hM
        obtain ⟨j, hj, rfl, hM⟩ := hrel
        have c0 := HC.out wr hM.out
        have c1 := HCL.out wr hM.out
        have hj0 : (0 : Int) ≤ (j : Int) := by omega
        by_cases hjy : j < y
        · have hj5 : (j : Int) < (y : Int) := by omega
          have hwj : IntKind.i64.wrap ((j : Int) + 1) = (j : Int) + 1 := IntWalk.i64_in _ (by omega)
          obtain ⟨g, rfl, hgB, hgL, c, hgW, hsz⟩ := HRW.out (by omega)
          obtain ⟨c', hg', hsz'⟩ := hM.out.row g c hgW
          have hlt0 : j * 2 < c'.size := by omega
          have hlt1 : j * 2 + 1 < c'.size := by omega
          obtain ⟨v0, hv0⟩ : ∃ v, c'[j * 2]? = some v := ⟨_, Array.getElem?_eq_getElem hlt0⟩
          obtain ⟨v1, hv1⟩ : ∃ v, c'[j * 2 + 1]? = some v := ⟨_, Array.getElem?_eq_getElem hlt1⟩
          have e0 : wr.cell? ⟨g, j * 2, none⟩ = some v0 := (cell_of_row _ _ _ _ _ _ hg').trans hv0
          have e1 : wr.cell? ⟨g, j * 2 + 1, none⟩ = some v1 := (cell_of_row _ _ _ _ _ _ hg').trans hv1
          have f0 : wr.frozen? ⟨g, j * 2, none⟩ = false := frozen_of_row _ _ _ _ _ hg'
          have f1 : wr.frozen? ⟨g, j * 2 + 1, none⟩ = false := frozen_of_row _ _ _ _ _ hg'
          have HG := Lib.hid (And.intro hgB (And.intro hgL hg'))
          clear hgB hgL hgW hsz hg' hsz' hlt0 hlt1 hv0 hv1
          go_wp2_with fail
          go_roundw
          case rel => exact ⟨j + 1, by omega, by go_num, Lib.hid ((hM.out.put HG.out.1 HG.out.2.1 HG.out.2.2 _ _).put HG.out.1 HG.out.2.1 (heap_setCell_same _ _ _ _ _ _ HG.out.2.2) _ _)⟩
          case measure => simp [intOf]; omega
        · have hjy2 : y = j := by omega
          subst hjy2
          have hj5 : ¬ (y : Int) < (y : Int) := by omega
          go_wp2_with fail
          go_roundw
          case rel => exact ⟨k + 1, by omega, by go_num, hM⟩
          case measure => simp [intOf]; omega
    · have hkn : n = k := by omega
      subst hkn
      have hi5 : ¬ (n : Int) < (n : Int) := by omega
      go_wp2_with fail
      refine bodyPost_ret (results_none rfl _ _ _) rfl ?_
      exact ⟨W, rfl, HA.out, hM.out⟩
end Go.Proofs.YtjiiikeniocmfaaGreat

/- apportionkit.OverRegion of regions that were written over before -/
import Derived.Test.YtjiiikeniocmfaaGreatMSOver
import Derived.Test.YtjiiikeniocmfaaGreatMQConcat
import Derived.Test.YtjiiikeniocmfaaGreatMSEdges
import Derived.Test.YtjiiikeniocmfaaGreatMSInts
import Derived.Test.YtjiiikeniocmfaaGreatMIKnown0
set_option linter.unusedSimpArgs false
set_option linter.unusedVariables false
namespace Go.Proofs.YtjiiikeniocmfaaGreat
open Go.RowKit Go.Geo
attribute [local go_sem] Oper.semAt_some
/-- the shape of a region's rows: points between two blocks. -/
def OverShape (B L : Nat) (w : World) (ao : Option Addr) (n : Nat) : Prop :=
  n ≤ 100000 ∧ ∀ k, k < n → ∃ b off x y z c, ao = some ⟨b, off, none⟩ ∧ w.heap[b]? = some (.cells c 40 (0, 0)) ∧ c[off + k]? = some (.slice x y z) ∧ y ≤ 100000 ∧ (0 < y → ∃ g, x = some ⟨g, 0, none⟩ ∧ B ≤ g ∧ g < L ∧ ∃ c, w.heap[g]? = some (.cells c 24 (0, 0)) ∧ y * 2 ≤ c.size)
theorem OverShape.of {B L : Nat} {w : World} {ao : Option Addr} {n cap : Nat} {R : List (List Pt)} (h : OwnR w B (.slice ao n cap) R) (hs : Small R) (hL : w.heap.size ≤ L) : OverShape B L w ao n := by
  have hn : n = R.length := by
    obtain ⟨ao', cap', e, _⟩ := h.rings
    injection e
  refine ⟨by rw [hn]; exact hs.1, fun k hk => ?_⟩
  obtain ⟨vs, h1, h2, h3⟩ := h
  obtain ⟨u, hu, ho⟩ := h3 k (by omega)
  have hyl : (R.getD k []).length ≤ 100000 := hs.2 k (by omega)
  rcases h2.2 with ⟨e, h0⟩ | ⟨g, cp, cur, e, hbg, hg, hnc, hm, hsz, ht⟩
  · omega
  · injection e with e1 e2 e3
    subst e1
    have hcu : cur[k]? = some u := by
      rw [← ht] at hu
      rw [List.getElem?_take, if_pos (by omega)] at hu
      simpa using hu
    obtain ⟨x, z, rfl, _⟩ := ho.pts
    refine ⟨g, 0, x, (R.getD k []).length, z, cur, rfl, hg, by rw [Nat.zero_add]; exact hcu, hyl, fun hy => ?_⟩
    rcases ho.2 with ⟨e, h0⟩ | ⟨g2, cp2, cur2, e, hbg2, hg2, hnc2, hm2, hsz2, ht2⟩
    · omega
    · injection e with e1 e2 e3
      subst e1
      exact ⟨g2, rfl, hbg2, Nat.lt_of_lt_of_le (heap_lt' hg2) hL, cur2, hg2, by rw [hsz2]; exact Nat.mul_le_mul_right 2 hnc2⟩
/-- memory has grown, and rows of points between two blocks may have turned. -/
structure MidG (B L : Nat) (w w' : World) : Prop where
  os : w'.os = w.os
  tape : w'.tape = w.tape
  output : w'.output = w.output
  size : w.heap.size ≤ w'.heap.size
  out : ∀ k, k < w.heap.size → (k < B ∨ L ≤ k) → w'.heap[k]? = w.heap[k]?
  other : ∀ (k : Nat) (c : Array Value) (t : Nat), w.heap[k]? = some (.cells c t (0, 0)) → t ≠ 24 → w'.heap[k]? = w.heap[k]?
  row : ∀ (k : Nat) (c : Array Value), w.heap[k]? = some (.cells c 24 (0, 0)) → ∃ c', w'.heap[k]? = some (.cells c' 24 (0, 0)) ∧ c'.size = c.size
theorem MidG.refl (B L : Nat) (w : World) : MidG B L w w := ⟨rfl, rfl, rfl, Nat.le_refl _, fun _ _ _ => rfl, fun _ _ _ _ _ => rfl, fun k c h => ⟨c, h, rfl⟩⟩
theorem MidG.trans {B L : Nat} {w w1 w2 : World} (h : MidG B L w w1) (h2 : MidG B L w1 w2) : MidG B L w w2 := by
  refine ⟨h2.os.trans h.os, h2.tape.trans h.tape, h2.output.trans h.output, Nat.le_trans h.size h2.size, fun k hk ho => (h2.out k (Nat.lt_of_lt_of_le hk h.size) ho).trans (h.out k hk ho), fun k c t hk ht => ?_, fun k c hk => ?_⟩
  · exact (h2.other k c t ((h.other k c t hk ht).trans hk) ht).trans (h.other k c t hk ht)
  · obtain ⟨c1, e1, s1⟩ := h.row k c hk
    obtain ⟨c2, e2, s2⟩ := h2.row k c1 e1
    exact ⟨c2, e2, s2.trans s1⟩
theorem MidG.of {B L : Nat} {w w' : World} (h : Below w.heap.size w w') : MidG B L w w' :=
  ⟨h.os, h.tape, h.output, h.size, fun k hk _ => h.block k hk, fun k c t hk _ => h.block k (heap_lt' hk), fun k c hk => ⟨c, (h.block k (heap_lt' hk)).trans hk, rfl⟩⟩
theorem Mid.toG {B L : Nat} {w w' : World} (h : Mid B L w w') : MidG B L w w' :=
  ⟨h.low.os, h.low.tape, h.low.output, h.low.size, fun k _ ho => by rcases ho with ho | ho; exact h.low.block k ho; exact h.high k ho, h.other, h.row⟩
theorem MidG.below {B L : Nat} {w w' : World} (h : MidG B L w w') (hB : B ≤ w.heap.size) : Below B w w' := ⟨h.os, h.tape, h.output, h.size, fun k hk => h.out k (by omega) (.inl hk)⟩
theorem OverShape.keep {B L : Nat} {w w' : World} {ao : Option Addr} {n : Nat} (h : OverShape B L w ao n) (hm : MidG B L w w') : OverShape B L w' ao n := by
  refine ⟨h.1, fun k hk => ?_⟩
  obtain ⟨b, off, x, y, z, c, e1, e2, e3, e4, e5⟩ := h.2 k hk
  refine ⟨b, off, x, y, z, c, e1, (hm.other b c _ e2 (by decide)).trans e2, e3, e4, fun hy => ?_⟩
  obtain ⟨g, f1, f2, f3, c2, f4, f5⟩ := e5 hy
  obtain ⟨c3, g1, g2⟩ := hm.row g c2 f4
  exact ⟨g, f1, f2, f3, c3, g1, by omega⟩
set_option maxRecDepth 100000 in
set_option maxHeartbeats 4000000 in
theorem OverRegion_shape (B L : Nat) (ao : Option Addr) (n cap : Nat) (w : World) (h : OverShape B L w ao n) (hL : L ≤ w.heap.size) :
    Calls Tryz.prog 22 #[.agg #[.slice ao n cap]] w (OverPost B L w) := by
  obtain ⟨W, hW⟩ : ∃ W, W = w.alloc (.cells #[.slice ao n cap] 30) := ⟨_, rfl⟩
  have hA : Below w.heap.size w W := by rw [hW]; exact (Below.refl _ _).alloc (Nat.le_refl _) _
  have k0 : W.heap[w.heap.size]? = some (.cells #[.slice ao n cap] 30 (0, 0)) := by rw [hW]; exact alloc_new _ _
  have hn1 : n ≤ 100000 := h.1
  have HA := Lib.hid hA
  have hsW := h.keep (MidG.of hA)
  have HR : Hid (∀ k, k < n → ∃ b off x y z, ao = some ⟨b, off, none⟩ ∧ (∀ wr, Mid B L W wr → wr.cell? ⟨b, off + k, none⟩ = some (.slice x y z)) ∧ y ≤ 100000 ∧ (0 < y → ∃ g, x = some ⟨g, 0, none⟩ ∧ B ≤ g ∧ g < L ∧ ∃ c, W.heap[g]? = some (.cells c 24 (0, 0)) ∧ y * 2 ≤ c.size)) := by
    refine Lib.hid fun k hk => ?_
    obtain ⟨b, off, x, y, z, c, e1, e2, e3, e4, e5⟩ := hsW.2 k hk
    exact ⟨b, off, x, y, z, e1, fun wr hm => (cell_of_row _ _ _ _ _ _ ((hm.other b _ _ e2 (by decide)).trans e2)).trans e3, e4, e5⟩
  have HC : Hid (∀ wr, Mid B L W wr → wr.cell? ⟨w.heap.size, 0, none⟩ = some (.slice ao n cap)) := Lib.hid (fun wr hm => cell_of_row _ _ _ _ _ _ ((hm.other _ _ _ k0 (by decide)).trans k0))
  clear h hA hsW k0 hL
  go_enter Tryz.func22, Tryz.ntmps22
  go_wp2_with fail
  rw [← hW]
  clear hW
  go_loopw [2] (fun i wr => ∃ k : Nat, k ≤ n ∧ i = .int .i64 k ∧ Hid (Mid B L W wr)) (fun i _ => n - (intOf i).toNat)
  case atStart => exact ⟨0, by omega, rfl, Mid.refl _ _ _⟩
  case round =>
    obtain ⟨k, hk, rfl, hM⟩ := hrel
    have c0 := HC.out wr hM.out
    by_cases hlt : k < n
    · have hi0 : (0 : Int) ≤ (k : Int) := by omega
      have hi5 : (k : Int) < (n : Int) := by omega
      have hwk : IntKind.i64.wrap ((k : Int) + 1) = (k : Int) + 1 := IntWalk.i64_in _ (by omega)
      obtain ⟨b, off, x, y, z, rfl, hcell, hy, hrow⟩ := HR.out k hlt
      have HCL := Lib.hid hcell
      have HRW := Lib.hid hrow
      clear hcell hrow
      go_wp2_with fail
      clear c0
      go_loopw [3] (fun i wj => ∃ j : Nat, j ≤ y ∧ i = .int .i64 j ∧ Hid (Mid B L W wj)) (fun i _ => y - (intOf i).toNat)
      case atStart => exact ⟨0, by omega, rfl, hM⟩
      case round =>
        clear hM
        obtain ⟨j, hj, rfl, hM⟩ := hrel
        have c0 := HC.out wr hM.out
        have c1 := HCL.out wr hM.out
        have hj0 : (0 : Int) ≤ (j : Int) := by omega
        by_cases hjy : j < y
        · have hj5 : (j : Int) < (y : Int) := by omega
          have hwj : IntKind.i64.wrap ((j : Int) + 1) = (j : Int) + 1 := IntWalk.i64_in _ (by omega)
          obtain ⟨g, rfl, hgB, hgL, c, hgW, hsz⟩ := HRW.out (by omega)
          obtain ⟨c', hg', hsz'⟩ := hM.out.row g c hgW
          have hlt0 : j * 2 < c'.size := by omega
          have hlt1 : j * 2 + 1 < c'.size := by omega
          obtain ⟨v0, hv0⟩ : ∃ v, c'[j * 2]? = some v := ⟨_, Array.getElem?_eq_getElem hlt0⟩
          obtain ⟨v1, hv1⟩ : ∃ v, c'[j * 2 + 1]? = some v := ⟨_, Array.getElem?_eq_getElem hlt1⟩
          have e0 : wr.cell? ⟨g, j * 2, none⟩ = some v0 := (cell_of_row _ _ _ _ _ _ hg').trans hv0
          have e1 : wr.cell? ⟨g, j * 2 + 1, none⟩ = some v1 := (cell_of_row _ _ _ _ _ _ hg').trans hv1
          have f0 : wr.frozen? ⟨g, j * 2, none⟩ = false := frozen_of_row _ _ _ _ _ hg'
          have f1 : wr.frozen? ⟨g, j * 2 + 1, none⟩ = false := frozen_of_row _ _ _ _ _ hg'
          have HG := Lib.hid (And.intro hgB (And.intro hgL hg'))
          clear hgB hgL hgW hsz hg' hsz' hlt0 hlt1 hv0 hv1
          go_wp2_with fail
          go_roundw
          case rel => exact ⟨j + 1, by omega, by go_num, Lib.hid ((hM.out.put HG.out.1 HG.out.2.1 HG.out.2.2 _ _).put HG.out.1 HG.out.2.1 (heap_setCell_same _ _ _ _ _ _ HG.out.2.2) _ _)⟩
          case measure => simp [intOf]; omega
        · have hjy2 : y = j := by omega
          subst hjy2
          have hj5 : ¬ (y : Int) < (y : Int) := by omega
          go_wp2_with fail
          go_roundw
          case rel => exact ⟨k + 1, by omega, by go_num, hM⟩
          case measure => simp [intOf]; omega
    · have hkn : n = k := by omega
      subst hkn
      have hi5 : ¬ (n : Int) < (n : Int) := by omega
      go_wp2_with fail
      refine bodyPost_ret (results_none rfl _ _ _) rfl ?_
      exact ⟨W, rfl, HA.out, hM.out⟩
end Go.Proofs.YtjiiikeniocmfaaGreat

/- apportionkit.BigRegion -/
set_option linter.unusedSimpArgs false
set_option linter.unusedVariables false
namespace Go.Proofs.YtjiiikeniocmfaaGreat
open Go.RowKit Go.Geo
attribute [local go_sem] Oper.semAt_some
def BigPost (R : List (List Pt)) (most : Nat) (w : World) (e : Ending) (w' : World) : Prop := ∃ q : Bool, e = .returned (.bool q) ∧ (q = false → R.length ≤ 22 ∧ sumLen R ≤ most) ∧ Below w.heap.size w w'
set_option maxRecDepth 100000 in
set_option maxHeartbeats 2000000 in
theorem BigRegion_any (ao : Option Addr) (n cap : Nat) (R : List (List Pt)) (most : Nat) (w : World) (h : IsRings w ao n cap R) (hk : Kept R) (hm : most ≤ 1000) :
    Calls Tryz.prog 34 #[.agg #[.slice ao n cap], .int .i64 (most : Int)] w (BigPost R most w) := by
  have HI := Lib.hid h
  have hcm := h.2.2.1
  have hnc := h.2.1
  have HL := Lib.hid h.1
  unfold maxLen at hcm
  have HK := Lib.hid hk
  obtain ⟨W, hW⟩ : ∃ W, W = w.alloc (.cells #[.slice ao n cap] 30) := ⟨_, rfl⟩
  have hA : Below w.heap.size w W := by rw [hW]; exact (Below.refl _ _).alloc (Nat.le_refl _) _
  have c0 : W.cell? ⟨w.heap.size, 0, none⟩ = some (.slice ao n cap) := by rw [hW]; exact alloc_cell _ _ _
  have HA := Lib.hid hA
  have HC := Lib.hid c0
  have hm9 : (most : Int) ≤ 1000 := by omega
  rw [hW] at c0
  clear h hk hA
  go_enter Tryz.func34, Tryz.ntmps34
  go_wp2_with fail
  rw [← hW]
  clear hW c0
  go_loopw [5, 6] (fun s i wr => ∃ k : Nat, k ≤ n ∧ i = .int .i64 k ∧ (∃ t : Nat, t ≤ 8796093024208 ∧ s = .int .i64 t ∧ Hid (t = sumLen (R.take k))) ∧ wr = W) (fun s i _ => n - (intOf i).toNat)
  case atStart => exact ⟨0, by omega, rfl, ⟨0, by omega, rfl, rfl⟩, rfl⟩
  case round =>
    obtain ⟨k, hk, rfl, ⟨t, htb, rfl, ht⟩, rfl⟩ := hrel
    have c0 := HC.out
    have ht0 : (0 : Int) ≤ (t : Int) := by omega
    by_cases hlt : k < n
    · have hi0 : (0 : Int) ≤ (k : Int) := by omega
      have hi5 : (k : Int) < (n : Int) := by omega
      by_cases hms : t ≤ most
      · have hms2 : (t : Int) ≤ (most : Int) := by omega
        obtain ⟨b, off, x, y, z, rfl, e0, hp⟩ := (HI.out.later HA.out (Nat.le_refl _)).2.2.2.2 k hlt
        have hy : y ≤ 8796093022208 := by rw [← hp.1]; exact HK.out k (by rw [HL.out]; exact hlt)
        have HT : Hid (t + y = sumLen (R.take (k + 1))) := Lib.hid (by rw [sumLen_take (by rw [HL.out]; exact hlt), ← ht.out, hp.1])
        clear hp ht
        go_wp2_with fail
        go_roundw
        case rel => exact ⟨k + 1, by omega, by go_num, ⟨t + y, by omega, by go_num, HT⟩, by first | trivial | rfl⟩
        case measure => simp [intOf]; omega
      · have hms2 : ¬ (t : Int) ≤ (most : Int) := by omega
        have hms3 : (most : Int) < (t : Int) := by omega
        by_cases h22 : 22 < n
        · have h3 : (22 : Int) < (n : Int) := by omega
          go_wp2_with fail
          go_ret
          exact ⟨true, rfl, (fun h => by cases h), HA.out⟩
        · have h3 : ¬ (22 : Int) < (n : Int) := by omega
          go_wp2_with fail
          go_ret
          exact ⟨true, rfl, (fun h => by cases h), HA.out⟩
    · have hkn : n = k := by omega
      subst hkn
      have hi5 : ¬ (n : Int) < (n : Int) := by omega
      by_cases h22 : 22 < n
      · have h3 : (22 : Int) < (n : Int) := by omega
        go_wp2_with fail
        go_ret
        exact ⟨true, rfl, (fun h => by cases h), HA.out⟩
      · have h3 : ¬ (22 : Int) < (n : Int) := by omega
        by_cases hms : t ≤ most
        · have hms2 : (t : Int) ≤ (most : Int) := by omega
          have hms3 : ¬ (most : Int) < (t : Int) := by omega
          have HS : Hid (R.length ≤ 22 ∧ sumLen R ≤ most) := Lib.hid (by
            have h5 := ht.out
            rw [List.take_of_length_le (by rw [HL.out]; exact Nat.le_refl _)] at h5
            exact ⟨by rw [HL.out]; omega, by omega⟩)
          clear ht
          go_wp2_with fail
          go_ret
          exact ⟨false, rfl, fun _ => HS.out, HA.out⟩
        · have hms2 : ¬ (t : Int) ≤ (most : Int) := by omega
          have hms3 : (most : Int) < (t : Int) := by omega
          go_wp2_with fail
          go_ret
          exact ⟨true, rfl, (fun h => by cases h), HA.out⟩
end Go.Proofs.YtjiiikeniocmfaaGreat

/- law14: Big -/
set_option linter.unusedSimpArgs false
set_option linter.unusedVariables false
namespace Go.Proofs.YtjiiikeniocmfaaGreat
open Go.RowKit Go.Geo
attribute [local go_sem] Oper.semAt_some
theorem IsRegs.at {w : World} {ao : Option Addr} {n cap : Nat} {G : List Reg} (h : IsRegs w ao n cap G) {k : Nat} (hk : k < n) : ∃ b off x y z, ao = some ⟨b, off, none⟩ ∧ w.cell? ⟨b, off + k, none⟩ = some (.slice x y z) ∧ IsRings w x y z (G.getD k []) := h.2.2.2.2 k hk
def LBig (G : List Reg) (w : World) (e : Ending) (w' : World) : Prop := ∃ q : Bool, e = .returned (.bool q) ∧ (q = false → G.length ≤ 70 ∧ ∀ i, i < G.length → (G.getD i []).length ≤ 22 ∧ sumLen (G.getD i []) ≤ 120) ∧ Below w.heap.size w w'
set_option maxRecDepth 100000 in
set_option maxHeartbeats 4000000 in
theorem Big_any (ao : Option Addr) (n cap : Nat) (G : List Reg) (w : World) (h : IsRegs w ao n cap G) (hk : ∀ i, i < G.length → Kept (G.getD i [])) :
    Calls Tryz.prog 18 #[.slice ao n cap] w (LBig G w) := by
  have HI := Lib.hid h
  have hcm := h.2.2.1
  have hnc := h.2.1
  have HL := Lib.hid h.1
  unfold maxLen at hcm
  have HK := Lib.hid hk
  clear h hk
  go_enter Tryz.func18, Tryz.ntmps18
  go_wp2_with fail
  go_loopw [3, 4, 5] (fun s i _ wr => ∃ k : Nat, k ≤ n ∧ k ≤ 71 ∧ i = .int .i64 k ∧ (∃ t : Nat, t ≤ 120 * k ∧ s = .int .i64 t) ∧ Hid (∀ j, j < k → (G.getD j []).length ≤ 22 ∧ sumLen (G.getD j []) ≤ 120) ∧ Hid (Below w.heap.size w wr)) (fun s i _ _ => n - (intOf i).toNat)
  case atStart => exact ⟨0, by omega, by omega, rfl, ⟨0, by omega, rfl⟩, Lib.hid (fun j hj => by omega), Below.refl _ _⟩
  case round =>
    obtain ⟨k, hk, hk71, rfl, ⟨t, htb, rfl⟩, hall, hB⟩ := hrel
    have hk0 : (0 : Int) ≤ (k : Int) := by omega
    by_cases hlt : k < n ∧ k < 71
    · obtain ⟨hlt, hlt7⟩ := hlt
      have hi5 : (k : Int) < (n : Int) := by omega
      have hi7 : (k : Int) < 71 := by omega
      obtain ⟨b, off, x, y, z, rfl, e0, hr⟩ := (HI.out.later hB.out (Nat.le_refl _)).at hlt
      have HR := Lib.hid hr
      have HBB := Lib.hid (BigRegion_any x y z (G.getD k []) 120 wr hr (HK.out k (by rw [HL.out]; exact hlt)) (by omega))
      have HYL := Lib.hid hr.1
      clear hr
      go_wp2_with fail
      refine HBB.out.mono ?_
      rintro e w2 ⟨q, rfl, hq, hb2⟩
      have HB2 := Lib.hid (hB.out.trans (hb2.mono hB.out.size))
      have HQ := Lib.hid hq
      have HR2 := Lib.hid (HR.out.later hb2 (Nat.le_refl _))
      have e0' := (hb2.cell (p := ⟨b, off + k, none⟩) (block_lt_of_cell e0)).trans e0
      clear e0 hb2 hq HBB HR
      cases q with
      | true =>
        go_wp2_with fail
        go_ret
        exact ⟨true, rfl, (fun h => by cases h), HB2.out⟩
      | false =>
        obtain ⟨h22, h120⟩ := HQ.out rfl
        have HS := Lib.hid (And.intro h22 h120)
        have hy22 : y ≤ 22 := by rw [← HYL.out]; exact h22
        clear h22 h120 hB
        go_wp2_with fail
        go_loopw [3, 5] (fun s j wr => ∃ m : Nat, m ≤ y ∧ j = .int .i64 m ∧ (∃ u : Nat, s = .int .i64 u ∧ u ≤ 120 * 71 + 120 ∧ Hid (u = t + sumLen ((G.getD k []).take m))) ∧ wr = w2) (fun _ j _ => y - (intOf j).toNat)
        case atStart => exact ⟨0, by omega, rfl, ⟨t, rfl, by omega, Lib.hid (by simp [sumLen])⟩, rfl⟩
        case round =>
          obtain ⟨m, hm, rfl, ⟨u, rfl, hub, hu⟩, rfl⟩ := hrel
          have hm0 : (0 : Int) ≤ (m : Int) := by omega
          by_cases hmy : m < y
          · have hm5 : (m : Int) < (y : Int) := by omega
            obtain ⟨b1, o1, x1, y1, z1, rfl, e1, hp⟩ := HR2.out.2.2.2.2 m hmy
            have hu2 : u + y1 = t + sumLen ((G.getD k []).take (m + 1)) := by
              rw [sumLen_take (by rw [HYL.out]; exact hmy), ← Nat.add_assoc, ← hu.out, hp.1]
            have hle : sumLen ((G.getD k []).take (m + 1)) ≤ sumLen (G.getD k []) := sumLen_take_le _ _
            have h120 := HS.out.2
            have huy : u + y1 ≤ 120 * 71 + 120 := by omega
            have HU := Lib.hid hu2
            clear hu2 hle h120 hp hu
            go_wp2_with fail
            go_roundw
            case rel => exact ⟨m + 1, by omega, by go_num, ⟨u + y1, by go_num, huy, HU⟩, by first | trivial | rfl⟩
            case measure => simp [intOf]; omega
          · have hmy2 : y = m := by omega
            subst hmy2
            have hm5 : ¬ (y : Int) < (y : Int) := by omega
            have hu3 : u ≤ 120 * (k + 1) := by
              have h1 := hu.out
              have h2 := sumLen_take_le (G.getD k []) y
              have h3 := HS.out.2
              omega
            clear hu
            go_wp2_with fail
            go_roundw
            case rel => exact ⟨k + 1, by omega, by omega, by go_num, ⟨u, hu3, rfl⟩, Lib.hid (fun j hj => by
              by_cases hjk : j = k
              · subst hjk; exact HS.out
              · exact hall.out j (by omega)), HB2⟩
            case measure => simp [intOf]; omega
    · have HE := Lib.hid hall.out
      by_cases h70 : 70 < n
      · have h7 : (70 : Int) < (n : Int) := by omega
        have hx : (¬ (k : Int) < (n : Int)) ∨ ((k : Int) < (n : Int) ∧ ¬ (k : Int) < 71) := by omega
        clear hlt
        rcases hx with hx | ⟨hx, hy⟩
        · go_wp2_with fail
          go_ret
          exact ⟨true, rfl, (fun h => by cases h), hB.out⟩
        · go_wp2_with fail
          go_ret
          exact ⟨true, rfl, (fun h => by cases h), hB.out⟩
      · have h7 : ¬ (70 : Int) < (n : Int) := by omega
        have hkn : n = k := by omega
        subst hkn
        have hx : ¬ (n : Int) < (n : Int) := by omega
        clear hlt
        have HN := Lib.hid (show n ≤ 70 by omega)
        have ht0 : (t : Int) ≤ 8520 := by omega
        by_cases h4 : 400 < t
        · have h5 : (400 : Int) < (t : Int) := by omega
          go_wp2_with fail
          go_ret
          exact ⟨true, rfl, (fun h => by cases h), hB.out⟩
        · have h5 : ¬ (400 : Int) < (t : Int) := by omega
          go_wp2_with fail
          go_ret
          exact ⟨false, rfl, fun _ => ⟨by rw [HL.out]; exact HN.out, fun i hi => HE.out i (by rw [HL.out] at hi; exact hi)⟩, hB.out⟩
end Go.Proofs.YtjiiikeniocmfaaGreat

/- IndexFinds: what its walk needs beside -/
set_option linter.unusedSimpArgs false
set_option linter.unusedVariables false
namespace Go.Proofs.YtjiiikeniocmfaaGreat
open Go.RowKit Go.Geo
attribute [local go_sem] Oper.semAt_some
/-- a step that turns nothing from B on but X's. -/
theorem IdxOn.stepB {X X' : Nat → Prop} {w w' : World} {B g og sg : Nat} {G : List Reg} (h : IdxOn X w B g og sg G) (hs : w.heap.size ≤ w'.heap.size) (hb : ∀ k, B ≤ k → k < w.heap.size → ¬ X k → w'.heap[k]? = w.heap[k]?) (hX : ∀ k, X' k → X k ∨ w.heap.size ≤ k) : IdxOn X' w' B g og sg G := by
  obtain ⟨⟨lv, tg, w0, e1, e2, e3, e4⟩, ⟨cs, o1, o2⟩, ⟨ss, s1, s2⟩, he, h1, h2, h3, h4, h5, h6, h7, h8⟩ := h
  have hx : ∀ k, k ≤ g → ¬ X k := fun k hk hx => by have := h8 k hx; omega
  have ho := hb og h1 (heap_lt' o1) (hx _ (by omega))
  have hsg := hb sg h2 (heap_lt' s1) (hx _ (by omega))
  have hg := heap_lt' e1
  have hBg : B ≤ g := by omega
  refine ⟨⟨lv, tg, w0, (hb g hBg hg (hx _ (Nat.le_refl _))).trans e1, e2, e3, e4.move hs (fun k hk => hb k (by omega)) hX⟩, ⟨cs, ho.trans o1, o2⟩, ⟨ss, hsg.trans s1, s2⟩, fun i hi => ?_, h1, h2, h3, h4, h5, h6, h7, fun k hk => ?_⟩
  · rcases he i hi with ⟨k1, k2⟩ | ⟨k1, gs, w1, k2, k3, k4, k5⟩
    · exact .inl ⟨(cell_of_same ho).trans k1, (cell_of_same ho).trans k2⟩
    · exact .inr ⟨(cell_of_same ho).trans k1, gs, w1, (cell_of_same hsg).trans k2, k3, k4, k5.move hs (fun k hk => hb k (by omega)) hX⟩
  · rcases hX k hk with h9 | h9
    · exact h8 k h9
    · omega
/-- is a number one of a region that has the point? -/
def inAt (p : Pt) (G : List Reg) (x : Int) : Bool := decide (0 ≤ x) && decide (x < (G.length : Int)) && inR p (regI G x)
theorem In_all (B g og sg : Nat) (x : Int) (G : List Reg) (p : Pt) (w : World) (h : IdxOn (fun _ => False) w B g og sg G) (hB : B ≤ w.heap.size) :
    Calls Tryz.prog 15 #[.pointer (some ⟨g, 0, none⟩), .int .i64 x, ptV p] w fun e w' => e = .returned (.tuple #[.bool (inAt p G x), .int .i64 (if 0 ≤ x ∧ x < (G.length : Int) then 0 else 6)]) ∧ IdxOn (fun _ => False) w' B g og sg G ∧ Below B w w' ∧ Two og sg w w' := by
  by_cases hx : 0 ≤ x ∧ x < (G.length : Int)
  · obtain ⟨i, rfl⟩ : ∃ i : Nat, x = (i : Int) := ⟨x.toNat, by omega⟩
    have hi : i < G.length := by omega
    have hv : inAt p G (i : Int) = inR p (G.getD i []) := by
      unfold inAt
      rw [decide_eq_true hx.1, decide_eq_true hx.2]
      simp [regI]
    rw [if_pos hx, hv]
    refine (IIn_any (fun _ => False) B g og sg i G p w h (fun k hk => hk.elim) hi).mono ?_
    rintro e w' ⟨rfl, h1, h2⟩
    exact ⟨rfl, h1, h2.below h.lo h.ls hB, h2⟩
  · have hv : inAt p G x = false := by
      unfold inAt
      rcases (show ¬ 0 ≤ x ∨ ¬ x < (G.length : Int) by omega) with h1 | h1
      · rw [decide_eq_false h1]; rfl
      · rw [decide_eq_false h1, Bool.and_false]; rfl
    rw [if_neg hx, hv]
    refine (IIn_out (fun _ => False) B g og sg x G p w h (by omega)).mono ?_
    rintro e w' ⟨rfl, hb⟩
    exact ⟨rfl, h.later hb, hb.mono hB, Two.of hb⟩
theorem idxCheck_zero {G : List Reg} (h : (idxCheckP G).1 = 0) : (idxCheckP G).2 = 0 := by
  unfold idxCheckP at h ⊢
  split at h
  · cases h
  · rename_i h1
    rw [if_neg h1]
    split at h
    · rename_i i hi
      exact absurd h (by
        have := (firstP_eq_some hi).2.1
        simpa using this)
    · rfl
theorem askG_any (p : Pt) (G : List Reg) (x : Int) : (askG (inR p) G).any (fun y => y == x) = inAt p G x := by
  rw [Bool.eq_iff_iff, List.any_eq_true]
  unfold askG inAt
  simp only [List.mem_filter, Bool.and_eq_true, decide_eq_true_eq, beq_iff_eq, allI_mem]
  constructor
  · rintro ⟨y, ⟨h1, h2⟩, rfl⟩
    exact ⟨h1, h2⟩
  · rintro ⟨h1, h2⟩
    exact ⟨x, ⟨h1, h2⟩, rfl⟩
theorem OwnI.froz {w : World} {B gi n c : Nat} {X : List Int} (h : OwnI w B (.slice (some ⟨gi, 0, none⟩) n c) X) (o : Nat) : w.frozen? ⟨gi, o, none⟩ = false := by
  rcases h.2 with ⟨h1, _⟩ | ⟨g, cap, cur, e, _, hg, _⟩
  · simp at h1
  · cases e; exact frozen_of_row _ _ _ _ _ hg
theorem OwnI.zero {w : World} {B n c : Nat} {ai : Option Addr} {X : List Int} (h : OwnI w B (.slice ai n c) X) (hn : 0 < X.length) : ∃ gi, ai = some ⟨gi, 0, none⟩ ∧ B ≤ gi ∧ gi < w.heap.size := by
  rcases h.2 with ⟨h1, h2⟩ | ⟨g, cap, cur, e, hb, hg, _⟩
  · omega
  · cases e; exact ⟨g, rfl, hb, heap_lt' hg⟩
theorem OwnI.put {w : World} {base g cap : Nat} {X : List Int} (h : OwnI w base (.slice (some ⟨g, 0, none⟩) X.length cap) X) (i : Nat) (e : Int) :
    OwnI (w.setCell ⟨g, i, none⟩ (.int .i64 e)) base (.slice (some ⟨g, 0, none⟩) X.length cap) (X.set i e) := by
  unfold OwnI at *
  have hf : flatI (X.set i e) = (flatI X).set i (.int .i64 e) := by simp [flatI, List.map_set]
  rw [List.length_set, hf]
  exact (World.ownsRow.stored h i (.int .i64 e)).1
/-- the stages of two asks, one behind the other. -/
def AskA (p : Pt) (B g og sg : Nat) (G : List Reg) (W : World) (a : Value) (w : World) : Prop := OwnI w W.heap.size a (askG (inR p) G) ∧ IdxOn (fun k => a.ownBlock = some k) w B g og sg G ∧ Two og sg W w
def AskN (p : Pt) (G : List Reg) (W : World) (b : Value) (w : World) : Prop := OwnI w W.heap.size b (askB (nearQ p) (boxesR G))
def StQ (p : Pt) (B g og sg : Nat) (G : List Reg) (W : World) : List Value → World → Prop
  | [], w => IdxOn (fun _ => False) w B g og sg G ∧ Two og sg W w
  | [a], w => AskA p B g og sg G W a w
  | [a, b], w => AskA p B g og sg G W a w ∧ AskN p G W b w
  | [a, b, c], w => c = a ∧ AskA p B g og sg G W a w ∧ AskN p G W b w
  | [a, b, c, d], w => d = b ∧ c = a ∧ AskA p B g og sg G W a w ∧ AskN p G W b w
  | _, _ => False
theorem StQ.two {p : Pt} {B g og sg : Nat} {G : List Reg} {W : World} {vs : List Value} {w : World} (h : StQ p B g og sg G W vs w) : Two og sg W w := by
  match vs, h with
  | [], h => exact h.2
  | [_], h => exact h.2.2
  | [_, _], h => exact h.1.2.2
  | [_, _, _], h => exact h.2.1.2.2
  | [_, _, _, _], h => exact h.2.2.1.2.2
theorem ask_a (p : Pt) (B g og sg : Nat) (G : List Reg) (W w : World) (h : IdxOn (fun _ => False) w B g og sg G ∧ Two og sg W w) :
    Calls Tryz.prog 12 #[.pointer (some ⟨g, 0, none⟩), ptV p] w fun e w' => ∃ a, e = .returned a ∧ AskA p B g og sg G W a w' := by
  refine (IAt_any (fun _ => False) B g og sg G p w h.1 (fun k hk => hk.elim)).mono ?_
  rintro e w' ⟨v, rfl, ho, hi, ht⟩
  exact ⟨v, rfl, ho.base h.2.size, hi.step (Nat.le_refl _) (fun _ _ _ => rfl) (fun k hk => .inl (.inr hk)), h.2.trans ht⟩
theorem ask_n (p : Pt) (B g og sg : Nat) (G : List Reg) (W w : World) (a : Value) (h : AskA p B g og sg G W a w) :
    Calls Tryz.prog 17 #[.pointer (some ⟨g, 0, none⟩), ptV p] w fun e w' => ∃ b, e = .returned b ∧ AskA p B g og sg G W a w' ∧ AskN p G W b w' := by
  refine (Near_any _ B g og sg G p w h.2.1).mono ?_
  rintro e w' ⟨v, rfl, ho, hb⟩
  exact ⟨v, rfl, ⟨h.1.later hb, h.2.1.later hb, h.2.2.trans (Two.of hb)⟩, ho.base h.2.2.size⟩
end Go.Proofs.YtjiiikeniocmfaaGreat

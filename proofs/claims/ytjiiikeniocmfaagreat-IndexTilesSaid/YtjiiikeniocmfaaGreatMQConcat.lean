/- regions, points that came in -/
import Derived.Test.YtjiiikeniocmfaaGreatMQPoint
import Derived.WideShapes
import Derived.Test.YtjiiikeniocmfaaGreatMQCont
import Derived.Test.YtjiiikeniocmfaaGreatMGeo8
import Derived.Test.YtjiiikeniocmfaaGreatMSInts
import Derived.Test.YtjiiikeniocmfaaGreatMQBnd
import Derived.Test.YtjiiikeniocmfaaGreatMQEnds
import Derived.Test.YtjiiikeniocmfaaGreatMSEdges
import Derived.Lib.AppendZerosOnto
namespace Go.Proofs.YtjiiikeniocmfaaGreat
open Go.RowKit Go.Geo
/-- a region: its one cell, a slice. -/
structure Rg where
  a : Option Addr
  n : Nat
  c : Nat
def Rg.val (g : Rg) : Value := .agg #[.slice g.a g.n g.c]
section
variable {H : Type} {enc : TypeId × Value → H} {w : World} {base : Nat} {held : Bool}
set_option maxRecDepth 100000 in
theorem point_of_val {r : Reach} {b2 fuel : Nat} {v : Value} {x : DataW H × List MemPlace} (hv : Value.okWide Tryz.prog w r b2 24 v) (h : DataW.trod enc Tryz.prog w base (fun _ => true) held fuel 24 v.cells.toList = some x) : ∃ p : Pt, v = ptV p ∧ True := by
  obtain ⟨cs, rfl, _⟩ := Go.WideShapes.okWide_struct Tryz.underlying24 hv
  obtain ⟨p, hp⟩ := point_cells h
  refine ⟨p, ?_, trivial⟩
  have : cs.toList = [.int .i64 p.x, .int .i64 p.y] := hp
  unfold ptV
  rw [show cs = #[.int .i64 p.x, .int .i64 p.y] from Array.toList_inj.1 this]
end
end Go.Proofs.YtjiiikeniocmfaaGreat

/- regions that came in, within the form's reach -/
namespace Go.Proofs.YtjiiikeniocmfaaGreat
open Go.RowKit Go.Geo
section
variable {H : Type} {enc : TypeId × Value → H} {w : World} {base : Nat} {spare : Nat → Bool} {held : Bool}
end
end Go.Proofs.YtjiiikeniocmfaaGreat

/- apportionkit.LargeRegion -/
set_option linter.unusedSimpArgs false
set_option linter.unusedVariables false
namespace Go.Proofs.YtjiiikeniocmfaaGreat
open Go.RowKit Go.Geo
attribute [local go_sem] Oper.semAt_some
end Go.Proofs.YtjiiikeniocmfaaGreat

/- slices.Grow, slices.Concat of points; region.Box -/
set_option linter.unusedSimpArgs false
set_option linter.unusedVariables false
namespace Go.Proofs.YtjiiikeniocmfaaGreat
open Go.RowKit Go.Geo Go.Lib
attribute [local go_sem] Oper.semAt_some
set_option maxRecDepth 100000 in
set_option maxHeartbeats 4000000 in
theorem Grow_pts (n : Nat) (w : World) (hn : n ≤ 1000000) :
    Calls Tryz.prog 73 #[.slice none 0 0, .int .i64 n] w fun e w' => ∃ v, e = .returned v ∧ OwnP w' w.heap.size v [] ∧ Below w.heap.size w w' := by
  have hn9 : (n : Int) ≤ 1000000 := by omega
  have hn0 : (0 : Int) ≤ (n : Int) := by omega
  by_cases h0 : n = 0
  · subst h0
    go_enter Tryz.func73, Tryz.ntmps73
    go_wp2
    go_ret
    exact ⟨_, rfl, OwnP.nil _ _, Below.refl _ _⟩
  · obtain ⟨i0, hi, hz0, hz1, hz2⟩ := info_parts' Tryz.infoPt
    have hrz : ∀ ty, (Builtin.append_ #[40, 3] ty #[.slice none 0 0, .int .i64 (n : Int)]).run Tryz.prog w =
        .ok (.slice (some ⟨w.heap.size, 0, none⟩) n (grownCap w n 0 24)) (w.drew.alloc (.cells (([] : List Value).toArray ++ Builtin.zeroCells (Value.agg #[.int .i64 0, .int .i64 0]).cells n ++ Builtin.zeroCells (Value.agg #[.int .i64 0, .int .i64 0]).cells (grownCap w n 0 24 - n)) 24)) := fun ty => by
      have h := Lib.run_append_grow_zeros w 40 3 ty 24 i0 (.agg #[.int .i64 0, .int .i64 0]) .i64 .i64 Tryz.underlying40 Tryz.underlying3 hi hz0 none 0 0 [] (by rw [hz1]; exact run_firstCells_none w.drew 2 0 0 0) n (by omega) (by rw [hz1]; decide) (by omega) (by omega)
        (by rw [hz2]; omega) (by rw [hz2]; exact growslice_fits (by omega) (by omega))
      rw [Nat.zero_add] at h
      exact h
    have hGn : n ≤ grownCap w n 0 24 := grownCap_ge w _ _ _
    obtain ⟨G, hG⟩ : ∃ G, G = grownCap w n 0 24 := ⟨_, rfl⟩
    rw [← hG] at hrz hGn
    have hG63 : G ≤ 9223372036854775807 := by
      have := grownCap_le_maxLen w n 0 24 (by unfold maxLen; omega)
      rw [← hG] at this
      unfold maxLen at this
      omega
    have hnn : (0 : Int) < (n : Int) := by omega
    clear hG
    go_enter Tryz.func73, Tryz.ntmps73
    go_wp2_with (at_builtin; refine Lib.wpList_append_run _ rfl _ _ _ _ rfl _ _ rfl rfl _ _ (hrz _) ?_)
    go_ret
    refine ⟨_, rfl, ⟨rfl, .inr ⟨w.heap.size, G, _, rfl, Nat.le_refl _, alloc_new w.drew _, Nat.zero_le _, by unfold maxLen; omega, ?_, rfl⟩⟩, ((Below.refl _ _).drew).alloc (Nat.le_refl _) _⟩
    rw [Array.size_append, size_zeroCells, size_zeroCells]
    show n * 2 + (G - n) * 2 = G * 2
    omega
theorem flatten_takeQ {R : List (List Pt)} {k : Nat} (h : k < R.length) : (R.take (k + 1)).flatten = (R.take k).flatten ++ R.getD k [] := by
  rw [take_more (d := []) h, List.flatten_append]
  simp
set_option maxRecDepth 100000 in
set_option maxHeartbeats 4000000 in
theorem Concat_pts (ao : Option Addr) (n cap : Nat) (R : List (List Pt)) (w : World) (h : IsRings w ao n cap R) (hs : sumLen R ≤ 1000000) :
    Calls Tryz.prog 47 #[.slice ao n cap] w fun e w' => ∃ v, e = .returned v ∧ OwnP w' w.heap.size v R.flatten ∧ Below w.heap.size w w' := by
  have HI := Lib.hid h
  have HS := Lib.hid hs
  have hcm := h.2.2.1
  have hnc := h.2.1
  have HL := Lib.hid h.1
  unfold maxLen at hcm
  have HG := Lib.hid (Grow_pts (sumLen R) w hs)
  clear h hs
  go_enter Tryz.func47, Tryz.ntmps47
  go_wp2_with fail
  go_loopw [3, 11] (fun s i wr => ∃ k : Nat, k ≤ n ∧ i = .int .i64 k ∧ (∃ t : Nat, s = .int .i64 t ∧ Hid (t = sumLen (R.take k))) ∧ w = wr) (fun s i _ => n - (intOf i).toNat)
  case atStart => exact ⟨0, by omega, rfl, ⟨0, rfl, rfl⟩, rfl⟩
  case round =>
    obtain ⟨k, hk, rfl, ⟨t, rfl, ht⟩, rfl⟩ := hrel
    have htb : (t : Int) ≤ 1000000 := by have h1 := sumLen_take_le R k; have h2 := HS.out; have h3 := ht.out; omega
    have ht0 : (0 : Int) ≤ (t : Int) := by omega
    by_cases hlt : k < n
    · have hi0 : (0 : Int) ≤ (k : Int) := by omega
      have hi5 : (k : Int) < (n : Int) := by omega
      obtain ⟨b, off, x, y, z, rfl, e0, hp⟩ := HI.out.2.2.2.2 k hlt
      have hy : (y : Int) ≤ 1000000 := by
        have h1 := hp.1
        have h2 := sumLen_get (g := R) (k := k) (by rw [HL.out]; exact hlt)
        have h3 := HS.out
        omega
      have hy0 : (0 : Int) ≤ (y : Int) := by omega
      have HT : Hid (t + y = sumLen (R.take (k + 1))) := Lib.hid (by rw [sumLen_take (by rw [HL.out]; exact hlt), ← ht.out, hp.1])
      have hneg : decide ((t : Int) + (y : Int) < 0) = false := decide_eq_false (by omega)
      clear hp
      go_wp2_with fail
      go_roundw
      case rel => exact ⟨k + 1, by omega, by go_num, ⟨t + y, by go_num, HT⟩, by first | trivial | rfl⟩
      case measure => simp [intOf]; omega
    · obtain rfl : n = k := by omega
      have hi5 : ¬ ((n : Int) < (n : Int)) := by omega
      have htt : t = sumLen R := by have := ht.out; rw [List.take_of_length_le (by rw [HL.out]; exact Nat.le_refl _)] at this; exact this
      have HG := HG
      rw [← htt] at HG
      clear htt
      go_wp2_with fail
      refine HG.out.mono ?_
      rintro e w1 ⟨v1, rfl, ho1, hb1⟩
      have H1 := Lib.hid (And.intro ho1 hb1)
      clear ho1 hb1
      go_wp2_with fail
      go_loopw [6, 27] (fun v i wr => ∃ k : Nat, k ≤ n ∧ i = .int .i64 k ∧ Hid (OwnP wr w.heap.size v (R.take k).flatten) ∧ Hid (Below w.heap.size w wr)) (fun _ i _ => n - (intOf i).toNat)
      case atStart => exact ⟨0, by omega, rfl, H1.out.1, H1.out.2⟩
      case round =>
        obtain ⟨k, hk, rfl, hown, hbl⟩ := hrel
        by_cases hlt : k < n
        · have hi0 : (0 : Int) ≤ (k : Int) := by omega
          have hi5 : (k : Int) < (n : Int) := by omega
          obtain ⟨b, off, x, y, z, rfl, e0, hp⟩ := (HI.out.later hbl.out (Nat.le_refl _)).2.2.2.2 k hlt
          have HP := Lib.hid hp
          have HT : Hid ((R.take (k + 1)).flatten = (R.take k).flatten ++ R.getD k []) := Lib.hid (flatten_takeQ (by rw [HL.out]; exact hlt))
          have HLN : Hid ((R.take k).flatten.length + y ≤ 1000000000) := Lib.hid (by
            have h1 := sumLen_take_le R k
            have h2 := sumLen_get (g := R) (k := k) (by rw [HL.out]; exact hlt)
            have h3 := HS.out
            have h4 := hp.1
            rw [sumLen_flatten]
            omega)
          clear hp
          go_wp2_with (at_builtin; refine wpList_append_pts rfl _ _ rfl w.heap.size _ (R.take k).flatten rfl hown.out _ _ _ (R.getD k []) rfl HP.out HLN.out hbl.out.size ?_
                       intro v5 w5 hown5 hg5
                       have H5 := Lib.hid (And.intro hown5 (hbl.out.grown hg5 hbl.out.size (fun k hk => (hown.out.lt k hk).1)))
                       clear hown5 hg5)
          go_roundw
          case rel => exact ⟨k + 1, by omega, by go_num, by rw [HT.out]; exact H5.out.1, H5.out.2⟩
          case measure => simp [intOf]; omega
        · obtain rfl : n = k := by omega
          have hi5 : ¬ ((n : Int) < (n : Int)) := by omega
          go_wp2_with fail
          go_ret
          refine ⟨_, rfl, ?_, hbl.out⟩
          have := hown.out
          rw [List.take_of_length_le (by rw [HL.out]; exact Nat.le_refl _)] at this
          exact this
set_option maxRecDepth 100000 in
set_option maxHeartbeats 2000000 in
theorem Box_region (ao : Option Addr) (n cap : Nat) (R : List (List Pt)) (w : World) (h : IsRings w ao n cap R) (hs : sumLen R ≤ 1000000) :
    Calls Tryz.prog 28 #[.agg #[.slice ao n cap]] w fun e w' => e = .returned (boundsV R.flatten) ∧ Below w.heap.size w w' := by
  obtain ⟨W, hW⟩ : ∃ W, W = (w.alloc (.cells #[.slice ao n cap] 30)).alloc (.cells #[.int .i64 0, .int .i64 0, .int .i64 0, .int .i64 0] 66) := ⟨_, rfl⟩
  have a0 : W.heap[w.heap.size]? = some (.cells #[.slice ao n cap] 30 (0, 0)) := by rw [hW]; exact (Below.heap_alloc _ _ _ (by simp)).trans (alloc_new _ _)
  have a1 : W.heap[w.heap.size + 1]? = some (.cells (boxRow 0 0 0 0) 66 (0, 0)) := by rw [hW]; exact alloc_new2 _ _ _
  have hs0 : W.heap.size = w.heap.size + 2 := by rw [hW]; simp
  have hg0 : Grew w W := by rw [hW]; exact ((Grew.refl _).alloc _).alloc _
  have HC := Lib.hid (Concat_pts ao n cap R W (h.grew hg0) hs)
  have c0 : W.cell? ⟨w.heap.size, 0, none⟩ = some (.slice ao n cap) := cell_of_row _ _ _ _ _ _ a0
  rw [hW] at c0
  have H0 := Lib.hid (And.intro a1 (And.intro hs0 hg0))
  have hbv : ∃ lo hi : Pt, ∃ q : Bool, boundsV R.flatten = .tuple #[boxV lo hi, .bool q] := by
    unfold boundsV
    split
    · exact ⟨_, _, _, rfl⟩
    · exact ⟨_, _, _, rfl⟩
  obtain ⟨lo, hi, q, hbv⟩ := hbv
  have HBV := Lib.hid hbv
  clear h hs a0 a1 hs0 hg0 hbv
  go_enter Tryz.func28, Tryz.ntmps28
  go_wp2_with fail
  rw [← hW]
  clear hW c0
  refine HC.out.mono ?_
  rintro e w1 ⟨v1, rfl, ho1, hb1⟩
  obtain ⟨a1, c1, hv1, hp1⟩ := ho1.pts
  subst hv1
  have hbx := Bounds_any a1 _ c1 R.flatten w1 hp1
  rw [HBV.out] at hbx
  have HBX := Lib.hid hbx
  have HB1 := Lib.hid hb1
  obtain ⟨m, hm⟩ : ∃ m, m = R.flatten.length := ⟨_, rfl⟩
  rw [← hm] at HBX ⊢
  clear ho1 hp1 hbx hb1 hm
  unfold boxV at HBX
  go_wp2_with fail
  refine HBX.out.mono ?_
  rintro e w2 ⟨rfl, hg2⟩
  have hs0 := H0.out.2.1
  have hr := (hg2.1.block (w.heap.size + 1) (by have := HB1.out.size; omega)).trans ((HB1.out.block (w.heap.size + 1) (by omega)).trans H0.out.1)
  obtain ⟨k0, k1, k2, k3⟩ := box_cells hr
  obtain ⟨f0, f1, f2, f3⟩ := box_frozen hr
  have HR := Lib.hid hr
  have HW2 := Lib.hid (H0.out.2.2.1.trans ((HB1.out.trans (hg2.1.mono HB1.out.size)).mono H0.out.2.2.1.size))
  clear hs0 hr hg2
  go_wp2_with fail
  refine bodyPost_ret (results_box rfl rfl (put_box HR.out lo.x lo.y hi.x hi.y)) rfl ⟨?_, ?_⟩
  · rw [HBV.out]; rfl
  · exact (((HW2.out.setCell (p := ⟨w.heap.size + 1, 0, none⟩) (Nat.le_succ _) _).setCell (p := ⟨w.heap.size + 1, 1, none⟩) (Nat.le_succ _) _).setCell (p := ⟨w.heap.size + 1, 2, none⟩) (Nat.le_succ _) _).setCell (p := ⟨w.heap.size + 1, 3, none⟩) (Nat.le_succ _) _
end Go.Proofs.YtjiiikeniocmfaaGreat

/- IndexTiles: the walk (printed by mkitiles14.py) -/
import Derived.Test.YtjiiikeniocmfaaGreatMITile0
import Derived.Deep.CutBlock
import Derived.Deep.DeepCutAuto
set_option linter.unusedSimpArgs false
set_option linter.unusedVariables false
namespace Go.Proofs.YtjiiikeniocmfaaGreat
open Go.RowKit Go.Geo
attribute [local go_sem] Oper.semAt_some
set_option maxRecDepth 100000 in
set_option maxHeartbeats 1000000 in
theorem boxI_own (a b c d : Int) (w : World) : Calls Tryz.prog 10 #[.int .i64 a, .int .i64 b, .int .i64 c, .int .i64 d] w fun e w' => ∃ q, e = .returned (.agg #[.slice (some ⟨q, 0, none⟩) 1 1]) ∧ OwnR w' w.heap.size (.slice (some ⟨q, 0, none⟩) 1 1) [boxP a b c d] ∧ Below w.heap.size w w' := by
  go_enter Tryz.func10, Tryz.ntmps10
  go_wp2_with fail
  obtain ⟨W1, hW1⟩ : ∃ W, W = w.alloc (Obj.cells #[.slice (some ⟨w.heap.size + 1 + 1, 0, none⟩) 1 1] 30) := ⟨_, rfl⟩
  obtain ⟨W2, hW2⟩ : ∃ W, W = W1.alloc (Obj.cells #[.int .i64 a, .int .i64 b, .int .i64 c, .int .i64 b, .int .i64 c, .int .i64 d, .int .i64 a, .int .i64 d] 24) := ⟨_, rfl⟩
  obtain ⟨W3, hW3⟩ : ∃ W, W = W2.alloc (Obj.cells #[.slice (some ⟨w.heap.size + 1, 0, none⟩) 4 4] 40) := ⟨_, rfl⟩
  rw [← hW1, ← hW2, ← hW3]
  have s1 : W1.heap.size = w.heap.size + 1 := by rw [hW1]; simp
  have s2 : W2.heap.size = w.heap.size + 2 := by rw [hW2]; simp [s1]
  have b1 : Below w.heap.size w W1 := by rw [hW1]; exact (Below.refl _ _).alloc (Nat.le_refl _) _
  have b2 : Below W1.heap.size W1 W2 := by rw [hW2]; exact (Below.refl _ _).alloc (Nat.le_refl _) _
  have b3 : Below W2.heap.size W2 W3 := by rw [hW3]; exact (Below.refl _ _).alloc (Nat.le_refl _) _
  have r0 : W1.heap[w.heap.size]? = some (.cells #[.slice (some ⟨w.heap.size + 1 + 1, 0, none⟩) 1 1] 30 (0, 0)) := by rw [hW1]; exact alloc_new _ _
  have r1 : W2.heap[W1.heap.size]? = some (.cells #[.int .i64 a, .int .i64 b, .int .i64 c, .int .i64 b, .int .i64 c, .int .i64 d, .int .i64 a, .int .i64 d] 24 (0, 0)) := by rw [hW2]; exact alloc_new _ _
  have r2 : W3.heap[W2.heap.size]? = some (.cells #[.slice (some ⟨w.heap.size + 1, 0, none⟩) 4 4] 40 (0, 0)) := by rw [hW3]; exact alloc_new _ _
  have q0 := (b3.block _ (by omega)).trans ((b2.block _ (by omega)).trans r0)
  have q1 := (b3.block _ (by omega)).trans r1
  refine bodyPost_ret (results_cell_row rfl _ _ _ _ _ _ _ rfl q0 Tryz.underlying30 rfl (by kernel_rfl)) rfl ⟨_, rfl, ?_, (b1.trans (b2.mono (by omega))).trans (b3.mono (by omega))⟩
  rw [s2] at r2
  rw [s1] at q1
  refine ⟨[.slice (some ⟨w.heap.size + 1, 0, none⟩) 4 4], rfl, ⟨rfl, .inr ⟨_, _, _, rfl, by omega, r2, Nat.le_refl _, by unfold maxLen; omega, rfl, rfl⟩⟩, fun i hi => ?_⟩
  obtain rfl : i = 0 := by simpa using hi
  exact ⟨_, rfl, rfl, .inr ⟨_, _, _, rfl, by omega, q1, Nat.le_refl _, by unfold maxLen; omega, rfl, rfl⟩⟩
/-- four points in a region of the call's own. -/
theorem quad_rings (w : World) (x0 y0 x1 y1 x2 y2 x3 y3 : Int) :
    IsRings (((w.alloc (Obj.cells #[.int .i64 x0, .int .i64 y0, .int .i64 x1, .int .i64 y1, .int .i64 x2, .int .i64 y2, .int .i64 x3, .int .i64 y3] 24)).alloc (Obj.cells #[.slice (some ⟨w.heap.size, 0, none⟩) 4 4] 40)).alloc (Obj.cells #[.slice (some ⟨w.heap.size + 1, 0, none⟩) 1 1] 30)) (some ⟨w.heap.size + 1, 0, none⟩) 1 1 [[⟨x0, y0⟩, ⟨x1, y1⟩, ⟨x2, y2⟩, ⟨x3, y3⟩]] ∧
    Below w.heap.size w (((w.alloc (Obj.cells #[.int .i64 x0, .int .i64 y0, .int .i64 x1, .int .i64 y1, .int .i64 x2, .int .i64 y2, .int .i64 x3, .int .i64 y3] 24)).alloc (Obj.cells #[.slice (some ⟨w.heap.size, 0, none⟩) 4 4] 40)).alloc (Obj.cells #[.slice (some ⟨w.heap.size + 1, 0, none⟩) 1 1] 30)) ∧
    (((w.alloc (Obj.cells #[.int .i64 x0, .int .i64 y0, .int .i64 x1, .int .i64 y1, .int .i64 x2, .int .i64 y2, .int .i64 x3, .int .i64 y3] 24)).alloc (Obj.cells #[.slice (some ⟨w.heap.size, 0, none⟩) 4 4] 40)).alloc (Obj.cells #[.slice (some ⟨w.heap.size + 1, 0, none⟩) 1 1] 30)).heap[w.heap.size + 1 + 1]? = some (.cells #[.slice (some ⟨w.heap.size + 1, 0, none⟩) 1 1] 30 (0, 0)) := by
  obtain ⟨W1, hW1⟩ : ∃ W, W = w.alloc (Obj.cells #[.int .i64 x0, .int .i64 y0, .int .i64 x1, .int .i64 y1, .int .i64 x2, .int .i64 y2, .int .i64 x3, .int .i64 y3] 24) := ⟨_, rfl⟩
  obtain ⟨W2, hW2⟩ : ∃ W, W = W1.alloc (Obj.cells #[.slice (some ⟨w.heap.size, 0, none⟩) 4 4] 40) := ⟨_, rfl⟩
  obtain ⟨W3, hW3⟩ : ∃ W, W = W2.alloc (Obj.cells #[.slice (some ⟨w.heap.size + 1, 0, none⟩) 1 1] 30) := ⟨_, rfl⟩
  rw [← hW1, ← hW2, ← hW3]
  have s1 : W1.heap.size = w.heap.size + 1 := by rw [hW1]; simp
  have s2 : W2.heap.size = w.heap.size + 1 + 1 := by rw [hW2]; simp [s1]
  have b1 : Below w.heap.size w W1 := by rw [hW1]; exact (Below.refl _ _).alloc (Nat.le_refl _) _
  have b2 : Below W1.heap.size W1 W2 := by rw [hW2]; exact (Below.refl _ _).alloc (Nat.le_refl _) _
  have b3 : Below W2.heap.size W2 W3 := by rw [hW3]; exact (Below.refl _ _).alloc (Nat.le_refl _) _
  have r1 : W1.heap[w.heap.size]? = some (.cells #[.int .i64 x0, .int .i64 y0, .int .i64 x1, .int .i64 y1, .int .i64 x2, .int .i64 y2, .int .i64 x3, .int .i64 y3] 24 (0, 0)) := by rw [hW1]; exact alloc_new _ _
  have r2 : W2.heap[w.heap.size + 1]? = some (.cells #[.slice (some ⟨w.heap.size, 0, none⟩) 4 4] 40 (0, 0)) := by rw [hW2, ← s1]; exact alloc_new _ _
  have r3 : W3.heap[w.heap.size + 1 + 1]? = some (.cells #[.slice (some ⟨w.heap.size + 1, 0, none⟩) 1 1] 30 (0, 0)) := by rw [hW3, ← s2]; exact alloc_new _ _
  have q1 := (b3.block _ (by omega)).trans ((b2.block _ (by omega)).trans r1)
  have q2 := (b3.block _ (by omega)).trans r2
  refine ⟨⟨rfl, Nat.le_refl _, by unfold maxLen; omega, (fun h => by cases h), fun k hk => ?_⟩, (b1.trans (b2.mono (by omega))).trans (b3.mono (by omega)), r3⟩
  obtain rfl : k = 0 := by omega
  refine ⟨_, 0, _, _, _, rfl, cell_of_row _ _ _ _ _ _ q2, rfl, Nat.le_refl _, by unfold maxLen; omega, fun _ => ⟨_, 0, rfl, fun i hi => ?_⟩, fun h => by cases h⟩
  match i, hi with
  | 0, _ => exact ⟨cell_of_row _ _ _ _ _ _ q1, cell_of_row _ _ _ _ _ _ q1⟩
  | 1, _ => exact ⟨cell_of_row _ _ _ _ _ _ q1, cell_of_row _ _ _ _ _ _ q1⟩
  | 2, _ => exact ⟨cell_of_row _ _ _ _ _ _ q1, cell_of_row _ _ _ _ _ _ q1⟩
  | 3, _ => exact ⟨cell_of_row _ _ _ _ _ _ q1, cell_of_row _ _ _ _ _ _ q1⟩
theorem two_regs (w : World) {a b : Option Addr} {n m c d : Nat} {R S : Reg} (hR : IsRings w a n c R) (hS : IsRings w b m d S) : IsRegs (w.alloc (Obj.cells #[.slice a n c, .slice b m d] 30)) (some ⟨w.heap.size, 0, none⟩) 2 2 [R, S] := by
  have hb : Below w.heap.size w (w.alloc (Obj.cells #[.slice a n c, .slice b m d] 30)) := (Below.refl _ _).alloc (Nat.le_refl _) _
  have r := alloc_new w (Obj.cells #[.slice a n c, .slice b m d] 30)
  refine ⟨rfl, Nat.le_refl _, by unfold maxLen; omega, (fun h => by cases h), fun k hk => ?_⟩
  match k, hk with
  | 0, _ => exact ⟨_, 0, _, _, _, rfl, cell_of_row _ _ _ _ _ _ r, hR.later hb (Nat.le_refl _)⟩
  | 1, _ => exact ⟨_, 0, _, _, _, rfl, cell_of_row _ _ _ _ _ _ r, hS.later hb (Nat.le_refl _)⟩
theorem IsInts.getAt {w : World} {ao : Option Addr} {n cap : Nat} {L : List Int} (h : IsInts w ao n cap L) {k : Nat} (hk : k < n) : ∃ b off, ao = some ⟨b, off, none⟩ ∧ w.cell? ⟨b, off + k, none⟩ = some (.int .i64 (L.getD k 0)) := by
  obtain ⟨b, off, e, hc⟩ := h.2.2.2.1 (by omega)
  exact ⟨b, off, e, hc k hk⟩
set_option maxRecDepth 100000 in
set_option maxHeartbeats 16000000 in
theorem IndexTiles_any (xo : Option Addr) (nx xc : Nat) (X : List Int) (yo : Option Addr) (ny yc : Nat) (Y : List Int) (p : Pt) (fr tw : Int) (w : World) (hX : IsInts w xo nx xc X) (hY : IsInts w yo ny yc Y) : Calls Tryz.prog 3 #[.slice xo nx xc, .slice yo ny yc, ptV p, .int .i64 fr, .int .i64 tw] w fun e w' => e = .returned (.bool true) ∧ Below w.heap.size w w' := by
  have hxc := hX.2.1
  have hxcm : xc ≤ 9223372036854775807 := hX.2.2.1
  have hyc := hY.2.1
  have hycm : yc ≤ 9223372036854775807 := hY.2.2.1
  obtain ⟨W0, hW0⟩ : ∃ W, W = w.alloc (.cells #[.int .i64 p.x, .int .i64 p.y] 24) := ⟨_, rfl⟩
  obtain ⟨bp, hbp⟩ : ∃ b, b = w.heap.size := ⟨_, rfl⟩
  have hb0 : Below w.heap.size w W0 := by rw [hW0]; exact (Below.refl _ _).alloc (Nat.le_refl _) _
  have k0 : W0.heap[bp]? = some (.cells #[.int .i64 p.x, .int .i64 p.y] 24 (0, 0)) := by rw [hW0, hbp]; exact alloc_new _ _
  have HPC : Hid (∀ wX, Below W0.heap.size W0 wX → wX.cell? ⟨bp, 0, none⟩ = some (.int .i64 p.x) ∧ wX.cell? ⟨bp, 1, none⟩ = some (.int .i64 p.y)) := Lib.hid (fun wX hX => by
    have q0 := (hX.block _ (heap_lt' k0)).trans k0
    exact ⟨cell_of_row _ _ _ _ _ _ q0, cell_of_row _ _ _ _ _ _ q0⟩)
  have HX := Lib.hid (hX.later hb0 (Nat.le_refl _))
  have HY := Lib.hid (hY.later hb0 (Nat.le_refl _))
  have HB0 := Lib.hid hb0
  clear hX hY hb0 k0
  unfold ptV
  go_enter Tryz.func3, Tryz.ntmps3
  go_wp2_with fail
  rw [← hW0, ← hbp]
  clear hW0
  have HBP := Lib.hid hbp
  clear hbp
  refine (awakeI_any W0).mono ?_
  rintro e w1 ⟨rfl, hb1⟩
  have HB1 := Lib.hid hb1
  clear hb1
  have hret : Below w.heap.size w w1 := HB0.out.trans (HB1.out.mono HB0.out.size)
  have HRET := Lib.hid hret
  clear hret
  by_cases hx1 : nx < 1
  · have h1 : (nx : Int) < 1 := by omega
    go_wp2_with fail
    go_ret
    exact ⟨rfl, HRET.out⟩
  by_cases hx5 : 5 < nx
  · have h1 : ¬ (nx : Int) < 1 := by omega
    have h2 : (5 : Int) < (nx : Int) := by omega
    go_wp2_with fail
    go_ret
    exact ⟨rfl, HRET.out⟩
  by_cases hy1 : ny < 1
  · have h1 : ¬ (nx : Int) < 1 := by omega
    have h2 : ¬ (5 : Int) < (nx : Int) := by omega
    have h3 : (ny : Int) < 1 := by omega
    go_wp2_with fail
    go_ret
    exact ⟨rfl, HRET.out⟩
  by_cases hy5 : 5 < ny
  · have h1 : ¬ (nx : Int) < 1 := by omega
    have h2 : ¬ (5 : Int) < (nx : Int) := by omega
    have h3 : ¬ (ny : Int) < 1 := by omega
    have h4 : (5 : Int) < (ny : Int) := by omega
    go_wp2_with fail
    go_ret
    exact ⟨rfl, HRET.out⟩
  have h1 : ¬ (nx : Int) < 1 := by omega
  have h2 : ¬ (5 : Int) < (nx : Int) := by omega
  have h3 : ¬ (ny : Int) < 1 := by omega
  have h4 : ¬ (5 : Int) < (ny : Int) := by omega
  go_wp2_with fail
  have hsx := sumP_in X nx
  have HSX := Lib.hid hsx
  clear hsx
  go_loopw [12, 13, 14, 15, 16, 17, 18] (fun lv xv yv iv _ _ _ wr => ∃ i : Nat, i ≤ ny ∧ iv = .int .i64 i ∧ yv = .int .i64 (sumP Y i) ∧ xv = .int .i64 (if i = 0 then 0 else sumP X nx) ∧ Hid (∃ L : List Reg, OwnG wr w1.heap.size lv L ∧ L.length = i * nx ∧ (∀ R ∈ L, (regionCheckP R).1 = 0 ∧ Small R ∧ sumLen R ≤ 10) ∧ cntR p L = if inB p 0 0 (sumP X nx) (sumP Y i) = true then 1 else 0) ∧ Hid (Below w1.heap.size w1 wr)) (fun _ _ _ iv _ _ _ _ => ny - (intOf iv).toNat)
  case atStart => exact ⟨0, by omega, rfl, rfl, rfl, Lib.hid ⟨[], OwnG.nil _ _, by simp, fun R hR => by simp at hR, by
    have : inB p 0 0 (sumP X nx) (sumP Y 0) = false := by
      unfold inB sumP
      simp only [Bool.and_eq_false_iff, decide_eq_false_iff_not]
      omega
    rw [this]; rfl⟩, Below.refl _ _⟩
  case round =>
    obtain ⟨i, hi, rfl, rfl, rfl, hst, HBW⟩ := hrel
    obtain ⟨L, hLo, hLl, hLok, hLc⟩ := hst.out
    clear hst
    have hi0 : (0 : Int) ≤ (i : Int) := by omega
    by_cases hlt : i < ny
    · have hi5 : (i : Int) < (ny : Int) := by omega
      have hwi : IntKind.i64.wrap ((i : Int) + 1) = (i : Int) + 1 := IntWalk.i64_in _ (by omega)
      obtain ⟨yb, yf, rfl, hyc0⟩ := (HY.out.later (HB1.out.trans (HBW.out.mono HB1.out.size)) (Nat.le_refl _)).getAt hlt
      obtain ⟨hv, hhv⟩ : ∃ v, v = pickP (Y.getD i 0) 1000 := ⟨_, rfl⟩
      have hhr := pick_in (x := Y.getD i 0) (n := 1000) (by omega)
      rw [← hhv] at hhr
      obtain ⟨yi, hyi⟩ : ∃ v, v = Y.getD i 0 := ⟨_, rfl⟩
      obtain ⟨ys, hys⟩ : ∃ v, v = sumP Y i := ⟨_, rfl⟩
      have hysr := sumP_in Y i
      rw [← hys] at hysr
      have hys1 : sumP Y (i + 1) = ys + (1 + hv) := by rw [hys, hhv]; rfl
      rw [← hyi] at hyc0 hhv
      have HYS := Lib.hid (And.intro hys hys1)
      have HST := Lib.hid (And.intro hLo (And.intro hLl (And.intro hLok hLc)))
      have hpk := Pick_any yi 1000 wr (by omega)
      rw [← hhv] at hpk
      have HPK := Lib.hid hpk
      have HHV := Lib.hid hhv
      have hw1 : IntKind.i64.wrap (1 + hv) = 1 + hv := IntWalk.i64_in _ (by omega)
      rw [← hys]
      clear hLo hLl hLok hLc hhv hyi hys hys1 hpk
      obtain ⟨xs0, hxs0⟩ : ∃ v : Int, v = (if i = 0 then 0 else sumP X nx) := ⟨_, rfl⟩
      rw [← hxs0]
      clear hxs0
      go_wp2_with fail
      refine HPK.out.mono ?_
      rintro e w2 ⟨rfl, rfl⟩
      have HBWR := Lib.hid HBW.out
      obtain ⟨wi, hwi2⟩ : ∃ x, x = wr := ⟨_, rfl⟩
      subst hwi2
      clear hyc0
      go_wp2_with fail
      go_loopw [12, 13, 17, 18] (fun lv xv kv _ wr => ∃ k : Nat, k ≤ nx ∧ kv = .int .i64 k ∧ xv = .int .i64 (sumP X k) ∧ Hid (∃ L : List Reg, OwnG wr w1.heap.size lv L ∧ L.length = i * nx + k ∧ (∀ R ∈ L, (regionCheckP R).1 = 0 ∧ Small R ∧ sumLen R ≤ 10) ∧ cntR p L = (if inB p 0 0 (sumP X nx) ys = true then 1 else 0) + if inB p 0 ys (sumP X k) (ys + (1 + hv)) = true then 1 else 0) ∧ Hid (Below w1.heap.size w1 wr)) (fun _ _ kv _ _ => nx - (intOf kv).toNat)
      case atStart =>
        obtain ⟨s1, s2, s3, s4⟩ := HST.out
        refine ⟨0, by omega, rfl, rfl, Lib.hid ⟨L, s1, by rw [s2]; rfl, s3, ?_⟩, HBWR⟩
        have : inB p 0 ys (sumP X 0) (ys + (1 + hv)) = false := by
          unfold inB sumP
          simp only [Bool.and_eq_false_iff, decide_eq_false_iff_not]
          omega
        rw [this, s4, HYS.out.1]
        rfl
      case round =>
        obtain ⟨k, hk, rfl, rfl, hst, HBW2⟩ := hrel
        obtain ⟨M, hMo, hMl, hMok, hMc⟩ := hst.out
        clear hst HST HBW HPK
        have hk0 : (0 : Int) ≤ (k : Int) := by omega
        by_cases hltk : k < nx
        · have hk5 : (k : Int) < (nx : Int) := by omega
          have hwk : IntKind.i64.wrap ((k : Int) + 1) = (k : Int) + 1 := IntWalk.i64_in _ (by omega)
          obtain ⟨xb, xf, rfl, hxc0⟩ := (HX.out.later (HB1.out.trans (HBW2.out.mono HB1.out.size)) (Nat.le_refl _)).getAt hltk
          obtain ⟨wv, hwv⟩ : ∃ v, v = pickP (X.getD k 0) 1000 := ⟨_, rfl⟩
          have hwr := pick_in (x := X.getD k 0) (n := 1000) (by omega)
          rw [← hwv] at hwr
          obtain ⟨xk, hxk⟩ : ∃ v, v = X.getD k 0 := ⟨_, rfl⟩
          obtain ⟨xs, hxs⟩ : ∃ v, v = sumP X k := ⟨_, rfl⟩
          have hxsr := sumP_in X k
          rw [← hxs] at hxsr
          have hxs1 : sumP X (k + 1) = xs + (1 + wv) := by rw [hxs, hwv]; rfl
          rw [← hxk] at hxc0 hwv
          have hpk := Pick_any xk 1000 wr (by omega)
          rw [← hwv] at hpk
          have HPK := Lib.hid hpk
          have HXS := Lib.hid (And.intro hxs hxs1)
          have HMM := Lib.hid (And.intro hMo (And.intro hMl (And.intro hMok hMc)))
          have hw2 : IntKind.i64.wrap (1 + wv) = 1 + wv := IntWalk.i64_in _ (by omega)
          have hw3 : IntKind.i64.wrap (xs + (1 + wv)) = xs + (1 + wv) := IntWalk.i64_in _ (by omega)
          have hw4 : IntKind.i64.wrap (ys + (1 + hv)) = ys + (1 + hv) := IntWalk.i64_in _ (by omega)
          have HTR : Hid (TrapOk xs (xs + (1 + wv)) ys ys (ys + (1 + hv)) (ys + (1 + hv))) := Lib.hid ⟨by omega, by omega, by omega, by omega, by omega, by omega⟩
          have HML : Hid (M.length ≤ 4294967296) := Lib.hid (by rw [hMl]; have : i * nx ≤ 5 * 5 := Nat.mul_le_mul (by omega) (by omega); omega)
          have HX0 := Lib.hid (show 0 ≤ xs by omega)
          rw [← hxs]
          clear hMo hMl hMok hMc hwv hxk hxs hxs1 hpk hwr hhr
          go_wp2_with fail
          refine HPK.out.mono ?_
          rintro e w2 ⟨rfl, rfl⟩
          have HBO := Lib.hid (boxI_own xs ys (xs + (1 + wv)) (ys + (1 + hv)) wr)
          clear hxc0 HPK
          go_wp2_with fail
          refine HBO.out.mono ?_
          rintro e w3 ⟨qb, rfl, hbo, hb3⟩
          have HOV := Lib.hid hbo
          have HO2 := Lib.hid (HMM.out.1.later hb3)
          have HB2 := Lib.hid (HBW2.out.trans (hb3.mono HBW2.out.size))
          have HSZ := Lib.hid HBW2.out.size
          clear hbo hb3 HBO
          go_wp2_with (at_builtin; refine wpList_append_reg rfl _ _ rfl w1.heap.size u12 M rfl (HO2.out.later ((Below.refl _ _).alloc (Nat.le_refl _) _)) w3.heap.size rfl _ [boxP xs ys (xs + (1 + wv)) (ys + (1 + hv))] ((HOV.out.later ((Below.refl _ _).alloc (Nat.le_refl _) _)).base HSZ.out) (alloc_new _ _) HML.out (by have := HB2.out.size; simp; omega) ?_
                       intro v' w9 hov hgr
                       have HN9 := Lib.hid (And.intro hov hgr)
                       have hslv : ∃ ai ni ci, v' = .slice ai ni ci := by
                         obtain ⟨av, cv, hv', _⟩ := hov.regs
                         exact ⟨_, _, _, hv'⟩
                       obtain ⟨ai, ni, ci, hv5⟩ := hslv
                       subst hv5
                       clear hov hgr)
          obtain ⟨o9, g9⟩ := HN9.out
          obtain ⟨m1, m2, m3, m4⟩ := HMM.out
          have hbw9 : Below w1.heap.size w1 w9 := (HB2.out.trans (((Below.refl w3.heap.size w3).alloc (Nat.le_refl _) _).mono HB2.out.size)).grown g9 (by have := HB2.out.size; simp; omega) (fun q hq => (HO2.out.lt q hq).1)
          have hrel9 : ∃ L : List Reg, OwnG w9 w1.heap.size (.slice ai ni ci) L ∧ L.length = i * nx + (k + 1) ∧ (∀ R ∈ L, (regionCheckP R).1 = 0 ∧ Small R ∧ sumLen R ≤ 10) ∧ cntR p L = (if inB p 0 0 (sumP X nx) ys = true then 1 else 0) + if inB p 0 ys (sumP X (k + 1)) (ys + (1 + hv)) = true then 1 else 0 := by
            refine ⟨_, o9, by rw [List.length_append, m2]; rfl, fun R hR => ?_, ?_⟩
            · rcases List.mem_append.1 hR with h | h
              · exact m3 R h
              · rw [List.mem_singleton] at h
                subst h
                exact ⟨trap_ok HTR.out, ⟨by simp, fun k hk => by
                  obtain rfl : k = 0 := by simpa using hk
                  simp [boxP]⟩, by simp [sumLen, boxP]⟩
            · rw [HXS.out.2]
              exact cnt_step HTR.out HX0.out (by rw [m4, HXS.out.1])
          refine ⟨⟨k + 1, by omega, by go_num, by rw [HXS.out.2], Lib.hid hrel9, Lib.hid hbw9⟩, ?_⟩
          simp [intOf]; omega
        · have hkn : nx = k := by omega
          subst hkn
          have hk5 : ¬ (nx : Int) < (nx : Int) := by omega
          have HMM : Hid (∃ L : List Reg, OwnG wr w1.heap.size u12 L ∧ L.length = (i + 1) * nx ∧ (∀ R ∈ L, (regionCheckP R).1 = 0 ∧ Small R ∧ sumLen R ≤ 10) ∧ cntR p L = if inB p 0 0 (sumP X nx) (sumP Y (i + 1)) = true then 1 else 0) := Lib.hid ⟨M, hMo, by rw [hMl, Nat.add_mul, Nat.one_mul], hMok, by rw [HYS.out.2]; exact cnt_row (y := ys) (y2 := ys + (1 + hv)) (by omega) (by omega) hMc⟩
          have hw4 : IntKind.i64.wrap (ys + (1 + hv)) = ys + (1 + hv) := IntWalk.i64_in _ (by omega)
          clear hMo hMl hMok hMc
          go_wp2_with fail
          go_roundw
          case rel => exact ⟨i + 1, by omega, by go_num, by rw [HYS.out.2], by rw [if_neg (by omega)], HMM, HBW2⟩
          case measure => simp [intOf]; omega
    · have hin : ny = i := by omega
      subst hin
      have hi5 : ¬ (ny : Int) < (ny : Int) := by omega
      obtain ⟨xs, hxs⟩ : ∃ v, v = sumP X nx := ⟨_, rfl⟩
      obtain ⟨ys, hys⟩ : ∃ v, v = sumP Y ny := ⟨_, rfl⟩
      have hxsr := HSX.out
      have hysr := sumP_in Y ny
      rw [← hxs] at hxsr hLc
      rw [← hys] at hysr hLc
      rw [← hys, if_neg (by omega), ← hxs]
      obtain ⟨wm, hwm⟩ : ∃ x, x = wr := ⟨_, rfl⟩
      subst hwm
      obtain ⟨ia, ic, hu12, hri⟩ := hLo.regs
      obtain ⟨nl, hnl⟩ : ∃ n, n = L.length := ⟨_, rfl⟩
      rw [← hnl] at hu12 hri
      subst hu12
      have hn25 : nl ≤ 25 := by rw [hnl, hLl]; exact Nat.mul_le_mul (show ny ≤ 5 by omega) (show nx ≤ 5 by omega)
      have HBU := Lib.hid (IBuild_any ia nl ic L wm hri (fun j hj => by
        have hjl : j < L.length := by omega
        have := (hLok (L.getD j []) (by rw [List.getD_eq_getElem?_getD, List.getElem?_eq_getElem hjl]; exact List.getElem_mem _)).2.2
        omega))
      have hlok2 : idxCheckP L = (0, 0) := idxCheck_ok (by omega) (fun j hj => (hLok (L.getD j []) (by rw [List.getD_eq_getElem?_getD, List.getElem?_eq_getElem hj]; exact List.getElem_mem _)).1)
      have HLK := Lib.hid hlok2
      have HLC := Lib.hid hLc
      have HBM := Lib.hid (HB1.out.trans (HBW.out.mono HB1.out.size))
      have HNL := Lib.hid hnl
      clear hLo hLl hLok hLc hri hlok2 hxs hys HBW hnl
      go_upto_region 18 with fail
      go_cut [19] (fun s wc => s = .bool (inB p 0 0 xs ys) ∧ wc = wm)
      case first =>
        obtain ⟨c0, c1⟩ := HPC.out wm HBM.out
        by_cases q1 : (0 : Int) ≤ p.x
        · by_cases q2 : p.x < xs
          · by_cases q3 : (0 : Int) ≤ p.y
            · by_cases q4 : p.y < ys
              · have HV : Hid (inB p 0 0 xs ys = true) := Lib.hid (by unfold inB; simp [q1, q2, q3, q4])
                go_wp2_with fail
                go_meet
                exact ⟨by rw [HV.out], rfl⟩
              · have HV : Hid (inB p 0 0 xs ys = false) := Lib.hid (by unfold inB; simp [q1, q2, q3, q4])
                go_wp2_with fail
                go_meet
                exact ⟨by rw [HV.out], rfl⟩
            · have HV : Hid (inB p 0 0 xs ys = false) := Lib.hid (by unfold inB; simp [q1, q2, q3])
              go_wp2_with fail
              go_meet
              exact ⟨by rw [HV.out], rfl⟩
          · have HV : Hid (inB p 0 0 xs ys = false) := Lib.hid (by unfold inB; simp [q1, q2])
            go_wp2_with fail
            go_meet
            exact ⟨by rw [HV.out], rfl⟩
        · have HV : Hid (inB p 0 0 xs ys = false) := Lib.hid (by unfold inB; simp [q1])
          go_wp2_with fail
          go_meet
          exact ⟨by rw [HV.out], rfl⟩
      case rest =>
        obtain ⟨rfl, rfl⟩ := hcut
        obtain ⟨wm, hwm⟩ : ∃ x, x = wc := ⟨_, rfl⟩
        subst hwm
        go_upto_if 111 with fail
        have HIN2 : Hid (inB p 0 0 xs ys = true ∨ inB p 0 0 xs ys = false) := Lib.hid (by cases inB p 0 0 xs ys <;> simp)
        obtain ⟨bq, hbq⟩ : ∃ b, b = inB p 0 0 xs ys := ⟨_, rfl⟩
        rw [← hbq] at HLC ⊢
        have HBQ := Lib.hid hbq
        clear hbq
        obtain ⟨cn, hcn⟩ : ∃ n : Nat, n = if bq = true then 1 else 0 := ⟨_, rfl⟩
        rw [← hcn] at HLC
        have HCN := Lib.hid hcn
        clear hcn
        go_cut [20] (fun s wc => s = .int .i64 (cn : Int) ∧ wc = wm)
        case first =>
          cases bq with
          | true =>
            go_wp2_with fail
            go_meet
            exact ⟨by rw [HCN.out]; simp, rfl⟩
          | false =>
            go_wp2_with fail
            go_meet
            exact ⟨by rw [HCN.out]; simp, rfl⟩
        case rest =>
          obtain ⟨rfl, rfl⟩ := hcut
          obtain ⟨wm, hwm⟩ : ∃ x, x = wc := ⟨_, rfl⟩
          subst hwm
          go_wp2_with fail
          refine HBU.out.mono ?_
          rintro e w2 ⟨hb2, hok, _⟩
          obtain ⟨g, og, sg, rfl, hx⟩ := hok (by rw [HLK.out])
          obtain ⟨W3, hW3⟩ : ∃ W, W = w2.alloc (Obj.cells #[.int .i64 0, .int .i64 0] 35) := ⟨_, rfl⟩
          have hb3 : Below w2.heap.size w2 W3 := by rw [hW3]; exact (Below.refl _ _).alloc (Nat.le_refl _) _
          have HX3 := Lib.hid (hx.later hb3)
          have HB2 := Lib.hid (HBM.out.trans (hb2.mono HBM.out.size))
          have HB3 := Lib.hid (HB2.out.trans (hb3.mono HB2.out.size))
          have HM3 := Lib.hid (Nat.le_trans hb2.size hb3.size)
          obtain ⟨e1, e2⟩ := HPC.out W3 HB3.out
          have ha := IAt_two _ g og sg L p W3 HX3.out HM3.out
          rw [askG_cnt, HLC.out] at ha
          unfold ptV at ha
          have HA := Lib.hid ha
          rw [hW3] at e1 e2
          clear hb2 hok hx hb3 ha HBU
          go_wp2_with fail
          rw [← hW3]
          clear hW3 e1 e2
          refine HA.out.mono ?_
          rintro e w4 ⟨a4, c4, rfl, hi4, _, hb4, _⟩
          have HB4 := Lib.hid (HB3.out.trans (hb4.mono HBM.out.size))
          clear hi4 hb4 HA
          by_cases hy2 : ys < 2
          · go_wp2_with fail
            go_ret
            exact ⟨rfl, HB0.out.trans (HB4.out.mono HB0.out.size)⟩
          have hw1 : IntKind.i64.wrap (ys - 1) = ys - 1 := IntWalk.i64_in _ (by omega)
          have hp1 := Pick_any fr (ys - 1) w4 (by omega)
          have hf1 := pick_in (x := fr) (n := ys - 1) (by omega)
          have hf2 := pick_in (x := tw) (n := ys - 1) (by omega)
          obtain ⟨fa, hfa⟩ : ∃ v, v = pickP fr (ys - 1) := ⟨_, rfl⟩
          obtain ⟨fb, hfb⟩ : ∃ v, v = pickP tw (ys - 1) := ⟨_, rfl⟩
          rw [← hfa] at hp1 hf1
          rw [← hfb] at hf2
          have HP1 := Lib.hid hp1
          have HFB := Lib.hid hfb
          have hw2 : IntKind.i64.wrap (1 + fa) = 1 + fa := IntWalk.i64_in _ (by omega)
          have hw3 : IntKind.i64.wrap (1 + fb) = 1 + fb := IntWalk.i64_in _ (by omega)
          have HT1 : Hid (TrapOk 0 xs 0 0 (1 + fb) (1 + fa)) := Lib.hid ⟨by omega, by omega, by omega, by omega, by omega, by omega⟩
          have HT2 : Hid (TrapOk 0 xs (1 + fa) (1 + fb) ys ys) := Lib.hid ⟨by omega, by omega, by omega, by omega, by omega, by omega⟩
          clear hp1 hf1 hf2 hfa hfb
          go_wp2_with fail
          refine HP1.out.mono ?_
          rintro e w5 ⟨rfl, rfl⟩
          have hp2 := Pick_any tw (ys - 1) w4 (by omega)
          rw [← HFB.out] at hp2
          have HP2 := Lib.hid hp2
          clear hp2 HP1
          go_wp2_with fail
          refine HP2.out.mono ?_
          rintro e w5 ⟨rfl, rfl⟩
          clear HP2
          go_wp2_with fail
          refine (atI_any 0 0 w4).mono ?_
          rintro e w5 ⟨rfl, hb5⟩
          have HB5 := Lib.hid (HB4.out.trans (hb5.mono HB4.out.size))
          clear hb5
          go_wp2_with fail
          refine (atI_any xs 0 w5).mono ?_
          rintro e w6 ⟨rfl, hb6⟩
          have HB6 := Lib.hid (HB5.out.trans (hb6.mono HB5.out.size))
          clear hb6
          go_wp2_with fail
          refine (atI_any xs (1 + fb) w6).mono ?_
          rintro e w7 ⟨rfl, hb7⟩
          have HB7 := Lib.hid (HB6.out.trans (hb7.mono HB6.out.size))
          clear hb7
          go_wp2_with fail
          refine (atI_any 0 (1 + fa) w7).mono ?_
          rintro e w8 ⟨rfl, hb8⟩
          have HB8 := Lib.hid (HB7.out.trans (hb8.mono HB7.out.size))
          clear hb8
          go_wp2_with fail
          have hqr := quad_rings w8 0 0 xs 0 xs (1 + fb) 0 (1 + fa)
          obtain ⟨W9, hW9⟩ : ∃ W, W = (((w8.alloc (Obj.cells #[.int .i64 0, .int .i64 0, .int .i64 xs, .int .i64 0, .int .i64 xs, .int .i64 (1 + fb), .int .i64 0, .int .i64 (1 + fa)] 24)).alloc (Obj.cells #[.slice (some ⟨w8.heap.size, 0, none⟩) 4 4] 40)).alloc (Obj.cells #[.slice (some ⟨w8.heap.size + 1, 0, none⟩) 1 1] 30)) := ⟨_, rfl⟩
          rw [← hW9] at hqr ⊢
          obtain ⟨q9, hq9⟩ : ∃ q, q = w8.heap.size + 1 := ⟨_, rfl⟩
          rw [← hq9] at hqr ⊢
          have HR9 := Lib.hid (And.intro hqr.1 hqr.2.2)
          have HB9 := Lib.hid (HB8.out.trans (hqr.2.1.mono HB8.out.size))
          clear hqr hW9 hq9
          refine (atI_any 0 (1 + fa) W9).mono ?_
          rintro e w10 ⟨rfl, hb10⟩
          have HR10 := Lib.hid (And.intro (HR9.out.1.later hb10 (Nat.le_refl _)) ((hb10.block _ (heap_lt' HR9.out.2)).trans HR9.out.2))
          have HB10 := Lib.hid (HB9.out.trans (hb10.mono HB9.out.size))
          clear hb10
          go_wp2_with fail
          refine (atI_any xs (1 + fb) w10).mono ?_
          rintro e w11 ⟨rfl, hb11⟩
          have HR11 := Lib.hid (And.intro (HR10.out.1.later hb11 (Nat.le_refl _)) ((hb11.block _ (heap_lt' HR10.out.2)).trans HR10.out.2))
          have HB11 := Lib.hid (HB10.out.trans (hb11.mono HB10.out.size))
          clear hb11
          go_wp2_with fail
          refine (atI_any xs ys w11).mono ?_
          rintro e w12 ⟨rfl, hb12⟩
          have HR12 := Lib.hid (And.intro (HR11.out.1.later hb12 (Nat.le_refl _)) ((hb12.block _ (heap_lt' HR11.out.2)).trans HR11.out.2))
          have HB12 := Lib.hid (HB11.out.trans (hb12.mono HB11.out.size))
          clear hb12
          go_wp2_with fail
          refine (atI_any 0 ys w12).mono ?_
          rintro e w13 ⟨rfl, hb13⟩
          have HR13 := Lib.hid (And.intro (HR12.out.1.later hb13 (Nat.le_refl _)) ((hb13.block _ (heap_lt' HR12.out.2)).trans HR12.out.2))
          have HB13 := Lib.hid (HB12.out.trans (hb13.mono HB12.out.size))
          clear hb13
          have hqr := quad_rings w13 0 (1 + fa) xs (1 + fb) xs ys 0 ys
          obtain ⟨W14, hW14⟩ : ∃ W, W = (((w13.alloc (Obj.cells #[.int .i64 0, .int .i64 (1 + fa), .int .i64 xs, .int .i64 (1 + fb), .int .i64 xs, .int .i64 ys, .int .i64 0, .int .i64 ys] 24)).alloc (Obj.cells #[.slice (some ⟨w13.heap.size, 0, none⟩) 4 4] 40)).alloc (Obj.cells #[.slice (some ⟨w13.heap.size + 1, 0, none⟩) 1 1] 30)) := ⟨_, rfl⟩
          rw [← hW14] at hqr
          have c9 : W14.cell? ⟨q9 + 1, 0, none⟩ = some (.slice (some ⟨q9, 0, none⟩) 1 1) := cell_of_row _ _ _ _ _ _ ((hqr.2.1.block _ (heap_lt' HR13.out.2)).trans HR13.out.2)
          have c14 : W14.cell? ⟨w13.heap.size + 1 + 1, 0, none⟩ = some (.slice (some ⟨w13.heap.size + 1, 0, none⟩) 1 1) := cell_of_row _ _ _ _ _ _ hqr.2.2
          have HRG := Lib.hid (two_regs (R := [trap 0 xs 0 0 (1 + fb) (1 + fa)]) (S := [trap 0 xs (1 + fa) (1 + fb) ys ys]) W14 (HR13.out.1.later hqr.2.1 (Nat.le_refl _)) hqr.1)
          have HB14 := Lib.hid (HB13.out.trans (hqr.2.1.mono HB13.out.size))
          rw [hW14] at c9 c14
          clear hqr
          go_wp2_with fail
          have hs14 : W14.heap.size = w13.heap.size + 1 + 1 + 1 := by rw [hW14]; simp
          rw [← hW14, ← hs14]
          clear c9 c14 hW14 hs14
          have hgo : idxCheckP [[trap 0 xs 0 0 (1 + fb) (1 + fa)], [trap 0 xs (1 + fa) (1 + fb) ys ys]] = (0, 0) := idxCheck_ok (by simp) (fun j hj => by
            match j, hj with
            | 0, _ => exact trap_ok HT1.out
            | 1, _ => exact trap_ok HT2.out)
          have HCC : Hid (cntR p [[trap 0 xs 0 0 (1 + fb) (1 + fa)], [trap 0 xs (1 + fa) (1 + fb) ys ys]] = cn) := Lib.hid (by rw [cut_cnt HT1.out HT2.out, HCN.out, HBQ.out])
          have HGO := Lib.hid hgo
          obtain ⟨W15, hW15⟩ : ∃ W, W = W14.alloc (Obj.cells #[.slice (some ⟨q9, 0, none⟩) 1 1, .slice (some ⟨w13.heap.size + 1, 0, none⟩) 1 1] 30) := ⟨_, rfl⟩
          have hb15 : Below W14.heap.size W14 W15 := by rw [hW15]; exact (Below.refl _ _).alloc (Nat.le_refl _) _
          have hrg := HRG.out
          rw [← hW15] at hrg ⊢
          have HB15 := Lib.hid (HB14.out.trans (hb15.mono HB14.out.size))
          have HBU2 := Lib.hid (IBuild_any _ 2 2 _ W15 hrg (fun j hj => by
            match j, hj with
            | 0, _ => simp [sumLen, trap]
            | 1, _ => simp [sumLen, trap]))
          clear hgo hb15 hrg hW15 HRG
          refine HBU2.out.mono ?_
          rintro e w16 ⟨hb16, hok, _⟩
          obtain ⟨g2, og2, sg2, rfl, hx⟩ := hok (by rw [HGO.out])
          obtain ⟨W17, hW17⟩ : ∃ W, W = w16.alloc (Obj.cells #[.int .i64 0, .int .i64 0] 35) := ⟨_, rfl⟩
          have hb17 : Below w16.heap.size w16 W17 := by rw [hW17]; exact (Below.refl _ _).alloc (Nat.le_refl _) _
          have HB16 := Lib.hid (HB15.out.trans (hb16.mono HB15.out.size))
          have HB17 := Lib.hid (HB16.out.trans (hb17.mono HB16.out.size))
          obtain ⟨e1, e2⟩ := HPC.out W17 HB17.out
          have ha := IAt_two _ g2 og2 sg2 _ p W17 (hx.later hb17) (Nat.le_trans hb16.size hb17.size)
          rw [askG_cnt, HCC.out] at ha
          unfold ptV at ha
          have HA := Lib.hid ha
          rw [hW17] at e1 e2
          clear hb16 hok hx hb17 ha HBU2
          go_wp2_with fail
          rw [← hW17]
          clear hW17 e1 e2
          refine HA.out.mono ?_
          rintro e w18 ⟨a18, c18, rfl, _, _, hb18, _⟩
          have HB18 := Lib.hid (HB17.out.trans (hb18.mono HB15.out.size))
          clear hb18 HA
          go_wp2_with fail
          go_ret
          exact ⟨rfl, HB0.out.trans (HB18.out.mono HB0.out.size)⟩
end Go.Proofs.YtjiiikeniocmfaaGreat

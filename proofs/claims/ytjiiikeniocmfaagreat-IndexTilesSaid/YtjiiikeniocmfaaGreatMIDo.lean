/- law14: box, at -/
import Derived.Test.YtjiiikeniocmfaaGreatMIBuild
import Derived.Test.YtjiiikeniocmfaaGreatMIClone
import Derived.Test.YtjiiikeniocmfaaGreatMSBuild0
set_option linter.unusedSimpArgs false
set_option linter.unusedVariables false
namespace Go.Proofs.YtjiiikeniocmfaaGreat
open Go.RowKit Go.Geo
attribute [local go_sem] Oper.semAt_some
def boxP (a b c d : Int) : List Pt := [⟨a, b⟩, ⟨c, b⟩, ⟨c, d⟩, ⟨a, d⟩]
set_option maxRecDepth 100000 in
theorem atI_any (x y : Int) (w : World) : Calls Tryz.prog 13 #[.int .i64 x, .int .i64 y] w fun e w' => e = .returned (.agg #[.int .i64 x, .int .i64 y]) ∧ Below w.heap.size w w' := by
  go_enter Tryz.func13, Tryz.ntmps13
  go_wp2_with fail
  refine bodyPost_ret (results_point rfl rfl (alloc_new _ _)) rfl ⟨rfl, (Below.refl _ _).alloc (Nat.le_refl _) _⟩
set_option maxRecDepth 100000 in
set_option maxHeartbeats 1000000 in
theorem boxI_any (a b c d : Int) (w : World) : Calls Tryz.prog 10 #[.int .i64 a, .int .i64 b, .int .i64 c, .int .i64 d] w fun e w' => ∃ q, e = .returned (.agg #[.slice (some ⟨q, 0, none⟩) 1 1]) ∧ IsRings w' (some ⟨q, 0, none⟩) 1 1 [boxP a b c d] ∧ Below w.heap.size w w' := by
  go_enter Tryz.func10, Tryz.ntmps10
  go_wp2_with fail
  obtain ⟨W1, hW1⟩ : ∃ W, W = w.alloc (Obj.cells #[.slice (some ⟨w.heap.size + 1 + 1, 0, none⟩) 1 1] 30) := ⟨_, rfl⟩
  obtain ⟨W2, hW2⟩ : ∃ W, W = W1.alloc (Obj.cells #[.int .i64 a, .int .i64 b, .int .i64 c, .int .i64 b, .int .i64 c, .int .i64 d, .int .i64 a, .int .i64 d] 24) := ⟨_, rfl⟩
  obtain ⟨W3, hW3⟩ : ∃ W, W = W2.alloc (Obj.cells #[.slice (some ⟨w.heap.size + 1, 0, none⟩) 4 4] 40) := ⟨_, rfl⟩
  rw [← hW1, ← hW2, ← hW3]
  have s1 : W1.heap.size = w.heap.size + 1 := by rw [hW1]; simp
  have s2 : W2.heap.size = w.heap.size + 2 := by rw [hW2]; simp [s1]
  have b1 : Below w.heap.size w W1 := by rw [hW1]; exact (Below.refl _ _).alloc (Nat.le_refl _) _
  have b2 : Below W1.heap.size W1 W2 := by rw [hW2]; exact (Below.refl _ _).alloc (Nat.le_refl _) _
  have b3 : Below W2.heap.size W2 W3 := by rw [hW3]; exact (Below.refl _ _).alloc (Nat.le_refl _) _
  have r0 : W1.heap[w.heap.size]? = some (.cells #[.slice (some ⟨w.heap.size + 1 + 1, 0, none⟩) 1 1] 30 (0, 0)) := by rw [hW1]; exact alloc_new _ _
  have r1 : W2.heap[W1.heap.size]? = some (.cells #[.int .i64 a, .int .i64 b, .int .i64 c, .int .i64 b, .int .i64 c, .int .i64 d, .int .i64 a, .int .i64 d] 24 (0, 0)) := by rw [hW2]; exact alloc_new _ _
  have r2 : W3.heap[W2.heap.size]? = some (.cells #[.slice (some ⟨w.heap.size + 1, 0, none⟩) 4 4] 40 (0, 0)) := by rw [hW3]; exact alloc_new _ _
  have q0 := (b3.block _ (by omega)).trans ((b2.block _ (by omega)).trans r0)
  have q1 := (b3.block _ (by omega)).trans r1
  refine bodyPost_ret (results_cell_row rfl _ _ _ _ _ _ _ rfl q0 Tryz.underlying30 rfl (by kernel_rfl)) rfl ⟨_, rfl, ?_, (b1.trans (b2.mono (by omega))).trans (b3.mono (by omega))⟩
  refine ⟨rfl, Nat.le_refl _, by unfold maxLen; omega, (fun h => by cases h), fun k hk => ?_⟩
  obtain rfl : k = 0 := by omega
  rw [s2] at r2
  rw [s1] at q1
  refine ⟨_, 0, some ⟨w.heap.size + 1, 0, none⟩, 4, 4, rfl, cell_of_row _ _ _ _ _ _ r2, rfl, Nat.le_refl _, by unfold maxLen; omega, fun _ => ⟨_, 0, rfl, fun i hi => ?_⟩, fun h => by cases h⟩
  match i, hi with
  | 0, _ => exact ⟨cell_of_row _ _ _ _ _ _ q1, cell_of_row _ _ _ _ _ _ q1⟩
  | 1, _ => exact ⟨cell_of_row _ _ _ _ _ _ q1, cell_of_row _ _ _ _ _ _ q1⟩
  | 2, _ => exact ⟨cell_of_row _ _ _ _ _ _ q1, cell_of_row _ _ _ _ _ _ q1⟩
  | 3, _ => exact ⟨cell_of_row _ _ _ _ _ _ q1, cell_of_row _ _ _ _ _ _ q1⟩
end Go.Proofs.YtjiiikeniocmfaaGreat

/- law14: sample -/
set_option linter.unusedSimpArgs false
set_option linter.unusedVariables false
namespace Go.Proofs.YtjiiikeniocmfaaGreat
open Go.RowKit Go.Geo
attribute [local go_sem] Oper.semAt_some
def smG : List Reg := [[boxP 0 0 4 4], [boxP 4 0 8 4], [boxP 0 0 8 8]]
theorem smG_ok : idxCheckP smG = (0, 0) := by decide +kernel
set_option maxRecDepth 100000 in
set_option maxHeartbeats 2000000 in
theorem sampleI_any (w : World) : Calls Tryz.prog 14 #[] w fun e w' => ∃ g og sg, e = .returned (.pointer (some ⟨g, 0, none⟩)) ∧ IdxOn (fun _ => False) w' w.heap.size g og sg smG ∧ Below w.heap.size w w' := by
  go_enter Tryz.func14, Tryz.ntmps14
  go_wp2_with fail
  refine (boxI_any 0 0 4 4 w).mono ?_
  rintro e w1 ⟨q1, rfl, h1, hb1⟩
  have H1 := Lib.hid (And.intro h1 hb1)
  clear h1 hb1
  go_wp2_with fail
  refine (boxI_any 4 0 8 4 w1).mono ?_
  rintro e w2 ⟨q2, rfl, h2, hb2⟩
  have H2 := Lib.hid (And.intro h2 hb2)
  clear h2 hb2
  go_wp2_with fail
  refine (boxI_any 0 0 8 8 w2).mono ?_
  rintro e w3 ⟨q3, rfl, h3, hb3⟩
  have H3 := Lib.hid (And.intro h3 hb3)
  clear h3 hb3
  go_wp2_with fail
  obtain ⟨W4, hW4⟩ : ∃ W, W = w3.alloc (Obj.cells #[.slice (some ⟨q1, 0, none⟩) 1 1, .slice (some ⟨q2, 0, none⟩) 1 1, .slice (some ⟨q3, 0, none⟩) 1 1] 30) := ⟨_, rfl⟩
  rw [← hW4]
  have hb4 : Below w3.heap.size w3 W4 := by rw [hW4]; exact (Below.refl _ _).alloc (Nat.le_refl _) _
  have r4 : W4.heap[w3.heap.size]? = some (.cells #[.slice (some ⟨q1, 0, none⟩) 1 1, .slice (some ⟨q2, 0, none⟩) 1 1, .slice (some ⟨q3, 0, none⟩) 1 1] 30 (0, 0)) := by rw [hW4]; exact alloc_new _ _
  have i1 := (((H1.out.1.later H2.out.2 (Nat.le_refl _)).later H3.out.2 (Nat.le_refl _)).later hb4 (Nat.le_refl _))
  have i2 := ((H2.out.1.later H3.out.2 (Nat.le_refl _)).later hb4 (Nat.le_refl _))
  have i3 := (H3.out.1.later hb4 (Nat.le_refl _))
  have hI : IsRegs W4 (some ⟨w3.heap.size, 0, none⟩) 3 3 smG := by
    refine ⟨rfl, Nat.le_refl _, by unfold maxLen; omega, (fun h => by cases h), fun k hk => ?_⟩
    match k, hk with
    | 0, _ => exact ⟨_, 0, _, _, _, rfl, cell_of_row _ _ _ _ _ _ r4, i1⟩
    | 1, _ => exact ⟨_, 0, _, _, _, rfl, cell_of_row _ _ _ _ _ _ r4, i2⟩
    | 2, _ => exact ⟨_, 0, _, _, _, rfl, cell_of_row _ _ _ _ _ _ r4, i3⟩
  have hb : Below w.heap.size w W4 := (H1.out.2.trans (H2.out.2.mono H1.out.2.size)).trans ((H3.out.2.mono (Nat.le_trans H1.out.2.size H2.out.2.size)).trans (hb4.mono (Nat.le_trans H1.out.2.size (Nat.le_trans H2.out.2.size H3.out.2.size))))
  have HB := Lib.hid hb
  have HBU := Lib.hid (IBuild_any _ 3 3 smG W4 hI (fun i hi => by
    match i, hi with
    | 0, _ => decide
    | 1, _ => decide
    | 2, _ => decide))
  clear hI hb i1 i2 i3 r4 hb4 hW4 H1 H2 H3
  refine HBU.out.mono ?_
  rintro e w5 ⟨hb5, hok, _⟩
  obtain ⟨g, og, sg, rfl, hx⟩ := hok (by rw [smG_ok])
  have HX := Lib.hid hx
  have HB5 := Lib.hid hb5
  clear hok hx hb5
  go_wp2_with fail
  go_ret
  have ha : Below w5.heap.size w5 (w5.alloc (Obj.cells #[.int .i64 0, .int .i64 0] 35)) := (Below.refl _ _).alloc (Nat.le_refl _) _
  have h9 := HX.out.later ha
  exact ⟨g, og, sg, rfl, { h9 with lo := Nat.le_trans HB.out.size h9.lo, ls := Nat.le_trans HB.out.size h9.ls }, (HB.out.trans (HB5.out.mono HB.out.size)).trans (ha.mono (Nat.le_trans HB.out.size HB5.out.size))⟩
end Go.Proofs.YtjiiikeniocmfaaGreat

/- index.slabs$1: makes a region's slabs (printed by mkslabs14.py) -/
set_option linter.unusedSimpArgs false
set_option linter.unusedVariables false
namespace Go.Proofs.YtjiiikeniocmfaaGreat
open Go.RowKit Go.Geo
attribute [local go_sem] Oper.semAt_some
def Bt (W : World) (R : Reg) (a : Value) (w : World) : Prop := Below W.heap.size W w ∧ ∃ gs, a = .tuple #[.pointer (some ⟨gs, 0, none⟩), .agg #[.int .i64 0, .int .i64 0]] ∧ W.heap.size ≤ gs ∧ SlabOwn w gs (heightsP R) (slabsR R)
def StB (W : World) (R : Reg) (sg i : Nat) : List Value → World → Prop
  | [], w => Below W.heap.size W w
  | [a], w => Bt W R a w
  | [a, b], w => b = a ∧ Bt W R a w
  | [a, b, c], w => b = a ∧ ∃ gs, a = .tuple #[.pointer (some ⟨gs, 0, none⟩), .agg #[.int .i64 0, .int .i64 0]] ∧ c = .pointer (some ⟨gs, 0, none⟩) ∧ Below W.heap.size W w ∧ W.heap.size ≤ gs ∧ SlabOwn w gs (heightsP R) (slabsR R)
  | [a, b, c, _], w => ∃ w2 gs, b = a ∧ a = .tuple #[.pointer (some ⟨gs, 0, none⟩), .agg #[.int .i64 0, .int .i64 0]] ∧ Below W.heap.size W w2 ∧ W.heap.size ≤ gs ∧ SlabOwn w2 gs (heightsP R) (slabsR R) ∧ w = w2.setCell ⟨sg, i, none⟩ (.pointer (some ⟨gs, 0, none⟩))
  | _, _ => False
theorem StB.below {W : World} {R : Reg} {sg i : Nat} {vs : List Value} {w : World} (hl : vs.length ≤ 3) (h : StB W R sg i vs w) : Below W.heap.size W w := by
  match vs, h with
  | [], h => exact h
  | [_], h => exact h.1
  | [_, _], h => exact h.2.1
  | [_, _, _], h => obtain ⟨_, _, _, _, hb, _⟩ := h; exact hb
  | [_, _, _, _], h => simp at hl
theorem StB.second {W : World} {R : Reg} {sg i : Nat} {vs : List Value} {w : World} (h : StB W R sg i vs w) (hl : 1 < vs.length) : ∃ gs, vs.getD 1 undef = .tuple #[.pointer (some ⟨gs, 0, none⟩), .agg #[.int .i64 0, .int .i64 0]] := by
  match vs, h with
  | [], h => simp at hl
  | [_], h => simp at hl
  | [_, _], h => obtain ⟨rfl, _, gs, h, _⟩ := h; exact ⟨gs, h⟩
  | [_, _, _], h => obtain ⟨rfl, gs, h, _⟩ := h; exact ⟨gs, h⟩
  | [_, _, _, _], h => obtain ⟨_, gs, rfl, h, _⟩ := h; exact ⟨gs, h⟩
set_option maxRecDepth 100000 in
set_option maxHeartbeats 4000000 in
theorem slabs1_any (bx bi g og sg tg i : Nat) (lv : Value) (G : List Reg) (W : World) (hx : W.cell? ⟨bx, 0, none⟩ = some (.pointer (some ⟨g, 0, none⟩))) (hi : W.cell? ⟨bi, 0, none⟩ = some (.int .i64 (i : Int)))
    (hrow : W.heap[g]? = some (.cells (idxRow lv tg og sg G.length) 57 (0, 0))) (hG : OwnG W (g + 1) lv G) (hs : ∃ ss : Array Value, W.heap[sg]? = some (.cells ss 71 (0, 0)) ∧ ss.size = G.length)
    (hin : i < G.length) (hfew : G.length ≤ 64) (hck : (regionCheckP (G.getD i [])).1 = 0) :
    Calls Tryz.prog 51 #[.pointer (some ⟨bx, 0, none⟩), .pointer (some ⟨bi, 0, none⟩)] W fun e w' => e = .returned (.tuple #[]) ∧ ∃ w2 gs, Below W.heap.size W w2 ∧ W.heap.size ≤ gs ∧ SlabOwn w2 gs (heightsP (G.getD i [])) (slabsR (G.getD i [])) ∧ w' = w2.setCell ⟨sg, i, none⟩ (.pointer (some ⟨gs, 0, none⟩)) := by
  obtain ⟨la, lc, hlv, hI⟩ := hG.regs
  subst hlv
  obtain ⟨lb, lo, x, y, z, hla, hcl, hR⟩ := hI.2.2.2.2 i hin
  subst hla
  obtain ⟨n, hn⟩ : ∃ n, n = G.length := ⟨_, rfl⟩
  rw [← hn] at hI hrow hin hs hfew
  have hcap := hI.2.1
  have hcm := hI.2.2.1
  unfold maxLen at hcm
  have HIX : Hid ((i : Int) < (n : Int) ∧ (0 : Int) ≤ (i : Int) ∧ i < n) := Lib.hid ⟨by omega, by omega, hin⟩
  have HCE : Hid (∀ wX, Below W.heap.size W wX → wX.cell? ⟨bx, 0, none⟩ = some (.pointer (some ⟨g, 0, none⟩)) ∧ wX.cell? ⟨bi, 0, none⟩ = some (.int .i64 (i : Int)) ∧ wX.cell? ⟨g, 1, none⟩ = some (.slice (some ⟨lb, lo, none⟩) n lc) ∧ wX.cell? ⟨g, 4, none⟩ = some (.slice (some ⟨sg, 0, none⟩) n n) ∧ wX.cell? ⟨lb, lo + i, none⟩ = some (.slice x y z)) := Lib.hid (fun wX hb => by
    have hgr := (hb.block g (heap_lt' hrow)).trans hrow
    exact ⟨(hb.cell (p := ⟨bx, 0, none⟩) (block_lt_of_cell hx)).trans hx, (hb.cell (p := ⟨bi, 0, none⟩) (block_lt_of_cell hi)).trans hi, cell_of_row _ _ _ _ _ _ hgr, cell_of_row _ _ _ _ _ _ hgr, (hb.cell (p := ⟨lb, lo + i, none⟩) (block_lt_of_cell hcl)).trans hcl⟩)
  have HSS : Hid (∀ wX, Below W.heap.size W wX → wX.frozen? ⟨sg, i, none⟩ = false ∧ ∃ v, wX.cell? ⟨sg, i, none⟩ = some v) := Lib.hid (fun wX hb => by
    obtain ⟨ss, h1, h2⟩ := hs
    have h3 := (hb.block sg (heap_lt' h1)).trans h1
    exact ⟨frozen_of_row _ _ _ _ _ h3, ss[i]'(by omega), by rw [cell_of_row _ _ _ _ _ _ h3, Array.getElem?_eq_getElem (by omega)]⟩)
  have HBU : Hid (∀ wX, Below W.heap.size W wX → Calls Tryz.prog 52 #[.agg #[.slice x y z]] wX fun e w' => ∃ u, e = .returned u ∧ Bt W (G.getD i []) u w') := Lib.hid (fun wX hb => by
    refine (Build_any x y z (G.getD i []) wX (hR.later hb (Nat.le_refl _)) (by have := (region_ok hck).2.2.1; omega)).mono ?_
    rintro e w' ⟨h1, h2, _⟩
    obtain ⟨gs, rfl, h3, h4⟩ := h2 hck
    exact ⟨_, rfl, hb.trans (h1.mono hb.size), gs, rfl, Nat.le_trans hb.size h3, h4⟩)
  clear hx hi hrow hG hs hin hck hI hcl hR hfew hn
  go_enter Tryz.func51, Tryz.ntmps51
  go_wp2_with fail
  refine wp_region_J (s := [(3, 0), (4, 1), (5, 2), (6, 3), (7, 4), (8, 5), (9, 6), (10, 7), (11, 8), (12, 9), (13, 10), (14, 11), (15, 12), (2, 13), (16, 14), (17, 15), (18, 16)]) (by kernel_rfl) (ChainJ (fun iX => match iX with | 0 => some (.pointer (some ⟨g, 0, none⟩)) | 1 => some (.pointer (some ⟨g, 0, none⟩)) | 2 => some (.pointer (some ⟨g, 4, none⟩)) | 3 => some (.slice (some ⟨sg, 0, none⟩) n n) | 4 => some (.int .i64 (i : Int)) | 5 => some (.pointer (some ⟨g, 0, none⟩)) | 6 => some (.pointer (some ⟨g, 0, none⟩)) | 7 => some (.pointer (some ⟨g, 1, none⟩)) | 8 => some (.slice (some ⟨lb, lo, none⟩) n lc) | 9 => some (.int .i64 (i : Int)) | 10 => some (.pointer (some ⟨lb, lo + i, none⟩)) | 11 => some (.agg #[.slice x y z]) | 15 => some (.agg #[.int .i64 0, .int .i64 0]) | 16 => some (.pointer (some ⟨sg, i, none⟩)) | _ => none) [12, 13, 14, 17] (StB W (G.getD i []) sg i)) (by kernel_rfl) (by kernel_rfl) (by kernel_rfl) (by kernel_rfl) (fun _ => undef) ?start0 ?step0 ?done0
  case start0 => exact ChainJ.start ((Below.refl _ _).drew)
  case step0 =>
    refine ⟨?o0_0, ?o0_1, ?o0_2, ?o0_3, ?o0_4, ?o0_5, ?o0_6, ?o0_7, ?o0_8, ?o0_9, ?o0_10, ?o0_11, ?o0_12, ?o0_13, ?o0_14, ?o0_15, ?o0_16, ?o0_17, trivial⟩
    case o0_0 =>
      intro LX V aX wX K hl hp hcl hf hJ hK
      have t0 : aX.tmps[0]? = some (.pointer (some ⟨bx, 0, none⟩)) := hf.old (by kernel_rfl) rfl
      obtain ⟨vs, hlen, hS⟩ := hJ.upto 3 (by decide) (hcl.no 17 (by kernel_rfl) hl)
      have hB := StB.below hlen hS
      obtain ⟨cx, ci, cg1, cg4, cl⟩ := HCE.out wX hB
      rw [if_pos (by rfl)]
      go_simp
      exact hK _ _ (hJ.val 0 _ (by kernel_rfl) rfl (fun _ h => h))
    case o0_1 =>
      intro LX V aX wX K hl hp hcl hf hJ hK
      have t3 := hf.in (i := 0) (d := 3) (by kernel_rfl) (hp 0 (by kernel_rfl)) (hJ.vals 0 _ rfl (hp 0 (by kernel_rfl)))
      rw [if_pos (by rfl)]
      go_simp
      exact hK _ _ (hJ.val 1 _ (by kernel_rfl) rfl (fun _ h => h))
    case o0_2 =>
      intro LX V aX wX K hl hp hcl hf hJ hK
      have t4 := hf.in (i := 1) (d := 4) (by kernel_rfl) (hp 1 (by kernel_rfl)) (hJ.vals 1 _ rfl (hp 1 (by kernel_rfl)))
      rw [if_pos (by rfl)]
      go_simp
      exact hK _ _ (hJ.val 2 _ (by kernel_rfl) rfl (fun _ h => h))
    case o0_3 =>
      intro LX V aX wX K hl hp hcl hf hJ hK
      have t5 := hf.in (i := 2) (d := 5) (by kernel_rfl) (hp 2 (by kernel_rfl)) (hJ.vals 2 _ rfl (hp 2 (by kernel_rfl)))
      obtain ⟨vs, hlen, hS⟩ := hJ.upto 3 (by decide) (hcl.no 17 (by kernel_rfl) hl)
      have hB := StB.below hlen hS
      obtain ⟨cx, ci, cg1, cg4, cl⟩ := HCE.out wX hB
      rw [if_pos (by rfl)]
      go_simp
      exact hK _ _ (hJ.val 3 _ (by kernel_rfl) rfl (fun _ h => h))
    case o0_4 =>
      intro LX V aX wX K hl hp hcl hf hJ hK
      have t1 : aX.tmps[1]? = some (.pointer (some ⟨bi, 0, none⟩)) := hf.old (by kernel_rfl) rfl
      obtain ⟨vs, hlen, hS⟩ := hJ.upto 3 (by decide) (hcl.no 17 (by kernel_rfl) hl)
      have hB := StB.below hlen hS
      obtain ⟨cx, ci, cg1, cg4, cl⟩ := HCE.out wX hB
      rw [if_pos (by rfl)]
      go_simp
      exact hK _ _ (hJ.val 4 _ (by kernel_rfl) rfl (fun _ h => h))
    case o0_5 =>
      intro LX V aX wX K hl hp hcl hf hJ hK
      have t0 : aX.tmps[0]? = some (.pointer (some ⟨bx, 0, none⟩)) := hf.old (by kernel_rfl) rfl
      obtain ⟨vs, hlen, hS⟩ := hJ.upto 3 (by decide) (hcl.no 17 (by kernel_rfl) hl)
      have hB := StB.below hlen hS
      obtain ⟨cx, ci, cg1, cg4, cl⟩ := HCE.out wX hB
      rw [if_pos (by rfl)]
      go_simp
      exact hK _ _ (hJ.val 5 _ (by kernel_rfl) rfl (fun _ h => h))
    case o0_6 =>
      intro LX V aX wX K hl hp hcl hf hJ hK
      have t8 := hf.in (i := 5) (d := 8) (by kernel_rfl) (hp 5 (by kernel_rfl)) (hJ.vals 5 _ rfl (hp 5 (by kernel_rfl)))
      rw [if_pos (by rfl)]
      go_simp
      exact hK _ _ (hJ.val 6 _ (by kernel_rfl) rfl (fun _ h => h))
    case o0_7 =>
      intro LX V aX wX K hl hp hcl hf hJ hK
      have t9 := hf.in (i := 6) (d := 9) (by kernel_rfl) (hp 6 (by kernel_rfl)) (hJ.vals 6 _ rfl (hp 6 (by kernel_rfl)))
      rw [if_pos (by rfl)]
      go_simp
      exact hK _ _ (hJ.val 7 _ (by kernel_rfl) rfl (fun _ h => h))
    case o0_8 =>
      intro LX V aX wX K hl hp hcl hf hJ hK
      have t10 := hf.in (i := 7) (d := 10) (by kernel_rfl) (hp 7 (by kernel_rfl)) (hJ.vals 7 _ rfl (hp 7 (by kernel_rfl)))
      obtain ⟨vs, hlen, hS⟩ := hJ.upto 3 (by decide) (hcl.no 17 (by kernel_rfl) hl)
      have hB := StB.below hlen hS
      obtain ⟨cx, ci, cg1, cg4, cl⟩ := HCE.out wX hB
      rw [if_pos (by rfl)]
      go_simp
      exact hK _ _ (hJ.val 8 _ (by kernel_rfl) rfl (fun _ h => h))
    case o0_9 =>
      intro LX V aX wX K hl hp hcl hf hJ hK
      have t1 : aX.tmps[1]? = some (.pointer (some ⟨bi, 0, none⟩)) := hf.old (by kernel_rfl) rfl
      obtain ⟨vs, hlen, hS⟩ := hJ.upto 3 (by decide) (hcl.no 17 (by kernel_rfl) hl)
      have hB := StB.below hlen hS
      obtain ⟨cx, ci, cg1, cg4, cl⟩ := HCE.out wX hB
      rw [if_pos (by rfl)]
      go_simp
      exact hK _ _ (hJ.val 9 _ (by kernel_rfl) rfl (fun _ h => h))
    case o0_10 =>
      intro LX V aX wX K hl hp hcl hf hJ hK
      have t11 := hf.in (i := 8) (d := 11) (by kernel_rfl) (hp 8 (by kernel_rfl)) (hJ.vals 8 _ rfl (hp 8 (by kernel_rfl)))
      have t12 := hf.in (i := 9) (d := 12) (by kernel_rfl) (hp 9 (by kernel_rfl)) (hJ.vals 9 _ rfl (hp 9 (by kernel_rfl)))
      obtain ⟨i1, i2, i3⟩ := HIX.out
      rw [if_pos (by rfl)]
      go_simp
      exact hK _ _ (hJ.val 10 _ (by kernel_rfl) rfl (fun _ h => h))
    case o0_11 =>
      intro LX V aX wX K hl hp hcl hf hJ hK
      have t13 := hf.in (i := 10) (d := 13) (by kernel_rfl) (hp 10 (by kernel_rfl)) (hJ.vals 10 _ rfl (hp 10 (by kernel_rfl)))
      obtain ⟨vs, hlen, hS⟩ := hJ.upto 3 (by decide) (hcl.no 17 (by kernel_rfl) hl)
      have hB := StB.below hlen hS
      obtain ⟨cx, ci, cg1, cg4, cl⟩ := HCE.out wX hB
      rw [if_pos (by rfl)]
      go_simp
      exact hK _ _ (hJ.val 11 _ (by kernel_rfl) rfl (fun _ h => h))
    case o0_12 =>
      intro LX V aX wX K hl hp hcl hf hJ hK
      have t14 := hf.in (i := 11) (d := 14) (by kernel_rfl) (hp 11 (by kernel_rfl)) (hJ.vals 11 _ rfl (hp 11 (by kernel_rfl)))
      rw [if_pos (by rfl)]
      obtain ⟨vs, hlen, hvs, hS, hn⟩ := hJ.next (by kernel_rfl) 0 (by kernel_rfl) hl (.inl rfl) rfl
      match vs, hlen, hvs, hS, hn with
      | [], _, hvs, hS, hn =>
        have HS := Lib.hid hS
        clear hS
        go_simp
        refine (HBU.out wX HS.out).mono ?_
        rintro e wA ⟨u, rfl, hA⟩
        exact hK _ _ (hn _ _ hA)
    case o0_13 =>
      intro LX V aX wX K hl hp hcl hf hJ hK
      have t15 := hf.in (i := 12) (d := 15) (by kernel_rfl) (hp 12 (by kernel_rfl)) rfl
      rw [if_pos (by rfl)]
      obtain ⟨vs, hlen, hvs, hS, hn⟩ := hJ.next (by kernel_rfl) 1 (by kernel_rfl) hl (.inr (hp 12 (by kernel_rfl))) rfl
      match vs, hlen, hvs, hS, hn with
      | [a0], _, hvs, hS, hn =>
        have e0 : V 12 = a0 := hvs 0 (by decide)
        rw [e0] at t15
        go_simp
        exact hK _ _ (hn _ _ ⟨rfl, hS⟩)
    case o0_14 =>
      intro LX V aX wX K hl hp hcl hf hJ hK
      have t2 := hf.in (i := 13) (d := 2) (by kernel_rfl) (hp 13 (by kernel_rfl)) rfl
      rw [if_pos (by rfl)]
      obtain ⟨vs, hlen, hvs, hS, hn⟩ := hJ.next (by kernel_rfl) 2 (by kernel_rfl) hl (.inr (hp 13 (by kernel_rfl))) rfl
      match vs, hlen, hvs, hS, hn with
      | [a0, a1], _, hvs, hS, hn =>
        have e0 : V 12 = a0 := hvs 0 (by decide)
        have e1 : V 13 = a1 := hvs 1 (by decide)
        obtain ⟨rfl, hS⟩ := hS
        obtain ⟨hb, gs, rfl, h1, h2⟩ := hS
        rw [e1] at t2
        go_simp
        exact hK _ _ (hn _ _ ⟨rfl, gs, rfl, rfl, hb, h1, h2⟩)
    case o0_15 =>
      intro LX V aX wX K hl hp hcl hf hJ hK
      have t2 := hf.in (i := 13) (d := 2) (by kernel_rfl) (hp 13 (by kernel_rfl)) rfl
      obtain ⟨vs, hlen, hLL, hVV, hS⟩ := hJ.here
      have hl1 := hLL 1 (by decide)
      have hV1 := hVV 1
      have h2 := StB.second hS (by have h3 : decide (1 < vs.length) = true := hl1.symm.trans (hp 13 (by kernel_rfl)); exact of_decide_eq_true h3)
      obtain ⟨gs, hgs⟩ := h2
      rw [show V 13 = vs.getD 1 undef from hV1 (by have h3 : decide (1 < vs.length) = true := hl1.symm.trans (hp 13 (by kernel_rfl)); exact of_decide_eq_true h3), hgs] at t2
      rw [if_pos (by rfl)]
      go_simp
      exact hK _ _ (hJ.val 15 _ (by kernel_rfl) rfl (fun _ h => h))
    case o0_16 =>
      intro LX V aX wX K hl hp hcl hf hJ hK
      have t6 := hf.in (i := 3) (d := 6) (by kernel_rfl) (hp 3 (by kernel_rfl)) (hJ.vals 3 _ rfl (hp 3 (by kernel_rfl)))
      have t7 := hf.in (i := 4) (d := 7) (by kernel_rfl) (hp 4 (by kernel_rfl)) (hJ.vals 4 _ rfl (hp 4 (by kernel_rfl)))
      obtain ⟨i1, i2, i3⟩ := HIX.out
      rw [if_pos (by rfl)]
      go_simp
      exact hK _ _ (hJ.val 16 _ (by kernel_rfl) rfl (fun _ h => h))
    case o0_17 =>
      intro LX V aX wX K hl hp hcl hf hJ hK
      have t18 := hf.in (i := 16) (d := 18) (by kernel_rfl) (hp 16 (by kernel_rfl)) (hJ.vals 16 _ rfl (hp 16 (by kernel_rfl)))
      have t16 := hf.in (i := 14) (d := 16) (by kernel_rfl) (hp 14 (by kernel_rfl)) rfl
      rw [if_pos (by rfl)]
      obtain ⟨vs, hlen, hvs, hS, hn⟩ := hJ.next (by kernel_rfl) 3 (by kernel_rfl) hl (.inr (hp 14 (by kernel_rfl))) rfl
      match vs, hlen, hvs, hS, hn with
      | [a0, a1, a2], _, hvs, hS, hn =>
        have e0 : V 12 = a0 := hvs 0 (by decide)
        have e1 : V 13 = a1 := hvs 1 (by decide)
        have e2 : V 14 = a2 := hvs 2 (by decide)
        obtain ⟨rfl, gs, hga, hgc, hb, h1, h2⟩ := hS
        rw [e2, hgc] at t16
        obtain ⟨hfz, cv, hcs⟩ := HSS.out wX hb
        go_simp
        exact hK undef _ (hn undef _ ⟨wX, gs, rfl, hga, hb, h1, h2, rfl⟩)
  intro V wZ hJ
  obtain ⟨vs, hlen, hvs, hS⟩ := hJ.all (by kernel_rfl)
  match vs, hlen, hvs, hS with
  | [a0, a1, a2, a3], _, hvs, hS =>
    have e0 : V 12 = a0 := hvs 0 (by decide)
    have e1 : V 13 = a1 := hvs 1 (by decide)
    have e2 : V 14 = a2 := hvs 2 (by decide)
    have e3 : V 17 = a3 := hvs 3 (by decide)
    obtain ⟨w2, gs, hba, hga, hb, h1, h2, rfl⟩ := hS
    have HB2 := Lib.hid (And.intro hb (And.intro h1 h2))
    simp only [puts, Act.put, List.setIfInBounds_toArray, List.set_cons_zero, List.set_cons_succ]
    clear hJ hvs hb h1 h2 hba hga
    go_wp2_with fail
    go_end0
    exact ⟨rfl, w2, gs, HB2.out.1, HB2.out.2.1, HB2.out.2.2, rfl⟩
end Go.Proofs.YtjiiikeniocmfaaGreat

/- once.Do of an index: makes the slabs, or they are there -/
set_option linter.unusedSimpArgs false
set_option linter.unusedVariables false
namespace Go.Proofs.YtjiiikeniocmfaaGreat
open Go.RowKit Go.Geo
attribute [local go_sem] Oper.semAt_some
theorem set_size {w : World} {b o : Nat} {cs : Array Value} {t : TypeId} {v : Value} (h : w.heap[b]? = some (.cells cs t (0, 0))) : ∃ c' : Array Value, (w.setCell ⟨b, o, none⟩ v).heap[b]? = some (.cells c' t (0, 0)) ∧ c'.size = cs.size :=
  ⟨_, heap_setCell_same _ _ _ _ _ _ h, by simp⟩
theorem set_other {w : World} {b o k : Nat} {v : Value} (h : k ≠ b) : (w.setCell ⟨b, o, none⟩ v).heap[k]? = w.heap[k]? := Below.heap_setCell _ _ _ _ h
/-- what the slabs' making leaves. -/
structure MadeIt (W : World) (g og sg i : Nat) (R : Reg) (w : World) : Prop where
  ex : ∃ w2 gs, Below W.heap.size (W.setCell ⟨og, i * 3 + 1, none⟩ (.int .i32 1)) w2 ∧ W.heap.size ≤ gs ∧ SlabOwn w2 gs (heightsP R) (slabsR R) ∧ w = ((((w2.setCell ⟨sg, i, none⟩ (.pointer (some ⟨gs, 0, none⟩))).drew).setCell ⟨og, i * 3, none⟩ (.int .u32 1)).setCell ⟨og, i * 3 + 1, none⟩ (.int .i32 0))
theorem MadeIt.two {W w : World} {g og sg i : Nat} {R : Reg} (h : MadeIt W g og sg i R w) : Two og sg W w := by
  obtain ⟨w2, gs, h1, h2, h3, rfl⟩ := h
  have h4 : Two og sg W w2 := ((Two.refl og sg W).setA (o := i * 3 + 1) (v := .int .i32 1)).trans (Two.of (by
    have : (W.setCell ⟨og, i * 3 + 1, none⟩ (.int .i32 1)).heap.size = W.heap.size := by simp
    rw [this]; exact h1))
  exact (h4.setB.drew).setA.setA
theorem MadeIt.cell {W w : World} {g og sg i : Nat} {R : Reg} (h : MadeIt W g og sg i R w) {b o : Nat} (hb : b < W.heap.size) (h0 : ¬ (b = og ∧ o = i * 3)) (h1 : ¬ (b = og ∧ o = i * 3 + 1)) (h2 : ¬ (b = sg ∧ o = i)) : w.cell? ⟨b, o, none⟩ = W.cell? ⟨b, o, none⟩ := by
  obtain ⟨w2, gs, k1, k2, k3, rfl⟩ := h
  rw [World.cell?_setCell_other _ _ _ _ (by intro e; injection e with e1 e2; exact h1 ⟨e1.symm, e2.symm⟩), World.cell?_setCell_other _ _ _ _ (by intro e; injection e with e1 e2; exact h0 ⟨e1.symm, e2.symm⟩), World.cell?_drew, World.cell?_setCell_other _ _ _ _ (by intro e; injection e with e1 e2; exact h2 ⟨e1.symm, e2.symm⟩)]
  rw [k1.cell (p := ⟨b, o, none⟩) hb, World.cell?_setCell_other _ _ _ _ (by intro e; injection e with e1 e2; exact h1 ⟨e1.symm, e2.symm⟩)]
theorem MadeIt.idx {X : Nat → Prop} {W w : World} {B g og sg i : Nat} {G : List Reg} (h : IdxOn X W B g og sg G) (hX : ∀ k, X k → k < W.heap.size) (hi : i < G.length) (hm : MadeIt W g og sg i (G.getD i []) w) : IdxOn X w B g og sg G ∧ ∃ gs, w.cell? ⟨sg, i, none⟩ = some (.pointer (some ⟨gs, 0, none⟩)) ∧ g < gs ∧ SlabOwn w gs (heightsP (G.getD i [])) (slabsR (G.getD i [])) := by
  have h2 := hm.two
  have hc := @MadeIt.cell W w g og sg i (G.getD i []) hm
  obtain ⟨⟨lv, tg, w0, e1, e2, e3, e4⟩, ⟨cs, o1, o2⟩, ⟨ss, s1, s2⟩, he, l1, l2, l3, l4, l5, l6, l7, l8⟩ := h
  have hg := heap_lt' e1
  have hmv : ∀ k, g + 1 ≤ k → k < W.heap.size → w.heap[k]? = W.heap[k]? := fun k h1 h3 => h2.block k h3 (by omega) (by omega)
  obtain ⟨w2, gs, k1, k2, k3, rfl⟩ := hm
  have hsz : (W.setCell ⟨og, i * 3 + 1, none⟩ (.int .i32 1)).heap.size = W.heap.size := by simp
  -- the two rows
  obtain ⟨c1, a1, z1⟩ := set_size (o := i * 3 + 1) (v := .int .i32 1) o1
  have a2 := (k1.block og (heap_lt' o1)).trans a1
  have a3 : (w2.setCell ⟨sg, i, none⟩ (.pointer (some ⟨gs, 0, none⟩))).drew.heap[og]? = some (.cells c1 101 (0, 0)) := (set_other l3).trans a2
  obtain ⟨c2, a4, z2⟩ := set_size (o := i * 3) (v := .int .u32 1) a3
  obtain ⟨c3, a5, z3⟩ := set_size (o := i * 3 + 1) (v := .int .i32 0) a4
  have b1 : w2.heap[sg]? = some (.cells ss 71 (0, 0)) := ((k1.block sg (heap_lt' s1)).trans (set_other (fun e => l3 e.symm))).trans s1
  obtain ⟨d1, b2, y1⟩ := set_size (o := i) (v := .pointer (some ⟨gs, 0, none⟩)) b1
  have b3 : (((w2.setCell ⟨sg, i, none⟩ (.pointer (some ⟨gs, 0, none⟩))).drew.setCell ⟨og, i * 3, none⟩ (.int .u32 1)).setCell ⟨og, i * 3 + 1, none⟩ (.int .i32 0)).heap[sg]? = some (.cells d1 71 (0, 0)) := (set_other (fun e => l3 e.symm)).trans ((set_other (fun e => l3 e.symm)).trans b2)
  have q0 : (((w2.setCell ⟨sg, i, none⟩ (.pointer (some ⟨gs, 0, none⟩))).drew.setCell ⟨og, i * 3, none⟩ (.int .u32 1)).setCell ⟨og, i * 3 + 1, none⟩ (.int .i32 0)).cell? ⟨og, i * 3, none⟩ = some (.int .u32 1) := by
    rw [World.cell?_setCell_other _ _ _ _ (by intro e; injection e with e1 e2; omega)]
    exact World.cell?_setCell_same _ _ _ (show _ = some (c1[i * 3]'(by omega)) by rw [cell_of_row _ _ _ _ _ _ a3, Array.getElem?_eq_getElem (by omega)])
  have q1 : (((w2.setCell ⟨sg, i, none⟩ (.pointer (some ⟨gs, 0, none⟩))).drew.setCell ⟨og, i * 3, none⟩ (.int .u32 1)).setCell ⟨og, i * 3 + 1, none⟩ (.int .i32 0)).cell? ⟨sg, i, none⟩ = some (.pointer (some ⟨gs, 0, none⟩)) := by
    rw [World.cell?_setCell_other _ _ _ _ (by intro e; injection e with e1 e2; exact l3 e1), World.cell?_setCell_other _ _ _ _ (by intro e; injection e with e1 e2; exact l3 e1), World.cell?_drew]
    exact World.cell?_setCell_same _ _ _ (show _ = some (ss[i]'(by omega)) by rw [cell_of_row _ _ _ _ _ _ b1, Array.getElem?_eq_getElem (by omega)])
  have q2 : SlabOwn (((w2.setCell ⟨sg, i, none⟩ (.pointer (some ⟨gs, 0, none⟩))).drew.setCell ⟨og, i * 3, none⟩ (.int .u32 1)).setCell ⟨og, i * 3 + 1, none⟩ (.int .i32 0)) gs (heightsP (G.getD i [])) (slabsR (G.getD i [])) := k3.move fun k h1 h3 => (set_other (by omega)).trans ((set_other (by omega)).trans (set_other (by omega)))
  refine ⟨⟨⟨lv, tg, w0, (h2.block g hg (by omega) (by omega)).trans e1, e2, e3, e4.move h2.size (fun k a b _ => hmv k a b) (fun k hk => .inl hk)⟩, ⟨c3, a5, by omega⟩, ⟨d1, b3, by omega⟩, fun j hj => ?_, l1, l2, l3, l4, l5, l6, l7, l8⟩, gs, q1, by omega, q2⟩
  by_cases hji : j = i
  · subst hji
    exact .inr ⟨q0, gs, _, q1, by omega, q2, Since.start (fun k hk => .inl (by have := hX k hk; omega))⟩
  · have n0 := hc (b := og) (o := j * 3) (heap_lt' o1) (by omega) (by omega) (fun e => l3 e.1)
    have n1 := hc (b := og) (o := j * 3 + 1) (heap_lt' o1) (by omega) (by omega) (fun e => l3 e.1)
    have n2 := hc (b := sg) (o := j) (heap_lt' s1) (fun e => l3 e.1.symm) (fun e => l3 e.1.symm) (by omega)
    rcases he j hj with ⟨m1, m2⟩ | ⟨m1, gj, w1, m2, m3, m4, m5⟩
    · exact .inl ⟨n0.trans m1, n1.trans m2⟩
    · exact .inr ⟨n0.trans m1, gj, w1, n2.trans m2, m3, m4, m5.move h2.size (fun k a b _ => hmv k (by omega) b) (fun k hk => .inl hk)⟩
theorem do_any (bx bi B g og sg i : Nat) (X : Nat → Prop) (G : List Reg) (W : World) (h : IdxOn X W B g og sg G) (hX : ∀ k, X k → k < W.heap.size) (hi : i < G.length)
    (hx : W.cell? ⟨bx, 0, none⟩ = some (.pointer (some ⟨g, 0, none⟩))) (hv : W.cell? ⟨bi, 0, none⟩ = some (.int .i64 (i : Int))) (hbx : bx ≠ og) (hbi : bi ≠ og) :
    Calls Tryz.prog 50 #[.pointer (some ⟨og, i * 3, none⟩), .func (.func 51) #[] #[.pointer (some ⟨bx, 0, none⟩), .pointer (some ⟨bi, 0, none⟩)]] W fun e w' => e = .returned (.tuple #[]) ∧ IdxOn X w' B g og sg G ∧ Two og sg W w' ∧ ∃ gs, w'.cell? ⟨sg, i, none⟩ = some (.pointer (some ⟨gs, 0, none⟩)) ∧ g < gs ∧ SlabOwn w' gs (heightsP (G.getD i [])) (slabsR (G.getD i [])) := by
  rcases h.each i hi with ⟨k1, k2⟩ | ⟨k1, gs, wp, k2, k3, k4, k5⟩
  · have h0 := h
    obtain ⟨⟨lv, tg, w0, e1, e2, e3, e4⟩, ⟨cs, o1, o2⟩, ⟨ss, s1, s2⟩, he, l1, l2, l3, l4, l5, l6, l7, l8⟩ := h
    have hsz : (W.setCell ⟨og, i * 3 + 1, none⟩ (.int .i32 1)).heap.size = W.heap.size := by simp
    have hgg : (W.setCell ⟨og, i * 3 + 1, none⟩ (.int .i32 1)).heap[g]? = _ := (set_other (by omega)).trans e1
    have hso : (W.setCell ⟨og, i * 3 + 1, none⟩ (.int .i32 1)).heap[sg]? = _ := (set_other (fun e => l3 e.symm)).trans s1
    have hcl := slabs1_any bx bi g og sg tg i lv G (W.setCell ⟨og, i * 3 + 1, none⟩ (.int .i32 1)) ((World.cell?_setCell_other _ _ _ _ (by intro e; injection e with e1 e2; exact hbx e1.symm)).trans hx) ((World.cell?_setCell_other _ _ _ _ (by intro e; injection e with e1 e2; exact hbi e1.symm)).trans hv) hgg ((e2.since e4).moveB fun k h1 _ => set_other (by omega)) ⟨ss, hso, s2⟩ hi l6 (l7 i hi)
    have hdo := do_first og (i * 3) (.pointer (some ⟨bx, 0, none⟩)) (.pointer (some ⟨bi, 0, none⟩)) _ W k1 k2 (frozen_of_row _ _ _ _ _ o1) (frozen_of_row _ _ _ _ _ o1) hcl (by
      rintro w' ⟨w2, gs, r1, r2, r3, rfl⟩
      rw [hsz] at r1
      obtain ⟨c1, a1, z1⟩ := set_size (o := i * 3 + 1) (v := .int .i32 1) o1
      have a2 := (r1.block og (heap_lt' o1)).trans a1
      have a3 : (w2.setCell ⟨sg, i, none⟩ (.pointer (some ⟨gs, 0, none⟩))).heap[og]? = some (.cells c1 101 (0, 0)) := (set_other l3).trans a2
      refine ⟨?_, ?_, frozen_of_row _ _ _ _ _ a3, frozen_of_row _ _ _ _ _ a3⟩
      · rw [World.cell?_setCell_other _ _ _ _ (by intro e; injection e with e1 e2; exact l3 e1.symm), r1.cell (p := ⟨og, i * 3, none⟩) (heap_lt' o1), World.cell?_setCell_other _ _ _ _ (by intro e; injection e with e1 e2; omega)]
        exact k1
      · rw [World.cell?_setCell_other _ _ _ _ (by intro e; injection e with e1 e2; exact l3 e1.symm), r1.cell (p := ⟨og, i * 3 + 1, none⟩) (heap_lt' o1)]
        exact World.cell?_setCell_same _ _ _ k2)
    refine hdo.mono ?_
    rintro e w' ⟨rfl, w1, ⟨w2, gs, r1, r2, r3, rfl⟩, rfl⟩
    rw [hsz] at r1 r2
    have hmd : MadeIt W g og sg i (G.getD i []) _ := ⟨⟨w2, gs, r1, r2, r3, rfl⟩⟩
    obtain ⟨m1, m2⟩ := hmd.idx h0 hX hi
    exact ⟨rfl, m1, hmd.two, m2⟩
  · refine (do_done ⟨og, i * 3, none⟩ _ W k1).mono ?_
    rintro e w' ⟨rfl, rfl⟩
    exact ⟨rfl, h, Two.refl _ _ _, gs, k2, k3, k4.since k5⟩
end Go.Proofs.YtjiiikeniocmfaaGreat

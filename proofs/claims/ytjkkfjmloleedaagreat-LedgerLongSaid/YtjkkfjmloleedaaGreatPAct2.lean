/- layer 28's statements: act, a crash; a call that asks nothing -/
import Derived.Test.YtjkkfjmloleedaaGreatPAct
set_option linter.unusedSimpArgs false
set_option linter.unusedVariables false
namespace Go.Proofs.YtjkkfjmloleedaaGreat
open Go.RowKit
set_option linter.unusedSectionVars false
def I64 (z : Int) : Prop := -9223372036854775808 ≤ z ∧ z ≤ 9223372036854775807
theorem wrap_I64 (z : Int) : I64 (IntKind.i64.wrap z) := by
  unfold I64
  rw [IntKind.wrap_i64]
  omega
theorem keeps4 {w : World} {g : Nat} {a b c d : Int} (hg : w.heap[g]? = some (.cells #[.int .i64 a, .int .i64 b, .int .i64 c, .int .i64 d] 3 (0, 0))) (ha : I64 a) (hb : I64 b) (hc : I64 c) (hd : I64 d) : IsKeeps w (some ⟨g, 0, none⟩) 4 4 [a, b, c, d] := by
  refine ⟨rfl, Nat.le_refl _, by unfold maxLen; omega, (fun e => by cases e), fun i hi => ?_⟩
  have : i = 0 ∨ i = 1 ∨ i = 2 ∨ i = 3 := by omega
  rcases this with rfl | rfl | rfl | rfl
  · exact ⟨g, 0, _, _, _, a, rfl, hg, by decide, rfl, rfl, ha.1, ha.2⟩
  · exact ⟨g, 0, _, _, _, b, rfl, hg, by decide, rfl, rfl, hb.1, hb.2⟩
  · exact ⟨g, 0, _, _, _, c, rfl, hg, by decide, rfl, rfl, hc.1, hc.2⟩
  · exact ⟨g, 0, _, _, _, d, rfl, hg, by decide, rfl, rfl, hd.1, hd.2⟩
theorem keeps4R {w : World} {g : Nat} {a b c d : Int} (hg : w.heap[g]? = some (.cells #[.int .i64 a, .int .i64 b, .int .i64 c, .int .i64 d] 3 (0, 0))) (ha : I64 a) (hb : I64 b) (hc : I64 c) (hd : I64 d) : ∀ i, i < 4 → ∃ b9 off x, (some ⟨g, 0, none⟩ : Option Addr) = some ⟨b9, off, none⟩ ∧ w.cell? ⟨b9, off + i, none⟩ = some (.int .i64 x) ∧ [a, b, c, d].getD i 0 = x ∧ -9223372036854775808 ≤ x ∧ x ≤ 9223372036854775807 := by
  intro i hi
  have : i = 0 ∨ i = 1 ∨ i = 2 ∨ i = 3 := by omega
  rcases this with rfl | rfl | rfl | rfl
  · exact ⟨g, 0, a, rfl, cell_of_row _ _ _ _ _ _ hg, rfl, ha.1, ha.2⟩
  · exact ⟨g, 0, b, rfl, cell_of_row _ _ _ _ _ _ hg, rfl, hb.1, hb.2⟩
  · exact ⟨g, 0, c, rfl, cell_of_row _ _ _ _ _ _ hg, rfl, hc.1, hc.2⟩
  · exact ⟨g, 0, d, rfl, cell_of_row _ _ _ _ _ _ hg, rfl, hd.1, hd.2⟩
section
variable {p d mb r base q k : Nat} {g : Sig} {Lo : Option LSig} {lv mv : Value} {w : World} {x : ActL}
set_option maxRecDepth 100000 in
theorem pact_crash (hk : x.kind = 6) (h : PairAt w p d mb r base q k g Lo lv mv) (hq : q + x.bn + 1 ≤ 4294967296) (hk9 : k + 2 ≤ 100000) (ht : I64 x.keep) :
    Calls Tryz.prog 7 #[.pointer (some ⟨p, 0, none⟩), .agg x.row] w fun e w' => PActR p d mb r base (q + x.bn + 1) (k + 1) w e w' := by
  obtain ⟨xk, xs, xe, nm, ba, bn, bc, B⟩ := x
  dsimp only at hk hq ht ⊢
  obtain rfl : xk = 6 := hk
  have ht3 := wrap_I64 (xe + 3)
  obtain ⟨xe3, hwe⟩ : ∃ y, IntKind.i64.wrap (xe + 3) = y := ⟨_, rfl⟩
  rw [hwe] at ht3
  obtain ⟨z, g', hzg⟩ : ∃ z g', crashG [xe, xe3, xe, 1] g = (z, g') := ⟨_, _, rfl⟩
  change Calls Tryz.prog 7 #[.pointer (some ⟨p, 0, none⟩), .agg #[.int .i64 6, .int .i64 xs, .int .i64 xe, .string nm, .slice ba bn bc]] w _
  have hb1 : Below w.heap.size w (w.alloc (.cells #[.int .i64 6, .int .i64 xs, .int .i64 xe, .string nm, .slice ba bn bc] 38)) := (Below.refl _ _).alloc (Nat.le_refl _) _
  have hbx := heap_alloc_new w (.cells #[.int .i64 6, .int .i64 xs, .int .i64 xe, .string nm, .slice ba bn bc] 38)
  have hs1 : (w.alloc (.cells #[.int .i64 6, .int .i64 xs, .int .i64 xe, .string nm, .slice ba bn bc] 38)).heap.size = w.heap.size + 1 := by simp
  generalize hW1 : w.alloc (.cells #[.int .i64 6, .int .i64 xs, .int .i64 xe, .string nm, .slice ba bn bc] 38) = W1 at hb1 hbx hs1
  have hb2 : Below W1.heap.size W1 (W1.alloc (.cells #[.int .i64 xe, .int .i64 xe3, .int .i64 xe, .int .i64 1] 3)) := (Below.refl _ _).alloc (Nat.le_refl _) _
  have hkb := heap_alloc_new W1 (.cells #[.int .i64 xe, .int .i64 xe3, .int .i64 xe, .int .i64 1] 3)
  rw [hs1] at hkb
  generalize hW : W1.alloc (.cells #[.int .i64 xe, .int .i64 xe3, .int .i64 xe, .int .i64 1] 3) = W at hb2 hkb
  have hbw : Below w.heap.size w W := hb1.trans (hb2.mono hb1.size)
  have hbxW := (hb2.block _ (heap_lt hbx)).trans hbx
  have c2 : W1.cell? ⟨w.heap.size, 2, none⟩ = some (.int .i64 xe) := by simp only [World.cell?, hbx]; rfl
  have d0 : W.cell? ⟨w.heap.size, 0, none⟩ = some (.int .i64 6) := by simp only [World.cell?, hbxW]; rfl
  obtain ⟨kb, hbe⟩ : ∃ b, b = w.heap.size + 1 := ⟨_, rfl⟩
  rw [← hbe] at hkb hs1
  have HA := Lib.hid (And.intro (h.later hbw) (And.intro (hbw.mono h.hb) hkb))
  have HF := Lib.hid h.fit
  have HZ := Lib.hid hzg
  have HQ := Lib.hid (And.intro hq hk9)
  have HT := Lib.hid (And.intro ht (And.intro ht3 (show I64 1 from ⟨by omega, by omega⟩)))
  have hzz : (z == z) = true := by simp
  clear h hzg hq hk9 hbe hbxW hb1 hb2 hbx hbw ht ht3 hkb
  go_enter Tryz.func7, Tryz.ntmps7
  go_wp2_with fail
  clear d0 c2
  have HAD := Lib.hid (And.intro (HA.out.1.later (Below.refl W.heap.size W).drew) (And.intro (show W.drew.heap[p]? = some (.cells #[.pointer (some ⟨d, 0, none⟩), .pointer (some ⟨r, 0, none⟩), lv, mv] 33 (0, 0)) from HA.out.1.row) (show W.drew.heap[kb]? = some (.cells #[.int .i64 xe, .int .i64 xe3, .int .i64 xe, .int .i64 1] 3 (0, 0)) from HA.out.2.2)))
  have p0 := HA.out.1.cells.1
  have p1 := HA.out.1.cells.2.1
  go_region_held3 (fun w' => w'.cell? ⟨p, 0, none⟩ = some (.pointer (some ⟨d, 0, none⟩)) ∧ w'.cell? ⟨p, 1, none⟩ = some (.pointer (some ⟨r, 0, none⟩)))
    (first
      | (exact ⟨p0, p1⟩)
      | (exact ⟨cell_of_row _ _ _ _ _ _ hp2, cell_of_row _ _ _ _ _ _ hp2⟩)
      | (exact ⟨cell_of_row _ _ _ _ _ _ hp1, cell_of_row _ _ _ _ _ _ hp1⟩))
    (first
      | (go_at_call 18
         refine (@Crash_S Z0 _ 4 4 [xe, xe3, xe, 1] d mb base g _ HAD.out.1.hb HAD.out.1.ds (keeps4 HAD.out.2.2 HT.out.1 HT.out.2.1 HT.out.1 HT.out.2.2)).mono ?_
         rintro e w1 ⟨rfl, hd1, hk1⟩
         rw [HZ.out] at hd1
         rw [HZ.out]
         have hr1 : @RSig Z0 w1 r base g := @RSig.keptD Z0 _ _ _ _ _ _ _ _ _ HAD.out.1.rs HAD.out.1.ds hk1
         have hf1 : FD base none W.drew w1 := @FD.of_kept Z0 _ _ _ _ _ _ none HAD.out.1.ds hk1
         have hp1 : w1.heap[p]? = some (.cells #[.pointer (some ⟨d, 0, none⟩), .pointer (some ⟨r, 0, none⟩), lv, mv] 33 (0, 0)) := hf1.cells _ _ _ _ HAD.out.2.1 (by unfold TD; decide) (by simp)
         have hq1 : w1.heap[kb]? = some (.cells #[.int .i64 xe, .int .i64 xe3, .int .i64 xe, .int .i64 1] 3 (0, 0)) := hf1.cells _ _ _ _ HAD.out.2.2 (by unfold TD; decide) (by simp)
         have hbz : base ≤ w1.heap.size := Nat.le_trans HAD.out.1.hb hk1.below.size)
      | (go_at_call 19
         refine (@rCrash_S Z0 r base q k g _ 4 4 [xe, xe3, xe, 1] _ (fun _ hk => hk.elim) hr1 ⟨HAD.out.1.lim, by have := HQ.out; omega, by have := HQ.out; omega, HF.out.1, HF.out.2⟩ hbz rfl ⟨Nat.le_refl _, by unfold maxLen; omega⟩ (fun wb hm => keeps4R ((@FR.of_moved Z0 _ _ _ _ _ none hr1 hm).cells _ _ _ _ hq1 (by unfold TR; decide) (by simp)) HT.out.1 HT.out.2.1 HT.out.1 HT.out.2.2)).mono ?_
         rintro e w2 ⟨rfl, hr2, hm2⟩
         rw [HZ.out] at hr2
         rw [HZ.out]
         have hp2 : w2.heap[p]? = some (.cells #[.pointer (some ⟨d, 0, none⟩), .pointer (some ⟨r, 0, none⟩), lv, mv] 33 (0, 0)) := (@FR.of_moved Z0 _ _ _ _ _ none hr1 hm2).cells _ _ _ _ hp1 (by unfold TR; decide) (by simp)))
  all_goals
    have HF2 := Lib.hid (pact_end (q' := q + bn + 1) (k' := k + 1) HA.out.1 HA.out.2.1 hd1 hk1 hr1 hr2 hm2 (by rw [show g' = (crashG [xe, xe3, xe, 1] g).2 by rw [HZ.out]]; exact (HA.out.1.lim.crash).mono (by omega) (by omega)) (by omega))
    clear hd1 hk1 hr1 hr2 hm2 hf1 hp1 hq1 hp2
    go_wp2_with fail
    go_ret
    exact ⟨rfl, HF2.out⟩
set_option maxRecDepth 100000 in
theorem pact_else (hk : x.kind < 0 ∨ 10 < x.kind) (h : PairAt w p d mb r base q k g Lo lv mv) :
    Calls Tryz.prog 7 #[.pointer (some ⟨p, 0, none⟩), .agg x.row] w fun e w' => PActR p d mb r base q k w e w' := by
  obtain ⟨xk, xs, xe, nm, ba, bn, bc, B⟩ := x
  dsimp only at hk
  obtain ⟨xe3, hwe⟩ : ∃ y, IntKind.i64.wrap (xe + 3) = y := ⟨_, rfl⟩
  change Calls Tryz.prog 7 #[.pointer (some ⟨p, 0, none⟩), .agg #[.int .i64 xk, .int .i64 xs, .int .i64 xe, .string nm, .slice ba bn bc]] w _
  have hb1 : Below w.heap.size w (w.alloc (.cells #[.int .i64 xk, .int .i64 xs, .int .i64 xe, .string nm, .slice ba bn bc] 38)) := (Below.refl _ _).alloc (Nat.le_refl _) _
  have hbx := heap_alloc_new w (.cells #[.int .i64 xk, .int .i64 xs, .int .i64 xe, .string nm, .slice ba bn bc] 38)
  generalize hW1 : w.alloc (.cells #[.int .i64 xk, .int .i64 xs, .int .i64 xe, .string nm, .slice ba bn bc] 38) = W1 at hb1 hbx
  have hb2 : Below W1.heap.size W1 (W1.alloc (.cells #[.int .i64 xe, .int .i64 xe3, .int .i64 xe, .int .i64 1] 3)) := (Below.refl _ _).alloc (Nat.le_refl _) _
  generalize hW : W1.alloc (.cells #[.int .i64 xe, .int .i64 xe3, .int .i64 xe, .int .i64 1] 3) = W at hb2
  have hbw : Below w.heap.size w W := hb1.trans (hb2.mono hb1.size)
  have hbxW := (hb2.block _ (heap_lt hbx)).trans hbx
  have c2 : W1.cell? ⟨w.heap.size, 2, none⟩ = some (.int .i64 xe) := by simp only [World.cell?, hbx]; rfl
  have d0 : W.cell? ⟨w.heap.size, 0, none⟩ = some (.int .i64 xk) := by simp only [World.cell?, hbxW]; rfl
  have HA := Lib.hid (show PActR p d mb r base q k w (.returned (.bool true)) W from ⟨rfl, ⟨g, Lo, lv, mv, h.later hbw⟩, hbw.mono h.hb⟩)
  have e0 : (xk == 0) = false := by simp; omega
  have e1 : (xk == 1) = false := by simp; omega
  have e2 : (xk == 2) = false := by simp; omega
  have e3 : (xk == 3) = false := by simp; omega
  have e4 : (xk == 4) = false := by simp; omega
  have e5 : (xk == 5) = false := by simp; omega
  have e6 : (xk == 6) = false := by simp; omega
  have e7 : (xk == 7) = false := by simp; omega
  have e8 : (xk == 8) = false := by simp; omega
  have e9 : (xk == 9) = false := by simp; omega
  have e10 : (xk == 10) = false := by simp; omega
  clear hk h hbw hbxW hb1 hb2 hbx
  go_enter Tryz.func7, Tryz.ntmps7
  go_wp2_with fail
  go_ret
  exact HA.out
end
end Go.Proofs.YtjkkfjmloleedaaGreat

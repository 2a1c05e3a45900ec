/- cross.Meets -/
import Derived.Test.YtjiiikeniocmfaaGreatMQEnds
import Derived.ChangeKeysEq
import Derived.RangeFuncNested
import Derived.RangeFuncBound
import Derived.RangeFuncCalls
import Derived.RangeFuncLeaves
import Derived.RangeFuncWrites
import Derived.Shelf.Abstract
import Derived.Shelf.RegionOpen
import Derived.OwnWalkIn
import Derived.TacticsInMore
import Derived.LoopNIn
import Derived.LoopIn
import Derived.Test.YtjiiikeniocmfaaGreatMQPts
import Derived.IntWalk
import Derived.Test.YtjiiikeniocmfaaGreatMQCont
set_option linter.unusedSimpArgs false
set_option linter.unusedVariables false
namespace Go.Proofs.YtjiiikeniocmfaaGreat
open Go.RowKit Go.Geo
theorem Tryz.infoInt : (Tryz.prog.info? 3).map (fun i => (i.zero, i.size, i.bytes)) = some (some (.int .i64 0), 1, 8) := by kernel_rfl
theorem eqItems_cons (xs ys : Array Value) (i : Nat) (is : List Nat) (a b : Int) (w : World) (hx : xs[i]? = some (.int .i64 a)) (hy : ys[i]? = some (.int .i64 b)) :
    (Op.eqItems 9999 3 1 xs ys (i :: is)).run Tryz.prog w = if decide (a = b) = true then (Op.eqItems 9999 3 1 xs ys is).run Tryz.prog w else .ok false w := by
  rw [Op.eqItems, Nat.mul_one]
  simp only [Sem.run_bind, part_int xs i _ hx, part_int ys i _ hy, Result.andThen_ok, show (9999 : Nat) = 9998 + 1 from rfl, run_equalIn_int w 9998 3 .i64 .i64 a b Tryz.underlying3]
  by_cases h : a = b
  · simp [h]
  · simp [h]
theorem eq4 (a b c d a2 b2 c2 d2 : Int) (w : World) : (Op.equalIn 10000 158 (.agg #[.int .i64 a, .int .i64 b, .int .i64 c, .int .i64 d]) (.agg #[.int .i64 a2, .int .i64 b2, .int .i64 c2, .int .i64 d2])).run Tryz.prog w = .ok (decide (a = a2) && decide (b = b2) && decide (c = c2) && decide (d = d2)) w := by
  obtain ⟨i, hi, _⟩ := info_parts' Tryz.infoInt
  rw [show (10000 : Nat) = 9999 + 1 from rfl, run_equalIn_array w 9999 _ _ Tryz.underlying158 hi, Tryz.cellsI, show List.range 4 = [0, 1, 2, 3] from rfl]
  rw [eqItems_cons _ _ 0 _ a a2 w rfl rfl, eqItems_cons _ _ 1 _ b b2 w rfl rfl, eqItems_cons _ _ 2 _ c c2 w rfl rfl, eqItems_cons _ _ 3 _ d d2 w rfl rfl]
  unfold Op.eqItems
  by_cases h1 : a = a2 <;> by_cases h2 : b = b2 <;> by_cases h3 : c = c2 <;> by_cases h4 : d = d2 <;> simp [h1, h2, h3, h4]
theorem run_eq4 (a b c d a2 b2 c2 d2 : Int) (w : World) : (binOp .eql 158 (.agg #[.int .i64 a, .int .i64 b, .int .i64 c, .int .i64 d]) (.agg #[.int .i64 a2, .int .i64 b2, .int .i64 c2, .int .i64 d2])).run Tryz.prog w = .ok (.bool (decide (a = a2) && decide (b = b2) && decide (c = c2) && decide (d = d2))) w := by
  rw [run_eql_struct, eq4]
  rfl
theorem cross4 {s t u v : Int} (hs : s = -1 ∨ s = 0 ∨ s = 1) (ht : t = -1 ∨ t = 0 ∨ t = 1) (hu : u = -1 ∨ u = 0 ∨ u = 1) (hv : v = -1 ∨ v = 0 ∨ v = 1) :
    (decide (s * t < 0) && decide (u * v < 0)) = ((decide (s = 1) && decide (t = -1) && decide (u = 1) && decide (v = -1)) || (decide (s = 1) && decide (t = -1) && decide (u = -1) && decide (v = 1)) || (decide (s = -1) && decide (t = 1) && decide (u = 1) && decide (v = -1)) || (decide (s = -1) && decide (t = 1) && decide (u = -1) && decide (v = 1))) := by
  rcases hs with rfl | rfl | rfl <;> rcases ht with rfl | rfl | rfl <;> rcases hu with rfl | rfl | rfl <;> rcases hv with rfl | rfl | rfl <;> rfl
theorem turn_step {B base : Nat} {a b c d : Pt} {W w1 w2 : World} (hb : Grew w1 w2) (hz : base ≤ W.heap.size) (hB : B + 4 ≤ base)
    (h1 : w1.cell? ⟨B, 0, none⟩ = some (.int .i64 a.x)) (h2 : w1.cell? ⟨B, 1, none⟩ = some (.int .i64 a.y)) (h3 : w1.cell? ⟨B + 1, 0, none⟩ = some (.int .i64 b.x)) (h4 : w1.cell? ⟨B + 1, 1, none⟩ = some (.int .i64 b.y))
    (h5 : w1.cell? ⟨B + 1 + 1, 0, none⟩ = some (.int .i64 c.x)) (h6 : w1.cell? ⟨B + 1 + 1, 1, none⟩ = some (.int .i64 c.y)) (h7 : w1.cell? ⟨B + 1 + 1 + 1, 0, none⟩ = some (.int .i64 d.x)) (h8 : w1.cell? ⟨B + 1 + 1 + 1, 1, none⟩ = some (.int .i64 d.y)) (h9 : Below base W w1) :
    w2.cell? ⟨B, 0, none⟩ = some (.int .i64 a.x) ∧ w2.cell? ⟨B, 1, none⟩ = some (.int .i64 a.y) ∧ w2.cell? ⟨B + 1, 0, none⟩ = some (.int .i64 b.x) ∧ w2.cell? ⟨B + 1, 1, none⟩ = some (.int .i64 b.y) ∧ w2.cell? ⟨B + 1 + 1, 0, none⟩ = some (.int .i64 c.x) ∧ w2.cell? ⟨B + 1 + 1, 1, none⟩ = some (.int .i64 c.y) ∧ w2.cell? ⟨B + 1 + 1 + 1, 0, none⟩ = some (.int .i64 d.x) ∧ w2.cell? ⟨B + 1 + 1 + 1, 1, none⟩ = some (.int .i64 d.y) ∧ Below base W w2 :=
  ends_step (hb.1.mono (Nat.le_trans hz h9.size)) hB h1 h2 h3 h4 h5 h6 h7 h8 h9
def meetN (p q x : Bool) (m : Nat) : Nat := if p && q then (match m with
  | 0 => if x then 2 else 0
  | 1 => 1
  | _ => 3) else 0
/-- how two edges meet. -/
def MeetR (m : Nat) (w : World) (e : Ending) (w' : World) : Prop := e = .returned (.int .i64 (m : Int)) ∧ Below w.heap.size w w'
set_option maxRecDepth 100000 in
set_option maxHeartbeats 4000000 in
theorem Meets_any (a b c d : Pt) (w : World) :
    Calls Tryz.prog 70 #[ptV a, ptV b, ptV c, ptV d] w fun e w' => MeetR (meetK a b c d) w e w' := by
  obtain ⟨B, hB⟩ : ∃ B, B = w.heap.size := ⟨_, rfl⟩
  have H4 := box4_new w a b c d
  rw [← hB] at H4
  obtain ⟨W4, hW4⟩ : ∃ W, W = (((w.alloc (.cells #[.int .i64 a.x, .int .i64 a.y] 24)).alloc (.cells #[.int .i64 b.x, .int .i64 b.y] 24)).alloc (.cells #[.int .i64 c.x, .int .i64 c.y] 24)).alloc (.cells #[.int .i64 d.x, .int .i64 d.y] 24) := ⟨_, rfl⟩
  rw [← hW4] at H4
  have hsz : W4.heap.size = B + 4 := by rw [hW4, hB]; simp
  have HB0 : Hid (Grew w W4) := Lib.hid (by rw [hW4]; exact ((((Grew.refl _).alloc _).alloc _).alloc _).alloc _)
  have HH4 := Lib.hid H4
  have HSZ := Lib.hid hsz
  have HBE := Lib.hid hB
  have HM1 := Lib.hid (may_any a b)
  have HM2 := Lib.hid (may_any c d)
  have HE := Lib.hid (Ends_any a b c d)
  have HT1 := Lib.hid (Turn_any a b c)
  have HT2 := Lib.hid (Turn_any a b d)
  have HT3 := Lib.hid (Turn_any c d a)
  have HT4 := Lib.hid (Turn_any c d b)
  have ht1 := turnP_range a b c
  have ht2 := turnP_range a b d
  have ht3 := turnP_range c d a
  have ht4 := turnP_range c d b
  have hx := cross4 ht1 ht2 ht3 ht4
  have hx : crossP a b c d = _ := hx
  have hm : meetK a b c d = meetN (mayP a b) (mayP c d) (crossP a b c d) (endsP a b c d).length := rfl
  rw [hm]
  obtain ⟨m, hme⟩ : ∃ m, m = (endsP a b c d).length := ⟨_, rfl⟩
  rw [← hme] at HE ⊢
  obtain ⟨x, hxe⟩ : ∃ x, x = crossP a b c d := ⟨_, rfl⟩
  rw [← hxe]
  rw [hx] at hxe
  obtain ⟨t1, h1⟩ : ∃ t, t = turnP a b c := ⟨_, rfl⟩
  obtain ⟨t2, h2⟩ : ∃ t, t = turnP a b d := ⟨_, rfl⟩
  obtain ⟨t3, h3⟩ : ∃ t, t = turnP c d a := ⟨_, rfl⟩
  obtain ⟨t4, h4⟩ : ∃ t, t = turnP c d b := ⟨_, rfl⟩
  rw [← h1] at HT1 hxe
  rw [← h2] at HT2 hxe
  rw [← h3] at HT3 hxe
  rw [← h4] at HT4 hxe
  obtain ⟨p, hp⟩ : ∃ p, p = mayP a b := ⟨_, rfl⟩
  obtain ⟨q, hq⟩ : ∃ q, q = mayP c d := ⟨_, rfl⟩
  rw [← hp] at HM1
  rw [← hq] at HM2
  rw [← hp, ← hq]
  have HXE := Lib.hid hxe
  obtain ⟨r, hr⟩ : ∃ r : Nat, r = meetN p q x m := ⟨_, rfl⟩
  rw [← hr]
  have HR := Lib.hid hr
  clear hr
  clear hp hq hm hx h1 h2 h3 h4 hme hxe ht1 ht2 ht3 ht4
  unfold ptV at *
  cases p with
  | false =>
    go_enter Tryz.func70, Tryz.ntmps70
    go_wp2_with fail
    refine (HM1.out _).mono ?_
    rintro e w1 ⟨rfl, hg1⟩
    go_wp2_with fail
    go_ret
    exact ⟨by rw [show r = 0 from HR.out]; rfl, (((((Grew.refl _).alloc _).alloc _).alloc _).alloc _ |>.trans hg1).1⟩
  | true =>
    go_enter Tryz.func70, Tryz.ntmps70
    go_wp2_with fail
    rw [← hW4, ← hB]
    refine (HM1.out _).mono ?_
    rintro e w1 ⟨rfl, hg1⟩
    obtain ⟨⟨k1, k2⟩, ⟨k3, k4⟩, ⟨k5, k6⟩, k7, k8⟩ := HH4.out.later hg1.1 (by rw [HSZ.out]; exact Nat.le_refl _)
    have HG1 := Lib.hid (And.intro (HB0.out.trans hg1) (show B + 4 ≤ w1.heap.size by have := hg1.size; omega))
    clear hg1 H4 hW4 hB hsz
    go_wp2_with fail
    refine (HM2.out _).mono ?_
    rintro e w2 ⟨rfl, hg2⟩
    have HG2 := Lib.hid (And.intro (HG1.out.1.trans hg2) (Nat.le_trans HG1.out.2 hg2.size))
    have HK : Hid (Box4 B a b c d w2) := Lib.hid ((show Box4 B a b c d w1 from ⟨⟨k1, k2⟩, ⟨k3, k4⟩, ⟨k5, k6⟩, k7, k8⟩).later hg2.1 HG1.out.2)
    clear hg2 k1 k2 k3 k4 k5 k6 k7 k8
    cases q with
    | false =>
      go_wp2_with fail
      go_ret
      exact ⟨by rw [show r = 0 from HR.out]; rfl, HG2.out.1.1⟩
    | true =>
      obtain ⟨⟨k1, k2⟩, ⟨k3, k4⟩, ⟨k5, k6⟩, k7, k8⟩ := HK.out
      go_wp2_with fail
      refine (HE.out _).mono ?_
      rintro e w3 ⟨ao, cap, rfl, hb3⟩
      have HG3 := Lib.hid (And.intro (HG2.out.1.1.trans (hb3.mono HG2.out.1.size)) (Nat.le_trans HG2.out.2 hb3.size))
      have HK3 : Hid (Box4 B a b c d w3) := Lib.hid (HK.out.later hb3 HG2.out.2)
      clear hb3 k1 k2 k3 k4 k5 k6 k7 k8
      match m with
      | 0 =>
        obtain ⟨⟨k1, k2⟩, ⟨k3, k4⟩, ⟨k5, k6⟩, k7, k8⟩ := HK3.out
        have hq1 := run_eq4 t1 t2 t3 t4 1 (-1) 1 (-1)
        have hq2 := run_eq4 t1 t2 t3 t4 1 (-1) (-1) 1
        have hq3 := run_eq4 t1 t2 t3 t4 (-1) 1 1 (-1)
        have hq4 := run_eq4 t1 t2 t3 t4 (-1) 1 (-1) 1
        have he1 := eq4 t1 t2 t3 t4 1 (-1) 1 (-1)
        have he2 := eq4 t1 t2 t3 t4 1 (-1) (-1) 1
        have he3 := eq4 t1 t2 t3 t4 (-1) 1 1 (-1)
        have he4 := eq4 t1 t2 t3 t4 (-1) 1 (-1) 1
        obtain ⟨b1, hb1⟩ : ∃ b, b = (decide (t1 = 1) && decide (t2 = -1) && decide (t3 = 1) && decide (t4 = -1)) := ⟨_, rfl⟩
        obtain ⟨b2, hb2⟩ : ∃ b, b = (decide (t1 = 1) && decide (t2 = -1) && decide (t3 = -1) && decide (t4 = 1)) := ⟨_, rfl⟩
        obtain ⟨b3, hb3⟩ : ∃ b, b = (decide (t1 = -1) && decide (t2 = 1) && decide (t3 = 1) && decide (t4 = -1)) := ⟨_, rfl⟩
        obtain ⟨b4, hb4⟩ : ∃ b, b = (decide (t1 = -1) && decide (t2 = 1) && decide (t3 = -1) && decide (t4 = 1)) := ⟨_, rfl⟩
        have hxx := HXE.out
        rw [← hb1, ← hb2, ← hb3, ← hb4] at hxx
        rw [← hb1] at hq1 he1
        rw [← hb2] at hq2 he2
        rw [← hb3] at hq3 he3
        rw [← hb4] at hq4 he4
        have hrr : r = if (b1 || b2 || b3 || b4) then 2 else 0 := by rw [← hxx]; exact HR.out
        have HRR := Lib.hid hrr
        have hsz3 := HG3.out.2
        have HSZ3 := Lib.hid hsz3
        clear hb1 hb2 hb3 hb4 hxx hrr hsz3
        go_wp2_with fail
        go_region_held3 (fun w' => w'.cell? ⟨B, 0, none⟩ = some (.int .i64 a.x) ∧ w'.cell? ⟨B, 1, none⟩ = some (.int .i64 a.y) ∧ w'.cell? ⟨B + 1, 0, none⟩ = some (.int .i64 b.x) ∧ w'.cell? ⟨B + 1, 1, none⟩ = some (.int .i64 b.y) ∧ w'.cell? ⟨B + 1 + 1, 0, none⟩ = some (.int .i64 c.x) ∧ w'.cell? ⟨B + 1 + 1, 1, none⟩ = some (.int .i64 c.y) ∧ w'.cell? ⟨B + 1 + 1 + 1, 0, none⟩ = some (.int .i64 d.x) ∧ w'.cell? ⟨B + 1 + 1 + 1, 1, none⟩ = some (.int .i64 d.y) ∧ Below (B + 4) w3 w')
          (first
            | (exact ⟨k1, k2, k3, k4, k5, k6, k7, k8, (Below.refl _ _).drew⟩)
            | (go_split_ands; refine turn_step hgr HSZ3.out (Nat.le_refl _) ?_ ?_ ?_ ?_ ?_ ?_ ?_ ?_ ?_; all_goals assumption))
          (first
            | (go_at_call 89; have hv := HT1; clear HT1; go_split_ands; refine (hv.out _).mono ?_; rintro e wA ⟨rfl, hgr⟩)
            | (go_at_call 89; have hv := HT2; clear HT2; go_split_ands; refine (hv.out _).mono ?_; rintro e wB ⟨rfl, hgr⟩)
            | (go_at_call 89; have hv := HT3; clear HT3; go_split_ands; refine (hv.out _).mono ?_; rintro e wC ⟨rfl, hgr⟩)
            | (go_at_call 89; go_split_ands; refine (HT4.out _).mono ?_; rintro e wD ⟨rfl, hgr⟩))
        have HBD : Hid (Below w.heap.size w wD) := Lib.hid (HG3.out.1.trans (Below.mono (B := B + 4) (by first | assumption | (go_split_ands; assumption)) (by have := HBE.out; omega)))
        clear k1 k2 k3 k4 k5 k6 k7 k8
        cases b1 with
        | true =>
          go_wp2_with fail
          go_ret
          exact ⟨by rw [show r = 2 from HRR.out]; rfl, HBD.out⟩
        | false =>
          cases b2 with
          | true =>
            go_wp2_with fail
            go_ret
            exact ⟨by rw [show r = 2 from HRR.out]; rfl, HBD.out⟩
          | false =>
            cases b3 with
            | true =>
              go_wp2_with fail
              go_ret
              exact ⟨by rw [show r = 2 from HRR.out]; rfl, HBD.out⟩
            | false =>
              cases b4 with
              | true =>
                go_wp2_with fail
                go_ret
                exact ⟨by rw [show r = 2 from HRR.out]; rfl, HBD.out⟩
              | false =>
                go_wp2_with fail
                go_ret
                exact ⟨by rw [show r = 0 from HRR.out]; rfl, HBD.out⟩
      | 1 =>
        go_wp2_with fail
        go_ret
        exact ⟨by rw [show r = 1 from HR.out]; rfl, HG3.out.1⟩
      | m + 2 =>
        have hm0 : (((m + 2 : Nat) : Int) == 0) = false := by simp; omega
        have hm1 : (((m + 2 : Nat) : Int) == 1) = false := by simp; omega
        go_wp2_with fail
        go_ret
        exact ⟨by rw [show r = 3 from HR.out]; rfl, HG3.out.1⟩
end Go.Proofs.YtjiiikeniocmfaaGreat

/- inside.Counts -/
set_option linter.unusedSimpArgs false
set_option linter.unusedVariables false
namespace Go.Proofs.YtjiiikeniocmfaaGreat
open Go.RowKit Go.Geo
/-- three points in boxes of their own. -/
def Box3 (B : Nat) (a b c : Pt) (w : World) : Prop :=
  (w.heap[B]? = some (.cells #[.int .i64 a.x, .int .i64 a.y] 24 (0, 0))) ∧ (w.heap[B + 1]? = some (.cells #[.int .i64 b.x, .int .i64 b.y] 24 (0, 0))) ∧ (w.heap[B + 1 + 1]? = some (.cells #[.int .i64 c.x, .int .i64 c.y] 24 (0, 0)))
theorem Box3.later {B base : Nat} {a b c : Pt} {w w' : World} (h : Box3 B a b c w) (hb : Below base w w') (hB : B + 3 ≤ base) : Box3 B a b c w' :=
  ⟨(hb.block _ (by omega)).trans h.1, (hb.block _ (by omega)).trans h.2.1, (hb.block _ (by omega)).trans h.2.2⟩
theorem pt_cells {w : World} {g : Nat} {a : Pt} (h : w.heap[g]? = some (.cells #[.int .i64 a.x, .int .i64 a.y] 24 (0, 0))) :
    w.cell? ⟨g, 0, none⟩ = some (.int .i64 a.x) ∧ w.cell? ⟨g, 1, none⟩ = some (.int .i64 a.y) ∧ w.frozen? ⟨g, 0, none⟩ = false ∧ w.frozen? ⟨g, 1, none⟩ = false :=
  ⟨cell_of_row _ _ _ _ _ _ h, cell_of_row _ _ _ _ _ _ h, frozen_of_row _ _ _ _ _ h, frozen_of_row _ _ _ _ _ h⟩
end Go.Proofs.YtjiiikeniocmfaaGreat

/- 'for a, b := range seq { .. }' where the iterator keeps a point of its own in a box, and the body never leaves -/
set_option linter.unusedSimpArgs false
set_option linter.unusedVariables false
namespace Go.Proofs.YtjiiikeniocmfaaGreat
open Go.RowKit Go.Shelf Go.Geo
attribute [local go_sem] Oper.semAt_some
/-- what the iterator does on its own: new blocks, a store into a point that lies at B or beyond. -/
def OwnStep (B : Nat) (A A' : World) : Prop := ∃ row, A.grownBy A' row ∧ ∀ r, row = some r → B ≤ r ∧ ∃ c, A.heap[r]? = some (.cells c 24 (0, 0))
theorem OwnStep.alloc (B : Nat) (A : World) (o : Obj) : OwnStep B A (A.alloc o) := ⟨none, World.grownBy_alloc A o none, fun r e => by cases e⟩
theorem OwnStep.other {B : Nat} {A A' : World} (h : OwnStep B A A') {k : Nat} {o : Obj} (hk : A.heap[k]? = some o) (ho : o.isCells = false) : A'.heap[k]? = some o := by
  obtain ⟨row, hg, hr⟩ := h
  refine (hg.block k (Array.getElem?_eq_some_iff.1 hk).1 (fun e => ?_)).trans hk
  obtain ⟨_, c, hc⟩ := hr k e.symm
  rw [hk] at hc
  cases hc
  cases ho
end Go.Proofs.YtjiiikeniocmfaaGreat

/- ring.edges: each point's place, and its segment -/
set_option linter.unusedSimpArgs false
set_option linter.unusedVariables false
namespace Go.Proofs.YtjiiikeniocmfaaGreat
open Go.RowKit Go.Shelf Go.Geo
attribute [local go_sem] Oper.semAt_some
/-- the edges, each by its place. -/
def edgesL (P : List Pt) : List (Fin P.length) := List.finRange P.length
theorem edgesL_length (P : List Pt) : (edgesL P).length = P.length := by simp [edgesL]
theorem edgesL_take {P : List Pt} {k : Nat} (h : k < P.length) : (edgesL P).take (k + 1) = (edgesL P).take k ++ [⟨k, h⟩] := by
  rw [List.take_succ_eq_append_getElem (by rw [edgesL_length]; exact h)]
  simp [edgesL]
def encE (P : List Pt) (x : Fin P.length) : Array Value := #[.int .i64 x.1, .agg #[.int .i64 (P.getD x.1 p0).x, .int .i64 (P.getD x.1 p0).y, .int .i64 (atP P (x.1 + 1)).x, .int .i64 (atP P (x.1 + 1)).y]]
theorem edges_any (ao : Option Addr) (n cap : Nat) (w : World) :
    Calls Tryz.prog 103 #[.slice ao n cap] w fun e w' => e = .returned (.func (.func 129) #[] #[.pointer (some ⟨w.heap.size, 0, none⟩)]) ∧ w.alloc (.cells #[.slice ao n cap] 40) = w' := by
  go_enter Tryz.func103, Tryz.ntmps103
  go_wp2
  go_ret
  exact ⟨rfl, rfl⟩
set_option maxRecDepth 100000 in
set_option maxHeartbeats 2000000 in
theorem edges_stops (m Bn n0 : Nat) (ao : Option Addr) (n cap : Nat) (P : List Pt) (w : World) (hm : 1 ≤ m) (hBn : Bn < n0) (hn0 : n0 ≤ w.heap.size) (hc : w.cell? ⟨Bn, 0, none⟩ = some (.slice ao n cap)) (hP : ∀ A, Below n0 w A → IsPts A ao n cap P) (hs : n ≤ 1048576) :
    SeqStopsK Fence.wide m Tryz.prog 129 #[.pointer (some ⟨Bn, 0, none⟩)] (encE P) (Below n0) (fun ys => ys = edgesL P) (fun pre => pre <+: edgesL P) (edgesL P).length w := by
  intro l J Jx W hW hJ hJx hY h0
  have hP0 := hP w (Below.refl _ _)
  have HL : Hid (P.length = n) := hP0.1
  have hcm := hP0.2.2.1
  have hnc := hP0.2.1
  unfold maxLen at hcm
  have HC : Hid (∀ A, Below n0 W A → A.cell? ⟨Bn, 0, none⟩ = some (.slice ao n cap)) := Lib.hid (fun A hA => (hA.cell (p := ⟨Bn, 0, none⟩) hBn).trans ((hW.cell (p := ⟨Bn, 0, none⟩) (Nat.lt_of_lt_of_le hBn hn0)).trans hc))
  have HP : Hid (∀ A, Below n0 W A → IsPts A ao n cap P) := Lib.hid (fun A hA => hP A ((hW.mono hn0).trans hA))
  have HN0 : Hid (n0 ≤ W.heap.size) := Lib.hid (Nat.le_trans hn0 hW.size)
  have HJ := Lib.hid hJ
  have HY := Lib.hid hY
  have H0 := Lib.hid h0
  have hcW := HC.out W (Below.refl _ _)
  clear hP0 hP hW hc hBn hn0 hJ hJx hY h0
  refine callsIn_of_wp Tryz.func129 rfl trivial ?_ rfl
  simp only [Tryz.ntmps129, List.size_toArray, List.length_cons, List.length_nil, Nat.reduceAdd, Nat.reduceSub, Array.replicate_succ, Array.replicate_zero, List.push_toArray, List.append_toArray, List.nil_append, List.cons_append]
  gi_wp2_with fail
  clear hcW
  gi_loopw [7] (fun i wr => ∃ k : Nat, k ≤ n ∧ i = .int .i64 k ∧ Hid (J ((edgesL P).take k) wr) ∧ Hid (Below n0 W wr)) (fun i _ => n - (intOf i).toNat)
  case atStart =>
    refine ⟨0, by omega, rfl, ?_, Below.refl _ _⟩
    rw [List.take_zero]; exact H0
  case round =>
    obtain ⟨k, hk, rfl, hj, hbl⟩ := hrel
    by_cases hlt : k < n
    · have hk0 : (0 : Int) ≤ (k : Int) := by omega
      have hk5 : (k : Int) < (n : Int) := by omega
      obtain ⟨b2, off2, rfl, e0, e1⟩ := (HP.out wr hbl.out).at hlt
      obtain ⟨c, hc⟩ : ∃ c, c = P.getD k p0 := ⟨_, rfl⟩
      rw [← hc] at e0 e1
      have hal : Below n0 W (wr.alloc (.cells #[.int .i64 c.x, .int .i64 c.y] 24)) := hbl.out.alloc (Nat.le_trans HN0.out hbl.out.size) _
      have hcc := HC.out _ hal
      have hmod : (k + 1) % n < n := Nat.mod_lt _ (by omega)
      obtain ⟨b3, off3, hbo, g0, g1⟩ := (HP.out _ hal).at hmod
      cases hbo
      obtain ⟨d, hd⟩ : ∃ d, d = atP P (k + 1) := ⟨_, rfl⟩
      have hde : P.getD ((k + 1) % n) p0 = d := by rw [hd]; unfold atP; rw [HL.out]
      rw [hde] at g0 g1
      obtain ⟨q, hq⟩ : ∃ q, q = (k + 1) % n := ⟨_, rfl⟩
      rw [← hq] at g0 g1 hmod
      have hq0 : (0 : Int) ≤ (q : Int) := by omega
      have hq1 : (q : Int) < (n : Int) := by omega
      have hrem : Int.tmod ((k : Int) + 1) (n : Int) = (q : Int) := by
        rw [Int.tmod_eq_emod_of_nonneg (by omega), hq, Int.natCast_emod]; rfl
      obtain ⟨x, hx⟩ : ∃ x : Fin P.length, x = ⟨k, by rw [HL.out]; exact hlt⟩ := ⟨_, rfl⟩
      have HT : Hid ((edgesL P).take (k + 1) = (edgesL P).take k ++ [x]) := Lib.hid (by rw [hx]; exact edgesL_take _)
      have q0 : (wr.alloc (.cells #[.int .i64 c.x, .int .i64 c.y] 24)).cell? ⟨wr.heap.size, 0, none⟩ = some (.int .i64 c.x) := cell_of_row _ _ _ _ _ _ (alloc_new _ _)
      have q1 : (wr.alloc (.cells #[.int .i64 c.x, .int .i64 c.y] 24)).cell? ⟨wr.heap.size, 1, none⟩ = some (.int .i64 c.y) := cell_of_row _ _ _ _ _ _ (alloc_new _ _)
      have HBL := Lib.hid hal
      have HK := Lib.hid hk
      obtain ⟨fn, tmps, assign, body, hy, hR⟩ := HY.out ((edgesL P).take k) x (wr.alloc (.cells #[.int .i64 c.x, .int .i64 c.y] 24)).drew
        (HJ.out _ _ _ none hj.out ⟨rfl, rfl, rfl, by simp, fun j hj _ => Below.heap_alloc _ _ _ hj⟩ (fun r e => by cases e)) (by rw [List.length_take, edgesL_length, HL.out]; omega)
      have hR2 := hR.mono (R' := fun e W' => ∃ r, e = .returned (.bool r) ∧ Hid ((r = true ∧ J ((edgesL P).take k ++ [x]) W' ∧ Below n0 (wr.alloc (.cells #[.int .i64 c.x, .int .i64 c.y] 24)).drew W') ∨ (r = false ∧ Jx ((edgesL P).take k ++ [x]) W'))) (fun e W' h => by
        rcases h with ⟨rfl, h1, h2⟩ | ⟨rfl, h1⟩
        · exact ⟨true, rfl, Lib.hid (.inl ⟨rfl, h1, h2⟩)⟩
        · exact ⟨false, rfl, Lib.hid (.inr ⟨rfl, h1⟩)⟩)
      have HR := Lib.hid hR2
      have henc : encE P x = #[.int .i64 k, .agg #[.int .i64 c.x, .int .i64 c.y, .int .i64 d.x, .int .i64 d.y]] := by rw [hx, hc, hd]; rfl
      rw [henc] at hy
      clear hc hd hde hq hal hR hR2 henc hx
      have hz : ((n : Int) == 0) = false := by simp; omega
      have hwr : IntKind.i64.wrap ((k : Int) + 1) = (k : Int) + 1 := IntWalk.i64_in _ (by omega)
      have hkp : (0 : Int) ≤ (k : Int) + 1 := by omega
      have HPK := Lib.hid (And.intro HJ.out (And.intro HY.out (And.intro H0.out (And.intro HP.out (And.intro HC.out (And.intro HN0.out hj.out))))))
      clear HJ HY H0 HP HC HN0 hj hk hlt hmod hbl hs hcm hnc
      gi_wp2_with fail
      gi_region_with (refine HR.out.mono ?_; rintro e W3 ⟨r, rfl, hr3⟩)
      all_goals (clear q0 q1 hcc e0 e1 g0 g1)
      all_goals (have HR3 := Lib.hid hr3)
      all_goals (clear hr3)
      all_goals (cases r)
      all_goals (gi_wp2_with fail)
      all_goals first
        | (refine bodyPost_ret (results_none rfl _ _ _) rfl ?_
           rcases HR3.out.out with ⟨h, _⟩ | ⟨_, h1⟩
           · cases h
           · refine ⟨⟨_, rfl⟩, .inr ⟨(edgesL P).take (k + 1), List.take_prefix _ _, ?_⟩⟩
             rw [HT.out]; exact h1)
        | (go_roundw
           case rel =>
             rcases HR3.out.out with ⟨_, h1, h2⟩ | ⟨h, _⟩
             · refine ⟨k + 1, by have := HK.out; omega, by go_num, ?_, ?_⟩
               · rw [HT.out]; exact h1
               · exact Lib.hid (HBL.out.trans ⟨h2.os, h2.tape, h2.output, h2.size, h2.block⟩)
             · cases h
           case measure => simp [intOf]; omega)
    · obtain rfl : n = k := by omega
      gi_wp2_with fail
      go_end0
      refine ⟨⟨_, rfl⟩, .inl ⟨_, rfl, ?_⟩⟩
      have := hj.out
      rw [List.take_of_length_le (by rw [edgesL_length, HL.out]; exact Nat.le_refl _)] at this
      exact this
end Go.Proofs.YtjiiikeniocmfaaGreat

/- ring.bad, ring.at, ring.size -/
set_option linter.unusedSimpArgs false
set_option linter.unusedVariables false
namespace Go.Proofs.YtjiiikeniocmfaaGreat
open Go.RowKit Go.Geo
attribute [local go_sem] Oper.semAt_some
/-- a fault, as a value. -/
def faultV (x : Int × Int) : Value := .agg #[.int .i64 x.1, .int .i64 x.2]
theorem load_two {t : TypeId} (ha : ∀ w, (isAgg t).run Tryz.prog w = .ok true w) (hz : ∀ w, (Go.sizeOf t).run Tryz.prog w = .ok 2 w) {w : World} {g : Nat} {a b : Value} (hg : w.heap[g]? = some (.cells #[a, b] t (0, 0))) : (loadVar t ⟨g, 0, none⟩).run Tryz.prog w = .ok (.agg #[a, b]) w := by
  have c0 : w.cell? ⟨g, 0, none⟩ = some a := cell_of_row _ _ _ _ _ _ hg
  have c1 : w.cell? ⟨g, 1, none⟩ = some b := cell_of_row _ _ _ _ _ _ hg
  have hl : (loadCells ⟨g, 0, none⟩ 2).run Tryz.prog w = .ok #[a, b] w :=
    run_loadCells_list (P := Tryz.prog) w ⟨g, 0, none⟩ [a, b] (fun j v hv => by
      have hadd : (⟨g, 0, none⟩ : Addr).add j = ⟨g, j, none⟩ := by unfold Addr.add; split <;> simp_all
      rw [hadd]
      match j, hv with
      | 0, hv => cases hv; exact c0
      | 1, hv => cases hv; exact c1)
  simp [loadVar, Sem.run_bind, ha, hz, hl, Result.andThen_ok]
theorem results_fault {fn : Func} {p u : Tmp} (h : fn.results = #[.cell p 35, .tmp u]) {tmps : Array Value} {w : World} {g : Nat} {a b : Value}
    (hp : tmps.getD p undef = .pointer (some ⟨g, 0, none⟩)) (hg : w.heap[g]? = some (.cells #[a, b] 35 (0, 0))) :
    (results fn tmps).run Tryz.prog w = .ok (.tuple #[.agg #[a, b], tmps.getD u undef]) w := by
  rw [results_cell_tmp h, hp]
  simp [asAddr, load_two (fun w => by kernel_rfl) (fun w => by kernel_rfl) hg, Result.andThen_ok]
theorem results_point {fn : Func} {p : Tmp} (h : fn.results = #[.cell p 24]) {tmps : Array Value} {w : World} {g : Nat} {a b : Value}
    (hp : tmps.getD p undef = .pointer (some ⟨g, 0, none⟩)) (hg : w.heap[g]? = some (.cells #[a, b] 24 (0, 0))) :
    (results fn tmps).run Tryz.prog w = .ok (.agg #[a, b]) w := by
  exact results_cell_row h tmps w g _ _ _ _ hp hg Tryz.underlying24 rfl (by kernel_rfl)
set_option maxRecDepth 100000 in
theorem bad_any (e a : Int) (w : World) : Calls Tryz.prog 98 #[.int .i64 e, .int .i64 a] w fun en w' => en = .returned (.tuple #[faultV (e, a), .bool true]) ∧ Grew w w' := by
  unfold faultV
  go_enter Tryz.func98, Tryz.ntmps98
  go_wp2_with fail
  exact bodyPost_ret (results_fault rfl rfl (alloc_new _ _)) rfl ⟨rfl, (Grew.refl _).alloc _⟩
theorem at_mod {i : Int} {n : Nat} (hn : 0 < n) (h0 : -1 ≤ i) (h1 : i ≤ n) : Int.tmod (Int.tmod i n + n) n = (((i + n).toNat % n : Nat) : Int) := by
  have e1 : Int.tmod i n = i - n * Int.tdiv i n := Int.tmod_def _ _
  have hp : 0 ≤ Int.tmod i n + n := by
    have := Int.lt_tmod_of_pos i (show (0 : Int) < n by omega)
    omega
  rw [Int.tmod_eq_emod_of_nonneg hp, e1]
  rw [show i - (n : Int) * Int.tdiv i n + n = i + n + (n : Int) * (- Int.tdiv i n) by rw [Int.mul_neg]; omega]
  rw [Int.add_mul_emod_self_left]
  rw [Int.natCast_emod, Int.toNat_of_nonneg (by omega)]
set_option maxRecDepth 100000 in
theorem at_any (i : Int) (ao : Option Addr) (n cap : Nat) (P : List Pt) (w : World) (h : IsPts w ao n cap P) (hn : 0 < n) (hs : n ≤ 1048576) (h0 : -1 ≤ i) (h1 : i ≤ n) : Calls Tryz.prog 101 #[.slice ao n cap, .int .i64 i] w fun e w' => e = .returned (ptV (atP P (i + n).toNat)) ∧ Grew w w' := by
  have hm := at_mod hn h0 h1
  have hcm := h.2.2.1
  have hnc := h.2.1
  unfold maxLen at hcm
  obtain ⟨k, hk⟩ : ∃ k, k = (i + n).toNat % n := ⟨_, rfl⟩
  rw [← hk] at hm
  have hkn : k < n := by rw [hk]; exact Nat.mod_lt _ hn
  have HV : Hid (atP P (i + n).toNat = P.getD k p0) := Lib.hid (by unfold atP; rw [h.1, hk])
  have hw : wrap64 (i.tmod n + n) = i.tmod n + n := by
    have a1 := Int.lt_tmod_of_pos i (show (0 : Int) < n by omega)
    have a2 := Int.tmod_lt_of_pos i (show (0 : Int) < n by omega)
    unfold wrap64
    omega
  obtain ⟨b, off, rfl, e0, e1⟩ := (h.grew ((Grew.refl _).alloc (.cells #[.int .i64 0, .int .i64 0] 24))).at hkn
  rw [← hw] at hm
  have hk0 : (0 : Int) ≤ (k : Int) := by omega
  have hk1 : (k : Int) < (n : Int) := by omega
  clear hk h hw
  go_enter Tryz.func101, Tryz.ntmps101
  go_wp2_with fail
  refine bodyPost_ret (results_point rfl rfl (alloc_new _ _)) rfl ⟨?_, (Grew.refl _).alloc _⟩
  rw [HV.out]
  simp [ptV]
end Go.Proofs.YtjiiikeniocmfaaGreat

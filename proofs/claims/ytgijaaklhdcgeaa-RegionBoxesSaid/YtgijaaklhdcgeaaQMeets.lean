/- cross.Meets -/
import Derived.Test.YtgijaaklhdcgeaaQEnds
import Derived.ChangeKeysEq
set_option linter.unusedSimpArgs false
set_option linter.unusedVariables false
namespace Go.Proofs.Ytgijaaklhdcgeaa
open Go.RowKit Go.Geo
theorem Try.infoInt : (Try.prog.info? 3).map (fun i => (i.zero, i.size, i.bytes)) = some (some (.int .i64 0), 1, 8) := by kernel_rfl
theorem eqItems_cons (xs ys : Array Value) (i : Nat) (is : List Nat) (a b : Int) (w : World) (hx : xs[i]? = some (.int .i64 a)) (hy : ys[i]? = some (.int .i64 b)) :
    (Op.eqItems 9999 3 1 xs ys (i :: is)).run Try.prog w = if decide (a = b) = true then (Op.eqItems 9999 3 1 xs ys is).run Try.prog w else .ok false w := by
  rw [Op.eqItems, Nat.mul_one]
  simp only [Sem.run_bind, part_int xs i _ hx, part_int ys i _ hy, Result.andThen_ok, show (9999 : Nat) = 9998 + 1 from rfl, run_equalIn_int w 9998 3 .i64 .i64 a b Try.underlying3]
  by_cases h : a = b
  · simp [h]
  · simp [h]
theorem eq4 (a b c d a2 b2 c2 d2 : Int) (w : World) : (Op.equalIn 10000 107 (.agg #[.int .i64 a, .int .i64 b, .int .i64 c, .int .i64 d]) (.agg #[.int .i64 a2, .int .i64 b2, .int .i64 c2, .int .i64 d2])).run Try.prog w = .ok (decide (a = a2) && decide (b = b2) && decide (c = c2) && decide (d = d2)) w := by
  obtain ⟨i, hi, _⟩ := info_parts' Try.infoInt
  rw [show (10000 : Nat) = 9999 + 1 from rfl, run_equalIn_array w 9999 _ _ Try.underlying107 hi, Try.cellsI, show List.range 4 = [0, 1, 2, 3] from rfl]
  rw [eqItems_cons _ _ 0 _ a a2 w rfl rfl, eqItems_cons _ _ 1 _ b b2 w rfl rfl, eqItems_cons _ _ 2 _ c c2 w rfl rfl, eqItems_cons _ _ 3 _ d d2 w rfl rfl]
  unfold Op.eqItems
  by_cases h1 : a = a2 <;> by_cases h2 : b = b2 <;> by_cases h3 : c = c2 <;> by_cases h4 : d = d2 <;> simp [h1, h2, h3, h4]
theorem run_eq4 (a b c d a2 b2 c2 d2 : Int) (w : World) : (binOp .eql 107 (.agg #[.int .i64 a, .int .i64 b, .int .i64 c, .int .i64 d]) (.agg #[.int .i64 a2, .int .i64 b2, .int .i64 c2, .int .i64 d2])).run Try.prog w = .ok (.bool (decide (a = a2) && decide (b = b2) && decide (c = c2) && decide (d = d2))) w := by
  rw [run_eql_struct, eq4]
  rfl
theorem cross4 {s t u v : Int} (hs : s = -1 ∨ s = 0 ∨ s = 1) (ht : t = -1 ∨ t = 0 ∨ t = 1) (hu : u = -1 ∨ u = 0 ∨ u = 1) (hv : v = -1 ∨ v = 0 ∨ v = 1) :
    (decide (s * t < 0) && decide (u * v < 0)) = ((decide (s = 1) && decide (t = -1) && decide (u = 1) && decide (v = -1)) || (decide (s = 1) && decide (t = -1) && decide (u = -1) && decide (v = 1)) || (decide (s = -1) && decide (t = 1) && decide (u = 1) && decide (v = -1)) || (decide (s = -1) && decide (t = 1) && decide (u = -1) && decide (v = 1))) := by
  rcases hs with rfl | rfl | rfl <;> rcases ht with rfl | rfl | rfl <;> rcases hu with rfl | rfl | rfl <;> rcases hv with rfl | rfl | rfl <;> rfl
theorem turn_step {B base : Nat} {a b c d : Pt} {W w1 w2 : World} (hb : Grew w1 w2) (hz : base ≤ W.heap.size) (hB : B + 4 ≤ base)
    (h1 : w1.cell? ⟨B, 0, none⟩ = some (.int .i64 a.x)) (h2 : w1.cell? ⟨B, 1, none⟩ = some (.int .i64 a.y)) (h3 : w1.cell? ⟨B + 1, 0, none⟩ = some (.int .i64 b.x)) (h4 : w1.cell? ⟨B + 1, 1, none⟩ = some (.int .i64 b.y))
    (h5 : w1.cell? ⟨B + 1 + 1, 0, none⟩ = some (.int .i64 c.x)) (h6 : w1.cell? ⟨B + 1 + 1, 1, none⟩ = some (.int .i64 c.y)) (h7 : w1.cell? ⟨B + 1 + 1 + 1, 0, none⟩ = some (.int .i64 d.x)) (h8 : w1.cell? ⟨B + 1 + 1 + 1, 1, none⟩ = some (.int .i64 d.y)) (h9 : Below base W w1) :
    w2.cell? ⟨B, 0, none⟩ = some (.int .i64 a.x) ∧ w2.cell? ⟨B, 1, none⟩ = some (.int .i64 a.y) ∧ w2.cell? ⟨B + 1, 0, none⟩ = some (.int .i64 b.x) ∧ w2.cell? ⟨B + 1, 1, none⟩ = some (.int .i64 b.y) ∧ w2.cell? ⟨B + 1 + 1, 0, none⟩ = some (.int .i64 c.x) ∧ w2.cell? ⟨B + 1 + 1, 1, none⟩ = some (.int .i64 c.y) ∧ w2.cell? ⟨B + 1 + 1 + 1, 0, none⟩ = some (.int .i64 d.x) ∧ w2.cell? ⟨B + 1 + 1 + 1, 1, none⟩ = some (.int .i64 d.y) ∧ Below base W w2 :=
  ends_step (hb.1.mono (Nat.le_trans hz h9.size)) hB h1 h2 h3 h4 h5 h6 h7 h8 h9
def meetN (p q x : Bool) (m : Nat) : Nat := if p && q then (match m with
  | 0 => if x then 2 else 0
  | 1 => 1
  | _ => 3) else 0
/-- how two edges meet. -/
def MeetR (m : Nat) (w : World) (e : Ending) (w' : World) : Prop := e = .returned (.int .i64 (m : Int)) ∧ Below w.heap.size w w'
set_option maxRecDepth 100000 in
set_option maxHeartbeats 4000000 in
theorem Meets_any (a b c d : Pt) (w : World) :
    Calls Try.prog 62 #[ptV a, ptV b, ptV c, ptV d] w fun e w' => MeetR (meetK a b c d) w e w' := by
  obtain ⟨B, hB⟩ : ∃ B, B = w.heap.size := ⟨_, rfl⟩
  have H4 := box4_new w a b c d
  rw [← hB] at H4
  obtain ⟨W4, hW4⟩ : ∃ W, W = (((w.alloc (.cells #[.int .i64 a.x, .int .i64 a.y] 27)).alloc (.cells #[.int .i64 b.x, .int .i64 b.y] 27)).alloc (.cells #[.int .i64 c.x, .int .i64 c.y] 27)).alloc (.cells #[.int .i64 d.x, .int .i64 d.y] 27) := ⟨_, rfl⟩
  rw [← hW4] at H4
  have hsz : W4.heap.size = B + 4 := by rw [hW4, hB]; simp
  have HB0 : Hid (Grew w W4) := Lib.hid (by rw [hW4]; exact ((((Grew.refl _).alloc _).alloc _).alloc _).alloc _)
  have HH4 := Lib.hid H4
  have HSZ := Lib.hid hsz
  have HBE := Lib.hid hB
  have HM1 := Lib.hid (may_any a b)
  have HM2 := Lib.hid (may_any c d)
  have HE := Lib.hid (Ends_any a b c d)
  have HT1 := Lib.hid (Turn_any a b c)
  have HT2 := Lib.hid (Turn_any a b d)
  have HT3 := Lib.hid (Turn_any c d a)
  have HT4 := Lib.hid (Turn_any c d b)
  have ht1 := turnP_range a b c
  have ht2 := turnP_range a b d
  have ht3 := turnP_range c d a
  have ht4 := turnP_range c d b
  have hx := cross4 ht1 ht2 ht3 ht4
  have hx : crossP a b c d = _ := hx
  have hm : meetK a b c d = meetN (mayP a b) (mayP c d) (crossP a b c d) (endsP a b c d).length := rfl
  rw [hm]
  obtain ⟨m, hme⟩ : ∃ m, m = (endsP a b c d).length := ⟨_, rfl⟩
  rw [← hme] at HE ⊢
  obtain ⟨x, hxe⟩ : ∃ x, x = crossP a b c d := ⟨_, rfl⟩
  rw [← hxe]
  rw [hx] at hxe
  obtain ⟨t1, h1⟩ : ∃ t, t = turnP a b c := ⟨_, rfl⟩
  obtain ⟨t2, h2⟩ : ∃ t, t = turnP a b d := ⟨_, rfl⟩
  obtain ⟨t3, h3⟩ : ∃ t, t = turnP c d a := ⟨_, rfl⟩
  obtain ⟨t4, h4⟩ : ∃ t, t = turnP c d b := ⟨_, rfl⟩
  rw [← h1] at HT1 hxe
  rw [← h2] at HT2 hxe
  rw [← h3] at HT3 hxe
  rw [← h4] at HT4 hxe
  obtain ⟨p, hp⟩ : ∃ p, p = mayP a b := ⟨_, rfl⟩
  obtain ⟨q, hq⟩ : ∃ q, q = mayP c d := ⟨_, rfl⟩
  rw [← hp] at HM1
  rw [← hq] at HM2
  rw [← hp, ← hq]
  have HXE := Lib.hid hxe
  obtain ⟨r, hr⟩ : ∃ r : Nat, r = meetN p q x m := ⟨_, rfl⟩
  rw [← hr]
  have HR := Lib.hid hr
  clear hr
  clear hp hq hm hx h1 h2 h3 h4 hme hxe ht1 ht2 ht3 ht4
  unfold ptV at *
  cases p with
  | false =>
    go_enter Try.func62, Try.ntmps62
    go_wp2_with fail
    refine (HM1.out _).mono ?_
    rintro e w1 ⟨rfl, hg1⟩
    go_wp2_with fail
    go_ret
    exact ⟨by rw [show r = 0 from HR.out]; rfl, (((((Grew.refl _).alloc _).alloc _).alloc _).alloc _ |>.trans hg1).1⟩
  | true =>
    go_enter Try.func62, Try.ntmps62
    go_wp2_with fail
    rw [← hW4, ← hB]
    refine (HM1.out _).mono ?_
    rintro e w1 ⟨rfl, hg1⟩
    obtain ⟨⟨k1, k2⟩, ⟨k3, k4⟩, ⟨k5, k6⟩, k7, k8⟩ := HH4.out.later hg1.1 (by rw [HSZ.out]; exact Nat.le_refl _)
    have HG1 := Lib.hid (And.intro (HB0.out.trans hg1) (show B + 4 ≤ w1.heap.size by have := hg1.size; omega))
    clear hg1 H4 hW4 hB hsz
    go_wp2_with fail
    refine (HM2.out _).mono ?_
    rintro e w2 ⟨rfl, hg2⟩
    have HG2 := Lib.hid (And.intro (HG1.out.1.trans hg2) (Nat.le_trans HG1.out.2 hg2.size))
    have HK : Hid (Box4 B a b c d w2) := Lib.hid ((show Box4 B a b c d w1 from ⟨⟨k1, k2⟩, ⟨k3, k4⟩, ⟨k5, k6⟩, k7, k8⟩).later hg2.1 HG1.out.2)
    clear hg2 k1 k2 k3 k4 k5 k6 k7 k8
    cases q with
    | false =>
      go_wp2_with fail
      go_ret
      exact ⟨by rw [show r = 0 from HR.out]; rfl, HG2.out.1.1⟩
    | true =>
      obtain ⟨⟨k1, k2⟩, ⟨k3, k4⟩, ⟨k5, k6⟩, k7, k8⟩ := HK.out
      go_wp2_with fail
      refine (HE.out _).mono ?_
      rintro e w3 ⟨ao, cap, rfl, hb3⟩
      have HG3 := Lib.hid (And.intro (HG2.out.1.1.trans (hb3.mono HG2.out.1.size)) (Nat.le_trans HG2.out.2 hb3.size))
      have HK3 : Hid (Box4 B a b c d w3) := Lib.hid (HK.out.later hb3 HG2.out.2)
      clear hb3 k1 k2 k3 k4 k5 k6 k7 k8
      match m with
      | 0 =>
        obtain ⟨⟨k1, k2⟩, ⟨k3, k4⟩, ⟨k5, k6⟩, k7, k8⟩ := HK3.out
        have hq1 := run_eq4 t1 t2 t3 t4 1 (-1) 1 (-1)
        have hq2 := run_eq4 t1 t2 t3 t4 1 (-1) (-1) 1
        have hq3 := run_eq4 t1 t2 t3 t4 (-1) 1 1 (-1)
        have hq4 := run_eq4 t1 t2 t3 t4 (-1) 1 (-1) 1
        have he1 := eq4 t1 t2 t3 t4 1 (-1) 1 (-1)
        have he2 := eq4 t1 t2 t3 t4 1 (-1) (-1) 1
        have he3 := eq4 t1 t2 t3 t4 (-1) 1 1 (-1)
        have he4 := eq4 t1 t2 t3 t4 (-1) 1 (-1) 1
        obtain ⟨b1, hb1⟩ : ∃ b, b = (decide (t1 = 1) && decide (t2 = -1) && decide (t3 = 1) && decide (t4 = -1)) := ⟨_, rfl⟩
        obtain ⟨b2, hb2⟩ : ∃ b, b = (decide (t1 = 1) && decide (t2 = -1) && decide (t3 = -1) && decide (t4 = 1)) := ⟨_, rfl⟩
        obtain ⟨b3, hb3⟩ : ∃ b, b = (decide (t1 = -1) && decide (t2 = 1) && decide (t3 = 1) && decide (t4 = -1)) := ⟨_, rfl⟩
        obtain ⟨b4, hb4⟩ : ∃ b, b = (decide (t1 = -1) && decide (t2 = 1) && decide (t3 = -1) && decide (t4 = 1)) := ⟨_, rfl⟩
        have hxx := HXE.out
        rw [← hb1, ← hb2, ← hb3, ← hb4] at hxx
        rw [← hb1] at hq1 he1
        rw [← hb2] at hq2 he2
        rw [← hb3] at hq3 he3
        rw [← hb4] at hq4 he4
        have hrr : r = if (b1 || b2 || b3 || b4) then 2 else 0 := by rw [← hxx]; exact HR.out
        have HRR := Lib.hid hrr
        have hsz3 := HG3.out.2
        have HSZ3 := Lib.hid hsz3
        clear hb1 hb2 hb3 hb4 hxx hrr hsz3
        go_wp2_with fail
        go_region_held3 (fun w' => w'.cell? ⟨B, 0, none⟩ = some (.int .i64 a.x) ∧ w'.cell? ⟨B, 1, none⟩ = some (.int .i64 a.y) ∧ w'.cell? ⟨B + 1, 0, none⟩ = some (.int .i64 b.x) ∧ w'.cell? ⟨B + 1, 1, none⟩ = some (.int .i64 b.y) ∧ w'.cell? ⟨B + 1 + 1, 0, none⟩ = some (.int .i64 c.x) ∧ w'.cell? ⟨B + 1 + 1, 1, none⟩ = some (.int .i64 c.y) ∧ w'.cell? ⟨B + 1 + 1 + 1, 0, none⟩ = some (.int .i64 d.x) ∧ w'.cell? ⟨B + 1 + 1 + 1, 1, none⟩ = some (.int .i64 d.y) ∧ Below (B + 4) w3 w')
          (first
            | (exact ⟨k1, k2, k3, k4, k5, k6, k7, k8, (Below.refl _ _).drew⟩)
            | (go_split_ands; refine turn_step hgr HSZ3.out (Nat.le_refl _) ?_ ?_ ?_ ?_ ?_ ?_ ?_ ?_ ?_; all_goals assumption))
          (first
            | (go_at_call 69; have hv := HT1; clear HT1; go_split_ands; refine (hv.out _).mono ?_; rintro e wA ⟨rfl, hgr⟩)
            | (go_at_call 69; have hv := HT2; clear HT2; go_split_ands; refine (hv.out _).mono ?_; rintro e wB ⟨rfl, hgr⟩)
            | (go_at_call 69; have hv := HT3; clear HT3; go_split_ands; refine (hv.out _).mono ?_; rintro e wC ⟨rfl, hgr⟩)
            | (go_at_call 69; go_split_ands; refine (HT4.out _).mono ?_; rintro e wD ⟨rfl, hgr⟩))
        have HBD : Hid (Below w.heap.size w wD) := Lib.hid (HG3.out.1.trans (Below.mono (B := B + 4) (by first | assumption | (go_split_ands; assumption)) (by have := HBE.out; omega)))
        clear k1 k2 k3 k4 k5 k6 k7 k8
        cases b1 with
        | true =>
          go_wp2_with fail
          go_ret
          exact ⟨by rw [show r = 2 from HRR.out]; rfl, HBD.out⟩
        | false =>
          cases b2 with
          | true =>
            go_wp2_with fail
            go_ret
            exact ⟨by rw [show r = 2 from HRR.out]; rfl, HBD.out⟩
          | false =>
            cases b3 with
            | true =>
              go_wp2_with fail
              go_ret
              exact ⟨by rw [show r = 2 from HRR.out]; rfl, HBD.out⟩
            | false =>
              cases b4 with
              | true =>
                go_wp2_with fail
                go_ret
                exact ⟨by rw [show r = 2 from HRR.out]; rfl, HBD.out⟩
              | false =>
                go_wp2_with fail
                go_ret
                exact ⟨by rw [show r = 0 from HRR.out]; rfl, HBD.out⟩
      | 1 =>
        go_wp2_with fail
        go_ret
        exact ⟨by rw [show r = 1 from HR.out]; rfl, HG3.out.1⟩
      | m + 2 =>
        have hm0 : (((m + 2 : Nat) : Int) == 0) = false := by simp; omega
        have hm1 : (((m + 2 : Nat) : Int) == 1) = false := by simp; omega
        go_wp2_with fail
        go_ret
        exact ⟨by rw [show r = 3 from HR.out]; rfl, HG3.out.1⟩
end Go.Proofs.Ytgijaaklhdcgeaa

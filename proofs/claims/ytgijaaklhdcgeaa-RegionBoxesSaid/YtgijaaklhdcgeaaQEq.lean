/- points that are the same; slices.Index, slices.Contains of points; cross.may -/
import Derived.Test.YtgijaaklhdcgeaaQBox
set_option linter.unusedSimpArgs false
set_option linter.unusedVariables false
namespace Go.Proofs.Ytgijaaklhdcgeaa
open Go.RowKit Go.Geo
theorem eqPt_run (a b : Pt) (w : World) : (Op.equalIn 10000 27 (ptV a) (ptV b)).run Try.prog w = .ok (decide (a = b)) w := by
  have hf := fieldsPI
  unfold ptV
  rw [run_equalIn_agg _ _ _ _ _ fieldsP heldP]
  generalize (Try.prog.fieldsOf 27).toList = fs at hf
  obtain _ | ⟨f0, _ | ⟨f1, _ | ⟨f2, fs⟩⟩⟩ := fs <;> simp only [List.map_cons, List.map_nil, List.cons.injEq, Prod.mk.injEq, and_false, and_true, List.cons_ne_nil, List.nil_eq] at hf
  obtain ⟨⟨n0, t0, o0⟩, ⟨n1, t1, o1⟩⟩ := hf
  rw [eqFields_cons 9998 _ _ f0 _ 0 _ _ w n0 t0 o0 rfl rfl, eqFields_cons 9998 _ _ f1 _ 1 _ _ w n1 t1 o1 rfl rfl]
  unfold Op.eqFields
  by_cases h1 : a.x = b.x
  · by_cases h2 : a.y = b.y
    · have : a = b := Pt.ext' h1 h2
      simp [this]
    · have : a ≠ b := fun e => h2 (by rw [e])
      simp [h1, h2, this]
  · have : a ≠ b := fun e => h1 (by rw [e])
    simp [h1, this]
theorem run_eq_pt (a b : Pt) (w : World) : (binOp .eql 27 (.agg #[.int .i64 a.x, .int .i64 a.y]) (.agg #[.int .i64 b.x, .int .i64 b.y])).run Try.prog w = .ok (.bool (decide (a = b))) w := by
  have h := eqPt_run a b w
  unfold ptV at h
  rw [run_eql_struct, h]
  rfl
theorem run_ne_pt (a b : Pt) (w : World) : (binOp .neq 27 (.agg #[.int .i64 a.x, .int .i64 a.y]) (.agg #[.int .i64 b.x, .int .i64 b.y])).run Try.prog w = .ok (.bool (!decide (a = b))) w := by
  have h := eqPt_run a b w
  unfold ptV at h
  rw [run_neq_struct, h]
  rfl
set_option maxRecDepth 100000 in
theorem may_any (a b : Pt) (w : World) :
    Calls Try.prog 86 #[ptV a, ptV b] w fun e w' => e = .returned (.bool (mayP a b)) ∧ Grew w w' := by
  have HX := Lib.hid (Valid_any a)
  have HY := Lib.hid (Valid_any b)
  have hne : ∀ w, (binOp .neq 27 (.agg #[.int .i64 a.x, .int .i64 a.y]) (.agg #[.int .i64 b.x, .int .i64 b.y])).run Try.prog w = .ok (.bool (!decide (a = b))) w := run_ne_pt a b
  have he : mayP a b = (validP a && validP b && !decide (a = b)) := by unfold mayP; rw [decide_not]
  rw [he]
  generalize (!decide (a = b)) = d at *
  generalize validP a = p at *
  generalize validP b = q at *
  clear he
  obtain ⟨ax, ay⟩ := a
  obtain ⟨bx, bY⟩ := b
  unfold ptV at *
  dsimp only at *
  cases p with
  | false =>
    go_enter Try.func86, Try.ntmps86
    go_wp2_with fail
    refine (HX.out _).mono ?_
    rintro e w1 ⟨rfl, hg1⟩
    go_wp2_with fail
    go_ret
    exact ⟨rfl, (((Grew.refl _).alloc _).alloc _).trans hg1⟩
  | true =>
    go_enter Try.func86, Try.ntmps86
    go_wp2_with fail
    refine (HX.out _).mono ?_
    rintro e w1 ⟨rfl, hg1⟩
    have a0 : w1.cell? ⟨w.heap.size, 0, none⟩ = some (.int .i64 ax) := hg1.cell (((Grew.refl _).alloc _).cell (cell_of_row _ _ _ _ _ _ (alloc_new w _)))
    have a1 : w1.cell? ⟨w.heap.size, 1, none⟩ = some (.int .i64 ay) := hg1.cell (((Grew.refl _).alloc _).cell (cell_of_row _ _ _ _ _ _ (alloc_new w _)))
    have b0 : w1.cell? ⟨w.heap.size + 1, 0, none⟩ = some (.int .i64 bx) := hg1.cell (cell_of_row _ _ _ _ _ _ (alloc_new2 w _ _))
    have b1 : w1.cell? ⟨w.heap.size + 1, 1, none⟩ = some (.int .i64 bY) := hg1.cell (cell_of_row _ _ _ _ _ _ (alloc_new2 w _ _))
    have HG := Lib.hid ((((Grew.refl w).alloc _).alloc _).trans hg1)
    clear hg1
    go_wp2_with fail
    refine (HY.out _).mono ?_
    rintro e w2 ⟨rfl, hg2⟩
    have c0 := hg2.cell a0
    have c1 := hg2.cell a1
    have d0 := hg2.cell b0
    have d1 := hg2.cell b1
    have HG2 := Lib.hid (HG.out.trans hg2)
    clear hg2 a0 a1 b0 b1
    cases q with
    | false =>
      go_wp2_with fail
      go_ret
      exact ⟨rfl, HG2.out⟩
    | true =>
      go_wp2_with fail
      go_ret
      exact ⟨rfl, HG2.out⟩
end Go.Proofs.Ytgijaaklhdcgeaa

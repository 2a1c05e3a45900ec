/- points that are the same; slices.Index, slices.Contains of points; cross.may -/
import Derived.Test.YtlmmejdcjhbppaaMQBox
set_option linter.unusedSimpArgs false
set_option linter.unusedVariables false
namespace Go.Proofs.Ytlmmejdcjhbppaa
open Go.RowKit Go.Geo
theorem eqPt_run (a b : Pt) (w : World) : (Op.equalIn 10000 31 (ptV a) (ptV b)).run Try.prog w = .ok (decide (a = b)) w := by
  have hf := fieldsPI
  unfold ptV
  rw [run_equalIn_agg _ _ _ _ _ fieldsP heldP]
  generalize (Try.prog.fieldsOf 31).toList = fs at hf
  obtain _ | ⟨f0, _ | ⟨f1, _ | ⟨f2, fs⟩⟩⟩ := fs <;> simp only [List.map_cons, List.map_nil, List.cons.injEq, Prod.mk.injEq, and_false, and_true, List.cons_ne_nil, List.nil_eq] at hf
  obtain ⟨⟨n0, t0, o0⟩, ⟨n1, t1, o1⟩⟩ := hf
  rw [eqFields_cons 9998 _ _ f0 _ 0 _ _ w n0 t0 o0 rfl rfl, eqFields_cons 9998 _ _ f1 _ 1 _ _ w n1 t1 o1 rfl rfl]
  unfold Op.eqFields
  by_cases h1 : a.x = b.x
  · by_cases h2 : a.y = b.y
    · have : a = b := Pt.ext' h1 h2
      simp [this]
    · have : a ≠ b := fun e => h2 (by rw [e])
      simp [h1, h2, this]
  · have : a ≠ b := fun e => h1 (by rw [e])
    simp [h1, this]
theorem run_eq_pt (a b : Pt) (w : World) : (binOp .eql 31 (.agg #[.int .i64 a.x, .int .i64 a.y]) (.agg #[.int .i64 b.x, .int .i64 b.y])).run Try.prog w = .ok (.bool (decide (a = b))) w := by
  have h := eqPt_run a b w
  unfold ptV at h
  rw [run_eql_struct, h]
  rfl
theorem run_ne_pt (a b : Pt) (w : World) : (binOp .neq 31 (.agg #[.int .i64 a.x, .int .i64 a.y]) (.agg #[.int .i64 b.x, .int .i64 b.y])).run Try.prog w = .ok (.bool (!decide (a = b))) w := by
  have h := eqPt_run a b w
  unfold ptV at h
  rw [run_neq_struct, h]
  rfl
end Go.Proofs.Ytlmmejdcjhbppaa

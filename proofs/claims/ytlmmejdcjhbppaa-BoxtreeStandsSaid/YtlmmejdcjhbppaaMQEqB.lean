/- boxes compared by == -/
import Derived.Test.YtlmmejdcjhbppaaMQEq
import Derived.Test.YtlmmejdcjhbppaaMQBox
set_option linter.unusedSimpArgs false
set_option linter.unusedVariables false
namespace Go.Proofs.Ytlmmejdcjhbppaa
open Go.RowKit Go.Geo
theorem eqPt_at (d : Nat) (a b c e : Int) (w : World) : (Op.equalIn (d + 3) 31 (.agg #[.int .i64 a, .int .i64 b]) (.agg #[.int .i64 c, .int .i64 e])).run Try.prog w = .ok (decide (a = c) && decide (b = e)) w := by
  have hf := fieldsPI
  rw [run_equalIn_agg _ _ _ _ _ fieldsP heldP]
  generalize (Try.prog.fieldsOf 31).toList = fs at hf
  obtain _ | ⟨f0, _ | ⟨f1, _ | ⟨f2, fs⟩⟩⟩ := fs <;> simp only [List.map_cons, List.map_nil, List.cons.injEq, Prod.mk.injEq, and_false, and_true, List.cons_ne_nil, List.nil_eq] at hf
  obtain ⟨⟨n0, t0, o0⟩, ⟨n1, t1, o1⟩⟩ := hf
  rw [eqFields_cons (d + 1) _ _ f0 _ 0 a c w n0 t0 o0 rfl rfl, eqFields_cons (d + 1) _ _ f1 _ 1 b e w n1 t1 o1 rfl rfl]
  unfold Op.eqFields
  by_cases h1 : a = c <;> by_cases h2 : b = e <;> simp [h1, h2]
theorem fieldsB : Try.prog.underlying 33 = some (.struct (Try.prog.fieldsOf 33)) := by kernel_rfl
theorem heldB : Try.prog.stoodInHeld 33 = false := by kernel_rfl
theorem fieldsBI : (Try.prog.fieldsOf 33).toList.map (fun f => (decide (f.name ≠ "_"), f.type, f.offset)) = [(true, 31, 0), (true, 31, 2)] := by kernel_rfl
theorem isAggPt (w : World) : (isAgg 31).run Try.prog w = .ok true w := by kernel_rfl
theorem sizeOfPt (w : World) : (Go.sizeOf 31).run Try.prog w = .ok 2 w := by kernel_rfl
theorem part_pt (xs : Array Value) (o : Nat) (a b : Value) (h : xs.extract o (o + 2) = #[a, b]) (w : World) : (part 31 xs o).run Try.prog w = .ok (.agg #[a, b]) w := by
  simp only [part, Sem.run_bind, isAggPt, sizeOfPt, Result.andThen_ok, if_true, Sem.run_pure, h]
theorem eqFields_consP (d : Nat) (xs ys : Array Value) (f : Field) (fs : List Field) (o : Nat) (a b c e : Int) (w : World) (hn : decide (f.name ≠ "_") = true) (ht : f.type = 31) (ho : f.offset = o)
    (hx : xs.extract o (o + 2) = #[.int .i64 a, .int .i64 b]) (hy : ys.extract o (o + 2) = #[.int .i64 c, .int .i64 e]) :
    (Op.eqFields (d + 4) xs ys (f :: fs)).run Try.prog w = if (decide (a = c) && decide (b = e)) = true then (Op.eqFields (d + 4) xs ys fs).run Try.prog w else .ok false w := by
  have hn' : f.name ≠ "_" := of_decide_eq_true hn
  rw [Op.eqFields, if_pos hn', ht, ho]
  simp only [Sem.run_bind, part_pt xs o _ _ hx, part_pt ys o _ _ hy, Result.andThen_ok, eqPt_at]
  cases (decide (a = c) && decide (b = e)) <;> simp
theorem run_eqBox (a b c e a' b' c' e' : Int) (w : World) : (binOp .eql 33 (.agg #[.int .i64 a, .int .i64 b, .int .i64 c, .int .i64 e]) (.agg #[.int .i64 a', .int .i64 b', .int .i64 c', .int .i64 e'])).run Try.prog w = .ok (.bool (decide (a = a') && decide (b = b') && (decide (c = c') && decide (e = e')))) w := by
  have hf := fieldsBI
  rw [run_eql_struct, run_equalIn_agg _ _ _ _ _ fieldsB heldB]
  generalize (Try.prog.fieldsOf 33).toList = fs at hf
  obtain _ | ⟨f0, _ | ⟨f1, _ | ⟨f2, fs⟩⟩⟩ := fs <;> simp only [List.map_cons, List.map_nil, List.cons.injEq, Prod.mk.injEq, and_false, and_true, List.cons_ne_nil, List.nil_eq] at hf
  obtain ⟨⟨n0, t0, o0⟩, ⟨n1, t1, o1⟩⟩ := hf
  rw [eqFields_consP 9995 _ _ f0 _ 0 a b a' b' w n0 t0 o0 rfl rfl, eqFields_consP 9995 _ _ f1 _ 2 c e c' e' w n1 t1 o1 rfl rfl]
  unfold Op.eqFields
  cases (decide (a = a') && decide (b = b')) <;> cases (decide (c = c') && decide (e = e')) <;> simp
end Go.Proofs.Ytlmmejdcjhbppaa

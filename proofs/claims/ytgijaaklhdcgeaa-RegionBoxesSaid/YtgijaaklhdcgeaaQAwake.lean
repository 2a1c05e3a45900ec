/- the law's awake -/
import Derived.Test.YtgijaaklhdcgeaaQLaw0
import Derived.Test.YtgijaaklhdcgeaaQRegIn
set_option linter.unusedSimpArgs false
set_option linter.unusedVariables false
namespace Go.Proofs.Ytgijaaklhdcgeaa
open Go.RowKit Go.Geo
attribute [local go_sem] Oper.semAt_some
def sP : List Pt := boxP ⟨0, 0⟩ ⟨9, 9⟩
def tP : List Pt := boxP ⟨2, 2⟩ ⟨4, 4⟩
def uP : List Pt := boxP ⟨2, 2⟩ ⟨12, 4⟩
theorem awake_facts : regionCheckP [sP, tP] = (0, 0) ∧ inR ⟨3, 3⟩ [sP, tP] = false ∧ inR ⟨2, 2⟩ [sP, tP] = false ∧ inR ⟨4, 4⟩ [sP, tP] = true ∧ inR ⟨1, 1⟩ [sP, tP] = true ∧ regionCheckP [sP, uP] = (210, 0) := by decide +kernel
theorem cell_step {G : Nat} {v : Value} {W w1 w2 : World} (hb : Below w1.heap.size w1 w2) (h1 : w1.cell? ⟨G, 0, none⟩ = some v) (h2 : Below W.heap.size W w1) : w2.cell? ⟨G, 0, none⟩ = some v ∧ Below W.heap.size W w2 :=
  ⟨(hb.cell (p := ⟨G, 0, none⟩) (block_lt_of_cell h1)).trans h1, h2.trans (hb.mono h2.size)⟩
theorem fieldsF : Try.prog.underlying 32 = some (.struct (Try.prog.fieldsOf 32)) := by kernel_rfl
theorem heldF : Try.prog.stoodInHeld 32 = false := by kernel_rfl
theorem fieldsFI : (Try.prog.fieldsOf 32).toList.map (fun f => (decide (f.name ≠ "_"), f.type, f.offset)) = [(true, 30, 0), (true, 3, 1)] := by kernel_rfl
theorem isAggE (w : World) : (isAgg 30).run Try.prog w = .ok false w := by
  simp [isAgg, run_underlying Try.underlying30]
theorem part_errno (xs : Array Value) (o : Nat) (v : Value) (h : xs[o]? = some v) (w : World) : (part 30 xs o).run Try.prog w = .ok v w := by
  simp [part, h]
theorem eqFields_consE (d : Nat) (xs ys : Array Value) (f : Field) (fs : List Field) (o : Nat) (a b : Int) (w : World) (hn : decide (f.name ≠ "_") = true) (ht : f.type = 30) (ho : f.offset = o)
    (hx : xs[o]? = some (.int .i64 a)) (hy : ys[o]? = some (.int .i64 b)) :
    (Op.eqFields (d + 1) xs ys (f :: fs)).run Try.prog w = if (a == b) = true then (Op.eqFields (d + 1) xs ys fs).run Try.prog w else .ok false w := by
  have hn' : f.name ≠ "_" := of_decide_eq_true hn
  rw [Op.eqFields, if_pos hn', ht, ho]
  simp only [Sem.run_bind, part_errno xs o _ hx, part_errno ys o _ hy, Result.andThen_ok, run_equalIn_int w d 30 .i64 .i64 a b Try.underlying30]
  cases (a == b) <;> simp
theorem eqF (a b c d : Int) (w : World) : (Op.equalIn 10000 32 (.agg #[.int .i64 a, .int .i64 b]) (.agg #[.int .i64 c, .int .i64 d])).run Try.prog w = .ok (decide (a = c) && decide (b = d)) w := by
  have hf := fieldsFI
  rw [run_equalIn_agg _ _ _ _ _ fieldsF heldF]
  generalize (Try.prog.fieldsOf 32).toList = fs at hf
  obtain _ | ⟨f0, _ | ⟨f1, _ | ⟨f2, fs⟩⟩⟩ := fs <;> simp only [List.map_cons, List.map_nil, List.cons.injEq, Prod.mk.injEq, and_false, and_true, List.cons_ne_nil, List.nil_eq] at hf
  obtain ⟨⟨n0, t0, o0⟩, ⟨n1, t1, o1⟩⟩ := hf
  rw [eqFields_consE 9998 _ _ f0 _ 0 a c w n0 t0 o0 rfl rfl, eqFields_cons 9998 _ _ f1 _ 1 b d w n1 t1 o1 rfl rfl]
  unfold Op.eqFields
  by_cases h1 : a = c <;> by_cases h2 : b = d <;> simp [h1, h2]
theorem run_eqF (a b c d : Int) (w : World) : (binOp .eql 32 (.agg #[.int .i64 a, .int .i64 b]) (.agg #[.int .i64 c, .int .i64 d])).run Try.prog w = .ok (.bool (decide (a = c) && decide (b = d))) w := by
  rw [run_eql_struct, eqF]
  rfl
theorem fieldF0 (a b : Value) (w : World) : (Instr.field 32 (.agg #[a, b]) 0).run Try.prog w = .ok a w := by kernel_rfl
set_option maxRecDepth 100000 in
set_option maxHeartbeats 4000000 in
theorem awake_any (w : World) : Calls Try.prog 13 #[] w fun e w' => e = .returned (.bool true) ∧ Below w.heap.size w w' := by
  obtain ⟨F1, F2, F3, F4, F5, F6⟩ := awake_facts
  have HS := Lib.hid sLaw_any
  have HT := Lib.hid tLaw_any
  have HU := Lib.hid uLaw_any
  have HOF := Lib.hid ofLaw_any
  have HAT := Lib.hid atLaw_any
  have HF := Lib.hid (And.intro F1 (And.intro F2 (And.intro F3 (And.intro F4 (And.intro F5 F6)))))
  clear F1 F2 F3 F4 F5 F6
  go_enter Try.func13, Try.ntmps13
  go_wp2_with fail
  refine (HS.out _).mono ?_
  rintro e w1 ⟨g1, c1, rfl, hp1, hb1⟩
  have H1 := Lib.hid (And.intro hp1 hb1)
  clear hp1 hb1
  go_wp2_with fail
  refine (HT.out _).mono ?_
  rintro e w2 ⟨g2, c2, rfl, hp2, hb2⟩
  have H2 := Lib.hid (And.intro hp2 (And.intro (H1.out.1.later hb2 (Nat.le_refl _)) (H1.out.2.trans (hb2.mono H1.out.2.size))))
  clear hp2 hb2
  go_wp2_with fail
  refine (HOF.out _ _ _ _).mono ?_
  rintro e w3 ⟨rfl, hg3⟩
  have hr := (rings2 H2.out.2.1 H2.out.1 rfl).grew hg3
  obtain ⟨W, hW⟩ : ∃ W, W = w3.alloc (.cells #[.slice (some ⟨w2.heap.size, 0, none⟩) 2 2] 25) := ⟨_, rfl⟩
  have hr : IsRings W (some ⟨w2.heap.size, 0, none⟩) 2 2 [sP, tP] := by rw [hW]; exact hr.later ((Below.refl _ _).alloc (Nat.le_refl _) _) (Nat.le_refl _)
  have hc : W.cell? ⟨w3.heap.size, 0, none⟩ = some (.slice (some ⟨w2.heap.size, 0, none⟩) 2 2) := by rw [hW]; exact alloc_cell _ _ _
  have hbW : Below w.heap.size w W := by
    rw [hW]
    have h1 : Below w2.heap.size w2 w3 := ((Below.refl _ _).alloc (Nat.le_refl _) _).trans (hg3.1.mono (by simp))
    exact (H2.out.2.2.trans (h1.mono H2.out.2.2.size)).alloc (Nat.le_trans H2.out.2.2.size h1.size) _
  have HCK : Hid (∀ w', Below W.heap.size W w' → Calls Try.prog 11 #[.agg #[.slice (some ⟨w2.heap.size, 0, none⟩) 2 2]] w' fun e w'' => e = .returned (faultV (0, 0)) ∧ Below w'.heap.size w' w'') := Lib.hid (fun w' hb => by
    have h := Check_region _ 2 2 [sP, tP] w' (hr.later hb (Nat.le_refl _)) (by decide)
    rw [HF.out.1] at h
    exact h)
  have HIN : Hid (∀ p w', Below W.heap.size W w' → Calls Try.prog 16 #[ptV p, .agg #[.slice (some ⟨w2.heap.size, 0, none⟩) 2 2]] w' fun e w'' => e = .returned (.bool (inR p [sP, tP])) ∧ Below w'.heap.size w' w'') := Lib.hid (fun p w' hb => In_region p _ 2 2 [sP, tP] w' (hr.later hb (Nat.le_refl _)))
  have HI3 : Hid (∀ w', Below W.heap.size W w' → Calls Try.prog 16 #[.agg #[.int .i64 3, .int .i64 3], .agg #[.slice (some ⟨w2.heap.size, 0, none⟩) 2 2]] w' fun e w'' => e = .returned (.bool false) ∧ Below w'.heap.size w' w'') := Lib.hid (fun w' hb => by have h := HIN.out ⟨3, 3⟩ w' hb; rw [HF.out.2.1] at h; exact h)
  have HI2 : Hid (∀ w', Below W.heap.size W w' → Calls Try.prog 16 #[.agg #[.int .i64 2, .int .i64 2], .agg #[.slice (some ⟨w2.heap.size, 0, none⟩) 2 2]] w' fun e w'' => e = .returned (.bool false) ∧ Below w'.heap.size w' w'') := Lib.hid (fun w' hb => by have h := HIN.out ⟨2, 2⟩ w' hb; rw [HF.out.2.2.1] at h; exact h)
  have HI4 : Hid (∀ w', Below W.heap.size W w' → Calls Try.prog 16 #[.agg #[.int .i64 4, .int .i64 4], .agg #[.slice (some ⟨w2.heap.size, 0, none⟩) 2 2]] w' fun e w'' => e = .returned (.bool true) ∧ Below w'.heap.size w' w'') := Lib.hid (fun w' hb => by have h := HIN.out ⟨4, 4⟩ w' hb; rw [HF.out.2.2.2.1] at h; exact h)
  have HI1 : Hid (∀ w', Below W.heap.size W w' → Calls Try.prog 16 #[.agg #[.int .i64 1, .int .i64 1], .agg #[.slice (some ⟨w2.heap.size, 0, none⟩) 2 2]] w' fun e w'' => e = .returned (.bool true) ∧ Below w'.heap.size w' w'') := Lib.hid (fun w' hb => by have h := HIN.out ⟨1, 1⟩ w' hb; rw [HF.out.2.2.2.2.1] at h; exact h)
  have HSU : Hid (∀ w' x y c d, IsPts w' x 4 c sP → IsPts w' y 4 d uP → ∀ w'' g, w'.heap.size = g → Grew (w'.alloc (.cells #[.slice x 4 c, .slice y 4 d] 28)) w'' → Calls Try.prog 11 #[.agg #[.slice (some ⟨g, 0, none⟩) 2 2]] w'' fun e w3 => e = .returned (faultV (210, 0)) ∧ Below w''.heap.size w'' w3) := Lib.hid (fun w' x y c d hx hy w'' g hg hgr => by
    have h := Check_region _ 2 2 [sP, uP] w'' ((rings2 hx hy hg).grew hgr) (by decide)
    rw [HF.out.2.2.2.2.2] at h
    exact h)
  have HEQ := Lib.hid hbW
  unfold faultV at HCK HSU
  clear hr hbW HIN
  have hfd := fieldF0
  have hqf : ∀ w, (binOp .eql 32 (.agg #[.int .i64 210, .int .i64 0]) (.agg #[.int .i64 210, .int .i64 0])).run Try.prog w = .ok (.bool true) w := fun w => run_eqF 210 0 210 0 w
  have hqg : ∀ w, (Op.equalIn 10000 32 (.agg #[.int .i64 210, .int .i64 0]) (.agg #[.int .i64 210, .int .i64 0])).run Try.prog w = .ok true w := fun w => eqF 210 0 210 0 w
  go_wp2_with fail
  try rw [← hW]
  have HW := Lib.hid hW
  clear hW hg3
  go_region_held3 (fun w' => w'.cell? ⟨w3.heap.size, 0, none⟩ = some (.slice (some ⟨w2.heap.size, 0, none⟩) 2 2) ∧ Below W.heap.size W w')
    (first
      | (exact ⟨hc, (Below.refl _ _).drew⟩)
      | (go_split_ands; refine cell_step hgr ?_ ?_; all_goals assumption)
      | (go_split_ands; refine cell_step ((Below.refl _ _).alloc (Nat.le_refl _) _) ?_ ?_; all_goals assumption))
    (first
      | (go_at_call 11; go_split_ands; have hv := HCK; clear HCK; refine (hv.out _ (by assumption)).mono ?_; rintro e wA ⟨rfl, hgr⟩)
      | (go_at_call 19; go_split_ands; refine (HAT.out _ _ _).mono ?_; rintro e wA ⟨rfl, hg⟩; have hgr := hg.1)
      | (go_at_call 16; go_split_ands; have hv := HI3; clear HI3; (with_reducible refine (hv.out _ (by assumption)).mono ?_); rintro e wA ⟨rfl, hgr⟩)
      | (go_at_call 16; go_split_ands; have hv := HI2; clear HI2; (with_reducible refine (hv.out _ (by assumption)).mono ?_); rintro e wA ⟨rfl, hgr⟩)
      | (go_at_call 16; go_split_ands; have hv := HI4; clear HI4; (with_reducible refine (hv.out _ (by assumption)).mono ?_); rintro e wA ⟨rfl, hgr⟩)
      | (go_at_call 16; go_split_ands; have hv := HI1; clear HI1; (with_reducible refine (hv.out _ (by assumption)).mono ?_); rintro e wA ⟨rfl, hgr⟩)
      | (go_at_call 29; go_split_ands; refine (HS.out _).mono ?_; rintro e wS ⟨gS, cS, rfl, hpS, hgr⟩)
      | (go_at_call 39; go_split_ands; refine (HU.out _).mono ?_; rintro e wU ⟨gU, cU, rfl, hpU, hgr⟩; have HPP := Lib.hid (And.intro (hpS.later hgr (Nat.le_refl _)) hpU); clear hpS hpU)
      | (go_at_call 20; go_split_ands; refine (HOF.out _ _ _ _).mono ?_; rintro e wO ⟨rfl, hgO⟩; have hgr := hgO.1; have HGO := Lib.hid hgO; clear hgO)
      | (go_at_call 11; go_split_ands; refine (HSU.out _ _ _ _ _ HPP.out.1 HPP.out.2 _ _ rfl HGO.out).mono ?_; rintro e wC ⟨rfl, hgr⟩))
  have HWC : Hid (Below W.heap.size W wC) := Lib.hid (by go_split_ands; assumption)
  go_wp2_with fail
  go_ret
  exact ⟨rfl, HEQ.out.trans (HWC.out.mono HEQ.out.size)⟩
end Go.Proofs.Ytgijaaklhdcgeaa

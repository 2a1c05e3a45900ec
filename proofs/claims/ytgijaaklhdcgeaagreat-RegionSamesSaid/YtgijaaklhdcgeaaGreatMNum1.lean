/- the law's awake -/
import Derived.Test.YtgijaaklhdcgeaaGreatMQRegIn
import Derived.Test.YtgijaaklhdcgeaaGreatMQCont
import Derived.Test.YtgijaaklhdcgeaaGreatMQLay
import Derived.Test.YtgijaaklhdcgeaaGreatMQCounts
import Derived.Laws.Tables
set_option linter.unusedSimpArgs false
set_option linter.unusedVariables false
namespace Go.Proofs.YtgijaaklhdcgeaaGreat
open Go.RowKit Go.Geo
attribute [local go_sem] Oper.semAt_some
def sP : List Pt := boxP ⟨0, 0⟩ ⟨9, 9⟩
def tP : List Pt := boxP ⟨2, 2⟩ ⟨4, 4⟩
def uP : List Pt := boxP ⟨2, 2⟩ ⟨12, 4⟩
theorem awake_facts : regionCheckP [sP, tP] = (0, 0) ∧ inR ⟨3, 3⟩ [sP, tP] = false ∧ inR ⟨2, 2⟩ [sP, tP] = false ∧ inR ⟨4, 4⟩ [sP, tP] = true ∧ inR ⟨1, 1⟩ [sP, tP] = true ∧ regionCheckP [sP, uP] = (210, 0) := by decide +kernel
theorem cell_step {G : Nat} {v : Value} {W w1 w2 : World} (hb : Below w1.heap.size w1 w2) (h1 : w1.cell? ⟨G, 0, none⟩ = some v) (h2 : Below W.heap.size W w1) : w2.cell? ⟨G, 0, none⟩ = some v ∧ Below W.heap.size W w2 :=
  ⟨(hb.cell (p := ⟨G, 0, none⟩) (block_lt_of_cell h1)).trans h1, h2.trans (hb.mono h2.size)⟩
theorem fieldsF : Tryz.prog.underlying 33 = some (.struct (Tryz.prog.fieldsOf 33)) := by kernel_rfl
theorem heldF : Tryz.prog.stoodInHeld 33 = false := by kernel_rfl
theorem fieldsFI : (Tryz.prog.fieldsOf 33).toList.map (fun f => (decide (f.name ≠ "_"), f.type, f.offset)) = [(true, 31, 0), (true, 3, 1)] := by kernel_rfl
theorem isAggE (w : World) : (isAgg 31).run Tryz.prog w = .ok false w := by
  simp [isAgg, run_underlying Tryz.underlying31]
theorem part_errno (xs : Array Value) (o : Nat) (v : Value) (h : xs[o]? = some v) (w : World) : (part 31 xs o).run Tryz.prog w = .ok v w := by
  simp [part, h]
theorem eqFields_consE (d : Nat) (xs ys : Array Value) (f : Field) (fs : List Field) (o : Nat) (a b : Int) (w : World) (hn : decide (f.name ≠ "_") = true) (ht : f.type = 31) (ho : f.offset = o)
    (hx : xs[o]? = some (.int .i64 a)) (hy : ys[o]? = some (.int .i64 b)) :
    (Op.eqFields (d + 1) xs ys (f :: fs)).run Tryz.prog w = if (a == b) = true then (Op.eqFields (d + 1) xs ys fs).run Tryz.prog w else .ok false w := by
  have hn' : f.name ≠ "_" := of_decide_eq_true hn
  rw [Op.eqFields, if_pos hn', ht, ho]
  simp only [Sem.run_bind, part_errno xs o _ hx, part_errno ys o _ hy, Result.andThen_ok, run_equalIn_int w d 31 .i64 .i64 a b Tryz.underlying31]
  cases (a == b) <;> simp
theorem eqF (a b c d : Int) (w : World) : (Op.equalIn 10000 33 (.agg #[.int .i64 a, .int .i64 b]) (.agg #[.int .i64 c, .int .i64 d])).run Tryz.prog w = .ok (decide (a = c) && decide (b = d)) w := by
  have hf := fieldsFI
  rw [run_equalIn_agg _ _ _ _ _ fieldsF heldF]
  generalize (Tryz.prog.fieldsOf 33).toList = fs at hf
  obtain _ | ⟨f0, _ | ⟨f1, _ | ⟨f2, fs⟩⟩⟩ := fs <;> simp only [List.map_cons, List.map_nil, List.cons.injEq, Prod.mk.injEq, and_false, and_true, List.cons_ne_nil, List.nil_eq] at hf
  obtain ⟨⟨n0, t0, o0⟩, ⟨n1, t1, o1⟩⟩ := hf
  rw [eqFields_consE 9998 _ _ f0 _ 0 a c w n0 t0 o0 rfl rfl, eqFields_cons 9998 _ _ f1 _ 1 b d w n1 t1 o1 rfl rfl]
  unfold Op.eqFields
  by_cases h1 : a = c <;> by_cases h2 : b = d <;> simp [h1, h2]
theorem run_eqF (a b c d : Int) (w : World) : (binOp .eql 33 (.agg #[.int .i64 a, .int .i64 b]) (.agg #[.int .i64 c, .int .i64 d])).run Tryz.prog w = .ok (.bool (decide (a = c) && decide (b = d))) w := by
  rw [run_eql_struct, eqF]
  rfl
theorem fieldF0 (a b : Value) (w : World) : (Instr.field 33 (.agg #[a, b]) 0).run Tryz.prog w = .ok a w := by kernel_rfl
set_option maxRecDepth 100000 in
set_option maxHeartbeats 4000000 in
theorem awake_any (w : World) : Calls Tryz.prog 9 #[] w fun e w' => e = .returned (.bool true) ∧ Below w.heap.size w w' := by
  obtain ⟨F1, F2, F3, F4, F5, F6⟩ := awake_facts
  have HS := Lib.hid sLaw_any
  have HT := Lib.hid tLaw_any
  have HU := Lib.hid uLaw_any
  have HOF := Lib.hid ofLaw_any
  have HAT := Lib.hid atLaw_any
  have HF := Lib.hid (And.intro F1 (And.intro F2 (And.intro F3 (And.intro F4 (And.intro F5 F6)))))
  clear F1 F2 F3 F4 F5 F6
  go_enter Tryz.func9, Tryz.ntmps9
  go_wp2_with fail
  refine (HS.out _).mono ?_
  rintro e w1 ⟨g1, c1, rfl, hp1, hb1⟩
  have H1 := Lib.hid (And.intro hp1 hb1)
  clear hp1 hb1
  go_wp2_with fail
  refine (HT.out _).mono ?_
  rintro e w2 ⟨g2, c2, rfl, hp2, hb2⟩
  have H2 := Lib.hid (And.intro hp2 (And.intro (H1.out.1.later hb2 (Nat.le_refl _)) (H1.out.2.trans (hb2.mono H1.out.2.size))))
  clear hp2 hb2
  go_wp2_with fail
  refine (HOF.out _ _ _ _).mono ?_
  rintro e w3 ⟨rfl, hg3⟩
  have hr := (rings2 H2.out.2.1 H2.out.1 rfl).grew hg3
  obtain ⟨W, hW⟩ : ∃ W, W = w3.alloc (.cells #[.slice (some ⟨w2.heap.size, 0, none⟩) 2 2] 24) := ⟨_, rfl⟩
  have hr : IsRings W (some ⟨w2.heap.size, 0, none⟩) 2 2 [sP, tP] := by rw [hW]; exact hr.later ((Below.refl _ _).alloc (Nat.le_refl _) _) (Nat.le_refl _)
  have hc : W.cell? ⟨w3.heap.size, 0, none⟩ = some (.slice (some ⟨w2.heap.size, 0, none⟩) 2 2) := by rw [hW]; exact alloc_cell _ _ _
  have hbW : Below w.heap.size w W := by
    rw [hW]
    have h1 : Below w2.heap.size w2 w3 := ((Below.refl _ _).alloc (Nat.le_refl _) _).trans (hg3.1.mono (by simp))
    exact (H2.out.2.2.trans (h1.mono H2.out.2.2.size)).alloc (Nat.le_trans H2.out.2.2.size h1.size) _
  have HCK : Hid (∀ w', Below W.heap.size W w' → Calls Tryz.prog 12 #[.agg #[.slice (some ⟨w2.heap.size, 0, none⟩) 2 2]] w' fun e w'' => e = .returned (faultV (0, 0)) ∧ Below w'.heap.size w' w'') := Lib.hid (fun w' hb => by
    have h := Check_region _ 2 2 [sP, tP] w' (hr.later hb (Nat.le_refl _)) (by decide)
    rw [HF.out.1] at h
    exact h)
  have HIN : Hid (∀ p w', Below W.heap.size W w' → Calls Tryz.prog 23 #[ptV p, .agg #[.slice (some ⟨w2.heap.size, 0, none⟩) 2 2]] w' fun e w'' => e = .returned (.bool (inR p [sP, tP])) ∧ Below w'.heap.size w' w'') := Lib.hid (fun p w' hb => In_region p _ 2 2 [sP, tP] w' (hr.later hb (Nat.le_refl _)))
  have HI3 : Hid (∀ w', Below W.heap.size W w' → Calls Tryz.prog 23 #[.agg #[.int .i64 3, .int .i64 3], .agg #[.slice (some ⟨w2.heap.size, 0, none⟩) 2 2]] w' fun e w'' => e = .returned (.bool false) ∧ Below w'.heap.size w' w'') := Lib.hid (fun w' hb => by have h := HIN.out ⟨3, 3⟩ w' hb; rw [HF.out.2.1] at h; exact h)
  have HI2 : Hid (∀ w', Below W.heap.size W w' → Calls Tryz.prog 23 #[.agg #[.int .i64 2, .int .i64 2], .agg #[.slice (some ⟨w2.heap.size, 0, none⟩) 2 2]] w' fun e w'' => e = .returned (.bool false) ∧ Below w'.heap.size w' w'') := Lib.hid (fun w' hb => by have h := HIN.out ⟨2, 2⟩ w' hb; rw [HF.out.2.2.1] at h; exact h)
  have HI4 : Hid (∀ w', Below W.heap.size W w' → Calls Tryz.prog 23 #[.agg #[.int .i64 4, .int .i64 4], .agg #[.slice (some ⟨w2.heap.size, 0, none⟩) 2 2]] w' fun e w'' => e = .returned (.bool true) ∧ Below w'.heap.size w' w'') := Lib.hid (fun w' hb => by have h := HIN.out ⟨4, 4⟩ w' hb; rw [HF.out.2.2.2.1] at h; exact h)
  have HI1 : Hid (∀ w', Below W.heap.size W w' → Calls Tryz.prog 23 #[.agg #[.int .i64 1, .int .i64 1], .agg #[.slice (some ⟨w2.heap.size, 0, none⟩) 2 2]] w' fun e w'' => e = .returned (.bool true) ∧ Below w'.heap.size w' w'') := Lib.hid (fun w' hb => by have h := HIN.out ⟨1, 1⟩ w' hb; rw [HF.out.2.2.2.2.1] at h; exact h)
  have HSU : Hid (∀ w' x y c d, IsPts w' x 4 c sP → IsPts w' y 4 d uP → ∀ w'' g, w'.heap.size = g → Grew (w'.alloc (.cells #[.slice x 4 c, .slice y 4 d] 36)) w'' → Calls Tryz.prog 12 #[.agg #[.slice (some ⟨g, 0, none⟩) 2 2]] w'' fun e w3 => e = .returned (faultV (210, 0)) ∧ Below w''.heap.size w'' w3) := Lib.hid (fun w' x y c d hx hy w'' g hg hgr => by
    have h := Check_region _ 2 2 [sP, uP] w'' ((rings2 hx hy hg).grew hgr) (by decide)
    rw [HF.out.2.2.2.2.2] at h
    exact h)
  have HEQ := Lib.hid hbW
  unfold faultV at HCK HSU
  clear hr hbW HIN
  have hfd := fieldF0
  have hqf : ∀ w, (binOp .eql 33 (.agg #[.int .i64 210, .int .i64 0]) (.agg #[.int .i64 210, .int .i64 0])).run Tryz.prog w = .ok (.bool true) w := fun w => run_eqF 210 0 210 0 w
  have hqg : ∀ w, (Op.equalIn 10000 33 (.agg #[.int .i64 210, .int .i64 0]) (.agg #[.int .i64 210, .int .i64 0])).run Tryz.prog w = .ok true w := fun w => eqF 210 0 210 0 w
  go_wp2_with fail
  try rw [← hW]
  have HW := Lib.hid hW
  clear hW hg3
  go_region_held3 (fun w' => w'.cell? ⟨w3.heap.size, 0, none⟩ = some (.slice (some ⟨w2.heap.size, 0, none⟩) 2 2) ∧ Below W.heap.size W w')
    (first
      | (exact ⟨hc, (Below.refl _ _).drew⟩)
      | (go_split_ands; refine cell_step hgr ?_ ?_; all_goals assumption)
      | (go_split_ands; refine cell_step ((Below.refl _ _).alloc (Nat.le_refl _) _) ?_ ?_; all_goals assumption))
    (first
      | (go_at_call 12; go_split_ands; have hv := HCK; clear HCK; refine (hv.out _ (by assumption)).mono ?_; rintro e wA ⟨rfl, hgr⟩)
      | (go_at_call 24; go_split_ands; refine (HAT.out _ _ _).mono ?_; rintro e wA ⟨rfl, hg⟩; have hgr := hg.1)
      | (go_at_call 23; go_split_ands; have hv := HI3; clear HI3; (with_reducible refine (hv.out _ (by assumption)).mono ?_); rintro e wA ⟨rfl, hgr⟩)
      | (go_at_call 23; go_split_ands; have hv := HI2; clear HI2; (with_reducible refine (hv.out _ (by assumption)).mono ?_); rintro e wA ⟨rfl, hgr⟩)
      | (go_at_call 23; go_split_ands; have hv := HI4; clear HI4; (with_reducible refine (hv.out _ (by assumption)).mono ?_); rintro e wA ⟨rfl, hgr⟩)
      | (go_at_call 23; go_split_ands; have hv := HI1; clear HI1; (with_reducible refine (hv.out _ (by assumption)).mono ?_); rintro e wA ⟨rfl, hgr⟩)
      | (go_at_call 21; go_split_ands; refine (HS.out _).mono ?_; rintro e wS ⟨gS, cS, rfl, hpS, hgr⟩)
      | (go_at_call 25; go_split_ands; refine (HU.out _).mono ?_; rintro e wU ⟨gU, cU, rfl, hpU, hgr⟩; have HPP := Lib.hid (And.intro (hpS.later hgr (Nat.le_refl _)) hpU); clear hpS hpU)
      | (go_at_call 20; go_split_ands; refine (HOF.out _ _ _ _).mono ?_; rintro e wO ⟨rfl, hgO⟩; have hgr := hgO.1; have HGO := Lib.hid hgO; clear hgO)
      | (go_at_call 12; go_split_ands; refine (HSU.out _ _ _ _ _ HPP.out.1 HPP.out.2 _ _ rfl HGO.out).mono ?_; rintro e wC ⟨rfl, hgr⟩))
  have HWC : Hid (Below W.heap.size W wC) := Lib.hid (by go_split_ands; assumption)
  go_wp2_with fail
  go_ret
  exact ⟨rfl, HEQ.out.trans (HWC.out.mono HEQ.out.size)⟩
end Go.Proofs.YtgijaaklhdcgeaaGreat

/- regions that came in, within the form's reach -/
namespace Go.Proofs.YtgijaaklhdcgeaaGreat
open Go.RowKit Go.Geo
section
variable {H : Type} {enc : TypeId × Value → H} {w : World} {base : Nat} {spare : Nat → Bool} {held : Bool}
set_option maxRecDepth 100000 in
theorem region_of_val_sized {r : Reach} {b2 fuel : Nat} {v : Value} {x : DataW H × List MemPlace} (hv : Value.okWide Tryz.prog w r b2 24 v) (h : DataW.trod enc Tryz.prog w base (fun _ => true) held fuel 24 v.cells.toList = some x) (hz : ∀ k ∈ x.1.weights Tryz.prog 24, k ≤ reachBytes) : ∃ c : Rg, v = c.val ∧ ∃ R, IsRings w c.a c.n c.c R ∧ Kept R := by
  obtain ⟨cs, rfl, _⟩ := Go.WideShapes.okWide_struct Tryz.underlying24 hv
  obtain ⟨ys, n2, _, rfl, hl, hys, hf2⟩ := DataW.trod_struct Tryz.underlying24 h
  rw [Tryz.cellsRg] at hl
  have hy1 : ys.length = 1 := hys
  have hl1 : cs.toList.length = 1 := hl
  obtain ⟨v4, hv4⟩ : ∃ v4, cs.toList = [v4] := by
    match cs.toList, hl1 with
    | [a], _ => exact ⟨a, rfl⟩
  obtain ⟨u0, rfl⟩ : ∃ u0, ys = [u0] := by
    match ys, hy1 with
    | [a], _ => exact ⟨a, rfl⟩
  have k0 : DataW.trod enc Tryz.prog w base (fun _ => true) held n2 22 ((cs.toList.drop 0).take (Tryz.prog.cellsOf 22)) = some u0 := hf2 0 _ rfl
  rw [Tryz.cellsRs, hv4] at k0
  have k1 : DataW.trod enc Tryz.prog w base (fun _ => true) held n2 22 [v4] = some u0 := k0
  obtain ⟨ra, rn, rc, R, e4, hR, hK⟩ := rings_in_sized k1 (fun k hk => hz k (by
    simp only [DataW.weights, Tryz.underlying24, List.map_cons]
    exact DataW.weights_mem_each (j := 0) rfl rfl k hk))
  refine ⟨⟨ra, rn, rc⟩, ?_, R, hR, hK⟩
  have : cs.toList = [.slice ra rn rc] := by rw [hv4]; exact e4
  unfold Rg.val
  rw [show cs = #[.slice ra rn rc] from Array.toList_inj.1 this]
theorem pts_of {fuel : Nat} {ao : Option Addr} {n cap : Nat} {d : DataW H} {pl : List MemPlace} (h : DataW.trod enc Tryz.prog w base spare held fuel 36 [.slice ao n cap] = some (d, pl)) : ∃ L, IsPts w ao n cap L := by
  obtain ⟨a, l, c, P, e, hp⟩ := pts_in h
  cases e
  exact ⟨P, hp⟩
end
end Go.Proofs.YtgijaaklhdcgeaaGreat

/- apportionkit.LargeRegion -/
set_option linter.unusedSimpArgs false
set_option linter.unusedVariables false
namespace Go.Proofs.YtgijaaklhdcgeaaGreat
open Go.RowKit Go.Geo
attribute [local go_sem] Oper.semAt_some
def largeR (R : List (List Pt)) (a b : Nat) : Bool := decide (a < R.length) || decide (b < sumLen R)
theorem sumLen_kept {R : List (List Pt)} (hk : Kept R) : ∀ k, k ≤ R.length → sumLen (R.take k) ≤ k * 8796093022208
  | 0, _ => by simp [sumLen]
  | k + 1, h => by
    have := sumLen_kept hk k (by omega)
    have h2 := hk k (by omega)
    rw [sumLen_take (by omega)]
    omega
set_option maxRecDepth 100000 in
set_option maxHeartbeats 1000000 in
theorem LargeRegion_any (ao : Option Addr) (n cap : Nat) (R : List (List Pt)) (a b : Nat) (w : World) (h : IsRings w ao n cap R) (hk : Kept R) (ha : a ≤ 1000) (hb : b ≤ 1000000) :
    Calls Tryz.prog 10 #[.agg #[.slice ao n cap], .int .i64 a, .int .i64 b] w fun e w' => e = .returned (.bool (largeR R a b)) ∧ Grew w w' := by
  have HI := Lib.hid h
  have hcm := h.2.2.1
  have hnc := h.2.1
  have HL := Lib.hid h.1
  unfold maxLen at hcm
  have HK := Lib.hid hk
  obtain ⟨z, hz⟩ : ∃ z, z = largeR R a b := ⟨_, rfl⟩
  rw [← hz]
  have HZ := Lib.hid hz
  have hA : Grew w (w.alloc (.cells #[.slice ao n cap] 24)) := (Grew.refl _).alloc _
  have HA := Lib.hid hA
  have hc0 : (w.alloc (.cells #[.slice ao n cap] 24)).cell? ⟨w.heap.size, 0, none⟩ = some (.slice ao n cap) := alloc_cell _ _ _
  have hb9 : (b : Int) ≤ 1000000 := by omega
  clear h hk hz hA
  by_cases hbig : a < n
  · have hz : z = true := by rw [HZ.out]; unfold largeR; rw [HL.out, decide_eq_true hbig]; rfl
    subst hz
    have t1 : decide ((a : Int) < (n : Int)) = true := decide_eq_true (by omega)
    go_enter Tryz.func10, Tryz.ntmps10
    go_wp2_with fail
    go_loopw [7, 8] (fun s i wr => ∃ k : Nat, k ≤ n ∧ i = .int .i64 k ∧ (∃ t : Int, s = .int .i64 t) ∧ wr = w.alloc (.cells #[.slice ao n cap] 24)) (fun s i _ => n - (intOf i).toNat)
    case atStart => exact ⟨0, by omega, rfl, ⟨0, rfl⟩, rfl⟩
    case round =>
      obtain ⟨k, hk, rfl, ⟨t, rfl⟩, rfl⟩ := hrel
      by_cases hlt : k < n
      · have hi0 : (0 : Int) ≤ (k : Int) := by omega
        have hi5 : (k : Int) < (n : Int) := by omega
        obtain ⟨b, off, x, y, z, rfl, e0, hp⟩ := (HI.out.later HA.out.1 (Nat.le_refl _)).2.2.2.2 k hlt
        clear hp
        go_wp2_with fail
        go_roundw
        case rel => exact ⟨k + 1, by omega, by go_num, ⟨_, rfl⟩, by first | trivial | rfl⟩
        case measure => simp [intOf]; omega
      · obtain rfl : k = n := by omega
        have hi5 : ¬ ((k : Int) < (k : Int)) := by omega
        have hundef : ∀ b, some undef = some (Value.bool b) → False := fun b h => by injection h with h; cases h
        go_wp2_with fail
        all_goals first
          | (exfalso; exact hundef _ (by assumption))
          | (go_ret; exact ⟨rfl, HA.out⟩)
  · have t1 : decide ((a : Int) < (n : Int)) = false := decide_eq_false (by omega)
    go_enter Tryz.func10, Tryz.ntmps10
    go_wp2_with fail
    go_loopw [7, 8] (fun s i wr => ∃ k : Nat, k ≤ n ∧ i = .int .i64 k ∧ (∃ t : Nat, s = .int .i64 t ∧ Hid (t = sumLen (R.take k))) ∧ wr = w.alloc (.cells #[.slice ao n cap] 24)) (fun s i _ => n - (intOf i).toNat)
    case atStart => exact ⟨0, by omega, rfl, ⟨0, rfl, rfl⟩, rfl⟩
    case round =>
      obtain ⟨k, hk, rfl, ⟨t, rfl, ht⟩, rfl⟩ := hrel
      have htk := sumLen_kept HK.out k (by rw [HL.out]; exact hk)
      have htb : (t : Int) ≤ 8796093022208000 := by have h3 := ht.out; omega
      have ht0 : (0 : Int) ≤ (t : Int) := by omega
      clear htk
      by_cases hlt : k < n
      · have hi0 : (0 : Int) ≤ (k : Int) := by omega
        have hi5 : (k : Int) < (n : Int) := by omega
        obtain ⟨b, off, x, y, z, rfl, e0, hp⟩ := (HI.out.later HA.out.1 (Nat.le_refl _)).2.2.2.2 k hlt
        have hy : (y : Int) ≤ 8796093022208 := by
          have h1 := hp.1
          have h2 := HK.out k (by rw [HL.out]; exact hlt)
          omega
        have hy0 : (0 : Int) ≤ (y : Int) := by omega
        have HT : Hid (t + y = sumLen (R.take (k + 1))) := Lib.hid (by rw [sumLen_take (by rw [HL.out]; exact hlt), ← ht.out, hp.1])
        clear hp
        go_wp2_with fail
        go_roundw
        case rel => exact ⟨k + 1, by omega, by go_num, ⟨t + y, by go_num, HT⟩, by first | trivial | rfl⟩
        case measure => simp [intOf]; omega
      · obtain rfl : k = n := by omega
        have hi5 : ¬ ((k : Int) < (k : Int)) := by omega
        have HT : Hid (t = sumLen R) := Lib.hid (by have := ht.out; rw [List.take_of_length_le (by rw [HL.out]; exact Nat.le_refl _)] at this; exact this)
        have hundef : ∀ b, some undef = some (Value.bool b) → False := fun b h => by injection h with h; cases h
        by_cases h2 : b < t
        · have t2 : decide ((b : Int) < (t : Int)) = true := decide_eq_true (by omega)
          have hzz : z = true := by rw [HZ.out]; unfold largeR; rw [← HT.out, decide_eq_true h2, Bool.or_true]
          subst hzz
          go_wp2_with fail
          go_ret
          exact ⟨rfl, HA.out⟩
        · have t2 : decide ((b : Int) < (t : Int)) = false := decide_eq_false (by omega)
          have hzz : z = false := by rw [HZ.out]; unfold largeR; rw [← HT.out, decide_eq_false h2, HL.out, decide_eq_false hbig]; rfl
          subst hzz
          go_wp2_with fail
          go_ret
          exact ⟨rfl, HA.out⟩
end Go.Proofs.YtgijaaklhdcgeaaGreat

/- apportionkit.CopyRings -/
namespace Go.Proofs.YtgijaaklhdcgeaaGreat
open Go.RowKit Go.Geo
theorem take_moreR {R : List (List Pt)} {k : Nat} (hk : k < R.length) : R.take (k + 1) = R.take k ++ [R.getD k []] := by
  rw [List.take_succ_eq_append_getElem hk, List.getD_eq_getElem?_getD, List.getElem?_eq_getElem hk]; rfl
/-- rings that are not many, nor long. -/
def Small (R : List (List Pt)) : Prop := R.length ≤ 100000 ∧ ∀ k, k < R.length → (R.getD k []).length ≤ 100000
set_option maxRecDepth 100000 in
set_option maxHeartbeats 2000000 in
theorem CopyRings_any (ao : Option Addr) (n cap : Nat) (R : List (List Pt)) (w : World) (h : IsRings w ao n cap R) (hs : Small R) :
    Calls Tryz.prog 11 #[.slice ao n cap] w fun e w' => ∃ v, e = .returned v ∧ OwnR w' w.heap.size v R ∧ Below w.heap.size w w' := by
  have HI := Lib.hid h
  have HL : Hid (R.length = n) := h.1
  have HS := Lib.hid hs
  have hcm := h.2.2.1
  have hnc := h.2.1
  have hn : n ≤ 100000 := by rw [← h.1]; exact hs.1
  obtain ⟨base, hbase⟩ : ∃ b, b = w.heap.size := ⟨_, rfl⟩
  have HB := Lib.hid hbase
  rw [← hbase]
  unfold maxLen at hcm
  clear h hs hbase
  go_enter Tryz.func11, Tryz.ntmps11
  go_wp2
  go_loopw [3, 4] (fun v i wr => ∃ k : Nat, k ≤ n ∧ i = .int .i64 k ∧ Hid (OwnR wr base v (R.take k)) ∧ Hid (Below base w wr)) (fun _ i _ => n - (intOf i).toNat)
  case atStart => exact ⟨0, by omega, rfl, OwnR.nil _ _, Below.refl _ _⟩
  case round =>
    obtain ⟨k, hk, rfl, hown, hbl⟩ := hrel
    by_cases hlt : k < n
    · have hi0 : (0 : Int) ≤ (k : Int) := by omega
      have hi5 : (k : Int) < (n : Int) := by omega
      obtain ⟨b, off, x, y, z, rfl, e0, hp⟩ := (HI.out.later hbl.out (by rw [HB.out]; exact Nat.le_refl _)).2.2.2.2 k hlt
      obtain ⟨P, hP⟩ : ∃ P, P = R.getD k [] := ⟨_, rfl⟩
      rw [← hP] at hp
      have hpl : P.length ≤ 100000 := by rw [hP]; exact HS.out.2 k (by rw [HL.out]; exact hlt)
      have hyl : y = P.length := hp.1.symm
      have HBZ : Hid (base ≤ wr.heap.size) := by
        have := hbl.out.size
        rw [HB.out]; exact this
      have HT : Hid (R.take (k + 1) = R.take k ++ [P]) := by rw [hP]; exact take_moreR (by rw [HL.out]; exact hlt)
      have hTl : (R.take k).length ≤ 4294967296 := by rw [List.length_take]; omega
      have HTL := Lib.hid hTl
      have hal : Below wr.heap.size wr (wr.alloc (Obj.cells #[] 40)) := (Below.refl _ _).alloc (Nat.le_refl _) _
      have HAL := Lib.hid hal
      have HPP := Lib.hid (hp.later hal (Nat.le_refl _))
      have HYL : Hid (y ≤ 100000) := by rw [hyl]; exact Lib.hid hpl
      have e1 : (wr.alloc (Obj.cells #[] 40)).cell? ⟨b, off + k, none⟩ = some (.slice x y z) := (hal.cell (p := ⟨b, off + k, none⟩) (block_lt_of_cell e0)).trans e0
      clear hp hP hpl hyl hTl hal
      go_wp2_with (first
        | (at_builtin; refine wpList_append_pts rfl _ _ rfl wr.heap.size (.slice (some ⟨wr.heap.size, 0, none⟩) 0 0) [] rfl (OwnP.none_new wr _ (Nat.le_refl _)) _ _ _ P rfl HPP.out (by have := HYL.out; simp; omega) HAL.out.size ?_
           intro v5 w5 hown5 hg5
           have hb5 : Below wr.heap.size wr w5 := HAL.out.grown hg5 HAL.out.size (fun k hk => by simp only [Value.ownBlock, Option.some.injEq] at hk; omega)
           have ho5 : OwnP w5 wr.heap.size v5 P := hown5
           obtain ⟨a5, c5, hv5, _⟩ := ho5.pts
           subst hv5
           have H5 := Lib.hid (And.intro hb5 ho5)
           clear hown5 hg5 hb5 ho5)
        | (at_builtin; refine wpList_append_rings rfl _ _ rfl base _ (R.take k) rfl (hown.out.later (H5.out.1.alloc H5.out.1.size _)) w5.heap.size rfl a5 c5 P ((H5.out.2.later ((Below.refl _ _).alloc (Nat.le_refl _) _)).base HBZ.out) (alloc_new _ _) HTL.out (Nat.le_trans HBZ.out (Nat.le_trans H5.out.1.size (by simp))) ?_
           intro v7 w7 hown7 hg7
           have H7 := Lib.hid (And.intro hown7 ((hbl.out.trans ((H5.out.1.alloc H5.out.1.size _).mono HBZ.out)).grown hg7 (Nat.le_trans HBZ.out (Nat.le_trans H5.out.1.size (by simp))) (fun k hk => (hown.out.lt k hk).1)))
           clear hown7 hg7))
      go_roundw
      case rel => exact ⟨k + 1, by omega, by go_num, by rw [HT.out]; exact H7.out.1, H7.out.2⟩
      case measure => simp [intOf]; omega
    · obtain rfl : k = n := by omega
      go_wp2
      go_ret
      refine ⟨_, rfl, ?_, hbl.out⟩
      have := hown.out
      rw [List.take_of_length_le (by rw [HL.out]; exact Nat.le_refl _)] at this
      exact this
end Go.Proofs.YtgijaaklhdcgeaaGreat

/- plain law: numbers digit by digit, to the base 65536: no program in sight -/
namespace Go.Geo
def sgnN (n : Int) : Int := if n < 0 then -1 else if n = 0 then 0 else 1
/-- the number that digits say, the lowest first. -/
def valD : List Int → Int
  | [] => 0
  | d :: D => d + 65536 * valD D
theorem valD_append : ∀ (D E : List Int), valD (D ++ E) = valD D + 65536 ^ D.length * valD E
  | [], E => by simp [valD]
  | d :: D, E => by
    rw [List.cons_append, valD, valD, valD_append D E, List.length_cons, Int.pow_succ]
    generalize (65536 : Int) ^ D.length = p
    grind
theorem valD_split (D : List Int) (i : Nat) (h : i ≤ D.length) : valD D = valD (D.take i) + 65536 ^ i * valD (D.drop i) := by
  have := valD_append (D.take i) (D.drop i)
  rw [List.take_append_drop, List.length_take, Nat.min_eq_left h] at this
  exact this
theorem valD_set : ∀ (D : List Int) (i : Nat) (v : Int), i < D.length → valD (D.set i v) = valD D + 65536 ^ i * (v - D.getD i 0)
  | d :: D, 0, v, _ => by
    simp [valD]
    omega
  | d :: D, i + 1, v, h => by
    have ih := valD_set D i v (by simpa using h)
    rw [List.set_cons_succ, valD, ih, valD, Int.pow_succ]
    simp only [List.getD_cons_succ]
    generalize (65536 : Int) ^ i = p
    grind
theorem pow_pos' (i : Nat) : (0 : Int) < 65536 ^ i := Int.pow_pos (by decide)
/-- digits that are ones. -/
def Digits (D : List Int) : Prop := ∀ d ∈ D, 0 ≤ d ∧ d < 65536
theorem valD_range : ∀ (D : List Int), Digits D → 0 ≤ valD D ∧ valD D < 65536 ^ D.length
  | [], _ => by simp [valD]
  | d :: D, h => by
    have ih := valD_range D (fun x hx => h x (by simp [hx]))
    have hd := h d (by simp)
    rw [valD, List.length_cons, Int.pow_succ]
    generalize (65536 : Int) ^ D.length = p at ih ⊢
    omega
theorem valD_nonneg : ∀ (D : List Int), (∀ d ∈ D, 0 ≤ d) → 0 ≤ valD D
  | [], _ => by simp [valD]
  | d :: D, h => by
    have ih := valD_nonneg D (fun x hx => h x (by simp [hx]))
    have hd := h d (by simp)
    rw [valD]
    omega
theorem valD_zero : ∀ (D : List Int), (∀ d ∈ D, 0 ≤ d) → (valD D = 0 ↔ ∀ d ∈ D, d = 0)
  | [], _ => by simp [valD]
  | d :: D, h => by
    have h1 := valD_nonneg D (fun x hx => h x (by simp [hx]))
    have ih := valD_zero D (fun x hx => h x (by simp [hx]))
    have hd := h d (by simp)
    rw [valD]
    constructor
    · intro he x hx
      have hv : valD D = 0 := by omega
      have hd0 : d = 0 := by omega
      rcases List.mem_cons.1 hx with rfl | hx
      · exact hd0
      · exact ih.1 hv x hx
    · intro hz
      have h2 := ih.2 (fun x hx => hz x (by simp [hx]))
      have h3 := hz d (by simp)
      omega
theorem getD_mem {D : List Int} {i : Nat} (h : i < D.length) : D.getD i 0 ∈ D := by
  rw [List.getD_eq_getElem?_getD, List.getElem?_eq_getElem h]; exact List.getElem_mem h
theorem drop_get {D : List Int} {i : Nat} (h : i < D.length) : D.drop i = D.getD i 0 :: D.drop (i + 1) := by
  rw [List.drop_eq_getElem_cons h, List.getD_eq_getElem?_getD, List.getElem?_eq_getElem h]; rfl
/-- the first digit from above that is another one tells which is more. -/
theorem valD_less {D E : List Int} {i : Nat} (hD : Digits D) (hE : Digits E) (hl : D.length = E.length) (hi : i < D.length) (h : D.drop (i + 1) = E.drop (i + 1)) (hd : D.getD i 0 < E.getD i 0) : valD D < valD E := by
  rw [valD_split D i (by omega), valD_split E i (by omega), drop_get hi, drop_get (D := E) (by omega), valD, valD, h]
  have h1 := valD_range (D.take i) (fun x hx => hD x (List.mem_of_mem_take hx))
  have h2 := valD_range (E.take i) (fun x hx => hE x (List.mem_of_mem_take hx))
  rw [List.length_take, Nat.min_eq_left (by omega)] at h1 h2
  generalize valD (E.drop (i + 1)) = r
  generalize hp : (65536 : Int) ^ i = p at *
  have hp0 : 0 < p := by rw [← hp]; exact pow_pos' i
  have h3 : p * (D.getD i 0 + 65536 * r) + p ≤ p * (E.getD i 0 + 65536 * r) := by
    have : D.getD i 0 + 65536 * r + 1 ≤ E.getD i 0 + 65536 * r := by omega
    have := Int.mul_le_mul_of_nonneg_left this (Int.le_of_lt hp0)
    rw [Int.mul_add, Int.mul_one] at this
    exact this
  omega
/-- a number: its sign, and the number that its digits say. -/
def numZ (neg : Bool) (D : List Int) : Int := if neg then - valD D else valD D
/-- twelve digits that are ones; no sign of nothing. -/
def Canon (neg : Bool) (D : List Int) (z : Int) : Prop := D.length = 12 ∧ Digits D ∧ z = numZ neg D ∧ (valD D = 0 → neg = false)
/-- the carries, as far as the i-th digit. -/
def Carry (i : Nat) (v : Int) (D : List Int) : Prop := D.length = 12 ∧ valD D = v ∧ (∀ j, j < i → 0 ≤ D.getD j 0 ∧ D.getD j 0 < 65536) ∧ (∀ j, i ≤ j → j < 12 → 0 ≤ D.getD j 0 ∧ D.getD j 0 ≤ 281474976710656 + (if j = i then 8589934592 else 0))
theorem getD_set {D : List Int} {i j : Nat} {v : Int} (h : i < D.length) : (D.set i v).getD j 0 = if j = i then v else D.getD j 0 := by
  rw [List.getD_eq_getElem?_getD, List.getElem?_set]
  by_cases e : i = j
  · subst e; simp [h]
  · rw [if_neg e, if_neg (fun h => e h.symm), List.getD_eq_getElem?_getD]
theorem Carry.step {i : Nat} {v : Int} {D : List Int} (h : Carry i v D) (hi : i < 11) : Carry (i + 1) v ((D.set (i + 1) (D.getD (i + 1) 0 + D.getD i 0 / 65536)).set i (D.getD i 0 % 65536)) := by
  obtain ⟨h1, h2, h3, h4⟩ := h
  have hdi := h4 i (Nat.le_refl _) (by omega)
  rw [if_pos rfl] at hdi
  have hdn := h4 (i + 1) (by omega) (by omega)
  rw [if_neg (by omega)] at hdn
  have l1 : i + 1 < D.length := by omega
  have l2 : i < (D.set (i + 1) (D.getD (i + 1) 0 + D.getD i 0 / 65536)).length := by simp; omega
  refine ⟨by simp [h1], ?_, fun j hj => ?_, fun j hj hj2 => ?_⟩
  · rw [valD_set _ _ _ l2, valD_set _ _ _ l1, getD_set l1, if_neg (by omega), h2, Int.pow_succ]
    generalize (65536 : Int) ^ i = p
    have e : D.getD i 0 = 65536 * (D.getD i 0 / 65536) + D.getD i 0 % 65536 := by omega
    generalize D.getD i 0 / 65536 = q at *
    generalize D.getD i 0 % 65536 = r at *
    rw [e]
    grind
  · rw [getD_set l2]
    by_cases e : j = i
    · rw [if_pos e]; omega
    · rw [if_neg e, getD_set l1, if_neg (by omega)]
      exact h3 j (by omega)
  · rw [getD_set l2, if_neg (by omega), getD_set l1]
    by_cases e : j = i + 1
    · rw [if_pos e, if_pos e]
      subst e
      omega
    · rw [if_neg e, if_neg e]
      have := h4 j (by omega) hj2
      rw [if_neg (by omega)] at this
      exact this
theorem Carry.done {v : Int} {D : List Int} (h : Carry 11 v D) (hv : v < 65536 ^ 12) : Digits D := by
  obtain ⟨h1, h2, h3, h4⟩ := h
  have h11 := h4 11 (Nat.le_refl _) (by omega)
  have hs := valD_split D 11 (by omega)
  have hn : 0 ≤ valD (D.take 11) := valD_nonneg _ (fun d hd => by
    obtain ⟨j, hj, rfl⟩ := List.mem_iff_getElem.1 hd
    have hj2 : j < 11 := by simp at hj; omega
    have := h3 j hj2
    rw [List.getD_eq_getElem?_getD, List.getElem?_eq_getElem (by omega)] at this
    rw [List.getElem_take]
    exact this.1)
  have hd : valD (D.drop 11) = D.getD 11 0 := by
    rw [drop_get (by omega), List.drop_of_length_le (by omega), valD, valD]; omega
  rw [hd, h2] at hs
  intro d hd
  obtain ⟨j, hj, rfl⟩ := List.mem_iff_getElem.1 hd
  have e : D[j] = D.getD j 0 := by rw [List.getD_eq_getElem?_getD, List.getElem?_eq_getElem hj]; rfl
  rw [e]
  by_cases hj2 : j < 11
  · exact h3 j hj2
  · obtain rfl : j = 11 := by omega
    refine ⟨h11.1, ?_⟩
    generalize D.getD 11 0 = x at *
    have e2 : (65536 : Int) ^ 12 = 65536 ^ 11 * 65536 := rfl
    rw [e2] at hv
    have hp : (0 : Int) < 65536 ^ 11 := pow_pos' 11
    generalize (65536 : Int) ^ 11 = p at *
    by_cases hx : x < 65536
    · exact hx
    · exfalso
      have := Int.mul_le_mul_of_nonneg_left (show 65536 ≤ x by omega) (Int.le_of_lt hp)
      omega
theorem Carry.start {D : List Int} (h : D.length = 12) (hd : ∀ d ∈ D, 0 ≤ d ∧ d ≤ 281474976710656) : Carry 0 (valD D) D := by
  refine ⟨h, rfl, fun j hj => absurd hj (by omega), fun j _ hj => ?_⟩
  have := hd _ (getD_mem (D := D) (i := j) (by omega))
  split <;> omega
/-- the carried number, its sign mended. -/
theorem Carry.canon {neg : Bool} {v : Int} {D : List Int} (h : Carry 11 v D) (hv : v < 65536 ^ 12) : Canon (if decide (valD D = 0) then false else neg) D (if neg then -v else v) := by
  refine ⟨h.1, h.done hv, ?_, fun hz => by rw [if_pos (decide_eq_true hz)]⟩
  unfold numZ
  rw [h.2.1]
  by_cases hz : v = 0
  · rw [decide_eq_true hz]; subst hz; cases neg <;> rfl
  · rw [decide_eq_false hz]; cases neg <;> rfl
theorem take_get {D : List Int} {k : Nat} (h : k < D.length) : valD (D.take (k + 1)) = valD (D.take k) + 65536 ^ k * D.getD k 0 := by
  have e : D.take (k + 1) = D.take k ++ [D.getD k 0] := by
    rw [List.take_succ_eq_append_getElem h, List.getD_eq_getElem?_getD, List.getElem?_eq_getElem h]; rfl
  rw [e, valD_append, List.length_take, Nat.min_eq_left (by omega)]
  simp [valD]
/-- a sum, digit by digit, as far as the k-th. -/
def AddTo (k : Nat) (X Y D : List Int) : Prop := D.length = 12 ∧ valD D = valD X + valD (Y.take k) ∧ (∀ j, j < 12 → 0 ≤ D.getD j 0 ∧ D.getD j 0 ≤ 131070) ∧ ∀ j, k ≤ j → D.getD j 0 = X.getD j 0
theorem AddTo.start {X Y : List Int} (hX : Digits X) (h : X.length = 12) : AddTo 0 X Y X :=
  ⟨h, by simp [valD], (fun j hj => by have := hX _ (getD_mem (D := X) (i := j) (by omega)); omega), fun _ _ => rfl⟩
theorem AddTo.step {k : Nat} {X Y D : List Int} (h : AddTo k X Y D) (hX : Digits X) (hY : Digits Y) (hx : X.length = 12) (hy : Y.length = 12) (hk : k < 12) : AddTo (k + 1) X Y (D.set k (D.getD k 0 + Y.getD k 0)) := by
  obtain ⟨h1, h2, h3, h4⟩ := h
  have hyk := hY _ (getD_mem (D := Y) (i := k) (by omega))
  have hxk := hX _ (getD_mem (D := X) (i := k) (by omega))
  have hdk := h4 k (Nat.le_refl _)
  refine ⟨by simp [h1], ?_, fun j hj => ?_, fun j hj => ?_⟩
  · rw [valD_set _ _ _ (by omega), h2, take_get (by omega)]
    generalize (65536 : Int) ^ k = p
    grind
  · rw [getD_set (by omega)]
    split
    · omega
    · exact h3 j hj
  · rw [getD_set (by omega), if_neg (by omega)]
    exact h4 j (by omega)
/-- a difference, digit by digit, as far as the k-th; what is lent is taken of the next one. -/
def SubTo (k : Nat) (X Y D : List Int) : Prop := D.length = 12 ∧ valD D = valD X - valD (Y.take k) ∧ (∀ j, j < k → j < 11 → 0 ≤ D.getD j 0 ∧ D.getD j 0 < 65536) ∧ (k < 12 → X.getD k 0 - 1 ≤ D.getD k 0 ∧ D.getD k 0 ≤ X.getD k 0) ∧ (∀ j, k < j → D.getD j 0 = X.getD j 0)
theorem SubTo.start {X Y : List Int} (h : X.length = 12) : SubTo 0 X Y X :=
  ⟨h, by simp [valD], (fun j hj => absurd hj (by omega)), (fun _ => ⟨by omega, Int.le_refl _⟩), fun _ _ => rfl⟩
/-- without a loan; with one. -/
theorem SubTo.step {k : Nat} {X Y D : List Int} (h : SubTo k X Y D) (hX : Digits X) (hY : Digits Y) (hx : X.length = 12) (hy : Y.length = 12) (hk : k < 12) (hn : 0 ≤ D.getD k 0 - Y.getD k 0 ∨ k = 11) : SubTo (k + 1) X Y (D.set k (D.getD k 0 - Y.getD k 0)) := by
  obtain ⟨h1, h2, h3, h4, h5⟩ := h
  have hyk := hY _ (getD_mem (D := Y) (i := k) (by omega))
  have hxk := hX _ (getD_mem (D := X) (i := k) (by omega))
  have hdk := h4 hk
  refine ⟨by simp [h1], ?_, fun j hj hj2 => ?_, fun hk2 => ?_, fun j hj => ?_⟩
  · rw [valD_set _ _ _ (by omega), h2, take_get (by omega)]
    generalize (65536 : Int) ^ k = p
    grind
  · rw [getD_set (by omega)]
    split
    · omega
    · exact h3 j (by omega) hj2
  · rw [getD_set (by omega), if_neg (by omega), h5 (k + 1) (by omega)]
    omega
  · rw [getD_set (by omega), if_neg (by omega)]
    exact h5 j (by omega)
theorem SubTo.lend {k : Nat} {X Y D : List Int} (h : SubTo k X Y D) (hX : Digits X) (hY : Digits Y) (hx : X.length = 12) (hy : Y.length = 12) (hk : k < 11) (hn : D.getD k 0 - Y.getD k 0 < 0) : SubTo (k + 1) X Y ((D.set k (D.getD k 0 - Y.getD k 0 + 65536)).set (k + 1) (D.getD (k + 1) 0 - 1)) := by
  obtain ⟨h1, h2, h3, h4, h5⟩ := h
  have hyk := hY _ (getD_mem (D := Y) (i := k) (by omega))
  have hxk := hX _ (getD_mem (D := X) (i := k) (by omega))
  have hdk := h4 (by omega)
  have hdn := h5 (k + 1) (by omega)
  have l1 : k < D.length := by omega
  have l2 : k + 1 < (D.set k (D.getD k 0 - Y.getD k 0 + 65536)).length := by simp; omega
  refine ⟨by simp [h1], ?_, fun j hj hj2 => ?_, fun hk2 => ?_, fun j hj => ?_⟩
  · rw [valD_set _ _ _ l2, valD_set _ _ _ l1, getD_set l1, if_neg (by omega), h2, take_get (by omega), Int.pow_succ]
    generalize (65536 : Int) ^ k = p
    grind
  · rw [getD_set l2, if_neg (by omega), getD_set l1]
    split
    · omega
    · exact h3 j (by omega) hj2
  · rw [getD_set l2, if_pos rfl]
    omega
  · rw [getD_set l2, if_neg (by omega), getD_set l1, if_neg (by omega)]
    exact h5 j (by omega)
theorem SubTo.done {X Y D : List Int} (h : SubTo 12 X Y D) (hy : Y.length = 12) (hle : valD Y ≤ valD X) : (∀ d ∈ D, 0 ≤ d) ∧ valD D = valD X - valD Y := by
  obtain ⟨h1, h2, h3, _, _⟩ := h
  rw [List.take_of_length_le (by omega)] at h2
  refine ⟨?_, h2⟩
  have hs := valD_split D 11 (by omega)
  have hdig : Digits (D.take 11) := fun d hd => by
    obtain ⟨j, hj, rfl⟩ := List.mem_iff_getElem.1 hd
    have hj2 : j < 11 := by simp at hj; omega
    have := h3 j (by omega) hj2
    rw [List.getD_eq_getElem?_getD, List.getElem?_eq_getElem (by omega)] at this
    rw [List.getElem_take]
    exact this
  have hr := valD_range _ hdig
  rw [List.length_take, Nat.min_eq_left (by omega)] at hr
  have hd : valD (D.drop 11) = D.getD 11 0 := by
    rw [drop_get (by omega), List.drop_of_length_le (by omega), valD, valD]; omega
  rw [hd] at hs
  intro d hd
  obtain ⟨j, hj, rfl⟩ := List.mem_iff_getElem.1 hd
  have e : D[j] = D.getD j 0 := by rw [List.getD_eq_getElem?_getD, List.getElem?_eq_getElem hj]; rfl
  rw [e]
  by_cases hj2 : j < 11
  · exact (h3 j (by omega) hj2).1
  · obtain rfl : j = 11 := by omega
    generalize D.getD 11 0 = x at *
    have hp : (0 : Int) < 65536 ^ 11 := pow_pos' 11
    generalize (65536 : Int) ^ 11 = p at *
    by_cases hx : 0 ≤ x
    · exact hx
    · exfalso
      have := Int.mul_le_mul_of_nonneg_left (show x ≤ -1 by omega) (Int.le_of_lt hp)
      omega
/-- a product of two of four digits, as far as the k-th of the i-th. -/
def MulTo (i k : Nat) (X Y D : List Int) : Prop := D.length = 12 ∧ valD D = valD (X.take i) * valD (Y.take 4) + 65536 ^ i * (X.getD i 0 * valD (Y.take k)) ∧ ∀ j, j < 12 → 0 ≤ D.getD j 0 ∧ D.getD j 0 ≤ (4 * i + k : Nat) * 4294836225
theorem MulTo.step {i k : Nat} {X Y D : List Int} (h : MulTo i k X Y D) (hX : Digits X) (hY : Digits Y) (hx : X.length = 12) (hy : Y.length = 12) (hi : i < 4) (hk : k < 4) : MulTo i (k + 1) X Y (D.set (i + k) (D.getD (i + k) 0 + X.getD i 0 * Y.getD k 0)) := by
  obtain ⟨h1, h2, h3⟩ := h
  have hyk := hY _ (getD_mem (D := Y) (i := k) (by omega))
  have hxk := hX _ (getD_mem (D := X) (i := i) (by omega))
  have hm0 : 0 ≤ X.getD i 0 * Y.getD k 0 := Int.mul_nonneg hxk.1 hyk.1
  have hm1 : X.getD i 0 * Y.getD k 0 ≤ 65535 * 65535 := Int.mul_le_mul (by omega) (by omega) hyk.1 (by decide)
  refine ⟨by simp [h1], ?_, fun j hj => ?_⟩
  · have ht := take_get (D := Y) (k := k) (by omega)
    rw [valD_set _ _ _ (by omega), h2, ht, Int.pow_add]
    generalize (65536 : Int) ^ k = p
    generalize (65536 : Int) ^ i = q
    clear hm0 hm1 h3 h2 ht hX hY hyk hxk
    grind
  · have hj3 := h3 j hj
    rw [getD_set (by omega)]
    split
    · subst_vars
      omega
    · omega
theorem MulTo.next {i : Nat} {X Y D : List Int} (h : MulTo i 4 X Y D) (hx : X.length = 12) (hi : i < 4) : MulTo (i + 1) 0 X Y D := by
  obtain ⟨h1, h2, h3⟩ := h
  refine ⟨h1, ?_, fun j hj => ?_⟩
  · rw [h2, take_get (D := X) (by omega)]
    simp only [List.take_zero, valD, Int.mul_zero, Int.add_zero]
    generalize (65536 : Int) ^ i = q
    grind
  · have := h3 j hj
    omega
theorem MulTo.start (X Y : List Int) : MulTo 0 0 X Y (List.replicate 12 0) := by
  refine ⟨rfl, ?_, fun j hj => ?_⟩
  · simp [valD]
  · match j, hj with
    | 0, _ | 1, _ | 2, _ | 3, _ | 4, _ | 5, _ | 6, _ | 7, _ | 8, _ | 9, _ | 10, _ | 11, _ => simp
/-- four digits, and no more. -/
def Four (D : List Int) : Prop := ∀ j, 4 ≤ j → D.getD j 0 = 0
theorem Four.val {D : List Int} (h : Four D) (hl : D.length = 12) : valD (D.take 4) = valD D := by
  have hs := valD_split D 4 (by omega)
  have h0 : valD (D.drop 4) = 0 := by
    have key : ∀ (E : List Int), (∀ d ∈ E, d = 0) → valD E = 0 := by
      intro E
      induction E with
      | nil => intro _; rfl
      | cons d E ih =>
        intro hE
        rw [valD, ih (fun x hx => hE x (by simp [hx])), hE d (by simp)]
        rfl
    refine key _ fun d hd => ?_
    obtain ⟨j, hj, rfl⟩ := List.mem_iff_getElem.1 hd
    have := h (4 + j) (by omega)
    rw [List.getElem_drop]
    rw [List.getD_eq_getElem?_getD, List.getElem?_eq_getElem (by simp at hj; omega)] at this
    exact this
  rw [h0] at hs
  omega
theorem sgn_canon {neg : Bool} {D : List Int} {z : Int} (h : Canon neg D z) : sgnN z = if valD D = 0 then 0 else if neg then -1 else 1 := by
  obtain ⟨h1, h2, h3, h4⟩ := h
  have hr := (valD_range D h2).1
  unfold sgnN
  subst h3
  unfold numZ
  by_cases hz : valD D = 0
  · rw [if_pos hz, h4 hz, hz]; rfl
  · rw [if_neg hz]
    cases neg
    · simp only [Bool.false_eq_true, if_false]; rw [if_neg (by omega), if_neg hz]
    · simp only [if_true]; rw [if_pos (by omega)]
end Go.Geo

/- the document's numbers: their values; zero -/
set_option linter.unusedSimpArgs false
set_option linter.unusedVariables false
namespace Go.Proofs.YtgijaaklhdcgeaaGreat
open Go.RowKit Go.Geo
attribute [local go_sem] Oper.semAt_some
/-- a number's cells. -/
def numA (neg : Bool) (D : List Int) : Array Value := (Value.bool neg :: D.map (Value.int .i64)).toArray
theorem numA_size {neg : Bool} {D : List Int} (h : D.length = 12) : (numA neg D).size = 13 := by simp [numA, h]
theorem numA_get {neg : Bool} {D : List Int} {i : Nat} (h : i < D.length) : (numA neg D)[1 + i]? = some (.int .i64 (D.getD i 0)) := by
  unfold numA
  rw [List.getElem?_toArray, Nat.add_comm, List.getElem?_cons_succ, List.getElem?_map, List.getElem?_eq_getElem h, List.getD_eq_getElem?_getD, List.getElem?_eq_getElem h]
  rfl
theorem num_cell {w : World} {g : Nat} {neg : Bool} {D : List Int} {t : TypeId} {fr : Nat × Nat} (h : w.heap[g]? = some (.cells (numA neg D) t fr)) {i : Nat} (hi : i < D.length) : w.cell? ⟨g, 1 + i, none⟩ = some (.int .i64 (D.getD i 0)) :=
  (cell_of_row _ _ _ _ _ _ h).trans (numA_get hi)
theorem num_sign {w : World} {g : Nat} {neg : Bool} {D : List Int} {t : TypeId} {fr : Nat × Nat} (h : w.heap[g]? = some (.cells (numA neg D) t fr)) : w.cell? ⟨g, 0, none⟩ = some (.bool neg) :=
  (cell_of_row _ _ _ _ _ _ h).trans (by simp [numA])
theorem num_put {w : World} {g : Nat} {neg : Bool} {D : List Int} {t : TypeId} (h : w.heap[g]? = some (.cells (numA neg D) t (0, 0))) (i : Nat) (v : Int) : (w.setCell ⟨g, 1 + i, none⟩ (.int .i64 v)).heap[g]? = some (.cells (numA neg (D.set i v)) t (0, 0)) := by
  have := heap_setCell_same w g (1 + i) _ _ (.int .i64 v) h
  rw [this]
  congr 2
  unfold numA
  rw [List.setIfInBounds_toArray, Nat.add_comm, List.set_cons_succ, List.map_set]
theorem num_putSign {w : World} {g : Nat} {neg : Bool} {D : List Int} {t : TypeId} (h : w.heap[g]? = some (.cells (numA neg D) t (0, 0))) (q : Bool) : (w.setCell ⟨g, 0, none⟩ (.bool q)).heap[g]? = some (.cells (numA q D) t (0, 0)) := by
  have := heap_setCell_same w g 0 _ _ (.bool q) h
  rw [this]
  congr 2
theorem info_num : (Tryz.prog.info? 138).map (·.size) = some 13 := by kernel_rfl
theorem load_num {w : World} {g : Nat} {neg : Bool} {D : List Int} {t : TypeId} {fr : Nat × Nat} (h : w.heap[g]? = some (.cells (numA neg D) t fr)) (hl : D.length = 12) : (loadVar 138 ⟨g, 0, none⟩).run Tryz.prog w = .ok (.agg (numA neg D)) w :=
  run_loadVar_row w g t 138 (numA neg D) fr _ h Tryz.underlying138 rfl (by rw [numA_size hl]; exact info_num)
theorem loadAt_num {w : World} {g : Nat} {neg : Bool} {D : List Int} {t : TypeId} {fr : Nat × Nat} (h : w.heap[g]? = some (.cells (numA neg D) t fr)) (hl : D.length = 12) : (Instr.loadAt 138 (.pointer (some ⟨g, 0, none⟩))).run Tryz.prog w = .ok (.agg (numA neg D)) w := by
  simp only [Instr.loadAt, Instr.sureAddr, Sem.run_bind, Sem.run_pure, Result.andThen]
  exact load_num h hl
theorem eqItems_all (xs ys : Array Value) (f g : Nat → Int) (w : World) : ∀ (is : List Nat), (∀ i ∈ is, xs[i]? = some (.int .i64 (f i)) ∧ ys[i]? = some (.int .i64 (g i))) → (Op.eqItems 9999 3 1 xs ys is).run Tryz.prog w = .ok (is.all fun i => decide (f i = g i)) w
  | [], _ => by unfold Op.eqItems; rfl
  | i :: is, h => by
    obtain ⟨h1, h2⟩ := h i (by simp)
    rw [eqItems_cons xs ys i is (f i) (g i) w h1 h2, eqItems_all xs ys f g w is (fun j hj => h j (by simp [hj]))]
    by_cases e : f i = g i <;> simp [e]
theorem twelve {D : List Int} (h : D.length = 12) : ∃ d0 d1 d2 d3 d4 d5 d6 d7 d8 d9 d10 d11, D = [d0, d1, d2, d3, d4, d5, d6, d7, d8, d9, d10, d11] := by
  match D, h with
  | [d0, d1, d2, d3, d4, d5, d6, d7, d8, d9, d10, d11], _ => exact ⟨d0, d1, d2, d3, d4, d5, d6, d7, d8, d9, d10, d11, rfl⟩
theorem numA_lit (neg : Bool) (d0 d1 d2 d3 d4 d5 d6 d7 d8 d9 d10 d11 : Int) : numA neg [d0, d1, d2, d3, d4, d5, d6, d7, d8, d9, d10, d11] = #[.bool neg, .int .i64 d0, .int .i64 d1, .int .i64 d2, .int .i64 d3, .int .i64 d4, .int .i64 d5, .int .i64 d6, .int .i64 d7, .int .i64 d8, .int .i64 d9, .int .i64 d10, .int .i64 d11] := rfl
set_option maxRecDepth 100000 in
theorem eq12 (d0 d1 d2 d3 d4 d5 d6 d7 d8 d9 d10 d11 : Int) (w : World) (hd : ∀ d ∈ [d0, d1, d2, d3, d4, d5, d6, d7, d8, d9, d10, d11], 0 ≤ d) : (Op.equalIn 10000 136 (.agg #[.int .i64 d0, .int .i64 d1, .int .i64 d2, .int .i64 d3, .int .i64 d4, .int .i64 d5, .int .i64 d6, .int .i64 d7, .int .i64 d8, .int .i64 d9, .int .i64 d10, .int .i64 d11]) (.agg #[.int .i64 0, .int .i64 0, .int .i64 0, .int .i64 0, .int .i64 0, .int .i64 0, .int .i64 0, .int .i64 0, .int .i64 0, .int .i64 0, .int .i64 0, .int .i64 0])).run Tryz.prog w = .ok (decide (valD [d0, d1, d2, d3, d4, d5, d6, d7, d8, d9, d10, d11] = 0)) w := by
  obtain ⟨i, hi, _⟩ := info_parts' Tryz.infoInt
  rw [show (10000 : Nat) = 9999 + 1 from rfl, run_equalIn_array w 9999 _ _ Tryz.underlying136 hi, Tryz.cellsI]
  rw [eqItems_all _ _ (fun i => [d0, d1, d2, d3, d4, d5, d6, d7, d8, d9, d10, d11].getD i 0) (fun _ => 0) w (List.range 12) (fun i hi => by
    have hi := List.mem_range.1 hi
    match i, hi with
    | 0, _ | 1, _ | 2, _ | 3, _ | 4, _ | 5, _ | 6, _ | 7, _ | 8, _ | 9, _ | 10, _ | 11, _ => exact ⟨rfl, rfl⟩)]
  congr 1
  rw [Bool.eq_iff_iff, List.all_eq_true, decide_eq_true_iff, valD_zero _ hd]
  constructor
  · intro h d hm
    obtain ⟨j, hj, rfl⟩ := List.mem_iff_getElem.1 hm
    have := h j (List.mem_range.2 (by simpa using hj))
    rw [decide_eq_true_iff, List.getD_eq_getElem?_getD, List.getElem?_eq_getElem hj] at this
    exact this
  · intro h j hj
    have hj := List.mem_range.1 hj
    rw [decide_eq_true_iff]
    exact h _ (getD_mem (D := [d0, d1, d2, d3, d4, d5, d6, d7, d8, d9, d10, d11]) (by simpa using hj))
set_option maxRecDepth 100000 in
theorem run_eq12 (d0 d1 d2 d3 d4 d5 d6 d7 d8 d9 d10 d11 : Int) (w : World) (hd : ∀ d ∈ [d0, d1, d2, d3, d4, d5, d6, d7, d8, d9, d10, d11], 0 ≤ d) : (binOp .eql 136 (.agg #[.int .i64 d0, .int .i64 d1, .int .i64 d2, .int .i64 d3, .int .i64 d4, .int .i64 d5, .int .i64 d6, .int .i64 d7, .int .i64 d8, .int .i64 d9, .int .i64 d10, .int .i64 d11]) (.agg #[.int .i64 0, .int .i64 0, .int .i64 0, .int .i64 0, .int .i64 0, .int .i64 0, .int .i64 0, .int .i64 0, .int .i64 0, .int .i64 0, .int .i64 0, .int .i64 0])).run Tryz.prog w = .ok (.bool (decide (valD [d0, d1, d2, d3, d4, d5, d6, d7, d8, d9, d10, d11] = 0))) w := by
  rw [run_eql_struct, eq12 _ _ _ _ _ _ _ _ _ _ _ _ w hd]
  rfl
set_option maxRecDepth 100000 in
set_option maxHeartbeats 1000000 in
theorem zero_any (neg : Bool) (D : List Int) (w : World) (h : D.length = 12) (hd : ∀ d ∈ D, 0 ≤ d) :
    Calls Tryz.prog 129 #[.agg (numA neg D)] w fun e w' => e = .returned (.bool (decide (valD D = 0))) ∧ Grew w w' := by
  obtain ⟨d0, d1, d2, d3, d4, d5, d6, d7, d8, d9, d10, d11, rfl⟩ := twelve h
  have h1 := fun w => eq12 d0 d1 d2 d3 d4 d5 d6 d7 d8 d9 d10 d11 w hd
  have h2 := fun w => run_eq12 d0 d1 d2 d3 d4 d5 d6 d7 d8 d9 d10 d11 w hd
  obtain ⟨z, hz⟩ : ∃ z, z = decide (valD [d0, d1, d2, d3, d4, d5, d6, d7, d8, d9, d10, d11] = 0) := ⟨_, rfl⟩
  rw [← hz] at h1 h2 ⊢
  rw [numA_lit]
  clear hz h hd
  go_enter Tryz.func129, Tryz.ntmps129
  go_wp2_with fail
  go_ret
  exact ⟨rfl, (Grew.refl _).alloc _⟩
end Go.Proofs.YtgijaaklhdcgeaaGreat

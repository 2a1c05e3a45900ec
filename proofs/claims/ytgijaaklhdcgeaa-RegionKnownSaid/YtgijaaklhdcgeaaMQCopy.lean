/- the law's awake -/
import Derived.Test.YtgijaaklhdcgeaaMQRegIn
import Derived.Test.YtgijaaklhdcgeaaMQCont
import Derived.Test.YtgijaaklhdcgeaaMQLay
set_option linter.unusedSimpArgs false
set_option linter.unusedVariables false
namespace Go.Proofs.Ytgijaaklhdcgeaa
open Go.RowKit Go.Geo
attribute [local go_sem] Oper.semAt_some
def sP : List Pt := boxP ⟨0, 0⟩ ⟨9, 9⟩
def tP : List Pt := boxP ⟨2, 2⟩ ⟨4, 4⟩
def uP : List Pt := boxP ⟨2, 2⟩ ⟨12, 4⟩
theorem awake_facts : regionCheckP [sP, tP] = (0, 0) ∧ inR ⟨3, 3⟩ [sP, tP] = false ∧ inR ⟨2, 2⟩ [sP, tP] = false ∧ inR ⟨4, 4⟩ [sP, tP] = true ∧ inR ⟨1, 1⟩ [sP, tP] = true ∧ regionCheckP [sP, uP] = (210, 0) := by decide +kernel
theorem cell_step {G : Nat} {v : Value} {W w1 w2 : World} (hb : Below w1.heap.size w1 w2) (h1 : w1.cell? ⟨G, 0, none⟩ = some v) (h2 : Below W.heap.size W w1) : w2.cell? ⟨G, 0, none⟩ = some v ∧ Below W.heap.size W w2 :=
  ⟨(hb.cell (p := ⟨G, 0, none⟩) (block_lt_of_cell h1)).trans h1, h2.trans (hb.mono h2.size)⟩
theorem fieldsF : Try.prog.underlying 32 = some (.struct (Try.prog.fieldsOf 32)) := by kernel_rfl
theorem heldF : Try.prog.stoodInHeld 32 = false := by kernel_rfl
theorem fieldsFI : (Try.prog.fieldsOf 32).toList.map (fun f => (decide (f.name ≠ "_"), f.type, f.offset)) = [(true, 30, 0), (true, 3, 1)] := by kernel_rfl
theorem isAggE (w : World) : (isAgg 30).run Try.prog w = .ok false w := by
  simp [isAgg, run_underlying Try.underlying30]
theorem part_errno (xs : Array Value) (o : Nat) (v : Value) (h : xs[o]? = some v) (w : World) : (part 30 xs o).run Try.prog w = .ok v w := by
  simp [part, h]
theorem eqFields_consE (d : Nat) (xs ys : Array Value) (f : Field) (fs : List Field) (o : Nat) (a b : Int) (w : World) (hn : decide (f.name ≠ "_") = true) (ht : f.type = 30) (ho : f.offset = o)
    (hx : xs[o]? = some (.int .i64 a)) (hy : ys[o]? = some (.int .i64 b)) :
    (Op.eqFields (d + 1) xs ys (f :: fs)).run Try.prog w = if (a == b) = true then (Op.eqFields (d + 1) xs ys fs).run Try.prog w else .ok false w := by
  have hn' : f.name ≠ "_" := of_decide_eq_true hn
  rw [Op.eqFields, if_pos hn', ht, ho]
  simp only [Sem.run_bind, part_errno xs o _ hx, part_errno ys o _ hy, Result.andThen_ok, run_equalIn_int w d 30 .i64 .i64 a b Try.underlying30]
  cases (a == b) <;> simp
theorem eqF (a b c d : Int) (w : World) : (Op.equalIn 10000 32 (.agg #[.int .i64 a, .int .i64 b]) (.agg #[.int .i64 c, .int .i64 d])).run Try.prog w = .ok (decide (a = c) && decide (b = d)) w := by
  have hf := fieldsFI
  rw [run_equalIn_agg _ _ _ _ _ fieldsF heldF]
  generalize (Try.prog.fieldsOf 32).toList = fs at hf
  obtain _ | ⟨f0, _ | ⟨f1, _ | ⟨f2, fs⟩⟩⟩ := fs <;> simp only [List.map_cons, List.map_nil, List.cons.injEq, Prod.mk.injEq, and_false, and_true, List.cons_ne_nil, List.nil_eq] at hf
  obtain ⟨⟨n0, t0, o0⟩, ⟨n1, t1, o1⟩⟩ := hf
  rw [eqFields_consE 9998 _ _ f0 _ 0 a c w n0 t0 o0 rfl rfl, eqFields_cons 9998 _ _ f1 _ 1 b d w n1 t1 o1 rfl rfl]
  unfold Op.eqFields
  by_cases h1 : a = c <;> by_cases h2 : b = d <;> simp [h1, h2]
theorem run_eqF (a b c d : Int) (w : World) : (binOp .eql 32 (.agg #[.int .i64 a, .int .i64 b]) (.agg #[.int .i64 c, .int .i64 d])).run Try.prog w = .ok (.bool (decide (a = c) && decide (b = d))) w := by
  rw [run_eql_struct, eqF]
  rfl
theorem fieldF0 (a b : Value) (w : World) : (Instr.field 32 (.agg #[a, b]) 0).run Try.prog w = .ok a w := by kernel_rfl
set_option maxRecDepth 100000 in
set_option maxHeartbeats 4000000 in
theorem awake_any (w : World) : Calls Try.prog 13 #[] w fun e w' => e = .returned (.bool true) ∧ Below w.heap.size w w' := by
  obtain ⟨F1, F2, F3, F4, F5, F6⟩ := awake_facts
  have HS := Lib.hid sLaw_any
  have HT := Lib.hid tLaw_any
  have HU := Lib.hid uLaw_any
  have HOF := Lib.hid ofLaw_any
  have HAT := Lib.hid atLaw_any
  have HF := Lib.hid (And.intro F1 (And.intro F2 (And.intro F3 (And.intro F4 (And.intro F5 F6)))))
  clear F1 F2 F3 F4 F5 F6
  go_enter Try.func13, Try.ntmps13
  go_wp2_with fail
  refine (HS.out _).mono ?_
  rintro e w1 ⟨g1, c1, rfl, hp1, hb1⟩
  have H1 := Lib.hid (And.intro hp1 hb1)
  clear hp1 hb1
  go_wp2_with fail
  refine (HT.out _).mono ?_
  rintro e w2 ⟨g2, c2, rfl, hp2, hb2⟩
  have H2 := Lib.hid (And.intro hp2 (And.intro (H1.out.1.later hb2 (Nat.le_refl _)) (H1.out.2.trans (hb2.mono H1.out.2.size))))
  clear hp2 hb2
  go_wp2_with fail
  refine (HOF.out _ _ _ _).mono ?_
  rintro e w3 ⟨rfl, hg3⟩
  have hr := (rings2 H2.out.2.1 H2.out.1 rfl).grew hg3
  obtain ⟨W, hW⟩ : ∃ W, W = w3.alloc (.cells #[.slice (some ⟨w2.heap.size, 0, none⟩) 2 2] 25) := ⟨_, rfl⟩
  have hr : IsRings W (some ⟨w2.heap.size, 0, none⟩) 2 2 [sP, tP] := by rw [hW]; exact hr.later ((Below.refl _ _).alloc (Nat.le_refl _) _) (Nat.le_refl _)
  have hc : W.cell? ⟨w3.heap.size, 0, none⟩ = some (.slice (some ⟨w2.heap.size, 0, none⟩) 2 2) := by rw [hW]; exact alloc_cell _ _ _
  have hbW : Below w.heap.size w W := by
    rw [hW]
    have h1 : Below w2.heap.size w2 w3 := ((Below.refl _ _).alloc (Nat.le_refl _) _).trans (hg3.1.mono (by simp))
    exact (H2.out.2.2.trans (h1.mono H2.out.2.2.size)).alloc (Nat.le_trans H2.out.2.2.size h1.size) _
  have HCK : Hid (∀ w', Below W.heap.size W w' → Calls Try.prog 11 #[.agg #[.slice (some ⟨w2.heap.size, 0, none⟩) 2 2]] w' fun e w'' => e = .returned (faultV (0, 0)) ∧ Below w'.heap.size w' w'') := Lib.hid (fun w' hb => by
    have h := Check_region _ 2 2 [sP, tP] w' (hr.later hb (Nat.le_refl _)) (by decide)
    rw [HF.out.1] at h
    exact h)
  have HIN : Hid (∀ p w', Below W.heap.size W w' → Calls Try.prog 16 #[ptV p, .agg #[.slice (some ⟨w2.heap.size, 0, none⟩) 2 2]] w' fun e w'' => e = .returned (.bool (inR p [sP, tP])) ∧ Below w'.heap.size w' w'') := Lib.hid (fun p w' hb => In_region p _ 2 2 [sP, tP] w' (hr.later hb (Nat.le_refl _)))
  have HI3 : Hid (∀ w', Below W.heap.size W w' → Calls Try.prog 16 #[.agg #[.int .i64 3, .int .i64 3], .agg #[.slice (some ⟨w2.heap.size, 0, none⟩) 2 2]] w' fun e w'' => e = .returned (.bool false) ∧ Below w'.heap.size w' w'') := Lib.hid (fun w' hb => by have h := HIN.out ⟨3, 3⟩ w' hb; rw [HF.out.2.1] at h; exact h)
  have HI2 : Hid (∀ w', Below W.heap.size W w' → Calls Try.prog 16 #[.agg #[.int .i64 2, .int .i64 2], .agg #[.slice (some ⟨w2.heap.size, 0, none⟩) 2 2]] w' fun e w'' => e = .returned (.bool false) ∧ Below w'.heap.size w' w'') := Lib.hid (fun w' hb => by have h := HIN.out ⟨2, 2⟩ w' hb; rw [HF.out.2.2.1] at h; exact h)
  have HI4 : Hid (∀ w', Below W.heap.size W w' → Calls Try.prog 16 #[.agg #[.int .i64 4, .int .i64 4], .agg #[.slice (some ⟨w2.heap.size, 0, none⟩) 2 2]] w' fun e w'' => e = .returned (.bool true) ∧ Below w'.heap.size w' w'') := Lib.hid (fun w' hb => by have h := HIN.out ⟨4, 4⟩ w' hb; rw [HF.out.2.2.2.1] at h; exact h)
  have HI1 : Hid (∀ w', Below W.heap.size W w' → Calls Try.prog 16 #[.agg #[.int .i64 1, .int .i64 1], .agg #[.slice (some ⟨w2.heap.size, 0, none⟩) 2 2]] w' fun e w'' => e = .returned (.bool true) ∧ Below w'.heap.size w' w'') := Lib.hid (fun w' hb => by have h := HIN.out ⟨1, 1⟩ w' hb; rw [HF.out.2.2.2.2.1] at h; exact h)
  have HSU : Hid (∀ w' x y c d, IsPts w' x 4 c sP → IsPts w' y 4 d uP → ∀ w'' g, w'.heap.size = g → Grew (w'.alloc (.cells #[.slice x 4 c, .slice y 4 d] 28)) w'' → Calls Try.prog 11 #[.agg #[.slice (some ⟨g, 0, none⟩) 2 2]] w'' fun e w3 => e = .returned (faultV (210, 0)) ∧ Below w''.heap.size w'' w3) := Lib.hid (fun w' x y c d hx hy w'' g hg hgr => by
    have h := Check_region _ 2 2 [sP, uP] w'' ((rings2 hx hy hg).grew hgr) (by decide)
    rw [HF.out.2.2.2.2.2] at h
    exact h)
  have HEQ := Lib.hid hbW
  unfold faultV at HCK HSU
  clear hr hbW HIN
  have hfd := fieldF0
  have hqf : ∀ w, (binOp .eql 32 (.agg #[.int .i64 210, .int .i64 0]) (.agg #[.int .i64 210, .int .i64 0])).run Try.prog w = .ok (.bool true) w := fun w => run_eqF 210 0 210 0 w
  have hqg : ∀ w, (Op.equalIn 10000 32 (.agg #[.int .i64 210, .int .i64 0]) (.agg #[.int .i64 210, .int .i64 0])).run Try.prog w = .ok true w := fun w => eqF 210 0 210 0 w
  go_wp2_with fail
  try rw [← hW]
  have HW := Lib.hid hW
  clear hW hg3
  go_region_held3 (fun w' => w'.cell? ⟨w3.heap.size, 0, none⟩ = some (.slice (some ⟨w2.heap.size, 0, none⟩) 2 2) ∧ Below W.heap.size W w')
    (first
      | (exact ⟨hc, (Below.refl _ _).drew⟩)
      | (go_split_ands; refine cell_step hgr ?_ ?_; all_goals assumption)
      | (go_split_ands; refine cell_step ((Below.refl _ _).alloc (Nat.le_refl _) _) ?_ ?_; all_goals assumption))
    (first
      | (go_at_call 11; go_split_ands; have hv := HCK; clear HCK; refine (hv.out _ (by assumption)).mono ?_; rintro e wA ⟨rfl, hgr⟩)
      | (go_at_call 19; go_split_ands; refine (HAT.out _ _ _).mono ?_; rintro e wA ⟨rfl, hg⟩; have hgr := hg.1)
      | (go_at_call 16; go_split_ands; have hv := HI3; clear HI3; (with_reducible refine (hv.out _ (by assumption)).mono ?_); rintro e wA ⟨rfl, hgr⟩)
      | (go_at_call 16; go_split_ands; have hv := HI2; clear HI2; (with_reducible refine (hv.out _ (by assumption)).mono ?_); rintro e wA ⟨rfl, hgr⟩)
      | (go_at_call 16; go_split_ands; have hv := HI4; clear HI4; (with_reducible refine (hv.out _ (by assumption)).mono ?_); rintro e wA ⟨rfl, hgr⟩)
      | (go_at_call 16; go_split_ands; have hv := HI1; clear HI1; (with_reducible refine (hv.out _ (by assumption)).mono ?_); rintro e wA ⟨rfl, hgr⟩)
      | (go_at_call 29; go_split_ands; refine (HS.out _).mono ?_; rintro e wS ⟨gS, cS, rfl, hpS, hgr⟩)
      | (go_at_call 39; go_split_ands; refine (HU.out _).mono ?_; rintro e wU ⟨gU, cU, rfl, hpU, hgr⟩; have HPP := Lib.hid (And.intro (hpS.later hgr (Nat.le_refl _)) hpU); clear hpS hpU)
      | (go_at_call 20; go_split_ands; refine (HOF.out _ _ _ _).mono ?_; rintro e wO ⟨rfl, hgO⟩; have hgr := hgO.1; have HGO := Lib.hid hgO; clear hgO)
      | (go_at_call 11; go_split_ands; refine (HSU.out _ _ _ _ _ HPP.out.1 HPP.out.2 _ _ rfl HGO.out).mono ?_; rintro e wC ⟨rfl, hgr⟩))
  have HWC : Hid (Below W.heap.size W wC) := Lib.hid (by go_split_ands; assumption)
  go_wp2_with fail
  go_ret
  exact ⟨rfl, HEQ.out.trans (HWC.out.mono HEQ.out.size)⟩
end Go.Proofs.Ytgijaaklhdcgeaa

/- regions that came in, within the form's reach -/
namespace Go.Proofs.Ytgijaaklhdcgeaa
open Go.RowKit Go.Geo
section
variable {H : Type} {enc : TypeId × Value → H} {w : World} {base : Nat} {spare : Nat → Bool} {held : Bool}
set_option maxRecDepth 100000 in
theorem region_of_val_sized {r : Reach} {b2 fuel : Nat} {v : Value} {x : DataW H × List MemPlace} (hv : Value.okWide Try.prog w r b2 25 v) (h : DataW.trod enc Try.prog w base (fun _ => true) held fuel 25 v.cells.toList = some x) (hz : ∀ k ∈ x.1.weights Try.prog 25, k ≤ reachBytes) : ∃ c : Rg, v = c.val ∧ ∃ R, IsRings w c.a c.n c.c R ∧ Kept R := by
  obtain ⟨cs, rfl, _⟩ := Go.WideShapes.okWide_struct Try.underlying25 hv
  obtain ⟨ys, n2, _, rfl, hl, hys, hf2⟩ := DataW.trod_struct Try.underlying25 h
  rw [Try.cellsRg] at hl
  have hy1 : ys.length = 1 := hys
  have hl1 : cs.toList.length = 1 := hl
  obtain ⟨v4, hv4⟩ : ∃ v4, cs.toList = [v4] := by
    match cs.toList, hl1 with
    | [a], _ => exact ⟨a, rfl⟩
  obtain ⟨u0, rfl⟩ : ∃ u0, ys = [u0] := by
    match ys, hy1 with
    | [a], _ => exact ⟨a, rfl⟩
  have k0 : DataW.trod enc Try.prog w base (fun _ => true) held n2 23 ((cs.toList.drop 0).take (Try.prog.cellsOf 23)) = some u0 := hf2 0 _ rfl
  rw [Try.cellsRs, hv4] at k0
  have k1 : DataW.trod enc Try.prog w base (fun _ => true) held n2 23 [v4] = some u0 := k0
  obtain ⟨ra, rn, rc, R, e4, hR, hK⟩ := rings_in_sized k1 (fun k hk => hz k (by
    simp only [DataW.weights, Try.underlying25, List.map_cons]
    exact DataW.weights_mem_each (j := 0) rfl rfl k hk))
  refine ⟨⟨ra, rn, rc⟩, ?_, R, hR, hK⟩
  have : cs.toList = [.slice ra rn rc] := by rw [hv4]; exact e4
  unfold Rg.val
  rw [show cs = #[.slice ra rn rc] from Array.toList_inj.1 this]
theorem pts_of {fuel : Nat} {ao : Option Addr} {n cap : Nat} {d : DataW H} {pl : List MemPlace} (h : DataW.trod enc Try.prog w base spare held fuel 28 [.slice ao n cap] = some (d, pl)) : ∃ L, IsPts w ao n cap L := by
  obtain ⟨a, l, c, P, e, hp⟩ := pts_in h
  cases e
  exact ⟨P, hp⟩
end
end Go.Proofs.Ytgijaaklhdcgeaa

/- apportionkit.LargeRegion -/
set_option linter.unusedSimpArgs false
set_option linter.unusedVariables false
namespace Go.Proofs.Ytgijaaklhdcgeaa
open Go.RowKit Go.Geo
attribute [local go_sem] Oper.semAt_some
def largeR (R : List (List Pt)) (a b : Nat) : Bool := decide (a < R.length) || decide (b < sumLen R)
theorem sumLen_kept {R : List (List Pt)} (hk : Kept R) : ∀ k, k ≤ R.length → sumLen (R.take k) ≤ k * 8796093022208
  | 0, _ => by simp [sumLen]
  | k + 1, h => by
    have := sumLen_kept hk k (by omega)
    have h2 := hk k (by omega)
    rw [sumLen_take (by omega)]
    omega
set_option maxRecDepth 100000 in
set_option maxHeartbeats 1000000 in
theorem LargeRegion_any (ao : Option Addr) (n cap : Nat) (R : List (List Pt)) (a b : Nat) (w : World) (h : IsRings w ao n cap R) (hk : Kept R) (ha : a ≤ 1000) (hb : b ≤ 1000000) :
    Calls Try.prog 14 #[.agg #[.slice ao n cap], .int .i64 a, .int .i64 b] w fun e w' => e = .returned (.bool (largeR R a b)) ∧ Grew w w' := by
  have HI := Lib.hid h
  have hcm := h.2.2.1
  have hnc := h.2.1
  have HL := Lib.hid h.1
  unfold maxLen at hcm
  have HK := Lib.hid hk
  obtain ⟨z, hz⟩ : ∃ z, z = largeR R a b := ⟨_, rfl⟩
  rw [← hz]
  have HZ := Lib.hid hz
  have hA : Grew w (w.alloc (.cells #[.slice ao n cap] 25)) := (Grew.refl _).alloc _
  have HA := Lib.hid hA
  have hc0 : (w.alloc (.cells #[.slice ao n cap] 25)).cell? ⟨w.heap.size, 0, none⟩ = some (.slice ao n cap) := alloc_cell _ _ _
  have hb9 : (b : Int) ≤ 1000000 := by omega
  clear h hk hz hA
  by_cases hbig : a < n
  · have hz : z = true := by rw [HZ.out]; unfold largeR; rw [HL.out, decide_eq_true hbig]; rfl
    subst hz
    have t1 : decide ((a : Int) < (n : Int)) = true := decide_eq_true (by omega)
    go_enter Try.func14, Try.ntmps14
    go_wp2_with fail
    go_loopw [7, 8] (fun s i wr => ∃ k : Nat, k ≤ n ∧ i = .int .i64 k ∧ (∃ t : Int, s = .int .i64 t) ∧ wr = w.alloc (.cells #[.slice ao n cap] 25)) (fun s i _ => n - (intOf i).toNat)
    case atStart => exact ⟨0, by omega, rfl, ⟨0, rfl⟩, rfl⟩
    case round =>
      obtain ⟨k, hk, rfl, ⟨t, rfl⟩, rfl⟩ := hrel
      by_cases hlt : k < n
      · have hi0 : (0 : Int) ≤ (k : Int) := by omega
        have hi5 : (k : Int) < (n : Int) := by omega
        obtain ⟨b, off, x, y, z, rfl, e0, hp⟩ := (HI.out.later HA.out.1 (Nat.le_refl _)).2.2.2.2 k hlt
        clear hp
        go_wp2_with fail
        go_roundw
        case rel => exact ⟨k + 1, by omega, by go_num, ⟨_, rfl⟩, by first | trivial | rfl⟩
        case measure => simp [intOf]; omega
      · obtain rfl : k = n := by omega
        have hi5 : ¬ ((k : Int) < (k : Int)) := by omega
        have hundef : ∀ b, some undef = some (Value.bool b) → False := fun b h => by injection h with h; cases h
        go_wp2_with fail
        all_goals first
          | (exfalso; exact hundef _ (by assumption))
          | (go_ret; exact ⟨rfl, HA.out⟩)
  · have t1 : decide ((a : Int) < (n : Int)) = false := decide_eq_false (by omega)
    go_enter Try.func14, Try.ntmps14
    go_wp2_with fail
    go_loopw [7, 8] (fun s i wr => ∃ k : Nat, k ≤ n ∧ i = .int .i64 k ∧ (∃ t : Nat, s = .int .i64 t ∧ Hid (t = sumLen (R.take k))) ∧ wr = w.alloc (.cells #[.slice ao n cap] 25)) (fun s i _ => n - (intOf i).toNat)
    case atStart => exact ⟨0, by omega, rfl, ⟨0, rfl, rfl⟩, rfl⟩
    case round =>
      obtain ⟨k, hk, rfl, ⟨t, rfl, ht⟩, rfl⟩ := hrel
      have htk := sumLen_kept HK.out k (by rw [HL.out]; exact hk)
      have htb : (t : Int) ≤ 8796093022208000 := by have h3 := ht.out; omega
      have ht0 : (0 : Int) ≤ (t : Int) := by omega
      clear htk
      by_cases hlt : k < n
      · have hi0 : (0 : Int) ≤ (k : Int) := by omega
        have hi5 : (k : Int) < (n : Int) := by omega
        obtain ⟨b, off, x, y, z, rfl, e0, hp⟩ := (HI.out.later HA.out.1 (Nat.le_refl _)).2.2.2.2 k hlt
        have hy : (y : Int) ≤ 8796093022208 := by
          have h1 := hp.1
          have h2 := HK.out k (by rw [HL.out]; exact hlt)
          omega
        have hy0 : (0 : Int) ≤ (y : Int) := by omega
        have HT : Hid (t + y = sumLen (R.take (k + 1))) := Lib.hid (by rw [sumLen_take (by rw [HL.out]; exact hlt), ← ht.out, hp.1])
        clear hp
        go_wp2_with fail
        go_roundw
        case rel => exact ⟨k + 1, by omega, by go_num, ⟨t + y, by go_num, HT⟩, by first | trivial | rfl⟩
        case measure => simp [intOf]; omega
      · obtain rfl : k = n := by omega
        have hi5 : ¬ ((k : Int) < (k : Int)) := by omega
        have HT : Hid (t = sumLen R) := Lib.hid (by have := ht.out; rw [List.take_of_length_le (by rw [HL.out]; exact Nat.le_refl _)] at this; exact this)
        have hundef : ∀ b, some undef = some (Value.bool b) → False := fun b h => by injection h with h; cases h
        by_cases h2 : b < t
        · have t2 : decide ((b : Int) < (t : Int)) = true := decide_eq_true (by omega)
          have hzz : z = true := by rw [HZ.out]; unfold largeR; rw [← HT.out, decide_eq_true h2, Bool.or_true]
          subst hzz
          go_wp2_with fail
          go_ret
          exact ⟨rfl, HA.out⟩
        · have t2 : decide ((b : Int) < (t : Int)) = false := decide_eq_false (by omega)
          have hzz : z = false := by rw [HZ.out]; unfold largeR; rw [← HT.out, decide_eq_false h2, HL.out, decide_eq_false hbig]; rfl
          subst hzz
          go_wp2_with fail
          go_ret
          exact ⟨rfl, HA.out⟩
end Go.Proofs.Ytgijaaklhdcgeaa

/- apportionkit.CopyRings -/
namespace Go.Proofs.Ytgijaaklhdcgeaa
open Go.RowKit Go.Geo
theorem take_moreR {R : List (List Pt)} {k : Nat} (hk : k < R.length) : R.take (k + 1) = R.take k ++ [R.getD k []] := by
  rw [List.take_succ_eq_append_getElem hk, List.getD_eq_getElem?_getD, List.getElem?_eq_getElem hk]; rfl
/-- rings that are not many, nor long. -/
def Small (R : List (List Pt)) : Prop := R.length ≤ 100000 ∧ ∀ k, k < R.length → (R.getD k []).length ≤ 100000
set_option maxRecDepth 100000 in
set_option maxHeartbeats 2000000 in
theorem CopyRings_any (ao : Option Addr) (n cap : Nat) (R : List (List Pt)) (w : World) (h : IsRings w ao n cap R) (hs : Small R) :
    Calls Try.prog 15 #[.slice ao n cap] w fun e w' => ∃ v, e = .returned v ∧ OwnR w' w.heap.size v R ∧ Below w.heap.size w w' := by
  have HI := Lib.hid h
  have HL : Hid (R.length = n) := h.1
  have HS := Lib.hid hs
  have hcm := h.2.2.1
  have hnc := h.2.1
  have hn : n ≤ 100000 := by rw [← h.1]; exact hs.1
  obtain ⟨base, hbase⟩ : ∃ b, b = w.heap.size := ⟨_, rfl⟩
  have HB := Lib.hid hbase
  rw [← hbase]
  unfold maxLen at hcm
  clear h hs hbase
  go_enter Try.func15, Try.ntmps15
  go_wp2
  go_loopw [3, 4] (fun v i wr => ∃ k : Nat, k ≤ n ∧ i = .int .i64 k ∧ Hid (OwnR wr base v (R.take k)) ∧ Hid (Below base w wr)) (fun _ i _ => n - (intOf i).toNat)
  case atStart => exact ⟨0, by omega, rfl, OwnR.nil _ _, Below.refl _ _⟩
  case round =>
    obtain ⟨k, hk, rfl, hown, hbl⟩ := hrel
    by_cases hlt : k < n
    · have hi0 : (0 : Int) ≤ (k : Int) := by omega
      have hi5 : (k : Int) < (n : Int) := by omega
      obtain ⟨b, off, x, y, z, rfl, e0, hp⟩ := (HI.out.later hbl.out (by rw [HB.out]; exact Nat.le_refl _)).2.2.2.2 k hlt
      obtain ⟨P, hP⟩ : ∃ P, P = R.getD k [] := ⟨_, rfl⟩
      rw [← hP] at hp
      have hpl : P.length ≤ 100000 := by rw [hP]; exact HS.out.2 k (by rw [HL.out]; exact hlt)
      have hyl : y = P.length := hp.1.symm
      have HBZ : Hid (base ≤ wr.heap.size) := by
        have := hbl.out.size
        rw [HB.out]; exact this
      have HT : Hid (R.take (k + 1) = R.take k ++ [P]) := by rw [hP]; exact take_moreR (by rw [HL.out]; exact hlt)
      have hTl : (R.take k).length ≤ 4294967296 := by rw [List.length_take]; omega
      have HTL := Lib.hid hTl
      have hal : Below wr.heap.size wr (wr.alloc (Obj.cells #[] 27)) := (Below.refl _ _).alloc (Nat.le_refl _) _
      have HAL := Lib.hid hal
      have HPP := Lib.hid (hp.later hal (Nat.le_refl _))
      have HYL : Hid (y ≤ 100000) := by rw [hyl]; exact Lib.hid hpl
      have e1 : (wr.alloc (Obj.cells #[] 27)).cell? ⟨b, off + k, none⟩ = some (.slice x y z) := (hal.cell (p := ⟨b, off + k, none⟩) (block_lt_of_cell e0)).trans e0
      clear hp hP hpl hyl hTl hal
      go_wp2_with (first
        | (at_builtin; refine wpList_append_pts rfl _ _ rfl wr.heap.size (.slice (some ⟨wr.heap.size, 0, none⟩) 0 0) [] rfl (OwnP.none_new wr _ (Nat.le_refl _)) _ _ _ P rfl HPP.out (by have := HYL.out; simp; omega) HAL.out.size ?_
           intro v5 w5 hown5 hg5
           have hb5 : Below wr.heap.size wr w5 := HAL.out.grown hg5 HAL.out.size (fun k hk => by simp only [Value.ownBlock, Option.some.injEq] at hk; omega)
           have ho5 : OwnP w5 wr.heap.size v5 P := hown5
           obtain ⟨a5, c5, hv5, _⟩ := ho5.pts
           subst hv5
           have H5 := Lib.hid (And.intro hb5 ho5)
           clear hown5 hg5 hb5 ho5)
        | (at_builtin; refine wpList_append_rings rfl _ _ rfl base _ (R.take k) rfl (hown.out.later (H5.out.1.alloc H5.out.1.size _)) w5.heap.size rfl a5 c5 P ((H5.out.2.later ((Below.refl _ _).alloc (Nat.le_refl _) _)).base HBZ.out) (alloc_new _ _) HTL.out (Nat.le_trans HBZ.out (Nat.le_trans H5.out.1.size (by simp))) ?_
           intro v7 w7 hown7 hg7
           have H7 := Lib.hid (And.intro hown7 ((hbl.out.trans ((H5.out.1.alloc H5.out.1.size _).mono HBZ.out)).grown hg7 (Nat.le_trans HBZ.out (Nat.le_trans H5.out.1.size (by simp))) (fun k hk => (hown.out.lt k hk).1)))
           clear hown7 hg7))
      go_roundw
      case rel => exact ⟨k + 1, by omega, by go_num, by rw [HT.out]; exact H7.out.1, H7.out.2⟩
      case measure => simp [intOf]; omega
    · obtain rfl : k = n := by omega
      go_wp2
      go_ret
      refine ⟨_, rfl, ?_, hbl.out⟩
      have := hown.out
      rw [List.take_of_length_le (by rw [HL.out]; exact Nat.le_refl _)] at this
      exact this
end Go.Proofs.Ytgijaaklhdcgeaa

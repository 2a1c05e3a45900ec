/- point: valid, Turn, between, On, In, Meet, Compare -/
import Derived.Test.YtjiiikeniocmfaaGreatMQPoint
import Derived.StillTailTactics
namespace Go.Proofs.YtjiiikeniocmfaaGreat
open Go.RowKit Go.Geo
theorem IsPts.grew {w w' : World} {ao : Option Addr} {n cap : Nat} {P : List Pt} (h : IsPts w ao n cap P) (hb : Grew w w') : IsPts w' ao n cap P := h.later hb.1 (Nat.le_refl _)
theorem IsRings.grew {w w' : World} {ao : Option Addr} {n cap : Nat} {R : List (List Pt)} (h : IsRings w ao n cap R) (hb : Grew w w') : IsRings w' ao n cap R := h.later hb.1 (Nat.le_refl _)
/-- the k-th point of a slice. -/
theorem IsPts.at {w : World} {ao : Option Addr} {n cap : Nat} {P : List Pt} (h : IsPts w ao n cap P) {k : Nat} (hk : k < n) : ∃ b off, ao = some ⟨b, off, none⟩ ∧ w.cell? ⟨b, off + k * 2, none⟩ = some (.int .i64 (P.getD k p0).x) ∧ w.cell? ⟨b, off + k * 2 + 1, none⟩ = some (.int .i64 (P.getD k p0).y) := by
  obtain ⟨b, off, e, hc⟩ := h.2.2.2.1 (by omega)
  exact ⟨b, off, e, hc k hk⟩
theorem all_of {P : List Pt} {n : Nat} (hl : P.length = n) (h : ∀ i, i < n → validP (P.getD i p0) = true) : P.all validP = true := by
  rw [List.all_eq_true]
  intro v hv
  obtain ⟨i, hi, rfl⟩ := List.mem_iff_getElem.1 hv
  have := h i (by omega)
  rwa [getD_lt hi] at this
theorem all_not {P : List Pt} {k : Nat} (hk : k < P.length) (h : validP (P.getD k p0) = false) : P.all validP = false := by
  cases hq : P.all validP with
  | false => rfl
  | true =>
    rw [List.all_eq_true] at hq
    have := hq _ (List.getElem_mem hk)
    rw [getD_lt hk, this] at h
    cases h
set_option maxRecDepth 100000 in
theorem valid_any (ao : Option Addr) (n cap : Nat) (P : List Pt) (w : World) (h : IsPts w ao n cap P) :
    Calls Tryz.prog 71 #[.slice ao n cap] w fun e w' => e = .returned (.bool (P.all validP)) ∧ Grew w w' := by
  have HI := Lib.hid h
  have hcm := h.2.2.1
  have hnc := h.2.1
  unfold maxLen at hcm
  clear h
  go_enter Tryz.func71, Tryz.ntmps71
  go_wp2
  go_loopw [7] (fun i wr => ∃ k : Nat, k ≤ n ∧ i = .int .i64 k ∧ Hid (∀ i, i < k → validP (P.getD i p0) = true) ∧ Hid (Grew w wr)) (fun i _ => n - (intOf i).toNat)
  case atStart => exact ⟨0, by omega, rfl, fun i hi => absurd hi (by omega), Grew.refl _⟩
  case round =>
    obtain ⟨k, hk, rfl, hall, hg⟩ := hrel
    by_cases hlt : k < n
    · have hi0 : (0 : Int) ≤ (k : Int) := by omega
      have hi5 : (k : Int) < (n : Int) := by omega
      obtain ⟨b, off, rfl, e0, e1⟩ := (HI.out.grew hg.out).at hlt
      obtain ⟨c, hc⟩ : ∃ c, c = P.getD k p0 := ⟨_, rfl⟩
      rw [← hc] at e0 e1
      have HC := Lib.hid hc
      have HV := Lib.hid (Valid_any c)
      obtain ⟨q, hq⟩ : ∃ q, q = validP c := ⟨_, rfl⟩
      rw [← hq] at HV
      have HQ := Lib.hid hq
      clear hc hq
      unfold ptV at HV
      cases q with
      | true =>
        go_wp2_with fail
        refine (HV.out _).mono ?_
        rintro e w1 ⟨rfl, hg1⟩
        have HG := Lib.hid ((hg.out.alloc _).trans hg1)
        clear hg1
        go_wp2_with fail
        go_roundw
        case rel =>
          refine ⟨k + 1, by omega, by go_num, fun i hi => ?_, HG.out⟩
          by_cases hik : i < k
          · exact hall.out i hik
          · obtain rfl : i = k := by omega
            rw [← HC.out]; exact HQ.out.symm
        case measure => simp [intOf]; omega
      | false =>
        go_wp2_with fail
        refine (HV.out _).mono ?_
        rintro e w1 ⟨rfl, hg1⟩
        have HG := Lib.hid ((hg.out.alloc _).trans hg1)
        clear hg1
        go_wp2_with fail
        go_ret
        refine ⟨?_, HG.out⟩
        rw [all_not (by rw [HI.out.1]; exact hlt) (by rw [← HC.out]; exact HQ.out.symm)]
        rfl
    · obtain rfl : k = n := by omega
      go_wp2
      go_ret
      refine ⟨?_, hg.out⟩
      rw [all_of HI.out.1 hall.out]
      rfl
/-- three points of a new array. -/
theorem pts3 (w : World) (a b c : Pt) : IsPts (w.alloc (.cells #[.int .i64 a.x, .int .i64 a.y, .int .i64 b.x, .int .i64 b.y, .int .i64 c.x, .int .i64 c.y] 24)) (some ⟨w.heap.size, 0, none⟩) 3 3 [a, b, c] := by
  refine ⟨rfl, Nat.le_refl _, by unfold maxLen; omega, fun _ => ⟨_, _, rfl, fun i hi => ?_⟩, fun h => by cases h⟩
  have h := alloc_new w (.cells #[.int .i64 a.x, .int .i64 a.y, .int .i64 b.x, .int .i64 b.y, .int .i64 c.x, .int .i64 c.y] 24)
  match i, hi with
  | 0, _ => exact ⟨cell_of_row _ _ _ _ _ _ h, cell_of_row _ _ _ _ _ _ h⟩
  | 1, _ => exact ⟨cell_of_row _ _ _ _ _ _ h, cell_of_row _ _ _ _ _ _ h⟩
  | 2, _ => exact ⟨cell_of_row _ _ _ _ _ _ h, cell_of_row _ _ _ _ _ _ h⟩
set_option maxRecDepth 100000 in
set_option maxHeartbeats 1000000 in
theorem Turn_any (a b c : Pt) (w : World) :
    Calls Tryz.prog 89 #[ptV a, ptV b, ptV c] w fun e w' => e = .returned (.int .i64 (turnP a b c)) ∧ Grew w w' := by
  obtain ⟨v, hv⟩ : ∃ v, v = [a, b, c].all validP := ⟨_, rfl⟩
  have HV : Hid (∀ (w : World) (g : Nat), w.heap.size = g → Calls Tryz.prog 71 #[.slice (some ⟨g, 0, none⟩) 3 3] (w.alloc (.cells #[.int .i64 a.x, .int .i64 a.y, .int .i64 b.x, .int .i64 b.y, .int .i64 c.x, .int .i64 c.y] 24)) fun e w' => e = .returned (.bool v) ∧ Grew (w.alloc (.cells #[.int .i64 a.x, .int .i64 a.y, .int .i64 b.x, .int .i64 b.y, .int .i64 c.x, .int .i64 c.y] 24)) w') := Lib.hid (fun w g hg => by rw [hv, ← hg]; exact valid_any _ _ _ _ _ (pts3 w a b c))
  cases v with
  | false =>
    have ht : turnP a b c = 0 := by
      unfold turnP
      rw [if_neg]
      simp only [List.all_cons, List.all_nil, Bool.and_true] at hv
      intro h
      rw [Bool.and_eq_true, Bool.and_eq_true] at h
      rw [h.1.1, h.1.2, h.2] at hv
      cases hv
    rw [ht]
    clear hv ht
    obtain ⟨ax, ay⟩ := a
    obtain ⟨bx, bY⟩ := b
    obtain ⟨cx, cy⟩ := c
    unfold ptV
    dsimp only at HV ⊢
    go_enter Tryz.func89, Tryz.ntmps89
    go_wp2_with fail
    refine (HV.out _ _ (by simp)).mono ?_
    rintro e w1 ⟨rfl, hg1⟩
    go_wp2_with fail
    go_ret
    exact ⟨rfl, ((((Grew.refl w).alloc _).alloc _).alloc _).trans (((Grew.refl _).alloc _).trans hg1)⟩
  | true =>
    have hall : (validP a = true ∧ validP b = true) ∧ validP c = true := by
      simp only [List.all_cons, List.all_nil, Bool.and_true] at hv
      have := hv.symm
      rw [Bool.and_eq_true, Bool.and_eq_true] at this
      exact ⟨⟨this.1, this.2.1⟩, this.2.2⟩
    have ht : turnP a b c = sgn ((b.x - a.x) * (c.y - a.y) - (b.y - a.y) * (c.x - a.x)) := by
      unfold turnP
      rw [hall.1.1, hall.1.2, hall.2]
      rfl
    rw [ht]
    obtain ⟨⟨va, vb⟩, vc⟩ := hall
    rw [validP_iff] at va vb vc
    obtain ⟨ax, ay⟩ := a
    obtain ⟨bx, bY⟩ := b
    obtain ⟨cx, cy⟩ := c
    unfold ptV
    dsimp only at HV va vb vc ⊢
    have HS := Lib.hid (wSign_any (bx - ax) (cy - ay) (bY - ay) (cx - ax) (by omega) (by omega) (by omega) (by omega) (by omega) (by omega) (by omega) (by omega))
    have w1 : wrap64 (bx - ax) = bx - ax := by unfold wrap64; omega
    have w2 : wrap64 (cy - ay) = cy - ay := by unfold wrap64; omega
    have w3 : wrap64 (bY - ay) = bY - ay := by unfold wrap64; omega
    have w4 : wrap64 (cx - ax) = cx - ax := by unfold wrap64; omega
    generalize sgn ((bx - ax) * (cy - ay) - (bY - ay) * (cx - ax)) = r at HS ⊢
    clear hv ht
    go_enter Tryz.func89, Tryz.ntmps89
    go_wp2_with fail
    refine (HV.out _ _ (by simp)).mono ?_
    rintro e w5 ⟨rfl, hg1⟩
    have hg : Grew (((w.alloc (Obj.cells #[.int .i64 ax, .int .i64 ay] 24)).alloc (Obj.cells #[.int .i64 bx, .int .i64 bY] 24)).alloc (Obj.cells #[.int .i64 cx, .int .i64 cy] 24)) w5 := ((Grew.refl _).alloc _).trans hg1
    have a0 : w5.cell? ⟨w.heap.size, 0, none⟩ = some (.int .i64 ax) := hg.cell ((((Grew.refl _).alloc _).alloc _).cell (cell_of_row _ _ _ _ _ _ (alloc_new w _)))
    have a1 : w5.cell? ⟨w.heap.size, 1, none⟩ = some (.int .i64 ay) := hg.cell ((((Grew.refl _).alloc _).alloc _).cell (cell_of_row _ _ _ _ _ _ (alloc_new w _)))
    have b0 : w5.cell? ⟨w.heap.size + 1, 0, none⟩ = some (.int .i64 bx) := hg.cell (((Grew.refl _).alloc _).cell (cell_of_row _ _ _ _ _ _ (alloc_new2 w _ _)))
    have b1 : w5.cell? ⟨w.heap.size + 1, 1, none⟩ = some (.int .i64 bY) := hg.cell (((Grew.refl _).alloc _).cell (cell_of_row _ _ _ _ _ _ (alloc_new2 w _ _)))
    have hs : ((w.alloc (Obj.cells #[.int .i64 ax, .int .i64 ay] 24)).alloc (Obj.cells #[.int .i64 bx, .int .i64 bY] 24)).heap.size = w.heap.size + 1 + 1 := by simp
    have c0 : w5.cell? ⟨w.heap.size + 1 + 1, 0, none⟩ = some (.int .i64 cx) := hg.cell (by rw [← hs]; exact cell_of_row _ _ _ _ _ _ (alloc_new _ _))
    have c1 : w5.cell? ⟨w.heap.size + 1 + 1, 1, none⟩ = some (.int .i64 cy) := hg.cell (by rw [← hs]; exact cell_of_row _ _ _ _ _ _ (alloc_new _ _))
    have HG := Lib.hid ((((Grew.refl w).alloc (Obj.cells #[.int .i64 ax, .int .i64 ay] 24)).alloc (Obj.cells #[.int .i64 bx, .int .i64 bY] 24)).alloc (Obj.cells #[.int .i64 cx, .int .i64 cy] 24) |>.trans hg)
    have W1 := Lib.hid w1
    have W2 := Lib.hid w2
    have W3 := Lib.hid w3
    have W4 := Lib.hid w4
    clear hg1 hg hs w1 w2 w3 w4 va vb vc
    go_wp2_with fail
    rw [W1.out, W2.out, W3.out, W4.out]
    refine (HS.out _).mono ?_
    rintro e w6 ⟨rfl, hg6⟩
    go_wp2_with fail
    go_ret
    exact ⟨rfl, HG.out.trans hg6⟩
end Go.Proofs.YtjiiikeniocmfaaGreat

/- point: between, On, In, Meet -/
set_option linter.unusedSimpArgs false
set_option linter.unusedVariables false
namespace Go.Proofs.YtjiiikeniocmfaaGreat
open Go.RowKit Go.Geo
theorem ret_bool {b c : Bool} (h : (b = true) ↔ (c = true)) : Ending.returned (Value.bool b) = Ending.returned (Value.bool c) := by rw [Bool.eq_iff_iff.2 h]
theorem between_any (n a b : Int) (w : World) :
    Calls Tryz.prog 128 #[.int .i64 n, .int .i64 a, .int .i64 b] w fun e w' => e = .returned (.bool (betw n a b)) ∧ w = w' := by
  unfold betw
  by_cases hab : a ≤ b
  · by_cases h1 : a ≤ n
    · by_cases hab2 : a < b
      · go_enter Tryz.func128, Tryz.ntmps128
        go_wp2
        all_goals (go_ret; refine ⟨ret_bool ?_, rfl⟩; first | (simp only [Bool.and_eq_true, decide_eq_true_eq, true_iff, Bool.false_eq_true, false_iff]; omega) | (simp only [Bool.and_eq_true, decide_eq_true_eq]; omega))
      · have hab3 : b ≤ a := by omega
        go_enter Tryz.func128, Tryz.ntmps128
        go_wp2
        all_goals (go_ret; refine ⟨ret_bool ?_, rfl⟩; first | (simp only [Bool.and_eq_true, decide_eq_true_eq, true_iff, Bool.false_eq_true, false_iff]; omega) | (simp only [Bool.and_eq_true, decide_eq_true_eq]; omega))
    · go_enter Tryz.func128, Tryz.ntmps128
      go_wp2
      all_goals (go_ret; refine ⟨ret_bool ?_, rfl⟩; first | (simp only [Bool.and_eq_true, decide_eq_true_eq, true_iff, Bool.false_eq_true, false_iff]; omega) | (simp only [Bool.and_eq_true, decide_eq_true_eq]; omega))
  · have hab3 : b < a := by omega
    have hab4 : b ≤ a := by omega
    by_cases h1 : b ≤ n
    · go_enter Tryz.func128, Tryz.ntmps128
      go_wp2
      all_goals (go_ret; refine ⟨ret_bool ?_, rfl⟩; first | (simp only [Bool.and_eq_true, decide_eq_true_eq, true_iff, Bool.false_eq_true, false_iff]; omega) | (simp only [Bool.and_eq_true, decide_eq_true_eq]; omega))
    · go_enter Tryz.func128, Tryz.ntmps128
      go_wp2
      all_goals (go_ret; refine ⟨ret_bool ?_, rfl⟩; first | (simp only [Bool.and_eq_true, decide_eq_true_eq, true_iff, Bool.false_eq_true, false_iff]; omega) | (simp only [Bool.and_eq_true, decide_eq_true_eq]; omega))
set_option maxRecDepth 100000 in
set_option maxHeartbeats 1000000 in
theorem On_any (a b c : Pt) (w : World) :
    Calls Tryz.prog 102 #[ptV a, ptV b, ptV c] w fun e w' => e = .returned (.bool (onP a b c)) ∧ Grew w w' := by
  obtain ⟨v, hv⟩ : ∃ v, v = [a, b, c].all validP := ⟨_, rfl⟩
  have HV : Hid (∀ (w : World) (g : Nat), w.heap.size = g → Calls Tryz.prog 71 #[.slice (some ⟨g, 0, none⟩) 3 3] (w.alloc (.cells #[.int .i64 a.x, .int .i64 a.y, .int .i64 b.x, .int .i64 b.y, .int .i64 c.x, .int .i64 c.y] 24)) fun e w' => e = .returned (.bool v) ∧ Grew (w.alloc (.cells #[.int .i64 a.x, .int .i64 a.y, .int .i64 b.x, .int .i64 b.y, .int .i64 c.x, .int .i64 c.y] 24)) w') := Lib.hid (fun w g hg => by rw [hv, ← hg]; exact valid_any _ _ _ _ _ (pts3 w a b c))
  have he : onP a b c = (v && betw a.x b.x c.x && betw a.y b.y c.y && decide (turnP b c a = 0)) := by
    unfold onP
    rw [hv]
    simp [List.all_cons, Bool.and_assoc]
  rw [he]
  have HX := Lib.hid (between_any a.x b.x c.x)
  have HY := Lib.hid (between_any a.y b.y c.y)
  have HT := Lib.hid (Turn_any b c a)
  have htr := turnP_range b c a
  generalize betw a.x b.x c.x = p at *
  generalize betw a.y b.y c.y = q at *
  generalize turnP b c a = t at *
  clear hv he
  obtain ⟨ax, ay⟩ := a
  obtain ⟨bx, bY⟩ := b
  obtain ⟨cx, cy⟩ := c
  unfold ptV at *
  dsimp only at *
  have HTR := Lib.hid htr
  clear htr
  cases v with
  | false =>
    go_enter Tryz.func102, Tryz.ntmps102
    go_wp2_with fail
    refine (HV.out _ _ (by simp)).mono ?_
    rintro e w1 ⟨rfl, hg1⟩
    go_wp2_with fail
    go_ret
    exact ⟨rfl, ((((Grew.refl w).alloc _).alloc _).alloc _).trans (((Grew.refl _).alloc _).trans hg1)⟩
  | true =>
    go_enter Tryz.func102, Tryz.ntmps102
    go_wp2_with fail
    refine (HV.out _ _ (by simp)).mono ?_
    rintro e w5 ⟨rfl, hg1⟩
    have hg : Grew (((w.alloc (Obj.cells #[.int .i64 ax, .int .i64 ay] 24)).alloc (Obj.cells #[.int .i64 bx, .int .i64 bY] 24)).alloc (Obj.cells #[.int .i64 cx, .int .i64 cy] 24)) w5 := ((Grew.refl _).alloc _).trans hg1
    have a0 : w5.cell? ⟨w.heap.size, 0, none⟩ = some (.int .i64 ax) := hg.cell ((((Grew.refl _).alloc _).alloc _).cell (cell_of_row _ _ _ _ _ _ (alloc_new w _)))
    have a1 : w5.cell? ⟨w.heap.size, 1, none⟩ = some (.int .i64 ay) := hg.cell ((((Grew.refl _).alloc _).alloc _).cell (cell_of_row _ _ _ _ _ _ (alloc_new w _)))
    have b0 : w5.cell? ⟨w.heap.size + 1, 0, none⟩ = some (.int .i64 bx) := hg.cell (((Grew.refl _).alloc _).cell (cell_of_row _ _ _ _ _ _ (alloc_new2 w _ _)))
    have b1 : w5.cell? ⟨w.heap.size + 1, 1, none⟩ = some (.int .i64 bY) := hg.cell (((Grew.refl _).alloc _).cell (cell_of_row _ _ _ _ _ _ (alloc_new2 w _ _)))
    have hs : ((w.alloc (Obj.cells #[.int .i64 ax, .int .i64 ay] 24)).alloc (Obj.cells #[.int .i64 bx, .int .i64 bY] 24)).heap.size = w.heap.size + 1 + 1 := by simp
    have c0 : w5.cell? ⟨w.heap.size + 1 + 1, 0, none⟩ = some (.int .i64 cx) := hg.cell (by rw [← hs]; exact cell_of_row _ _ _ _ _ _ (alloc_new _ _))
    have c1 : w5.cell? ⟨w.heap.size + 1 + 1, 1, none⟩ = some (.int .i64 cy) := hg.cell (by rw [← hs]; exact cell_of_row _ _ _ _ _ _ (alloc_new _ _))
    have HG := Lib.hid ((((Grew.refl w).alloc (Obj.cells #[.int .i64 ax, .int .i64 ay] 24)).alloc (Obj.cells #[.int .i64 bx, .int .i64 bY] 24)).alloc (Obj.cells #[.int .i64 cx, .int .i64 cy] 24) |>.trans hg)
    clear hg1 hg hs
    cases p with
    | false =>
      go_wp2_with fail
      refine (HX.out _).mono ?_
      rintro e w6 ⟨rfl, rfl⟩
      go_wp2_with fail
      go_ret
      exact ⟨rfl, HG.out⟩
    | true =>
      cases q with
      | false =>
        go_wp2_with fail
        refine (HX.out _).mono ?_
        rintro e w6 ⟨rfl, rfl⟩
        go_wp2_with fail
        refine (HY.out _).mono ?_
        rintro e w6 ⟨rfl, rfl⟩
        go_wp2_with fail
        go_ret
        exact ⟨rfl, HG.out⟩
      | true =>
        go_wp2_with fail
        refine (HX.out _).mono ?_
        rintro e w6 ⟨rfl, rfl⟩
        go_wp2_with fail
        refine (HY.out _).mono ?_
        rintro e w6 ⟨rfl, rfl⟩
        go_wp2_with fail
        refine (HT.out _).mono ?_
        rintro e w6 ⟨rfl, hg6⟩
        go_wp2_with fail
        go_ret
        refine ⟨?_, HG.out.trans hg6⟩
        rcases HTR.out with rfl | rfl | rfl <;> rfl
/-- a box: its low corner, its high one. -/
def boxV (lo hi : Pt) : Value := .agg #[.int .i64 lo.x, .int .i64 lo.y, .int .i64 hi.x, .int .i64 hi.y]
set_option maxRecDepth 100000 in
set_option maxHeartbeats 1000000 in
theorem In_any (p lo hi : Pt) (w : World) :
    Calls Tryz.prog 56 #[ptV p, boxV lo hi] w fun e w' => e = .returned (.bool (boxIn p lo hi)) ∧ Grew w w' := by
  obtain ⟨px, py⟩ := p
  obtain ⟨lx, ly⟩ := lo
  obtain ⟨hx, hy⟩ := hi
  unfold ptV boxV boxIn
  dsimp only
  go_enter Tryz.func56, Tryz.ntmps56
  go_wp2
  all_goals (go_ret; refine ⟨ret_bool ?_, ((Grew.refl _).alloc _).alloc _⟩; first | (simp only [Bool.and_eq_true, decide_eq_true_eq, true_iff, Bool.false_eq_true, false_iff]; omega) | (simp only [Bool.and_eq_true, decide_eq_true_eq]; omega))
set_option maxRecDepth 100000 in
set_option maxHeartbeats 1000000 in
theorem Meet_any (lo hi lo2 hi2 : Pt) (w : World) :
    Calls Tryz.prog 69 #[boxV lo hi, boxV lo2 hi2] w fun e w' => e = .returned (.bool (boxMeet lo hi lo2 hi2)) ∧ Grew w w' := by
  obtain ⟨lx, ly⟩ := lo
  obtain ⟨hx, hy⟩ := hi
  obtain ⟨mx, my⟩ := lo2
  obtain ⟨kx, ky⟩ := hi2
  unfold boxV boxMeet
  dsimp only
  go_enter Tryz.func69, Tryz.ntmps69
  go_wp2
  all_goals (go_ret; refine ⟨ret_bool ?_, ((Grew.refl _).alloc _).alloc _⟩; first | (simp only [Bool.and_eq_true, decide_eq_true_eq, true_iff, Bool.false_eq_true, false_iff]; omega) | (simp only [Bool.and_eq_true, decide_eq_true_eq]; omega))
end Go.Proofs.YtjiiikeniocmfaaGreat

/- point.Bounds -/
set_option linter.unusedSimpArgs false
set_option linter.unusedVariables false
namespace Go.Proofs.YtjiiikeniocmfaaGreat
open Go.RowKit Go.Geo
theorem of0_any (b o : Nat) (w : World) :
    Calls Tryz.prog 72 #[.int .i64 0, .pointer (some ⟨b, o, none⟩)] w fun e w' => e = .returned (.pointer (some ⟨b, o, none⟩)) ∧ w = w' := by
  go_enter Tryz.func72, Tryz.ntmps72
  go_wp2
  go_ret
  exact ⟨rfl, rfl⟩
theorem of1_any (b o : Nat) (w : World) :
    Calls Tryz.prog 72 #[.int .i64 1, .pointer (some ⟨b, o, none⟩)] w fun e w' => e = .returned (.pointer (some ⟨b, o + 1, none⟩)) ∧ w = w' := by
  go_enter Tryz.func72, Tryz.ntmps72
  go_wp2
  go_ret
  exact ⟨rfl, rfl⟩
theorem of0_still (b o : Nat) (w : World) :
    Calls Tryz.prog 72 #[.int .i64 0, .pointer (some ⟨b, o, none⟩)] w fun e w' => e = .returned (.pointer (some ⟨b, o, none⟩)) ∧ w' = w := (of0_any b o w).mono fun _ _ h => ⟨h.1, h.2.symm⟩
theorem of1_still (b o : Nat) (w : World) :
    Calls Tryz.prog 72 #[.int .i64 1, .pointer (some ⟨b, o, none⟩)] w fun e w' => e = .returned (.pointer (some ⟨b, o + 1, none⟩)) ∧ w' = w := (of1_any b o w).mono fun _ _ h => ⟨h.1, h.2.symm⟩
/-- what Bounds tells. -/
def boundsV (l : List Pt) : Value := match boundsP l with
  | some (lo, hi) => .tuple #[boxV lo hi, .bool true]
  | none => .tuple #[boxV p0 p0, .bool false]
def boxRow (a b c d : Int) : Array Value := #[.int .i64 a, .int .i64 b, .int .i64 c, .int .i64 d]
theorem box_cells {w : World} {g : Nat} {t : TypeId} {fr : Nat × Nat} {a b c d : Int} (h : w.heap[g]? = some (.cells (boxRow a b c d) t fr)) :
    w.cell? ⟨g, 0, none⟩ = some (.int .i64 a) ∧ w.cell? ⟨g, 1, none⟩ = some (.int .i64 b) ∧ w.cell? ⟨g, 2, none⟩ = some (.int .i64 c) ∧ w.cell? ⟨g, 3, none⟩ = some (.int .i64 d) :=
  ⟨cell_of_row _ _ _ _ _ _ h, cell_of_row _ _ _ _ _ _ h, cell_of_row _ _ _ _ _ _ h, cell_of_row _ _ _ _ _ _ h⟩
theorem box_frozen {w : World} {g : Nat} {t : TypeId} {a b c d : Int} (h : w.heap[g]? = some (.cells (boxRow a b c d) t (0, 0))) :
    w.frozen? ⟨g, 0, none⟩ = false ∧ w.frozen? ⟨g, 1, none⟩ = false ∧ w.frozen? ⟨g, 2, none⟩ = false ∧ w.frozen? ⟨g, 3, none⟩ = false :=
  ⟨frozen_of_row _ _ _ _ _ h, frozen_of_row _ _ _ _ _ h, frozen_of_row _ _ _ _ _ h, frozen_of_row _ _ _ _ _ h⟩
theorem put0 {w : World} {g : Nat} {t : TypeId} {a b c d : Int} (h : w.heap[g]? = some (.cells (boxRow a b c d) t (0, 0))) (z : Int) : (w.setCell ⟨g, 0, none⟩ (.int .i64 z)).heap[g]? = some (.cells (boxRow z b c d) t (0, 0)) := heap_setCell_same w g 0 _ _ _ h
theorem put1 {w : World} {g : Nat} {t : TypeId} {a b c d : Int} (h : w.heap[g]? = some (.cells (boxRow a b c d) t (0, 0))) (z : Int) : (w.setCell ⟨g, 1, none⟩ (.int .i64 z)).heap[g]? = some (.cells (boxRow a z c d) t (0, 0)) := heap_setCell_same w g 1 _ _ _ h
theorem put2 {w : World} {g : Nat} {t : TypeId} {a b c d : Int} (h : w.heap[g]? = some (.cells (boxRow a b c d) t (0, 0))) (z : Int) : (w.setCell ⟨g, 2, none⟩ (.int .i64 z)).heap[g]? = some (.cells (boxRow a b z d) t (0, 0)) := heap_setCell_same w g 2 _ _ _ h
theorem put3 {w : World} {g : Nat} {t : TypeId} {a b c d : Int} (h : w.heap[g]? = some (.cells (boxRow a b c d) t (0, 0))) (z : Int) : (w.setCell ⟨g, 3, none⟩ (.int .i64 z)).heap[g]? = some (.cells (boxRow a b c z) t (0, 0)) := heap_setCell_same w g 3 _ _ _ h
theorem grew_setCell {w w1 : World} (h : Grew w w1) {g o : Nat} (hg : w.heap.size ≤ g) (v : Value) : Grew w (w1.setCell ⟨g, o, none⟩ v) := ⟨h.1.setCell (p := ⟨g, o, none⟩) hg v, h.2⟩
theorem maxK_x {P : List Pt} {n : Nat} {z : Pt} (ha : true = P.all validP) (hl : P.length = n) (hz : z = P.getD 0 p0) (k : Nat) : (-1099511627775 ≤ maxK Pt.x z.x P k ∧ maxK Pt.x z.x P k ≤ 1099511627775) := by
  have hall := List.all_eq_true.1 ha.symm
  have hv : validP z = true := by
    rw [hz]
    cases P with
    | nil => rfl
    | cons a m => exact hall a (by simp)
  rw [validP_iff] at hv
  unfold maxK
  have key : ∀ (l : List Pt) (q : Int), (∀ v ∈ l, validP v = true) → (-1099511627775 ≤ q ∧ q ≤ 1099511627775) → (-1099511627775 ≤ l.foldl (fun z v => max z (Pt.x v)) q ∧ l.foldl (fun z v => max z (Pt.x v)) q ≤ 1099511627775) := by
    intro l
    induction l with
    | nil => intro q _ h; exact h
    | cons a m ih =>
      intro q h hq
      have ha := h a (by simp)
      rw [validP_iff] at ha
      exact ih (max q a.x) (fun v hv => h v (by simp [hv])) (by omega)
  exact key _ _ (fun v hv => hall v (List.mem_of_mem_take hv)) hv.1
theorem maxK_y {P : List Pt} {n : Nat} {z : Pt} (ha : true = P.all validP) (hl : P.length = n) (hz : z = P.getD 0 p0) (k : Nat) : (-1099511627775 ≤ maxK Pt.y z.y P k ∧ maxK Pt.y z.y P k ≤ 1099511627775) := by
  have hall := List.all_eq_true.1 ha.symm
  have hv : validP z = true := by
    rw [hz]
    cases P with
    | nil => rfl
    | cons a m => exact hall a (by simp)
  rw [validP_iff] at hv
  unfold maxK
  have key : ∀ (l : List Pt) (q : Int), (∀ v ∈ l, validP v = true) → (-1099511627775 ≤ q ∧ q ≤ 1099511627775) → (-1099511627775 ≤ l.foldl (fun z v => max z (Pt.y v)) q ∧ l.foldl (fun z v => max z (Pt.y v)) q ≤ 1099511627775) := by
    intro l
    induction l with
    | nil => intro q _ h; exact h
    | cons a m ih =>
      intro q h hq
      have ha := h a (by simp)
      rw [validP_iff] at ha
      exact ih (max q a.y) (fun v hv => h v (by simp [hv])) (by omega)
  exact key _ _ (fun v hv => hall v (List.mem_of_mem_take hv)) hv.2
theorem heap_other {w : World} {b g off : Nat} {v : Value} (h : b ≠ g) : (w.setCell ⟨g, off, none⟩ v).heap[b]? = w.heap[b]? := Below.heap_setCell _ _ _ _ h
theorem cell_other {w : World} {b o g off : Nat} {v : Value} (h : b ≠ g) : (w.setCell ⟨g, off, none⟩ v).cell? ⟨b, o, none⟩ = w.cell? ⟨b, o, none⟩ := by
  unfold World.cell?
  rw [heap_other h]
theorem load_box {w : World} {g : Nat} {a b c d : Int} (h : w.cell? ⟨g, 0, none⟩ = some (.int .i64 a) ∧ w.cell? ⟨g, 1, none⟩ = some (.int .i64 b) ∧ w.cell? ⟨g, 2, none⟩ = some (.int .i64 c) ∧ w.cell? ⟨g, 3, none⟩ = some (.int .i64 d)) : (loadVar 66 ⟨g, 0, none⟩).run Tryz.prog w = .ok (.agg (boxRow a b c d)) w := by
  have hl : (loadCells ⟨g, 0, none⟩ (boxRow a b c d).toList.length).run Tryz.prog w = .ok (boxRow a b c d).toList.toArray w :=
    run_loadCells_list (P := Tryz.prog) w ⟨g, 0, none⟩ (boxRow a b c d).toList (fun j v hv => by
      have hadd : (⟨g, 0, none⟩ : Addr).add j = ⟨g, j, none⟩ := by unfold Addr.add; split <;> simp_all
      rw [hadd]
      match j, hv with
      | 0, hv => cases hv; exact h.1
      | 1, hv => cases hv; exact h.2.1
      | 2, hv => cases hv; exact h.2.2.1
      | 3, hv => cases hv; exact h.2.2.2)
  have e5 : (boxRow a b c d).toList.length = 4 := rfl
  rw [e5] at hl
  have ha : ∀ w, (isAgg 66).run Tryz.prog w = .ok true w := Tryz.isAgg66
  have hz : ∀ w, (Go.sizeOf 66).run Tryz.prog w = .ok 4 w := Tryz.sizeOf66
  simp [loadVar, Sem.run_bind, ha, hz, hl, Result.andThen_ok]
theorem results_box {fn : Func} {p u : Tmp} (h : fn.results = #[.cell p 66, .tmp u]) {tmps : Array Value} {w : World} {g : Nat} {a b c d : Int}
    (hp : tmps.getD p undef = .pointer (some ⟨g, 0, none⟩)) (hg : w.heap[g]? = some (.cells (boxRow a b c d) 66 (0, 0))) :
    (results fn tmps).run Tryz.prog w = .ok (.tuple #[.agg (boxRow a b c d), tmps.getD u undef]) w := by
  rw [results_cell_tmp h, hp]
  simp [asAddr, load_box (box_cells hg), Result.andThen_ok]
theorem put_box {w : World} {g : Nat} {t : TypeId} {a b c d : Int} (h : w.heap[g]? = some (.cells (boxRow a b c d) t (0, 0))) (a2 b2 c2 d2 : Int) : (w.setCells g 0 (boxRow a2 b2 c2 d2).toList).heap[g]? = some (.cells (boxRow a2 b2 c2 d2) t (0, 0)) := put3 (put2 (put1 (put0 h a2) b2) c2) d2
theorem idx_two {t e : TypeId} (ht : Tryz.prog.underlying t = some (.array 2 e)) (ha : ∀ w, (isAgg e).run Tryz.prog w = .ok false w) (hs : ∀ w, (Go.sizeOf e).run Tryz.prog w = .ok 1 w) (a b : Value) (w : World) :
    (Instr.index t (.agg #[a, b]) (.int .i64 0)).run Tryz.prog w = .ok a w ∧ (Instr.index t (.agg #[a, b]) (.int .i64 1)).run Tryz.prog w = .ok b w := by
  constructor <;> simp [Instr.index, asIntOf, run_underlying ht, part, ha, hs, Result.andThen_ok]
end Go.Proofs.YtjiiikeniocmfaaGreat

/- points that are the same; slices.Index, slices.Contains of points; cross.may -/
set_option linter.unusedSimpArgs false
set_option linter.unusedVariables false
namespace Go.Proofs.YtjiiikeniocmfaaGreat
open Go.RowKit Go.Geo
theorem eqPt_run (a b : Pt) (w : World) : (Op.equalIn 10000 24 (ptV a) (ptV b)).run Tryz.prog w = .ok (decide (a = b)) w := by
  have hf := fieldsPI
  unfold ptV
  rw [run_equalIn_agg _ _ _ _ _ fieldsP heldP]
  generalize (Tryz.prog.fieldsOf 24).toList = fs at hf
  obtain _ | ⟨f0, _ | ⟨f1, _ | ⟨f2, fs⟩⟩⟩ := fs <;> simp only [List.map_cons, List.map_nil, List.cons.injEq, Prod.mk.injEq, and_false, and_true, List.cons_ne_nil, List.nil_eq] at hf
  obtain ⟨⟨n0, t0, o0⟩, ⟨n1, t1, o1⟩⟩ := hf
  rw [eqFields_cons 9998 _ _ f0 _ 0 _ _ w n0 t0 o0 rfl rfl, eqFields_cons 9998 _ _ f1 _ 1 _ _ w n1 t1 o1 rfl rfl]
  unfold Op.eqFields
  by_cases h1 : a.x = b.x
  · by_cases h2 : a.y = b.y
    · have : a = b := Pt.ext' h1 h2
      simp [this]
    · have : a ≠ b := fun e => h2 (by rw [e])
      simp [h1, h2, this]
  · have : a ≠ b := fun e => h1 (by rw [e])
    simp [h1, this]
theorem run_eq_pt (a b : Pt) (w : World) : (binOp .eql 24 (.agg #[.int .i64 a.x, .int .i64 a.y]) (.agg #[.int .i64 b.x, .int .i64 b.y])).run Tryz.prog w = .ok (.bool (decide (a = b))) w := by
  have h := eqPt_run a b w
  unfold ptV at h
  rw [run_eql_struct, h]
  rfl
theorem run_ne_pt (a b : Pt) (w : World) : (binOp .neq 24 (.agg #[.int .i64 a.x, .int .i64 a.y]) (.agg #[.int .i64 b.x, .int .i64 b.y])).run Tryz.prog w = .ok (.bool (!decide (a = b))) w := by
  have h := eqPt_run a b w
  unfold ptV at h
  rw [run_neq_struct, h]
  rfl
set_option maxRecDepth 100000 in
theorem may_any (a b : Pt) (w : World) :
    Calls Tryz.prog 104 #[ptV a, ptV b] w fun e w' => e = .returned (.bool (mayP a b)) ∧ Grew w w' := by
  have HX := Lib.hid (Valid_any a)
  have HY := Lib.hid (Valid_any b)
  have hne : ∀ w, (binOp .neq 24 (.agg #[.int .i64 a.x, .int .i64 a.y]) (.agg #[.int .i64 b.x, .int .i64 b.y])).run Tryz.prog w = .ok (.bool (!decide (a = b))) w := run_ne_pt a b
  have he : mayP a b = (validP a && validP b && !decide (a = b)) := by unfold mayP; rw [decide_not]
  rw [he]
  generalize (!decide (a = b)) = d at *
  generalize validP a = p at *
  generalize validP b = q at *
  clear he
  obtain ⟨ax, ay⟩ := a
  obtain ⟨bx, bY⟩ := b
  unfold ptV at *
  dsimp only at *
  cases p with
  | false =>
    go_enter Tryz.func104, Tryz.ntmps104
    go_wp2_with fail
    refine (HX.out _).mono ?_
    rintro e w1 ⟨rfl, hg1⟩
    go_wp2_with fail
    go_ret
    exact ⟨rfl, (((Grew.refl _).alloc _).alloc _).trans hg1⟩
  | true =>
    go_enter Tryz.func104, Tryz.ntmps104
    go_wp2_with fail
    refine (HX.out _).mono ?_
    rintro e w1 ⟨rfl, hg1⟩
    have a0 : w1.cell? ⟨w.heap.size, 0, none⟩ = some (.int .i64 ax) := hg1.cell (((Grew.refl _).alloc _).cell (cell_of_row _ _ _ _ _ _ (alloc_new w _)))
    have a1 : w1.cell? ⟨w.heap.size, 1, none⟩ = some (.int .i64 ay) := hg1.cell (((Grew.refl _).alloc _).cell (cell_of_row _ _ _ _ _ _ (alloc_new w _)))
    have b0 : w1.cell? ⟨w.heap.size + 1, 0, none⟩ = some (.int .i64 bx) := hg1.cell (cell_of_row _ _ _ _ _ _ (alloc_new2 w _ _))
    have b1 : w1.cell? ⟨w.heap.size + 1, 1, none⟩ = some (.int .i64 bY) := hg1.cell (cell_of_row _ _ _ _ _ _ (alloc_new2 w _ _))
    have HG := Lib.hid ((((Grew.refl w).alloc _).alloc _).trans hg1)
    clear hg1
    go_wp2_with fail
    refine (HY.out _).mono ?_
    rintro e w2 ⟨rfl, hg2⟩
    have c0 := hg2.cell a0
    have c1 := hg2.cell a1
    have d0 := hg2.cell b0
    have d1 := hg2.cell b1
    have HG2 := Lib.hid (HG.out.trans hg2)
    clear hg2 a0 a1 b0 b1
    cases q with
    | false =>
      go_wp2_with fail
      go_ret
      exact ⟨rfl, HG2.out⟩
    | true =>
      go_wp2_with fail
      go_ret
      exact ⟨rfl, HG2.out⟩
end Go.Proofs.YtjiiikeniocmfaaGreat

/- slices.Index, slices.Contains of points; cross.on, cross.gather -/
set_option linter.unusedSimpArgs false
set_option linter.unusedVariables false
namespace Go.Proofs.YtjiiikeniocmfaaGreat
open Go.RowKit Go.Geo
/-- where a point is, or -1. -/
def idxP (P : List Pt) (p : Pt) : Int := match P.findIdx? (fun q => decide (p = q)) with
  | none => -1
  | some i => (i : Int)
theorem idxP_some {P : List Pt} {p : Pt} {k n : Nat} (hl : P.length = n) (hk : k < n) (h : p = P.getD k p0) (hb : ∀ i, i < k → p ≠ P.getD i p0) : idxP P p = (k : Int) := by
  unfold idxP
  have : P.findIdx? (fun q => decide (p = q)) = some k := by
    rw [List.findIdx?_eq_some_iff_getElem]
    refine ⟨by omega, by rw [← getD_lt (d := p0) (by omega)]; simpa using h, fun i hi => ?_⟩
    rw [← getD_lt (d := p0) (by omega)]
    simpa using hb i hi
  rw [this]
theorem idxP_none {P : List Pt} {p : Pt} {n : Nat} (hl : P.length = n) (hb : ∀ i, i < n → p ≠ P.getD i p0) : idxP P p = -1 := by
  unfold idxP
  have : P.findIdx? (fun q => decide (p = q)) = none := by
    rw [List.findIdx?_eq_none_iff]
    intro q hq
    obtain ⟨i, hi, rfl⟩ := List.mem_iff_getElem.1 hq
    have := hb i (by omega)
    rw [getD_lt hi] at this
    simpa using this
  rw [this]
theorem idxP_ge {P : List Pt} {p : Pt} : decide (0 ≤ idxP P p) = decide (p ∈ P) := by
  unfold idxP
  cases h : P.findIdx? (fun q => decide (p = q)) with
  | none =>
    rw [List.findIdx?_eq_none_iff] at h
    have : p ∉ P := fun hm => by have := h p hm; simp at this
    simp [this]
  | some i =>
    rw [List.findIdx?_eq_some_iff_getElem] at h
    obtain ⟨h1, h2, _⟩ := h
    have h2 : p = P[i] := by simpa using h2
    have : p ∈ P := by rw [h2]; exact List.getElem_mem _
    simp [this]
set_option maxRecDepth 100000 in
theorem Index_any (ao : Option Addr) (n cap : Nat) (P : List Pt) (p : Pt) (w : World) (h : IsPts w ao n cap P) :
    Calls Tryz.prog 184 #[.slice ao n cap, ptV p] w fun e w' => e = .returned (.int .i64 (idxP P p)) ∧ Grew w w' := by
  have HI := Lib.hid h
  have hcm := h.2.2.1
  have hnc := h.2.1
  unfold maxLen at hcm
  have HP : Hid (∀ q : Pt, ∀ w, (binOp .eql 24 (.agg #[.int .i64 p.x, .int .i64 p.y]) (.agg #[.int .i64 q.x, .int .i64 q.y])).run Tryz.prog w = .ok (.bool (decide (p = q))) w) := Lib.hid (run_eq_pt p)
  have HP2 : Hid (∀ q : Pt, ∀ w, (Op.equalIn 10000 24 (.agg #[.int .i64 p.x, .int .i64 p.y]) (.agg #[.int .i64 q.x, .int .i64 q.y])).run Tryz.prog w = .ok (decide (p = q)) w) := Lib.hid (eqPt_run p)
  clear h
  obtain ⟨px, py⟩ := p
  unfold ptV
  dsimp only at HP HP2 ⊢
  have C0 : (w.alloc (.cells #[.int .i64 px, .int .i64 py] 24)).cell? ⟨w.heap.size, 0, none⟩ = some (.int .i64 px) := cell_of_row _ _ _ _ _ _ (alloc_new w _)
  have C1 : (w.alloc (.cells #[.int .i64 px, .int .i64 py] 24)).cell? ⟨w.heap.size, 1, none⟩ = some (.int .i64 py) := cell_of_row _ _ _ _ _ _ (alloc_new w _)
  have HC := Lib.hid (And.intro C0 C1)
  clear C0 C1
  go_enter Tryz.func184, Tryz.ntmps184
  go_wp2
  go_loopw [8] (fun i wr => ∃ k : Nat, k ≤ n ∧ i = .int .i64 k ∧ Hid (∀ i, i < k → (⟨px, py⟩ : Pt) ≠ P.getD i p0) ∧ Hid (Grew (w.alloc (.cells #[.int .i64 px, .int .i64 py] 24)) wr)) (fun i _ => n - (intOf i).toNat)
  case atStart => exact ⟨0, by omega, rfl, fun i hi => absurd hi (by omega), Grew.refl _⟩
  case round =>
    obtain ⟨k, hk, rfl, hall, hg⟩ := hrel
    by_cases hlt : k < n
    · have hi0 : (0 : Int) ≤ (k : Int) := by omega
      have hi5 : (k : Int) < (n : Int) := by omega
      obtain ⟨b, off, rfl, e0, e1⟩ := (HI.out.grew (((Grew.refl _).alloc _).trans hg.out)).at hlt
      obtain ⟨c, hc⟩ : ∃ c, c = P.getD k p0 := ⟨_, rfl⟩
      rw [← hc] at e0 e1
      have c0 := hg.out.cell HC.out.1
      have c1 := hg.out.cell HC.out.2
      have hqe := HP.out c
      have hqf := HP2.out c
      obtain ⟨q, hq⟩ : ∃ q, q = decide ((⟨px, py⟩ : Pt) = c) := ⟨_, rfl⟩
      rw [← hq] at hqe hqf
      have HQ := Lib.hid hq
      have HCE := Lib.hid hc
      clear hc hq
      cases q with
      | true =>
        go_wp2_with fail
        go_quiet (fail)
        go_wp2_with fail
        go_ret
        refine ⟨?_, (((Grew.refl _).alloc _).trans hg.out).drewN _⟩
        rw [idxP_some HI.out.1 hlt (by rw [← HCE.out]; exact of_decide_eq_true HQ.out.symm) hall.out]
        rfl
      | false =>
        go_wp2_with fail
        go_quiet (fail)
        go_wp2_with fail
        go_roundw
        case rel =>
          refine ⟨k + 1, by omega, by go_num, fun i hi => ?_, hg.out.drewN _⟩
          by_cases hik : i < k
          · exact hall.out i hik
          · obtain rfl : i = k := by omega
            rw [← HCE.out]; exact of_decide_eq_false HQ.out.symm
        case measure => simp [intOf]; omega
    · obtain rfl : k = n := by omega
      go_wp2
      go_ret
      refine ⟨?_, ((Grew.refl _).alloc _).trans hg.out⟩
      rw [idxP_none HI.out.1 hall.out]
      rfl
theorem Contains_any (ao : Option Addr) (n cap : Nat) (P : List Pt) (p : Pt) (w : World) (h : IsPts w ao n cap P) :
    Calls Tryz.prog 159 #[.slice ao n cap, ptV p] w fun e w' => e = .returned (.bool (decide (p ∈ P))) ∧ Grew w w' := by
  have HX := Lib.hid (Index_any ao n cap P p (w.alloc (.cells #[.int .i64 p.x, .int .i64 p.y] 24)) (h.grew ((Grew.refl w).alloc _)))
  rw [← idxP_ge]
  generalize idxP P p = r at *
  clear h
  unfold ptV at *
  by_cases hr : 0 ≤ r
  · go_enter Tryz.func159, Tryz.ntmps159
    go_wp2_with fail
    refine HX.out.mono ?_
    rintro e w1 ⟨rfl, hg1⟩
    go_wp2_with fail
    go_ret
    exact ⟨by simp [hr], ((Grew.refl _).alloc _).trans hg1⟩
  · go_enter Tryz.func159, Tryz.ntmps159
    go_wp2_with fail
    refine HX.out.mono ?_
    rintro e w1 ⟨rfl, hg1⟩
    go_wp2_with fail
    go_ret
    exact ⟨by simp [hr], ((Grew.refl _).alloc _).trans hg1⟩
end Go.Proofs.YtjiiikeniocmfaaGreat

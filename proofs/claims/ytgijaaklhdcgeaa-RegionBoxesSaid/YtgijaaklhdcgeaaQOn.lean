/- point: between, On, In, Meet -/
import Derived.Test.YtgijaaklhdcgeaaQTurn
set_option linter.unusedSimpArgs false
set_option linter.unusedVariables false
namespace Go.Proofs.Ytgijaaklhdcgeaa
open Go.RowKit Go.Geo
theorem ret_bool {b c : Bool} (h : (b = true) ↔ (c = true)) : Ending.returned (Value.bool b) = Ending.returned (Value.bool c) := by rw [Bool.eq_iff_iff.2 h]
theorem between_any (n a b : Int) (w : World) :
    Calls Try.prog 103 #[.int .i64 n, .int .i64 a, .int .i64 b] w fun e w' => e = .returned (.bool (betw n a b)) ∧ w = w' := by
  unfold betw
  by_cases hab : a ≤ b
  · by_cases h1 : a ≤ n
    · by_cases hab2 : a < b
      · go_enter Try.func103, Try.ntmps103
        go_wp2
        all_goals (go_ret; refine ⟨ret_bool ?_, rfl⟩; first | (simp only [Bool.and_eq_true, decide_eq_true_eq, true_iff, Bool.false_eq_true, false_iff]; omega) | (simp only [Bool.and_eq_true, decide_eq_true_eq]; omega))
      · have hab3 : b ≤ a := by omega
        go_enter Try.func103, Try.ntmps103
        go_wp2
        all_goals (go_ret; refine ⟨ret_bool ?_, rfl⟩; first | (simp only [Bool.and_eq_true, decide_eq_true_eq, true_iff, Bool.false_eq_true, false_iff]; omega) | (simp only [Bool.and_eq_true, decide_eq_true_eq]; omega))
    · go_enter Try.func103, Try.ntmps103
      go_wp2
      all_goals (go_ret; refine ⟨ret_bool ?_, rfl⟩; first | (simp only [Bool.and_eq_true, decide_eq_true_eq, true_iff, Bool.false_eq_true, false_iff]; omega) | (simp only [Bool.and_eq_true, decide_eq_true_eq]; omega))
  · have hab3 : b < a := by omega
    have hab4 : b ≤ a := by omega
    by_cases h1 : b ≤ n
    · go_enter Try.func103, Try.ntmps103
      go_wp2
      all_goals (go_ret; refine ⟨ret_bool ?_, rfl⟩; first | (simp only [Bool.and_eq_true, decide_eq_true_eq, true_iff, Bool.false_eq_true, false_iff]; omega) | (simp only [Bool.and_eq_true, decide_eq_true_eq]; omega))
    · go_enter Try.func103, Try.ntmps103
      go_wp2
      all_goals (go_ret; refine ⟨ret_bool ?_, rfl⟩; first | (simp only [Bool.and_eq_true, decide_eq_true_eq, true_iff, Bool.false_eq_true, false_iff]; omega) | (simp only [Bool.and_eq_true, decide_eq_true_eq]; omega))
set_option maxRecDepth 100000 in
set_option maxHeartbeats 1000000 in
theorem On_any (a b c : Pt) (w : World) :
    Calls Try.prog 84 #[ptV a, ptV b, ptV c] w fun e w' => e = .returned (.bool (onP a b c)) ∧ Grew w w' := by
  obtain ⟨v, hv⟩ : ∃ v, v = [a, b, c].all validP := ⟨_, rfl⟩
  have HV : Hid (∀ (w : World) (g : Nat), w.heap.size = g → Calls Try.prog 70 #[.slice (some ⟨g, 0, none⟩) 3 3] (w.alloc (.cells #[.int .i64 a.x, .int .i64 a.y, .int .i64 b.x, .int .i64 b.y, .int .i64 c.x, .int .i64 c.y] 27)) fun e w' => e = .returned (.bool v) ∧ Grew (w.alloc (.cells #[.int .i64 a.x, .int .i64 a.y, .int .i64 b.x, .int .i64 b.y, .int .i64 c.x, .int .i64 c.y] 27)) w') := Lib.hid (fun w g hg => by rw [hv, ← hg]; exact valid_any _ _ _ _ _ (pts3 w a b c))
  have he : onP a b c = (v && betw a.x b.x c.x && betw a.y b.y c.y && decide (turnP b c a = 0)) := by
    unfold onP
    rw [hv]
    simp [List.all_cons, Bool.and_assoc]
  rw [he]
  have HX := Lib.hid (between_any a.x b.x c.x)
  have HY := Lib.hid (between_any a.y b.y c.y)
  have HT := Lib.hid (Turn_any b c a)
  have htr := turnP_range b c a
  generalize betw a.x b.x c.x = p at *
  generalize betw a.y b.y c.y = q at *
  generalize turnP b c a = t at *
  clear hv he
  obtain ⟨ax, ay⟩ := a
  obtain ⟨bx, bY⟩ := b
  obtain ⟨cx, cy⟩ := c
  unfold ptV at *
  dsimp only at *
  have HTR := Lib.hid htr
  clear htr
  cases v with
  | false =>
    go_enter Try.func84, Try.ntmps84
    go_wp2_with fail
    refine (HV.out _ _ (by simp)).mono ?_
    rintro e w1 ⟨rfl, hg1⟩
    go_wp2_with fail
    go_ret
    exact ⟨rfl, ((((Grew.refl w).alloc _).alloc _).alloc _).trans (((Grew.refl _).alloc _).trans hg1)⟩
  | true =>
    go_enter Try.func84, Try.ntmps84
    go_wp2_with fail
    refine (HV.out _ _ (by simp)).mono ?_
    rintro e w5 ⟨rfl, hg1⟩
    have hg : Grew (((w.alloc (Obj.cells #[.int .i64 ax, .int .i64 ay] 27)).alloc (Obj.cells #[.int .i64 bx, .int .i64 bY] 27)).alloc (Obj.cells #[.int .i64 cx, .int .i64 cy] 27)) w5 := ((Grew.refl _).alloc _).trans hg1
    have a0 : w5.cell? ⟨w.heap.size, 0, none⟩ = some (.int .i64 ax) := hg.cell ((((Grew.refl _).alloc _).alloc _).cell (cell_of_row _ _ _ _ _ _ (alloc_new w _)))
    have a1 : w5.cell? ⟨w.heap.size, 1, none⟩ = some (.int .i64 ay) := hg.cell ((((Grew.refl _).alloc _).alloc _).cell (cell_of_row _ _ _ _ _ _ (alloc_new w _)))
    have b0 : w5.cell? ⟨w.heap.size + 1, 0, none⟩ = some (.int .i64 bx) := hg.cell (((Grew.refl _).alloc _).cell (cell_of_row _ _ _ _ _ _ (alloc_new2 w _ _)))
    have b1 : w5.cell? ⟨w.heap.size + 1, 1, none⟩ = some (.int .i64 bY) := hg.cell (((Grew.refl _).alloc _).cell (cell_of_row _ _ _ _ _ _ (alloc_new2 w _ _)))
    have hs : ((w.alloc (Obj.cells #[.int .i64 ax, .int .i64 ay] 27)).alloc (Obj.cells #[.int .i64 bx, .int .i64 bY] 27)).heap.size = w.heap.size + 1 + 1 := by simp
    have c0 : w5.cell? ⟨w.heap.size + 1 + 1, 0, none⟩ = some (.int .i64 cx) := hg.cell (by rw [← hs]; exact cell_of_row _ _ _ _ _ _ (alloc_new _ _))
    have c1 : w5.cell? ⟨w.heap.size + 1 + 1, 1, none⟩ = some (.int .i64 cy) := hg.cell (by rw [← hs]; exact cell_of_row _ _ _ _ _ _ (alloc_new _ _))
    have HG := Lib.hid ((((Grew.refl w).alloc (Obj.cells #[.int .i64 ax, .int .i64 ay] 27)).alloc (Obj.cells #[.int .i64 bx, .int .i64 bY] 27)).alloc (Obj.cells #[.int .i64 cx, .int .i64 cy] 27) |>.trans hg)
    clear hg1 hg hs
    cases p with
    | false =>
      go_wp2_with fail
      refine (HX.out _).mono ?_
      rintro e w6 ⟨rfl, rfl⟩
      go_wp2_with fail
      go_ret
      exact ⟨rfl, HG.out⟩
    | true =>
      cases q with
      | false =>
        go_wp2_with fail
        refine (HX.out _).mono ?_
        rintro e w6 ⟨rfl, rfl⟩
        go_wp2_with fail
        refine (HY.out _).mono ?_
        rintro e w6 ⟨rfl, rfl⟩
        go_wp2_with fail
        go_ret
        exact ⟨rfl, HG.out⟩
      | true =>
        go_wp2_with fail
        refine (HX.out _).mono ?_
        rintro e w6 ⟨rfl, rfl⟩
        go_wp2_with fail
        refine (HY.out _).mono ?_
        rintro e w6 ⟨rfl, rfl⟩
        go_wp2_with fail
        refine (HT.out _).mono ?_
        rintro e w6 ⟨rfl, hg6⟩
        go_wp2_with fail
        go_ret
        refine ⟨?_, HG.out.trans hg6⟩
        rcases HTR.out with rfl | rfl | rfl <;> rfl
/-- a box: its low corner, its high one. -/
def boxV (lo hi : Pt) : Value := .agg #[.int .i64 lo.x, .int .i64 lo.y, .int .i64 hi.x, .int .i64 hi.y]
set_option maxRecDepth 100000 in
set_option maxHeartbeats 1000000 in
theorem In_any (p lo hi : Pt) (w : World) :
    Calls Try.prog 22 #[ptV p, boxV lo hi] w fun e w' => e = .returned (.bool (boxIn p lo hi)) ∧ Grew w w' := by
  obtain ⟨px, py⟩ := p
  obtain ⟨lx, ly⟩ := lo
  obtain ⟨hx, hy⟩ := hi
  unfold ptV boxV boxIn
  dsimp only
  go_enter Try.func22, Try.ntmps22
  go_wp2
  all_goals (go_ret; refine ⟨ret_bool ?_, ((Grew.refl _).alloc _).alloc _⟩; first | (simp only [Bool.and_eq_true, decide_eq_true_eq, true_iff, Bool.false_eq_true, false_iff]; omega) | (simp only [Bool.and_eq_true, decide_eq_true_eq]; omega))
set_option maxRecDepth 100000 in
set_option maxHeartbeats 1000000 in
theorem Meet_any (lo hi lo2 hi2 : Pt) (w : World) :
    Calls Try.prog 61 #[boxV lo hi, boxV lo2 hi2] w fun e w' => e = .returned (.bool (boxMeet lo hi lo2 hi2)) ∧ Grew w w' := by
  obtain ⟨lx, ly⟩ := lo
  obtain ⟨hx, hy⟩ := hi
  obtain ⟨mx, my⟩ := lo2
  obtain ⟨kx, ky⟩ := hi2
  unfold boxV boxMeet
  dsimp only
  go_enter Try.func61, Try.ntmps61
  go_wp2
  all_goals (go_ret; refine ⟨ret_bool ?_, ((Grew.refl _).alloc _).alloc _⟩; first | (simp only [Bool.and_eq_true, decide_eq_true_eq, true_iff, Bool.false_eq_true, false_iff]; omega) | (simp only [Bool.and_eq_true, decide_eq_true_eq]; omega))
end Go.Proofs.Ytgijaaklhdcgeaa

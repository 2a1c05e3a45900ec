/- wide: sizes, signs, the sign of a difference of two products -/
import Derived.Test.YtlmmejdcjhbppaaMQLay
import Derived.Test.YtlmmejdcjhbppaaMBox1
import Derived.StillTailTactics
namespace Go.Proofs.Ytlmmejdcjhbppaa
open Go.RowKit Go.Geo
theorem cmpInt_any (a b : Int) (w : World) :
    Calls Try.prog 45 #[.int .i64 a, .int .i64 b] w fun e w' => e = .returned (.int .i64 (cmpZ a b)) ∧ w = w' := by
  unfold cmpZ
  by_cases h1 : a < b
  · rw [if_pos h1]
    go_enter Try.func45, Try.ntmps45
    go_wp2
    go_ret
    exact ⟨rfl, rfl⟩
  · rw [if_neg h1]
    by_cases h2 : b < a
    · rw [if_pos h2]
      go_enter Try.func45, Try.ntmps45
      go_wp2
      go_ret
      exact ⟨rfl, rfl⟩
    · rw [if_neg h2]
      go_enter Try.func45, Try.ntmps45
      go_wp2
      go_ret
      exact ⟨rfl, rfl⟩
theorem cmpU_any (a b : Int) (w : World) :
    Calls Try.prog 53 #[.int .u64 a, .int .u64 b] w fun e w' => e = .returned (.int .i64 (cmpZ a b)) ∧ w = w' := by
  unfold cmpZ
  by_cases h1 : a < b
  · rw [if_pos h1]
    go_enter Try.func53, Try.ntmps53
    go_wp2
    go_ret
    exact ⟨rfl, rfl⟩
  · rw [if_neg h1]
    by_cases h2 : b < a
    · rw [if_pos h2]
      go_enter Try.func53, Try.ntmps53
      go_wp2
      go_ret
      exact ⟨rfl, rfl⟩
    · rw [if_neg h2]
      go_enter Try.func53, Try.ntmps53
      go_wp2
      go_ret
      exact ⟨rfl, rfl⟩
theorem or_any (g : Nat) (x y : Int) (w : World) (h0 : w.cell? ⟨g, 0, none⟩ = some (.int .i64 x)) (h1 : w.cell? ⟨g, 1, none⟩ = some (.int .i64 y)) :
    Calls Try.prog 43 #[.slice (some ⟨g, 0, none⟩) 2 2] w fun e w' => e = .returned (.int .i64 (if x = 0 then y else x)) ∧ w = w' := by
  by_cases hx : x = 0
  · rw [if_pos hx]
    subst hx
    by_cases hy : y = 0
    · subst hy
      go_enter Try.func43, Try.ntmps43
      go_wp2
      go_loop [8] (fun i => ∃ k : Nat, k ≤ 2 ∧ i = .int .i64 k) (fun i => 2 - (intOf i).toNat)
      case atStart => exact ⟨0, by omega, rfl⟩
      case round =>
        obtain ⟨k, hk, rfl⟩ := hrel
        have hc : k = 0 ∨ k = 1 ∨ k = 2 := by omega
        rcases hc with rfl | rfl | rfl
        · go_wp2
          go_round
          case rel => exact ⟨1, by omega, rfl⟩
          case measure => simp [intOf]
        · go_wp2
          go_round
          case rel => exact ⟨2, by omega, rfl⟩
          case measure => simp [intOf]
        · go_wp2
          go_ret
          exact ⟨rfl, rfl⟩
    · have hyb : (y == 0) = false := by simpa using hy
      have hyn : (y != 0) = true := by simpa using hy
      clear hy
      go_enter Try.func43, Try.ntmps43
      go_wp2
      go_loop [8] (fun i => ∃ k : Nat, k ≤ 1 ∧ i = .int .i64 k) (fun i => 2 - (intOf i).toNat)
      case atStart => exact ⟨0, by omega, rfl⟩
      case round =>
        obtain ⟨k, hk, rfl⟩ := hrel
        have hc : k = 0 ∨ k = 1 := by omega
        rcases hc with rfl | rfl
        · go_wp2
          go_round
          case rel => exact ⟨1, by omega, rfl⟩
          case measure => simp [intOf]
        · go_wp2
          go_ret
          exact ⟨rfl, rfl⟩
  · rw [if_neg hx]
    have hxb : (x == 0) = false := by simpa using hx
    have hxn : (x != 0) = true := by simpa using hx
    clear hx
    go_enter Try.func43, Try.ntmps43
    go_wp2
    go_loop [8] (fun i => ∃ k : Nat, k ≤ 0 ∧ i = .int .i64 k) (fun i => 2 - (intOf i).toNat)
    case atStart => exact ⟨0, by omega, rfl⟩
    case round =>
      obtain ⟨k, hk, rfl⟩ := hrel
      obtain rfl : k = 0 := by omega
      go_wp2
      go_ret
      exact ⟨rfl, rfl⟩
theorem sgn_prod (a b : Int) : sgn a * sgn b = -1 ∨ sgn a * sgn b = 0 ∨ sgn a * sgn b = 1 := by
  rcases sgn_range a with h | h | h <;> rcases sgn_range b with k | k | k <;> rw [h, k] <;> simp
theorem sgnP_zero (n : Int) : sgn n = -1 ∨ sgn n = 0 ∨ sgn n = 1 := sgn_range n
theorem cmpZ_range (a b : Int) : cmpZ a b = -1 ∨ cmpZ a b = 0 ∨ cmpZ a b = 1 := by unfold cmpZ; split <;> (try split) <;> simp
end Go.Proofs.Ytlmmejdcjhbppaa

/- point: Valid, Compare, Turn, On, In, Meet -/
namespace Go.Proofs.Ytlmmejdcjhbppaa
open Go.RowKit Go.Geo
def ptV (p : Pt) : Value := .agg #[.int .i64 p.x, .int .i64 p.y]
theorem fits_any (n : Int) (w : World) :
    Calls Try.prog 38 #[.int .i64 n] w fun e w' => e = .returned (.bool (fitsC n)) ∧ w = w' := by
  unfold fitsC
  by_cases h1 : -1099511627775 ≤ n
  · by_cases h2 : n ≤ 1099511627775
    · go_enter Try.func38, Try.ntmps38
      go_wp2
      go_ret
      exact ⟨by simp [h1, h2], rfl⟩
    · go_enter Try.func38, Try.ntmps38
      go_wp2
      go_ret
      exact ⟨by simp; omega, rfl⟩
  · go_enter Try.func38, Try.ntmps38
    go_wp2
    go_ret
    exact ⟨by simp; omega, rfl⟩
theorem Valid_any (p : Pt) (w : World) :
    Calls Try.prog 20 #[ptV p] w fun e w' => e = .returned (.bool (validP p)) ∧ Grew w w' := by
  obtain ⟨x, y⟩ := p
  unfold validP ptV
  dsimp only
  have HX := Lib.hid (fits_any x)
  have HY := Lib.hid (fits_any y)
  generalize fitsC x = b at *
  generalize fitsC y = c at *
  cases b
  · go_enter Try.func20, Try.ntmps20
    go_wp2_with fail
    refine (HX.out _).mono ?_
    rintro e w' ⟨rfl, rfl⟩
    go_wp2_with fail
    go_ret
    exact ⟨rfl, (Grew.refl _).alloc _⟩
  · go_enter Try.func20, Try.ntmps20
    go_wp2_with fail
    refine (HX.out _).mono ?_
    rintro e w' ⟨rfl, rfl⟩
    go_wp2_with fail
    refine (HY.out _).mono ?_
    rintro e w' ⟨rfl, rfl⟩
    go_wp2_with fail
    go_ret
    exact ⟨rfl, (Grew.refl _).alloc _⟩
end Go.Proofs.Ytlmmejdcjhbppaa

/- point: valid, Turn, between, On, In, Meet, Compare -/
namespace Go.Proofs.Ytlmmejdcjhbppaa
open Go.RowKit Go.Geo
theorem IsPts.grew {w w' : World} {ao : Option Addr} {n cap : Nat} {P : List Pt} (h : IsPts w ao n cap P) (hb : Grew w w') : IsPts w' ao n cap P := h.later hb.1 (Nat.le_refl _)
theorem IsRings.grew {w w' : World} {ao : Option Addr} {n cap : Nat} {R : List (List Pt)} (h : IsRings w ao n cap R) (hb : Grew w w') : IsRings w' ao n cap R := h.later hb.1 (Nat.le_refl _)
/-- the k-th point of a slice. -/
theorem IsPts.at {w : World} {ao : Option Addr} {n cap : Nat} {P : List Pt} (h : IsPts w ao n cap P) {k : Nat} (hk : k < n) : ∃ b off, ao = some ⟨b, off, none⟩ ∧ w.cell? ⟨b, off + k * 2, none⟩ = some (.int .i64 (P.getD k p0).x) ∧ w.cell? ⟨b, off + k * 2 + 1, none⟩ = some (.int .i64 (P.getD k p0).y) := by
  obtain ⟨b, off, e, hc⟩ := h.2.2.2.1 (by omega)
  exact ⟨b, off, e, hc k hk⟩
theorem all_of {P : List Pt} {n : Nat} (hl : P.length = n) (h : ∀ i, i < n → validP (P.getD i p0) = true) : P.all validP = true := by
  rw [List.all_eq_true]
  intro v hv
  obtain ⟨i, hi, rfl⟩ := List.mem_iff_getElem.1 hv
  have := h i (by omega)
  rwa [getD_lt hi] at this
theorem all_not {P : List Pt} {k : Nat} (hk : k < P.length) (h : validP (P.getD k p0) = false) : P.all validP = false := by
  cases hq : P.all validP with
  | false => rfl
  | true =>
    rw [List.all_eq_true] at hq
    have := hq _ (List.getElem_mem hk)
    rw [getD_lt hk, this] at h
    cases h
/-- three points of a new array. -/
theorem pts3 (w : World) (a b c : Pt) : IsPts (w.alloc (.cells #[.int .i64 a.x, .int .i64 a.y, .int .i64 b.x, .int .i64 b.y, .int .i64 c.x, .int .i64 c.y] 31)) (some ⟨w.heap.size, 0, none⟩) 3 3 [a, b, c] := by
  refine ⟨rfl, Nat.le_refl _, by unfold maxLen; omega, fun _ => ⟨_, _, rfl, fun i hi => ?_⟩, fun h => by cases h⟩
  have h := alloc_new w (.cells #[.int .i64 a.x, .int .i64 a.y, .int .i64 b.x, .int .i64 b.y, .int .i64 c.x, .int .i64 c.y] 31)
  match i, hi with
  | 0, _ => exact ⟨cell_of_row _ _ _ _ _ _ h, cell_of_row _ _ _ _ _ _ h⟩
  | 1, _ => exact ⟨cell_of_row _ _ _ _ _ _ h, cell_of_row _ _ _ _ _ _ h⟩
  | 2, _ => exact ⟨cell_of_row _ _ _ _ _ _ h, cell_of_row _ _ _ _ _ _ h⟩
end Go.Proofs.Ytlmmejdcjhbppaa

/- point: between, On, In, Meet -/
set_option linter.unusedSimpArgs false
set_option linter.unusedVariables false
namespace Go.Proofs.Ytlmmejdcjhbppaa
open Go.RowKit Go.Geo
theorem ret_bool {b c : Bool} (h : (b = true) ↔ (c = true)) : Ending.returned (Value.bool b) = Ending.returned (Value.bool c) := by rw [Bool.eq_iff_iff.2 h]
/-- a box: its low corner, its high one. -/
def boxV (lo hi : Pt) : Value := .agg #[.int .i64 lo.x, .int .i64 lo.y, .int .i64 hi.x, .int .i64 hi.y]
set_option maxRecDepth 100000 in
set_option maxHeartbeats 1000000 in
theorem In_any (p lo hi : Pt) (w : World) :
    Calls Try.prog 21 #[ptV p, boxV lo hi] w fun e w' => e = .returned (.bool (boxIn p lo hi)) ∧ Grew w w' := by
  obtain ⟨px, py⟩ := p
  obtain ⟨lx, ly⟩ := lo
  obtain ⟨hx, hy⟩ := hi
  unfold ptV boxV boxIn
  dsimp only
  go_enter Try.func21, Try.ntmps21
  go_wp2
  all_goals (go_ret; refine ⟨ret_bool ?_, ((Grew.refl _).alloc _).alloc _⟩; first | (simp only [Bool.and_eq_true, decide_eq_true_eq, true_iff, Bool.false_eq_true, false_iff]; omega) | (simp only [Bool.and_eq_true, decide_eq_true_eq]; omega))
set_option maxRecDepth 100000 in
set_option maxHeartbeats 1000000 in
theorem Meet_any (lo hi lo2 hi2 : Pt) (w : World) :
    Calls Try.prog 34 #[boxV lo hi, boxV lo2 hi2] w fun e w' => e = .returned (.bool (boxMeet lo hi lo2 hi2)) ∧ Grew w w' := by
  obtain ⟨lx, ly⟩ := lo
  obtain ⟨hx, hy⟩ := hi
  obtain ⟨mx, my⟩ := lo2
  obtain ⟨kx, ky⟩ := hi2
  unfold boxV boxMeet
  dsimp only
  go_enter Try.func34, Try.ntmps34
  go_wp2
  all_goals (go_ret; refine ⟨ret_bool ?_, ((Grew.refl _).alloc _).alloc _⟩; first | (simp only [Bool.and_eq_true, decide_eq_true_eq, true_iff, Bool.false_eq_true, false_iff]; omega) | (simp only [Bool.and_eq_true, decide_eq_true_eq]; omega))
end Go.Proofs.Ytlmmejdcjhbppaa

/- point.Bounds -/
set_option linter.unusedSimpArgs false
set_option linter.unusedVariables false
namespace Go.Proofs.Ytlmmejdcjhbppaa
open Go.RowKit Go.Geo
/-- what Bounds tells. -/
def boundsV (l : List Pt) : Value := match boundsP l with
  | some (lo, hi) => .tuple #[boxV lo hi, .bool true]
  | none => .tuple #[boxV p0 p0, .bool false]
def boxRow (a b c d : Int) : Array Value := #[.int .i64 a, .int .i64 b, .int .i64 c, .int .i64 d]
theorem box_cells {w : World} {g : Nat} {t : TypeId} {fr : Nat × Nat} {a b c d : Int} (h : w.heap[g]? = some (.cells (boxRow a b c d) t fr)) :
    w.cell? ⟨g, 0, none⟩ = some (.int .i64 a) ∧ w.cell? ⟨g, 1, none⟩ = some (.int .i64 b) ∧ w.cell? ⟨g, 2, none⟩ = some (.int .i64 c) ∧ w.cell? ⟨g, 3, none⟩ = some (.int .i64 d) :=
  ⟨cell_of_row _ _ _ _ _ _ h, cell_of_row _ _ _ _ _ _ h, cell_of_row _ _ _ _ _ _ h, cell_of_row _ _ _ _ _ _ h⟩
theorem box_frozen {w : World} {g : Nat} {t : TypeId} {a b c d : Int} (h : w.heap[g]? = some (.cells (boxRow a b c d) t (0, 0))) :
    w.frozen? ⟨g, 0, none⟩ = false ∧ w.frozen? ⟨g, 1, none⟩ = false ∧ w.frozen? ⟨g, 2, none⟩ = false ∧ w.frozen? ⟨g, 3, none⟩ = false :=
  ⟨frozen_of_row _ _ _ _ _ h, frozen_of_row _ _ _ _ _ h, frozen_of_row _ _ _ _ _ h, frozen_of_row _ _ _ _ _ h⟩
theorem put0 {w : World} {g : Nat} {t : TypeId} {a b c d : Int} (h : w.heap[g]? = some (.cells (boxRow a b c d) t (0, 0))) (z : Int) : (w.setCell ⟨g, 0, none⟩ (.int .i64 z)).heap[g]? = some (.cells (boxRow z b c d) t (0, 0)) := heap_setCell_same w g 0 _ _ _ h
theorem put1 {w : World} {g : Nat} {t : TypeId} {a b c d : Int} (h : w.heap[g]? = some (.cells (boxRow a b c d) t (0, 0))) (z : Int) : (w.setCell ⟨g, 1, none⟩ (.int .i64 z)).heap[g]? = some (.cells (boxRow a z c d) t (0, 0)) := heap_setCell_same w g 1 _ _ _ h
theorem put2 {w : World} {g : Nat} {t : TypeId} {a b c d : Int} (h : w.heap[g]? = some (.cells (boxRow a b c d) t (0, 0))) (z : Int) : (w.setCell ⟨g, 2, none⟩ (.int .i64 z)).heap[g]? = some (.cells (boxRow a b z d) t (0, 0)) := heap_setCell_same w g 2 _ _ _ h
theorem put3 {w : World} {g : Nat} {t : TypeId} {a b c d : Int} (h : w.heap[g]? = some (.cells (boxRow a b c d) t (0, 0))) (z : Int) : (w.setCell ⟨g, 3, none⟩ (.int .i64 z)).heap[g]? = some (.cells (boxRow a b c z) t (0, 0)) := heap_setCell_same w g 3 _ _ _ h
theorem grew_setCell {w w1 : World} (h : Grew w w1) {g o : Nat} (hg : w.heap.size ≤ g) (v : Value) : Grew w (w1.setCell ⟨g, o, none⟩ v) := ⟨h.1.setCell (p := ⟨g, o, none⟩) hg v, h.2⟩
theorem maxK_x {P : List Pt} {n : Nat} {z : Pt} (ha : true = P.all validP) (hl : P.length = n) (hz : z = P.getD 0 p0) (k : Nat) : (-1099511627775 ≤ maxK Pt.x z.x P k ∧ maxK Pt.x z.x P k ≤ 1099511627775) := by
  have hall := List.all_eq_true.1 ha.symm
  have hv : validP z = true := by
    rw [hz]
    cases P with
    | nil => rfl
    | cons a m => exact hall a (by simp)
  rw [validP_iff] at hv
  unfold maxK
  have key : ∀ (l : List Pt) (q : Int), (∀ v ∈ l, validP v = true) → (-1099511627775 ≤ q ∧ q ≤ 1099511627775) → (-1099511627775 ≤ l.foldl (fun z v => max z (Pt.x v)) q ∧ l.foldl (fun z v => max z (Pt.x v)) q ≤ 1099511627775) := by
    intro l
    induction l with
    | nil => intro q _ h; exact h
    | cons a m ih =>
      intro q h hq
      have ha := h a (by simp)
      rw [validP_iff] at ha
      exact ih (max q a.x) (fun v hv => h v (by simp [hv])) (by omega)
  exact key _ _ (fun v hv => hall v (List.mem_of_mem_take hv)) hv.1
theorem maxK_y {P : List Pt} {n : Nat} {z : Pt} (ha : true = P.all validP) (hl : P.length = n) (hz : z = P.getD 0 p0) (k : Nat) : (-1099511627775 ≤ maxK Pt.y z.y P k ∧ maxK Pt.y z.y P k ≤ 1099511627775) := by
  have hall := List.all_eq_true.1 ha.symm
  have hv : validP z = true := by
    rw [hz]
    cases P with
    | nil => rfl
    | cons a m => exact hall a (by simp)
  rw [validP_iff] at hv
  unfold maxK
  have key : ∀ (l : List Pt) (q : Int), (∀ v ∈ l, validP v = true) → (-1099511627775 ≤ q ∧ q ≤ 1099511627775) → (-1099511627775 ≤ l.foldl (fun z v => max z (Pt.y v)) q ∧ l.foldl (fun z v => max z (Pt.y v)) q ≤ 1099511627775) := by
    intro l
    induction l with
    | nil => intro q _ h; exact h
    | cons a m ih =>
      intro q h hq
      have ha := h a (by simp)
      rw [validP_iff] at ha
      exact ih (max q a.y) (fun v hv => h v (by simp [hv])) (by omega)
  exact key _ _ (fun v hv => hall v (List.mem_of_mem_take hv)) hv.2
theorem heap_other {w : World} {b g off : Nat} {v : Value} (h : b ≠ g) : (w.setCell ⟨g, off, none⟩ v).heap[b]? = w.heap[b]? := Below.heap_setCell _ _ _ _ h
theorem cell_other {w : World} {b o g off : Nat} {v : Value} (h : b ≠ g) : (w.setCell ⟨g, off, none⟩ v).cell? ⟨b, o, none⟩ = w.cell? ⟨b, o, none⟩ := by
  unfold World.cell?
  rw [heap_other h]
theorem load_box {w : World} {g : Nat} {a b c d : Int} (h : w.cell? ⟨g, 0, none⟩ = some (.int .i64 a) ∧ w.cell? ⟨g, 1, none⟩ = some (.int .i64 b) ∧ w.cell? ⟨g, 2, none⟩ = some (.int .i64 c) ∧ w.cell? ⟨g, 3, none⟩ = some (.int .i64 d)) : (loadVar 33 ⟨g, 0, none⟩).run Try.prog w = .ok (.agg (boxRow a b c d)) w := by
  have hl : (loadCells ⟨g, 0, none⟩ (boxRow a b c d).toList.length).run Try.prog w = .ok (boxRow a b c d).toList.toArray w :=
    run_loadCells_list (P := Try.prog) w ⟨g, 0, none⟩ (boxRow a b c d).toList (fun j v hv => by
      have hadd : (⟨g, 0, none⟩ : Addr).add j = ⟨g, j, none⟩ := by unfold Addr.add; split <;> simp_all
      rw [hadd]
      match j, hv with
      | 0, hv => cases hv; exact h.1
      | 1, hv => cases hv; exact h.2.1
      | 2, hv => cases hv; exact h.2.2.1
      | 3, hv => cases hv; exact h.2.2.2)
  have e5 : (boxRow a b c d).toList.length = 4 := rfl
  rw [e5] at hl
  have ha : ∀ w, (isAgg 33).run Try.prog w = .ok true w := Try.isAgg33
  have hz : ∀ w, (Go.sizeOf 33).run Try.prog w = .ok 4 w := Try.sizeOf33
  simp [loadVar, Sem.run_bind, ha, hz, hl, Result.andThen_ok]
theorem results_box {fn : Func} {p u : Tmp} (h : fn.results = #[.cell p 33, .tmp u]) {tmps : Array Value} {w : World} {g : Nat} {a b c d : Int}
    (hp : tmps.getD p undef = .pointer (some ⟨g, 0, none⟩)) (hg : w.heap[g]? = some (.cells (boxRow a b c d) 33 (0, 0))) :
    (results fn tmps).run Try.prog w = .ok (.tuple #[.agg (boxRow a b c d), tmps.getD u undef]) w := by
  rw [results_cell_tmp h, hp]
  simp [asAddr, load_box (box_cells hg), Result.andThen_ok]
theorem put_box {w : World} {g : Nat} {t : TypeId} {a b c d : Int} (h : w.heap[g]? = some (.cells (boxRow a b c d) t (0, 0))) (a2 b2 c2 d2 : Int) : (w.setCells g 0 (boxRow a2 b2 c2 d2).toList).heap[g]? = some (.cells (boxRow a2 b2 c2 d2) t (0, 0)) := put3 (put2 (put1 (put0 h a2) b2) c2) d2
theorem idx_two {t e : TypeId} (ht : Try.prog.underlying t = some (.array 2 e)) (ha : ∀ w, (isAgg e).run Try.prog w = .ok false w) (hs : ∀ w, (Go.sizeOf e).run Try.prog w = .ok 1 w) (a b : Value) (w : World) :
    (Instr.index t (.agg #[a, b]) (.int .i64 0)).run Try.prog w = .ok a w ∧ (Instr.index t (.agg #[a, b]) (.int .i64 1)).run Try.prog w = .ok b w := by
  constructor <;> simp [Instr.index, asIntOf, run_underlying ht, part, ha, hs, Result.andThen_ok]
end Go.Proofs.Ytlmmejdcjhbppaa

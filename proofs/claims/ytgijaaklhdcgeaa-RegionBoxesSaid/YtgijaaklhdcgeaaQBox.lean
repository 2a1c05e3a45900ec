/- point.Bounds -/
import Derived.Test.YtgijaaklhdcgeaaQOn
import Derived.StillTailTactics
set_option linter.unusedSimpArgs false
set_option linter.unusedVariables false
namespace Go.Proofs.Ytgijaaklhdcgeaa
open Go.RowKit Go.Geo
theorem of0_any (b o : Nat) (w : World) :
    Calls Try.prog 71 #[.int .i64 0, .pointer (some ⟨b, o, none⟩)] w fun e w' => e = .returned (.pointer (some ⟨b, o, none⟩)) ∧ w = w' := by
  go_enter Try.func71, Try.ntmps71
  go_wp2
  go_ret
  exact ⟨rfl, rfl⟩
theorem of1_any (b o : Nat) (w : World) :
    Calls Try.prog 71 #[.int .i64 1, .pointer (some ⟨b, o, none⟩)] w fun e w' => e = .returned (.pointer (some ⟨b, o + 1, none⟩)) ∧ w = w' := by
  go_enter Try.func71, Try.ntmps71
  go_wp2
  go_ret
  exact ⟨rfl, rfl⟩
theorem of0_still (b o : Nat) (w : World) :
    Calls Try.prog 71 #[.int .i64 0, .pointer (some ⟨b, o, none⟩)] w fun e w' => e = .returned (.pointer (some ⟨b, o, none⟩)) ∧ w' = w := (of0_any b o w).mono fun _ _ h => ⟨h.1, h.2.symm⟩
theorem of1_still (b o : Nat) (w : World) :
    Calls Try.prog 71 #[.int .i64 1, .pointer (some ⟨b, o, none⟩)] w fun e w' => e = .returned (.pointer (some ⟨b, o + 1, none⟩)) ∧ w' = w := (of1_any b o w).mono fun _ _ h => ⟨h.1, h.2.symm⟩
/-- what Bounds tells. -/
def boundsV (l : List Pt) : Value := match boundsP l with
  | some (lo, hi) => .tuple #[boxV lo hi, .bool true]
  | none => .tuple #[boxV p0 p0, .bool false]
def boxRow (a b c d : Int) : Array Value := #[.int .i64 a, .int .i64 b, .int .i64 c, .int .i64 d]
theorem box_cells {w : World} {g : Nat} {t : TypeId} {fr : Nat × Nat} {a b c d : Int} (h : w.heap[g]? = some (.cells (boxRow a b c d) t fr)) :
    w.cell? ⟨g, 0, none⟩ = some (.int .i64 a) ∧ w.cell? ⟨g, 1, none⟩ = some (.int .i64 b) ∧ w.cell? ⟨g, 2, none⟩ = some (.int .i64 c) ∧ w.cell? ⟨g, 3, none⟩ = some (.int .i64 d) :=
  ⟨cell_of_row _ _ _ _ _ _ h, cell_of_row _ _ _ _ _ _ h, cell_of_row _ _ _ _ _ _ h, cell_of_row _ _ _ _ _ _ h⟩
theorem box_frozen {w : World} {g : Nat} {t : TypeId} {a b c d : Int} (h : w.heap[g]? = some (.cells (boxRow a b c d) t (0, 0))) :
    w.frozen? ⟨g, 0, none⟩ = false ∧ w.frozen? ⟨g, 1, none⟩ = false ∧ w.frozen? ⟨g, 2, none⟩ = false ∧ w.frozen? ⟨g, 3, none⟩ = false :=
  ⟨frozen_of_row _ _ _ _ _ h, frozen_of_row _ _ _ _ _ h, frozen_of_row _ _ _ _ _ h, frozen_of_row _ _ _ _ _ h⟩
theorem put0 {w : World} {g : Nat} {t : TypeId} {a b c d : Int} (h : w.heap[g]? = some (.cells (boxRow a b c d) t (0, 0))) (z : Int) : (w.setCell ⟨g, 0, none⟩ (.int .i64 z)).heap[g]? = some (.cells (boxRow z b c d) t (0, 0)) := heap_setCell_same w g 0 _ _ _ h
theorem put1 {w : World} {g : Nat} {t : TypeId} {a b c d : Int} (h : w.heap[g]? = some (.cells (boxRow a b c d) t (0, 0))) (z : Int) : (w.setCell ⟨g, 1, none⟩ (.int .i64 z)).heap[g]? = some (.cells (boxRow a z c d) t (0, 0)) := heap_setCell_same w g 1 _ _ _ h
theorem put2 {w : World} {g : Nat} {t : TypeId} {a b c d : Int} (h : w.heap[g]? = some (.cells (boxRow a b c d) t (0, 0))) (z : Int) : (w.setCell ⟨g, 2, none⟩ (.int .i64 z)).heap[g]? = some (.cells (boxRow a b z d) t (0, 0)) := heap_setCell_same w g 2 _ _ _ h
theorem put3 {w : World} {g : Nat} {t : TypeId} {a b c d : Int} (h : w.heap[g]? = some (.cells (boxRow a b c d) t (0, 0))) (z : Int) : (w.setCell ⟨g, 3, none⟩ (.int .i64 z)).heap[g]? = some (.cells (boxRow a b c z) t (0, 0)) := heap_setCell_same w g 3 _ _ _ h
theorem grew_setCell {w w1 : World} (h : Grew w w1) {g o : Nat} (hg : w.heap.size ≤ g) (v : Value) : Grew w (w1.setCell ⟨g, o, none⟩ v) := ⟨h.1.setCell (p := ⟨g, o, none⟩) hg v, h.2⟩
theorem maxK_x {P : List Pt} {n : Nat} {z : Pt} (ha : true = P.all validP) (hl : P.length = n) (hz : z = P.getD 0 p0) (k : Nat) : (-1099511627775 ≤ maxK Pt.x z.x P k ∧ maxK Pt.x z.x P k ≤ 1099511627775) := by
  have hall := List.all_eq_true.1 ha.symm
  have hv : validP z = true := by
    rw [hz]
    cases P with
    | nil => rfl
    | cons a m => exact hall a (by simp)
  rw [validP_iff] at hv
  unfold maxK
  have key : ∀ (l : List Pt) (q : Int), (∀ v ∈ l, validP v = true) → (-1099511627775 ≤ q ∧ q ≤ 1099511627775) → (-1099511627775 ≤ l.foldl (fun z v => max z (Pt.x v)) q ∧ l.foldl (fun z v => max z (Pt.x v)) q ≤ 1099511627775) := by
    intro l
    induction l with
    | nil => intro q _ h; exact h
    | cons a m ih =>
      intro q h hq
      have ha := h a (by simp)
      rw [validP_iff] at ha
      exact ih (max q a.x) (fun v hv => h v (by simp [hv])) (by omega)
  exact key _ _ (fun v hv => hall v (List.mem_of_mem_take hv)) hv.1
theorem maxK_y {P : List Pt} {n : Nat} {z : Pt} (ha : true = P.all validP) (hl : P.length = n) (hz : z = P.getD 0 p0) (k : Nat) : (-1099511627775 ≤ maxK Pt.y z.y P k ∧ maxK Pt.y z.y P k ≤ 1099511627775) := by
  have hall := List.all_eq_true.1 ha.symm
  have hv : validP z = true := by
    rw [hz]
    cases P with
    | nil => rfl
    | cons a m => exact hall a (by simp)
  rw [validP_iff] at hv
  unfold maxK
  have key : ∀ (l : List Pt) (q : Int), (∀ v ∈ l, validP v = true) → (-1099511627775 ≤ q ∧ q ≤ 1099511627775) → (-1099511627775 ≤ l.foldl (fun z v => max z (Pt.y v)) q ∧ l.foldl (fun z v => max z (Pt.y v)) q ≤ 1099511627775) := by
    intro l
    induction l with
    | nil => intro q _ h; exact h
    | cons a m ih =>
      intro q h hq
      have ha := h a (by simp)
      rw [validP_iff] at ha
      exact ih (max q a.y) (fun v hv => h v (by simp [hv])) (by omega)
  exact key _ _ (fun v hv => hall v (List.mem_of_mem_take hv)) hv.2
theorem heap_other {w : World} {b g off : Nat} {v : Value} (h : b ≠ g) : (w.setCell ⟨g, off, none⟩ v).heap[b]? = w.heap[b]? := Below.heap_setCell _ _ _ _ h
theorem cell_other {w : World} {b o g off : Nat} {v : Value} (h : b ≠ g) : (w.setCell ⟨g, off, none⟩ v).cell? ⟨b, o, none⟩ = w.cell? ⟨b, o, none⟩ := by
  unfold World.cell?
  rw [heap_other h]
theorem load_box {w : World} {g : Nat} {a b c d : Int} (h : w.cell? ⟨g, 0, none⟩ = some (.int .i64 a) ∧ w.cell? ⟨g, 1, none⟩ = some (.int .i64 b) ∧ w.cell? ⟨g, 2, none⟩ = some (.int .i64 c) ∧ w.cell? ⟨g, 3, none⟩ = some (.int .i64 d)) : (loadVar 47 ⟨g, 0, none⟩).run Try.prog w = .ok (.agg (boxRow a b c d)) w := by
  have hl : (loadCells ⟨g, 0, none⟩ (boxRow a b c d).toList.length).run Try.prog w = .ok (boxRow a b c d).toList.toArray w :=
    run_loadCells_list (P := Try.prog) w ⟨g, 0, none⟩ (boxRow a b c d).toList (fun j v hv => by
      have hadd : (⟨g, 0, none⟩ : Addr).add j = ⟨g, j, none⟩ := by unfold Addr.add; split <;> simp_all
      rw [hadd]
      match j, hv with
      | 0, hv => cases hv; exact h.1
      | 1, hv => cases hv; exact h.2.1
      | 2, hv => cases hv; exact h.2.2.1
      | 3, hv => cases hv; exact h.2.2.2)
  have e5 : (boxRow a b c d).toList.length = 4 := rfl
  rw [e5] at hl
  have ha : ∀ w, (isAgg 47).run Try.prog w = .ok true w := Try.isAgg47
  have hz : ∀ w, (Go.sizeOf 47).run Try.prog w = .ok 4 w := Try.sizeOf47
  simp [loadVar, Sem.run_bind, ha, hz, hl, Result.andThen_ok]
theorem results_box {fn : Func} {p u : Tmp} (h : fn.results = #[.cell p 47, .tmp u]) {tmps : Array Value} {w : World} {g : Nat} {a b c d : Int}
    (hp : tmps.getD p undef = .pointer (some ⟨g, 0, none⟩)) (hg : w.heap[g]? = some (.cells (boxRow a b c d) 47 (0, 0))) :
    (results fn tmps).run Try.prog w = .ok (.tuple #[.agg (boxRow a b c d), tmps.getD u undef]) w := by
  rw [results_cell_tmp h, hp]
  simp [asAddr, load_box (box_cells hg), Result.andThen_ok]
theorem put_box {w : World} {g : Nat} {t : TypeId} {a b c d : Int} (h : w.heap[g]? = some (.cells (boxRow a b c d) t (0, 0))) (a2 b2 c2 d2 : Int) : (w.setCells g 0 (boxRow a2 b2 c2 d2).toList).heap[g]? = some (.cells (boxRow a2 b2 c2 d2) t (0, 0)) := put3 (put2 (put1 (put0 h a2) b2) c2) d2
theorem idx_two {t e : TypeId} (ht : Try.prog.underlying t = some (.array 2 e)) (ha : ∀ w, (isAgg e).run Try.prog w = .ok false w) (hs : ∀ w, (Go.sizeOf e).run Try.prog w = .ok 1 w) (a b : Value) (w : World) :
    (Instr.index t (.agg #[a, b]) (.int .i64 0)).run Try.prog w = .ok a w ∧ (Instr.index t (.agg #[a, b]) (.int .i64 1)).run Try.prog w = .ok b w := by
  constructor <;> simp [Instr.index, asIntOf, run_underlying ht, part, ha, hs, Result.andThen_ok]
end Go.Proofs.Ytgijaaklhdcgeaa

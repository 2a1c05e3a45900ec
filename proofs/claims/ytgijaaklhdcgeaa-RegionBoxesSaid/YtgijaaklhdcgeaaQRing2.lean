/- ring.size -/
import Derived.Test.YtgijaaklhdcgeaaQRing1
set_option linter.unusedSimpArgs false
set_option linter.unusedVariables false
namespace Go.Proofs.Ytgijaaklhdcgeaa
open Go.RowKit Go.Geo
attribute [local go_sem] Oper.semAt_some
/-- what a look at a ring tells: a fault, or none. -/
def lookV (o : Option (Int × Int)) : Value := match o with
  | some x => .tuple #[faultV x, .bool true]
  | none => .tuple #[faultV (0, 0), .bool false]
theorem put_two {w : World} {g : Nat} {t : TypeId} {a b : Value} (h : w.heap[g]? = some (.cells #[a, b] t (0, 0))) (x y : Value) : ((w.setCell ⟨g, 0, none⟩ x).setCell ⟨g, 1, none⟩ y).heap[g]? = some (.cells #[x, y] t (0, 0)) :=
  heap_setCell_same _ _ 1 _ _ _ (heap_setCell_same _ _ 0 _ _ _ h)
/-- the fault's cell, after a call that grew the memory. -/
theorem fault_cells {w w2 : World} (hg : Grew (w.alloc (.cells #[.int .i64 0, .int .i64 0] 32)) w2) : w2.cell? ⟨w.heap.size, 0, none⟩ = some (.int .i64 0) ∧ w2.cell? ⟨w.heap.size, 1, none⟩ = some (.int .i64 0) ∧ w2.frozen? ⟨w.heap.size, 0, none⟩ = false ∧ w2.frozen? ⟨w.heap.size, 1, none⟩ = false ∧ Hid (Grew w w2 ∧ w2.heap[w.heap.size]? = some (.cells #[.int .i64 0, .int .i64 0] 32 (0, 0))) := by
  have hr := (hg.1.block w.heap.size (by simp)).trans (alloc_new _ _)
  exact ⟨cell_of_row _ _ _ _ _ _ hr, cell_of_row _ _ _ _ _ _ hr, frozen_of_row _ _ _ _ _ hr, frozen_of_row _ _ _ _ _ hr, Lib.hid ⟨((Grew.refl w).alloc _).trans hg, hr⟩⟩
/-- the end of a look: its result stands in the fault's cell. -/
theorem look_end {fn : Func} {p u : Tmp} {o : Option (Int × Int)} {w w2 w3 : World} {a : Act} {x y : Int} {bb : Bool} (h : fn.results = #[.cell p 32, .tmp u]) (hp : a.tmps.getD p undef = .pointer (some ⟨w.heap.size, 0, none⟩)) (hu : a.tmps.getD u undef = .bool bb) (hd : a.defers = [])
    (hr : Hid (Grew w w2 ∧ w2.heap[w.heap.size]? = some (.cells #[.int .i64 0, .int .i64 0] 32 (0, 0)))) (hw : w3 = (w2.setCell ⟨w.heap.size, 0, none⟩ (.int .i64 x)).setCell ⟨w.heap.size, 1, none⟩ (.int .i64 y)) (ho : lookV o = .tuple #[faultV (x, y), .bool bb]) :
    bodyPost Try.prog fn (fun e w' => e = .returned (lookV o) ∧ Grew w w') .ret a w3 := by
  subst hw
  refine bodyPost_ret (results_fault h hp (put_two hr.out.2 _ _)) hd ⟨?_, grew_setCell (grew_setCell hr.out.1 (Nat.le_refl _) _) (Nat.le_refl _) _⟩
  rw [ho, hu]
  rfl
def sizeL (n : Nat) : Option (Int × Int) := if 200 < n then some (3, 0) else if n < 3 then some (190, 0) else none
set_option maxRecDepth 100000 in
theorem size_any (ao : Option Addr) (n cap : Nat) (w : World) (hm : n ≤ maxLen) : Calls Try.prog 55 #[.slice ao n cap] w fun e w' => e = .returned (lookV (sizeL n)) ∧ Grew w w' := by
  have HB := Lib.hid bad_any
  unfold maxLen at hm
  obtain ⟨o, ho⟩ : ∃ o, o = sizeL n := ⟨_, rfl⟩
  have HO := Lib.hid ho
  rw [← ho]
  clear ho
  go_enter Try.func55, Try.ntmps55
  by_cases h1 : 200 < n
  · have hi : (200 : Int) < (n : Int) := by omega
    obtain rfl : o = some (3, 0) := by rw [HO.out]; unfold sizeL; rw [if_pos h1]
    go_wp2_with fail
    refine (HB.out 3 0 _).mono ?_
    rintro e w2 ⟨rfl, hg⟩
    unfold faultV
    obtain ⟨c0, c1, f0, f1, HG⟩ := fault_cells hg
    clear hg
    go_wp2_with fail
    exact look_end rfl rfl rfl rfl HG rfl rfl
  · have hi : ¬ ((200 : Int) < (n : Int)) := by omega
    by_cases h2 : n < 3
    · have hi2 : (n : Int) < 3 := by omega
      obtain rfl : o = some (190, 0) := by rw [HO.out]; unfold sizeL; rw [if_neg h1, if_pos h2]
      go_wp2_with fail
      refine (HB.out 190 0 _).mono ?_
      rintro e w2 ⟨rfl, hg⟩
      unfold faultV
      obtain ⟨c0, c1, f0, f1, HG⟩ := fault_cells hg
      clear hg
      go_wp2_with fail
      exact look_end rfl rfl rfl rfl HG rfl rfl
    · have hi2 : ¬ ((n : Int) < 3) := by omega
      obtain rfl : o = none := by rw [HO.out]; unfold sizeL; rw [if_neg h1, if_neg h2]
      go_wp2_with fail
      exact bodyPost_ret (results_fault rfl rfl (alloc_new _ _)) rfl ⟨rfl, (Grew.refl _).alloc _⟩
end Go.Proofs.Ytgijaaklhdcgeaa

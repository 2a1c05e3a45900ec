/- juris: what the values are; the world has only grown; place -/
import Derived.Test.YtbidappkmnedaaaRows
import Derived.WalkKit
import Derived.ProofKit
import Derived.Below
import Derived.Lib.Hide
import Derived.Sort.Grow
import Derived.Deep.RegionWith
import Derived.Deep.RegionHeld3
import Derived.Orders
import Derived.OrdersIn
import Derived.BigQuiet
import Derived.Shelf.Abstract
import Derived.StillTactics
import Derived.Laws.AppendOwnNone
import Derived.Lib.SliceRun
import Derived.WalkSpells
import Derived.Laws.Rows
import Derived.Laws.ResultCell
namespace Go.Proofs.Ytbidappkmnedaaa
open Go.RowKit
/-- a jurisdiction: four numbers, and its region's one cell, a slice. -/
structure Jur where
  id : Int
  ki : Int
  pa : Int
  fi : Int
  ra : Option Addr
  rn : Nat
  rc : Nat
def j0 : Jur := ⟨0, 0, 0, 0, none, 0, 0⟩
def Jur.row (j : Jur) : Array Value := #[.int .i64 j.id, .int .i64 j.ki, .int .i64 j.pa, .int .i64 j.fi, .slice j.ra j.rn j.rc]
def Jur.val (j : Jur) : Value := .agg j.row
def Jur.get (j : Jur) : Nat → Value
  | 0 => .int .i64 j.id
  | 1 => .int .i64 j.ki
  | 2 => .int .i64 j.pa
  | 3 => .int .i64 j.fi
  | _ => .slice j.ra j.rn j.rc
theorem Jur.row_get (j : Jur) : ∀ i, i < 5 → j.row[i]? = some (j.get i) := by
  intro i hi
  match i, hi with
  | 0, _ => rfl
  | 1, _ => rfl
  | 2, _ => rfl
  | 3, _ => rfl
  | 4, _ => rfl
/-- the slice holds these jurisdictions. -/
def JursAt (w : World) (b off n : Nat) (L : List Jur) : Prop := ∀ i, i < n → ∀ j, j < 5 → w.cell? ⟨b, off + i * 5 + j, none⟩ = some ((L.getD i j0).get j)
def IsJurs (w : World) (ao : Option Addr) (n cap : Nat) (L : List Jur) : Prop :=
  L.length = n ∧ n ≤ cap ∧ cap ≤ maxLen ∧ (0 < n → ∃ b off, ao = some ⟨b, off, none⟩ ∧ JursAt w b off n L) ∧ (ao = none → n = 0 ∧ cap = 0)
theorem JursAt.lt {w : World} {b off n : Nat} {L : List Jur} (h : JursAt w b off n L) (hl : 0 < n) : b < w.heap.size := block_lt_of_cell (h 0 hl 0 (by omega))
theorem JursAt.later {w w' : World} {b off n : Nat} {L : List Jur} {B : Nat} (h : JursAt w b off n L) (hb : Below B w w') (hB : b < B) : JursAt w' b off n L :=
  fun i hi j hj => (hb.cell (p := ⟨b, off + i * 5 + j, none⟩) hB).trans (h i hi j hj)
theorem IsJurs.later {w w' : World} {B : Nat} {ao : Option Addr} {n cap : Nat} {L : List Jur} (h : IsJurs w ao n cap L) (hb : Below B w w') (hB : w.heap.size ≤ B) : IsJurs w' ao n cap L := by
  obtain ⟨h1, h2, h3, h4, h5⟩ := h
  refine ⟨h1, h2, h3, fun hn => ?_, h5⟩
  obtain ⟨b, off, rfl, hc⟩ := h4 hn
  exact ⟨b, off, rfl, hc.later hb (Nat.lt_of_lt_of_le (hc.lt hn) hB)⟩
theorem below_drewN {w0 w : World} {B : Nat} (h : Below B w0 w) (q : Nat) : Below B w0 (w.drewN q) := ⟨h.os, h.tape, h.output, h.size, h.block⟩
/-- the world has only grown: new blocks, draws. -/
def Grew (w w' : World) : Prop := Below w.heap.size w w' ∧ w.drawn ≤ w'.drawn
theorem Grew.refl (w : World) : Grew w w := ⟨Below.refl _ _, Nat.le_refl _⟩
theorem Grew.alloc {a w : World} (h : Grew a w) (o : Obj) : Grew a (w.alloc o) := ⟨h.1.alloc h.1.size _, h.2⟩
theorem Grew.drewN {a w : World} (h : Grew a w) (q : Nat) : Grew a (w.drewN q) := ⟨below_drewN h.1 q, Nat.le_trans h.2 (Nat.le_add_right _ _)⟩
theorem Grew.drew {a w : World} (h : Grew a w) : Grew a w.drew := ⟨h.1.drew, Nat.le_trans h.2 (Nat.le_succ _)⟩
theorem Grew.trans {a b c : World} (h : Grew a b) (k : Grew b c) : Grew a c := ⟨h.1.trans (k.1.mono h.1.size), Nat.le_trans h.2 k.2⟩
theorem Grew.size {a b : World} (h : Grew a b) : a.heap.size ≤ b.heap.size := h.1.size
theorem Grew.grow {w w' : World} (h : Grew w w') : ∃ q os, w' = Sort.grow (w.drewN q) os := by
  obtain ⟨⟨ho, ht, hu, hs, hb⟩, hd⟩ := h
  refine ⟨w'.drawn - w.drawn, w'.heap.extract w.heap.size w'.heap.size, ?_⟩
  have hh : w'.heap = w.heap ++ w'.heap.extract w.heap.size w'.heap.size := by
    apply Array.ext_getElem?
    intro i
    rw [Array.getElem?_append]
    by_cases hi : i < w.heap.size
    · rw [if_pos hi]; exact hb i hi
    · rw [if_neg hi, Array.getElem?_extract]
      by_cases h2 : i < w'.heap.size
      · rw [if_pos (by omega)]; congr 1; omega
      · rw [if_neg (by omega), Array.getElem?_eq_none (by omega)]
  cases w'
  simp only at *
  unfold Sort.grow World.drewN
  simp only [World.mk.injEq]
  refine ⟨hh, ?_⟩
  first | exact ⟨ht, by omega, ho, hu⟩ | (refine ⟨?_, ?_, ?_, ?_⟩ <;> first | assumption | omega)
theorem IsJurs.grew {w w' : World} {ao : Option Addr} {n cap : Nat} {L : List Jur} (h : IsJurs w ao n cap L) (hb : Grew w w') : IsJurs w' ao n cap L := h.later hb.1 (Nat.le_refl _)
theorem Grew.cell {w w' : World} (h : Grew w w') {b o : Nat} {v : Value} (hc : w.cell? ⟨b, o, none⟩ = some v) : w'.cell? ⟨b, o, none⟩ = some v :=
  (h.1.cell (p := ⟨b, o, none⟩) (block_lt_of_cell hc)).trans hc
theorem alloc_new (w : World) (o : Obj) : (w.alloc o).heap[w.heap.size]? = some o := by
  show (w.heap.push o)[w.heap.size]? = _
  simp
theorem alloc_new2 (w : World) (o o2 : Obj) : ((w.alloc o).alloc o2).heap[w.heap.size + 1]? = some o2 := by
  have := alloc_new (w.alloc o) o2
  rwa [show (w.alloc o).heap.size = w.heap.size + 1 by simp] at this
theorem alloc_cell (w : World) (v : Value) (t : TypeId) : (w.alloc (.cells #[v] t)).cell? ⟨w.heap.size, 0, none⟩ = some v := cell_of_row _ _ _ _ _ _ (alloc_new w _)
/-- where a number is. -/
def atJ (L : List Jur) (x : Int) : Option Nat := L.findIdx? fun j => decide (j.id = x)
def placeJ (L : List Jur) (x : Int) : Int := match atJ L x with
  | none => -1
  | some i => (i : Int)
theorem atJ_some {L : List Jur} {x : Int} {k n : Nat} (hl : L.length = n) (hk : k < n) (h : (L.getD k j0).id = x) (hb : ∀ i, i < k → (L.getD i j0).id ≠ x) : atJ L x = some k := by
  unfold atJ
  rw [List.findIdx?_eq_some_iff_getElem]
  have e : ∀ i (hi : i < L.length), L[i] = L.getD i j0 := fun i hi => by rw [List.getD_eq_getElem?_getD, List.getElem?_eq_getElem hi]; rfl
  refine ⟨by omega, by rw [e k (by omega)]; simpa using h, fun i hi => ?_⟩
  rw [e i (by omega)]
  simpa using hb i hi
theorem atJ_none {L : List Jur} {x : Int} {n : Nat} (hl : L.length = n) (hb : ∀ i, i < n → (L.getD i j0).id ≠ x) : atJ L x = none := by
  unfold atJ
  rw [List.findIdx?_eq_none_iff]
  intro j hj
  obtain ⟨i, hi, rfl⟩ := List.mem_iff_getElem.1 hj
  have := hb i (by omega)
  rw [List.getD_eq_getElem?_getD, List.getElem?_eq_getElem hi, Option.getD_some] at this
  simpa using this
theorem atJ_lt {L : List Jur} {x : Int} {k : Nat} (h : atJ L x = some k) : k < L.length ∧ (L.getD k j0).id = x ∧ ∀ i, i < k → (L.getD i j0).id ≠ x := by
  unfold atJ at h
  rw [List.findIdx?_eq_some_iff_getElem] at h
  obtain ⟨h1, h2, h3⟩ := h
  have e : ∀ i (hi : i < L.length), L[i] = L.getD i j0 := fun i hi => by rw [List.getD_eq_getElem?_getD, List.getElem?_eq_getElem hi]; rfl
  refine ⟨h1, by rw [e k h1] at h2; simpa using h2, fun i hi => ?_⟩
  have := h3 i hi
  rw [e i (by omega)] at this
  simpa using this
theorem one_any (j : Jur) (x : Int) (B : Nat) (w : World) (hB : w.cell? ⟨B, 0, none⟩ = some (.int .i64 x)) :
    Calls Try.prog 45 #[j.val, .pointer (some ⟨B, 0, none⟩)] w fun e w' => e = .returned (.bool (decide (j.id = x))) ∧ Grew w w' := by
  obtain ⟨d1, d2, d3, d4, d5, d6, d7⟩ := j
  have hc : (w.alloc (Obj.cells #[Value.int .i64 d1, .int .i64 d2, .int .i64 d3, .int .i64 d4, .slice d5 d6 d7] 33)).cell? ⟨B, 0, none⟩ = some (.int .i64 x) := ((Grew.refl w).alloc _).cell hB
  unfold Jur.val Jur.row
  dsimp only
  go_enter Try.func45, Try.ntmps45
  go_wp2
  go_ret
  exact ⟨by rfl, (Grew.refl _).alloc _⟩
theorem load_jur {w : World} {g : Nat} (c : Jur) (h : ∀ j, j < 5 → w.cell? ⟨g, j, none⟩ = some (c.get j)) : (loadVar 33 ⟨g, 0, none⟩).run Try.prog w = .ok c.val w := by
  have hl : (loadCells ⟨g, 0, none⟩ c.row.toList.length).run Try.prog w = .ok c.row.toList.toArray w :=
    run_loadCells_list (P := Try.prog) w ⟨g, 0, none⟩ c.row.toList (fun j v hv => by
      have hadd : (⟨g, 0, none⟩ : Addr).add j = ⟨g, j, none⟩ := by unfold Addr.add; split <;> simp_all
      have hj : j < 5 := (List.getElem?_eq_some_iff.1 hv).1
      have e := c.row_get j hj
      rw [← Array.getElem?_toList, hv] at e
      cases e
      rw [hadd, h j hj])
  have e5 : c.row.toList.length = 5 := rfl
  rw [e5] at hl
  have ha : ∀ w, (isAgg 33).run Try.prog w = .ok true w := Try.isAgg33
  have hz : ∀ w, (Go.sizeOf 33).run Try.prog w = .ok 5 w := Try.sizeOf33
  simp [loadVar, Sem.run_bind, ha, hz, hl, Result.andThen_ok]
  rfl
theorem results_jur {fn : Func} {p u : Tmp} (h : fn.results = #[.cell p 33, .tmp u]) {tmps : Array Value} {w : World} {g : Nat} (c : Jur)
    (hp : tmps.getD p undef = .pointer (some ⟨g, 0, none⟩)) (hg : ∀ j, j < 5 → w.cell? ⟨g, j, none⟩ = some (c.get j)) :
    (results fn tmps).run Try.prog w = .ok (.tuple #[c.val, tmps.getD u undef]) w := by
  rw [results_cell_tmp h, hp]
  simp [asAddr, load_jur c hg, Result.andThen_ok]
theorem cells_row {w : World} {g : Nat} {t : TypeId} {fr : Nat × Nat} (c : Jur) (h : w.heap[g]? = some (.cells c.row t fr)) : ∀ j, j < 5 → w.cell? ⟨g, j, none⟩ = some (c.get j) :=
  fun j hj => (cell_of_row _ _ _ _ _ _ h).trans (c.row_get j hj)
theorem jur_box {w : World} {g : Nat} {t : TypeId} (c : Jur) (h : w.heap[g]? = some (.cells c.row t (0, 0))) :
    w.cell? ⟨g, 0, none⟩ = some (.int .i64 c.id) ∧ w.cell? ⟨g, 1, none⟩ = some (.int .i64 c.ki) ∧ w.cell? ⟨g, 2, none⟩ = some (.int .i64 c.pa) ∧ w.cell? ⟨g, 3, none⟩ = some (.int .i64 c.fi) ∧ w.cell? ⟨g, 4, none⟩ = some (.slice c.ra c.rn c.rc) ∧
    w.frozen? ⟨g, 0, none⟩ = false ∧ w.frozen? ⟨g, 1, none⟩ = false ∧ w.frozen? ⟨g, 2, none⟩ = false ∧ w.frozen? ⟨g, 3, none⟩ = false ∧ w.frozen? ⟨g, 4, none⟩ = false :=
  ⟨cells_row c h 0 (by omega), cells_row c h 1 (by omega), cells_row c h 2 (by omega), cells_row c h 3 (by omega), cells_row c h 4 (by omega),
    frozen_of_row _ _ _ _ _ h, frozen_of_row _ _ _ _ _ h, frozen_of_row _ _ _ _ _ h, frozen_of_row _ _ _ _ _ h, frozen_of_row _ _ _ _ _ h⟩
theorem heap_put {w : World} {g : Nat} {t : TypeId} {a : Jur} (h : w.heap[g]? = some (.cells a.row t (0, 0))) (c : Jur) : (w.setCells g 0 c.row.toList).heap[g]? = some (.cells c.row t (0, 0)) := by
  have h0 := heap_setCell_same w g 0 _ _ (.int .i64 c.id) h
  have h1 := heap_setCell_same _ g 1 _ _ (.int .i64 c.ki) h0
  have h2 := heap_setCell_same _ g 2 _ _ (.int .i64 c.pa) h1
  have h3 := heap_setCell_same _ g 3 _ _ (.int .i64 c.fi) h2
  have h4 := heap_setCell_same _ g 4 _ _ (.slice c.ra c.rn c.rc) h3
  simp [Jur.row] at h4
  exact h4
theorem Grew.heap_new {w w1 : World} {o : Obj} (h : Grew (w.alloc o) w1) : w1.heap[w.heap.size]? = some o :=
  (h.1.block w.heap.size (by simp)).trans (alloc_new w o)
theorem grew_put {w : World} {g : Nat} (hg : w.heap.size ≤ g) : ∀ (vs : List Value) (o : Nat) (w1 : World), Grew w w1 → Grew w (w1.setCells g o vs)
  | [], _, _, h => h
  | v :: r, o, _, h => grew_put hg r (o + 1) _ ⟨h.1.setCell (p := ⟨g, o, none⟩) hg v, h.2⟩
end Go.Proofs.Ytbidappkmnedaaa

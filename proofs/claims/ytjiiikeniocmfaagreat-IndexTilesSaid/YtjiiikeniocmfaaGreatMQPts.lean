/- plain law of boxes, of rings that meet, of regions: no program in sight -/
import Derived.Test.YtjiiikeniocmfaaGreatMGeo2
import Derived.Test.YtjiiikeniocmfaaGreatRows
import Derived.WalkKit
import Derived.ProofKit
import Derived.Below
import Derived.Lib.Hide
import Derived.Sort.Grow
import Derived.Deep.RegionWith
import Derived.Deep.RegionHeld3
import Derived.Orders
import Derived.OrdersIn
import Derived.BigQuiet
import Derived.Shelf.Abstract
import Derived.StillTactics
import Derived.Laws.AppendOwnNone
import Derived.Lib.SliceRun
import Derived.WalkSpells
import Derived.Laws.Rows
import Derived.Laws.ResultCell
import Derived.Deep.Slices
import Derived.ChangeShapes
import Derived.SizedLaws
import Derived.Laws.StructEq
import Derived.Deep.QuietTactic
namespace Go.Geo
/-- the box of points: the lowest, and one more than the highest. -/
def boundsP (l : List Pt) : Option (Pt × Pt) := match l with
  | [] => none
  | a :: m => if (a :: m).all validP then some (⟨m.foldl (fun z v => min z v.x) a.x, m.foldl (fun z v => min z v.y) a.y⟩, ⟨m.foldl (fun z v => max z v.x) a.x + 1, m.foldl (fun z v => max z v.y) a.y + 1⟩) else none
theorem foldl_min_le (f : Pt → Int) : ∀ (m : List Pt) (z : Int), m.foldl (fun z v => min z (f v)) z ≤ z ∧ ∀ v ∈ m, m.foldl (fun z v => min z (f v)) z ≤ f v
  | [], z => ⟨Int.le_refl _, fun v hv => by cases hv⟩
  | a :: m, z => by
    obtain ⟨h1, h2⟩ := foldl_min_le f m (min z (f a))
    refine ⟨by simp only [List.foldl_cons]; omega, fun v hv => ?_⟩
    simp only [List.foldl_cons]
    rcases List.mem_cons.1 hv with rfl | hv
    · omega
    · exact h2 v hv
theorem foldl_max_ge (f : Pt → Int) : ∀ (m : List Pt) (z : Int), z ≤ m.foldl (fun z v => max z (f v)) z ∧ ∀ v ∈ m, f v ≤ m.foldl (fun z v => max z (f v)) z
  | [], z => ⟨Int.le_refl _, fun v hv => by cases hv⟩
  | a :: m, z => by
    obtain ⟨h1, h2⟩ := foldl_max_ge f m (max z (f a))
    refine ⟨by simp only [List.foldl_cons]; omega, fun v hv => ?_⟩
    simp only [List.foldl_cons]
    rcases List.mem_cons.1 hv with rfl | hv
    · omega
    · exact h2 v hv
theorem bounds_in {l : List Pt} {lo hi : Pt} (h : boundsP l = some (lo, hi)) : (∀ v ∈ l, validP v = true) ∧ ∀ v ∈ l, lo.x ≤ v.x ∧ v.x < hi.x ∧ lo.y ≤ v.y ∧ v.y < hi.y := by
  cases l with
  | nil => cases h
  | cons a m =>
    unfold boundsP at h
    dsimp only at h
    split at h
    · rename_i hall
      injection h with h
      injection h with h1 h2
      subst h1
      subst h2
      refine ⟨fun v hv => List.all_eq_true.1 hall v hv, fun v hv => ?_⟩
      have k1 := foldl_min_le (fun v => v.x) m a.x
      have k2 := foldl_min_le (fun v => v.y) m a.y
      have k3 := foldl_max_ge (fun v => v.x) m a.x
      have k4 := foldl_max_ge (fun v => v.y) m a.y
      dsimp only
      rcases List.mem_cons.1 hv with rfl | hv
      · omega
      · have := k1.2 v hv
        have := k2.2 v hv
        have := k3.2 v hv
        have := k4.2 v hv
        omega
    · cases h
/-- a point in a box: the low sides are in it. -/
def boxIn (p lo hi : Pt) : Bool := decide (lo.x ≤ p.x) && decide (p.x < hi.x) && decide (lo.y ≤ p.y) && decide (p.y < hi.y)
def boxMeet (lo hi lo2 hi2 : Pt) : Bool := decide (max lo.x lo2.x < min hi.x hi2.x) && decide (max lo.y lo2.y < min hi.y hi2.y)
/-- a region's points: in an odd number of rings. -/
def inR (p : Pt) : List (List Pt) → Bool
  | [] => false
  | r :: g => inP p r ^^ inR p g
theorem inR_some {p : Pt} : ∀ {g : List (List Pt)}, inR p g = true → ∃ r ∈ g, inP p r = true
  | [], h => by cases h
  | r :: g, h => by
    by_cases q : inP p r = true
    · exact ⟨r, by simp, q⟩
    · have q : inP p r = false := by simpa using q
      rw [inR, q] at h
      obtain ⟨s, hs, h⟩ := inR_some (g := g) (by simpa using h)
      exact ⟨s, List.mem_cons_of_mem _ hs, h⟩
/-- what is in a region is in its box. -/
theorem inR_box {p lo hi : Pt} {g : List (List Pt)} (hb : boundsP g.flatten = some (lo, hi)) (h : inR p g = true) : boxIn p lo hi = true := by
  obtain ⟨r, hr, h⟩ := inR_some h
  obtain ⟨k1, k2⟩ := bounds_in hb
  have hm : ∀ v ∈ r, v ∈ g.flatten := fun v hv => List.mem_flatten.2 ⟨r, hr, hv⟩
  have := in_box (lx := lo.x) (ly := lo.y) (hx := hi.x - 1) (hy := hi.y - 1) h (fun v hv => k1 v (hm v hv)) (fun v hv => by have := k2 v (hm v hv); omega)
  simp only [boxIn, Bool.and_eq_true, decide_eq_true_eq]
  omega
/-- the box of an edge. -/
theorem bounds_two (p q : Pt) (h : validP p = true ∧ validP q = true) : boundsP [p, q] = some (⟨min p.x q.x, min p.y q.y⟩, ⟨max p.x q.x + 1, max p.y q.y + 1⟩) := by
  simp [boundsP, h.1, h.2]
/-- where edges meet so that rings may not, the one edge's box meets the other ring's. -/
theorem meet_boxes {p q c d lo hi lo2 hi2 : Pt} {l : List Pt} (h : 2 ≤ meetK p q c d) (h1 : boundsP [p, q] = some (lo, hi)) (h2 : boundsP l = some (lo2, hi2)) (hc : c ∈ l) (hd : d ∈ l) : boxMeet lo hi lo2 hi2 = true := by
  have hs := meet_spans h
  obtain ⟨k1, k2⟩ := bounds_in h1
  obtain ⟨_, k3⟩ := bounds_in h2
  have hp := k2 p (by simp)
  have hq := k2 q (by simp)
  have hc := k3 c hc
  have hd := k3 d hd
  unfold spans at hs
  simp only [boxMeet, Bool.and_eq_true, decide_eq_true_eq]
  omega
end Go.Geo

/- plain law: what is wrong with a ring, with a region: no program in sight -/
namespace Go.Geo
def p0 : Pt := ⟨0, 0⟩
/-- the first number below n of which f is so. -/
def firstP (n : Nat) (f : Nat → Bool) : Option Nat := (List.range n).find? f
theorem firstP_none {n : Nat} {f : Nat → Bool} (h : ∀ i, i < n → f i = false) : firstP n f = none := by
  unfold firstP
  rw [List.find?_eq_none]
  intro i hi
  rw [h i (List.mem_range.1 hi)]
  simp
theorem firstP_some {n : Nat} {f : Nat → Bool} {k : Nat} (hk : k < n) (h1 : f k = true) (h : ∀ i, i < k → f i = false) : firstP n f = some k := by
  unfold firstP
  rw [List.find?_eq_some_iff_getElem]
  refine ⟨h1, k, by simpa using hk, by simp, fun j hj => ?_⟩
  rw [List.getElem_range, h j hj]
  rfl
theorem firstP_eq_none {n : Nat} {f : Nat → Bool} (h : firstP n f = none) : ∀ i, i < n → f i = false := by
  intro i hi
  unfold firstP at h
  rw [List.find?_eq_none] at h
  simpa using h i (List.mem_range.2 hi)
theorem firstP_eq_some {n : Nat} {f : Nat → Bool} {k : Nat} (h : firstP n f = some k) : k < n ∧ f k = true ∧ ∀ i, i < k → f i = false := by
  unfold firstP at h
  rw [List.find?_eq_some_iff_getElem] at h
  obtain ⟨h1, i, hi, rfl, h2⟩ := h
  simp only [List.length_range] at hi
  simp only [List.getElem_range] at h1 h2 ⊢
  exact ⟨hi, h1, fun j hj => by simpa using h2 j hj⟩
/-- the i-th point, round the list. -/
def atP (l : List Pt) (i : Nat) : Pt := l.getD (i % l.length) p0
theorem atP_lt {l : List Pt} {i : Nat} (h : i < l.length) : atP l i = l.getD i p0 := by unfold atP; rw [Nat.mod_eq_of_lt h]
def twiceP (l : List Pt) (i : Nat) : Bool := decide (l.getD i p0 ∈ l.take i)
def backP (l : List Pt) (i : Nat) : Bool := decide (turnP (atP l (i + l.length - 1)) (l.getD i p0) (atP l (i + 1)) = 0) && !onP (l.getD i p0) (atP l (i + l.length - 1)) (atP l (i + 1))
/-- are two edges ones that are asked, and do they meet? -/
def meetsAt (l : List Pt) (i k : Nat) : Bool := !(decide (k < i + 2) || (decide (i = 0) && decide (k + 1 = l.length))) && decide (meetK (l.getD i p0) (atP l (i + 1)) (l.getD k p0) (atP l (k + 1)) ≠ 0)
def meetsP (l : List Pt) (i : Nat) : Bool := (List.range l.length).any (meetsAt l i)
def ringCheckP (l : List Pt) : Int × Int :=
  if 200 < l.length then (3, 0) else if l.length < 3 then (190, 0) else
  match firstP l.length (fun i => !validP (l.getD i p0)) with
  | some i => (2, i)
  | none => match firstP l.length (twiceP l) with
    | some i => (191, i)
    | none => match firstP l.length (backP l) with
      | some i => (192, i)
      | none => match firstP l.length (meetsP l) with
        | some i => (193, i)
        | none => (0, 0)
/-- do two rings meet in more than points? -/
def ringsMeet (a b : List Pt) : Bool := (List.range a.length).any fun i => (List.range b.length).any fun k => decide (2 ≤ meetK (a.getD i p0) (atP a (i + 1)) (b.getD k p0) (atP b (k + 1)))
def sumLen (g : List (List Pt)) : Nat := (g.map List.length).sum
def regionCheckP (g : List (List Pt)) : Int × Int :=
  if 20 < g.length then (3, 0) else if g.length = 0 then (2, 0) else if 400 < sumLen g then (211, 0) else
  match firstP g.length (fun i => decide ((ringCheckP (g.getD i [])).1 ≠ 0)) with
  | some i => ((ringCheckP (g.getD i [])).1, i)
  | none => match firstP g.length (fun i => (g.drop (i + 1)).any (fun s => ringsMeet (g.getD i []) s)) with
    | some i => (210, i)
    | none => (0, 0)
/-- a ring that may be: its points may be. -/
theorem ring_ok {l : List Pt} (h : (ringCheckP l).1 = 0) : 3 ≤ l.length ∧ l.length ≤ 200 ∧ ∀ v ∈ l, validP v = true := by
  unfold ringCheckP at h
  split at h
  · cases h
  · split at h
    · cases h
    · split at h
      · cases h
      · rename_i hn
        refine ⟨by omega, by omega, fun v hv => ?_⟩
        obtain ⟨i, hi, rfl⟩ := List.mem_iff_getElem.1 hv
        have := firstP_eq_none hn i hi
        rw [List.getD_eq_getElem?_getD, List.getElem?_eq_getElem hi] at this
        simpa using this
theorem region_ok {g : List (List Pt)} (h : (regionCheckP g).1 = 0) : 0 < g.length ∧ g.length ≤ 20 ∧ sumLen g ≤ 400 ∧ ∀ r ∈ g, (ringCheckP r).1 = 0 := by
  unfold regionCheckP at h
  split at h
  · cases h
  · split at h
    · cases h
    · split at h
      · cases h
      · split at h
        · rename_i i hi
          exact absurd h (by have := (firstP_eq_some hi).2.1; simpa using this)
        · rename_i hn
          refine ⟨by omega, by omega, by omega, fun r hr => ?_⟩
          obtain ⟨i, hi, rfl⟩ := List.mem_iff_getElem.1 hr
          have := firstP_eq_none hn i hi
          rw [List.getD_eq_getElem?_getD, List.getElem?_eq_getElem hi] at this
          simpa using this
/-- a region that may be has a box. -/
theorem region_box {g : List (List Pt)} (h : (regionCheckP g).1 = 0) : ∃ lo hi, boundsP g.flatten = some (lo, hi) := by
  obtain ⟨h0, _, _, hr⟩ := region_ok h
  have hall : ∀ v ∈ g.flatten, validP v = true := fun v hv => by
    obtain ⟨r, hrm, hv⟩ := List.mem_flatten.1 hv
    exact (ring_ok (hr r hrm)).2.2 v hv
  cases hf : g.flatten with
  | nil =>
    exfalso
    have hr0 := hr g[0] (List.getElem_mem h0)
    have := (ring_ok hr0).1
    have : g[0] = [] := List.eq_nil_of_subset_nil (fun x hx => by rw [← hf]; exact List.mem_flatten.2 ⟨_, List.getElem_mem h0, hx⟩)
    rw [this] at hr0
    have := (ring_ok hr0).1
    simp at this
  | cons a m =>
    rw [hf] at hall
    unfold boundsP
    simp only
    rw [if_pos (List.all_eq_true.2 hall)]
    exact ⟨_, _, rfl⟩
end Go.Geo

/- points and rings: what the values are; the world has only grown -/
namespace Go.Proofs.YtjiiikeniocmfaaGreat
open Go.RowKit Go.Geo

theorem below_drewN {w0 w : World} {B : Nat} (h : Below B w0 w) (q : Nat) : Below B w0 (w.drewN q) := ⟨h.os, h.tape, h.output, h.size, h.block⟩
/-- the world has only grown: new blocks, draws. -/
def Grew (w w' : World) : Prop := Below w.heap.size w w' ∧ w.drawn ≤ w'.drawn
theorem Grew.refl (w : World) : Grew w w := ⟨Below.refl _ _, Nat.le_refl _⟩
theorem Grew.alloc {a w : World} (h : Grew a w) (o : Obj) : Grew a (w.alloc o) := ⟨h.1.alloc h.1.size _, h.2⟩
theorem Grew.drewN {a w : World} (h : Grew a w) (q : Nat) : Grew a (w.drewN q) := ⟨below_drewN h.1 q, Nat.le_trans h.2 (Nat.le_add_right _ _)⟩
theorem Grew.drew {a w : World} (h : Grew a w) : Grew a w.drew := ⟨h.1.drew, Nat.le_trans h.2 (Nat.le_succ _)⟩
theorem Grew.trans {a b c : World} (h : Grew a b) (k : Grew b c) : Grew a c := ⟨h.1.trans (k.1.mono h.1.size), Nat.le_trans h.2 k.2⟩
theorem Grew.size {a b : World} (h : Grew a b) : a.heap.size ≤ b.heap.size := h.1.size
theorem Grew.grow {w w' : World} (h : Grew w w') : ∃ q os, w' = Sort.grow (w.drewN q) os := by
  obtain ⟨⟨ho, ht, hu, hs, hb⟩, hd⟩ := h
  refine ⟨w'.drawn - w.drawn, w'.heap.extract w.heap.size w'.heap.size, ?_⟩
  have hh : w'.heap = w.heap ++ w'.heap.extract w.heap.size w'.heap.size := by
    apply Array.ext_getElem?
    intro i
    rw [Array.getElem?_append]
    by_cases hi : i < w.heap.size
    · rw [if_pos hi]; exact hb i hi
    · rw [if_neg hi, Array.getElem?_extract]
      by_cases h2 : i < w'.heap.size
      · rw [if_pos (by omega)]; congr 1; omega
      · rw [if_neg (by omega), Array.getElem?_eq_none (by omega)]
  cases w'
  simp only at *
  unfold Sort.grow World.drewN
  simp only [World.mk.injEq]
  refine ⟨hh, ?_⟩
  first | exact ⟨ht, by omega, ho, hu⟩ | (refine ⟨?_, ?_, ?_, ?_⟩ <;> first | assumption | omega)
theorem Grew.cell {w w' : World} (h : Grew w w') {b o : Nat} {v : Value} (hc : w.cell? ⟨b, o, none⟩ = some v) : w'.cell? ⟨b, o, none⟩ = some v :=
  (h.1.cell (p := ⟨b, o, none⟩) (block_lt_of_cell hc)).trans hc
theorem alloc_new (w : World) (o : Obj) : (w.alloc o).heap[w.heap.size]? = some o := by
  show (w.heap.push o)[w.heap.size]? = _
  simp
theorem alloc_new2 (w : World) (o o2 : Obj) : ((w.alloc o).alloc o2).heap[w.heap.size + 1]? = some o2 := by
  have := alloc_new (w.alloc o) o2
  rwa [show (w.alloc o).heap.size = w.heap.size + 1 by simp] at this
theorem alloc_cell (w : World) (v : Value) (t : TypeId) : (w.alloc (.cells #[v] t)).cell? ⟨w.heap.size, 0, none⟩ = some v := cell_of_row _ _ _ _ _ _ (alloc_new w _)
theorem Grew.heap_new {w w1 : World} {o : Obj} (h : Grew (w.alloc o) w1) : w1.heap[w.heap.size]? = some o :=
  (h.1.block w.heap.size (by simp)).trans (alloc_new w o)
/-- points in a slice. -/
def IsPts (w : World) (ao : Option Addr) (n cap : Nat) (P : List Pt) : Prop :=
  P.length = n ∧ n ≤ cap ∧ cap ≤ maxLen ∧ (0 < n → ∃ b off, ao = some ⟨b, off, none⟩ ∧ ∀ i, i < n → w.cell? ⟨b, off + i * 2, none⟩ = some (.int .i64 (P.getD i p0).x) ∧ w.cell? ⟨b, off + i * 2 + 1, none⟩ = some (.int .i64 (P.getD i p0).y)) ∧ (ao = none → n = 0 ∧ cap = 0)
/-- rings in a slice. -/
def IsRings (w : World) (ao : Option Addr) (n cap : Nat) (R : List (List Pt)) : Prop :=
  R.length = n ∧ n ≤ cap ∧ cap ≤ maxLen ∧ (ao = none → n = 0 ∧ cap = 0) ∧ ∀ k, k < n → ∃ b off x y z, ao = some ⟨b, off, none⟩ ∧ w.cell? ⟨b, off + k, none⟩ = some (.slice x y z) ∧ IsPts w x y z (R.getD k [])
theorem Tryz.cellsPt : Tryz.prog.cellsOf 24 = 2 := by kernel_rfl
theorem Tryz.cellsI : Tryz.prog.cellsOf 3 = 1 := by kernel_rfl
/-- an address that bears a cell has no spot. -/
theorem spot_of_cell {w : World} {a : Addr} {v : Value} (h : w.cell? (a.add 0) = some v) : a.spot = none := by
  obtain ⟨b, off, spot⟩ := a
  cases spot with
  | none => rfl
  | some s =>
    exfalso
    simp only [Addr.add, World.cell?] at h
    split at h
    · simp at h
    · cases h
theorem add_add (b off i j : Nat) : ((⟨b, off, none⟩ : Addr).add i).add j = ⟨b, off + i + j, none⟩ := by
  have e1 : (⟨b, off, none⟩ : Addr).add i = ⟨b, off + i, none⟩ := by unfold Addr.add; split <;> simp_all
  rw [e1]; unfold Addr.add; split <;> simp_all
section
variable {H : Type} {enc : TypeId × Value → H} {w : World} {base : Nat} {spare : Nat → Bool} {held : Bool}
/-- a row's elements, one by one: a slice whose elements are of k cells. -/
theorem rows_of {k len m : Nat} {a : Addr} {α : Type} (d : α) (Q : List Value → α → Prop) (hk : 0 < k) (hl : len ≤ m) (h : ∀ i, i < m → ∃ cs', w.cells? base (a.add (i * k)) k = some cs' ∧ ∃ x, Q cs' x) :
    ∃ X : List α, X.length = len ∧ (0 < len → ∃ b off, a = ⟨b, off, none⟩ ∧ ∀ i, i < len → ∃ cs : List Value, cs.length = k ∧ (∀ j, j < k → w.cell? ⟨b, off + i * k + j, none⟩ = cs[j]?) ∧ Q cs (X.getD i d)) := by
  have each : ∀ i, ∃ x : α, i < len → ∃ cs, w.cells? base (a.add (i * k)) k = some cs ∧ Q cs x := by
    intro i
    by_cases hi : i < len
    · obtain ⟨cs, h1, x, h2⟩ := h i (by omega)
      exact ⟨x, fun _ => ⟨cs, h1, h2⟩⟩
    · exact ⟨d, fun h => absurd h hi⟩
  obtain ⟨R, hR⟩ := Classical.axiomOfChoice each
  refine ⟨(List.range len).map R, by simp, fun hpos => ?_⟩
  obtain ⟨b, off, spot⟩ := a
  have hs : spot = none := by
    obtain ⟨cs, h1, _⟩ := hR 0 hpos
    obtain ⟨_, hl0, hc⟩ := World.cells?_some h1
    have h0 := hc 0 hk
    rw [List.getElem?_eq_getElem (by omega)] at h0
    rw [Nat.zero_mul] at h0
    have hz : (⟨b, off, spot⟩ : Addr).add 0 = ⟨b, off, spot⟩ := rfl
    rw [hz] at h0
    exact spot_of_cell h0
  subst hs
  refine ⟨b, off, rfl, fun i hi => ?_⟩
  obtain ⟨cs, h1, h2⟩ := hR i hi
  obtain ⟨_, hl0, hc⟩ := World.cells?_some h1
  refine ⟨cs, hl0, fun j hj => by rw [← hc j hj, add_add], ?_⟩
  have : ((List.range len).map R).getD i d = R i := by simp [List.getD, hi]
  rw [this]
  exact h2
set_option maxRecDepth 100000 in
theorem point_cells {fuel : Nat} {cs : List Value} {x : DataW H × List MemPlace} (h : DataW.trod enc Tryz.prog w base spare held fuel 24 cs = some x) : ∃ p : Pt, cs = [.int .i64 p.x, .int .i64 p.y] := by
  obtain ⟨xs, n, _, _, hl, hxs, hf⟩ := DataW.trod_struct Tryz.underlying24 h
  rw [Tryz.cellsPt] at hl
  have hx2 : xs.length = 2 := hxs
  obtain ⟨v0, v1, rfl⟩ : ∃ v0 v1, cs = [v0, v1] := by
    match cs, hl with
    | [a, b], _ => exact ⟨a, b, rfl⟩
  have f0 : DataW.trod enc Tryz.prog w base spare held n 3 (([v0, v1].drop 0).take (Tryz.prog.cellsOf 3)) = xs[0]? := hf 0 _ rfl
  have f1 : DataW.trod enc Tryz.prog w base spare held n 3 (([v0, v1].drop 1).take (Tryz.prog.cellsOf 3)) = xs[1]? := hf 1 _ rfl
  rw [List.getElem?_eq_getElem (by omega), Tryz.cellsI] at f0
  rw [List.getElem?_eq_getElem (by omega), Tryz.cellsI] at f1
  obtain ⟨z0, e0, _, _⟩ := DataW.trod_int Tryz.underlying3 f0
  obtain ⟨z1, e1, _, _⟩ := DataW.trod_int Tryz.underlying3 f1
  have g0 : [v0] = [Value.int .i64 z0] := e0
  have g1 : [v1] = [Value.int .i64 z1] := e1
  cases g0
  cases g1
  exact ⟨⟨z0, z1⟩, rfl⟩
end
theorem IsPts.later {w w' : World} {B : Nat} {ao : Option Addr} {n cap : Nat} {P : List Pt} (h : IsPts w ao n cap P) (hb : Below B w w') (hB : w.heap.size ≤ B) : IsPts w' ao n cap P := by
  obtain ⟨h1, h2, h3, h4, h5⟩ := h
  refine ⟨h1, h2, h3, fun hn => ?_, h5⟩
  obtain ⟨b, off, rfl, hc⟩ := h4 hn
  refine ⟨b, off, rfl, fun i hi => ?_⟩
  obtain ⟨e0, e1⟩ := hc i hi
  exact ⟨(hb.cell (p := ⟨b, off + i * 2, none⟩) (Nat.lt_of_lt_of_le (block_lt_of_cell e0) hB)).trans e0, (hb.cell (p := ⟨b, off + i * 2 + 1, none⟩) (Nat.lt_of_lt_of_le (block_lt_of_cell e1) hB)).trans e1⟩
theorem IsRings.later {w w' : World} {B : Nat} {ao : Option Addr} {n cap : Nat} {R : List (List Pt)} (h : IsRings w ao n cap R) (hb : Below B w w') (hB : w.heap.size ≤ B) : IsRings w' ao n cap R := by
  obtain ⟨h1, h2, h3, h4, h5⟩ := h
  refine ⟨h1, h2, h3, h4, fun k hk => ?_⟩
  obtain ⟨b, off, x, y, z, rfl, hc, hp⟩ := h5 k hk
  exact ⟨b, off, x, y, z, rfl, (hb.cell (p := ⟨b, off + k, none⟩) (Nat.lt_of_lt_of_le (block_lt_of_cell hc) hB)).trans hc, hp.later hb hB⟩
theorem IsRings.nil (w : World) : IsRings w none 0 0 [] := ⟨rfl, Nat.le_refl _, by unfold maxLen; omega, fun _ => ⟨rfl, rfl⟩, fun k hk => absurd hk (by omega)⟩
theorem fieldsP : Tryz.prog.underlying 24 = some (.struct (Tryz.prog.fieldsOf 24)) := by kernel_rfl
theorem heldP : Tryz.prog.stoodInHeld 24 = false := by kernel_rfl
theorem fieldsPI : (Tryz.prog.fieldsOf 24).toList.map (fun f => (decide (f.name ≠ "_"), f.type, f.offset)) = [(true, 3, 0), (true, 3, 1)] := by kernel_rfl
theorem part_int (xs : Array Value) (o : Nat) (v : Value) (h : xs[o]? = some v) (w : World) : (part 3 xs o).run Tryz.prog w = .ok v w := by
  simp [part, h]
theorem eqFields_cons (d : Nat) (xs ys : Array Value) (f : Field) (fs : List Field) (o : Nat) (a b : Int) (w : World) (hn : decide (f.name ≠ "_") = true) (ht : f.type = 3) (ho : f.offset = o)
    (hx : xs[o]? = some (.int .i64 a)) (hy : ys[o]? = some (.int .i64 b)) :
    (Op.eqFields (d + 1) xs ys (f :: fs)).run Tryz.prog w = if (a == b) = true then (Op.eqFields (d + 1) xs ys fs).run Tryz.prog w else .ok false w := by
  have hn' : f.name ≠ "_" := of_decide_eq_true hn
  rw [Op.eqFields, if_pos hn', ht, ho]
  simp only [Sem.run_bind, part_int xs o _ hx, part_int ys o _ hy, Result.andThen_ok, run_equalIn_int w d 3 .i64 .i64 a b Tryz.underlying3]
  cases (a == b) <;> simp
section
variable {H : Type} {enc : TypeId × Value → H} {w : World} {base : Nat} {spare : Nat → Bool} {held : Bool}
end
end Go.Proofs.YtjiiikeniocmfaaGreat

/- points and rings in rows of the call's own; apportionkit.CopyRings -/
namespace Go.Proofs.YtjiiikeniocmfaaGreat
open Go.RowKit Go.Geo
theorem ownsRow_move {w w' : World} {base e s n : Nat} {v : Value} {xs : List Value} (h : w.ownsRow base e s v n xs) (hb : ∀ g, v.ownBlock = some g → w'.heap[g]? = w.heap[g]?) : w'.ownsRow base e s v n xs := by
  refine ⟨h.1, ?_⟩
  rcases h.2 with hn | ⟨g, cap, cur, rfl, hbg, hgg, rest⟩
  · exact .inl hn
  · exact .inr ⟨g, cap, cur, rfl, hbg, by rw [hb g rfl]; exact hgg, rest⟩
theorem ownsRow_base {w : World} {base base' e s n : Nat} {v : Value} {xs : List Value} (h : w.ownsRow base e s v n xs) (hb : base' ≤ base) : w.ownsRow base' e s v n xs := by
  refine ⟨h.1, ?_⟩
  rcases h.2 with hn | ⟨g, cap, cur, rfl, hbg, rest⟩
  · exact .inl hn
  · exact .inr ⟨g, cap, cur, rfl, by omega, rest⟩
theorem info_parts' {P : Program} {t : TypeId} {z : Value} {s b : Nat} (h : (P.info? t).map (fun i => (i.zero, i.size, i.bytes)) = some (some z, s, b)) : ∃ i, P.info? t = some i ∧ i.zero = some z ∧ i.size = s ∧ i.bytes = b := by
  cases hi : P.info? t with
  | none => rw [hi] at h; cases h
  | some i => rw [hi] at h; simp only [Option.map_some, Option.some.injEq, Prod.mk.injEq] at h; exact ⟨i, rfl, h.1, h.2.1, h.2.2⟩
theorem Tryz.infoPt : (Tryz.prog.info? 24).map (fun i => (i.zero, i.size, i.bytes)) = some (some (.agg #[.int .i64 0, .int .i64 0]), 2, 16) := by kernel_rfl
theorem Tryz.infoPts : (Tryz.prog.info? 40).map (fun i => (i.zero, i.size, i.bytes)) = some (some (.slice none 0 0), 1, 24) := by kernel_rfl
def flatP (P : List Pt) : List Value := P.flatMap fun p => [.int .i64 p.x, .int .i64 p.y]
theorem flatP_cons (p : Pt) (P : List Pt) : flatP (p :: P) = [.int .i64 p.x, .int .i64 p.y] ++ flatP P := rfl
theorem flatP_append (P Q : List Pt) : flatP (P ++ Q) = flatP P ++ flatP Q := by simp [flatP]
theorem flatP_length (P : List Pt) : (flatP P).length = P.length * 2 := by
  induction P with
  | nil => rfl
  | cons c L ih => rw [flatP_cons, List.length_append, ih, List.length_cons]; simp; omega
theorem flatP_get (P : List Pt) (i : Nat) (hi : i < P.length) : (flatP P)[i * 2]? = some (.int .i64 (P.getD i p0).x) ∧ (flatP P)[i * 2 + 1]? = some (.int .i64 (P.getD i p0).y) := by
  induction P generalizing i with
  | nil => simp at hi
  | cons c L ih =>
    rw [flatP_cons]
    cases i with
    | zero => exact ⟨rfl, rfl⟩
    | succ i =>
      obtain ⟨h1, h2⟩ := ih i (by simpa using hi)
      rw [List.getElem?_append_right (by simp; omega), List.getElem?_append_right (by simp; omega)]
      refine ⟨?_, ?_⟩
      · rw [show (i + 1) * 2 - [Value.int IntKind.i64 c.x, Value.int IntKind.i64 c.y].length = i * 2 by simp; omega]; simpa using h1
      · rw [show (i + 1) * 2 + 1 - [Value.int IntKind.i64 c.x, Value.int IntKind.i64 c.y].length = i * 2 + 1 by simp; omega]; simpa using h2
theorem flatP_one (P : List Pt) : ∀ u ∈ flatP P, u.oneCell' = true := by
  intro u hu
  simp only [flatP, List.mem_flatMap] at hu
  obtain ⟨c, _, hc⟩ := hu
  simp at hc
  rcases hc with rfl | rfl <;> rfl
def OwnP (w : World) (base : Nat) (v : Value) (P : List Pt) : Prop := w.ownsRow base 24 2 v P.length (flatP P)
theorem OwnP.later {w w' : World} {base : Nat} {v : Value} {P : List Pt} (h : OwnP w base v P) (hb : Below w.heap.size w w') : OwnP w' base v P := ownsRow_move h fun g hg => hb.block g (h.lt g hg).2
theorem OwnP.base {w : World} {base base' : Nat} {v : Value} {P : List Pt} (h : OwnP w base v P) (hb : base' ≤ base) : OwnP w base' v P := ownsRow_base h hb
theorem add_cell (g o : Nat) : (⟨g, 0, none⟩ : Addr).add o = ⟨g, 0 + o, none⟩ := by unfold Addr.add; split <;> simp_all
theorem OwnP.pts {w : World} {base : Nat} {v : Value} {P : List Pt} (h : OwnP w base v P) : ∃ ao cap, v = .slice ao P.length cap ∧ IsPts w ao P.length cap P := by
  rcases h.2 with ⟨rfl, h0⟩ | ⟨g, cap, cur, rfl, hb, hg, hn, hm, hs, ht⟩
  · have : P = [] := List.eq_nil_of_length_eq_zero h0
    subst this
    exact ⟨none, 0, rfl, rfl, Nat.le_refl _, by unfold maxLen; omega, fun h => absurd h (by simp), fun _ => ⟨rfl, rfl⟩⟩
  · refine ⟨_, cap, rfl, rfl, hn, hm, fun _ => ⟨g, 0, rfl, fun i hi => ?_⟩, fun h => by cases h⟩
    have hc := h.cells (g := g) rfl (i * 2) _ (flatP_get P i hi).1
    have hd := h.cells (g := g) rfl (i * 2 + 1) _ (flatP_get P i hi).2
    rw [add_cell] at hc hd
    exact ⟨hc, hd⟩
theorem IsPts.cells {w : World} {b off : Nat} {spot : Option Nat} {n cap : Nat} {P : List Pt} (h : IsPts w (some ⟨b, off, spot⟩) n cap P) :
    ∀ j u, (flatP P)[j]? = some u → w.cell? ((⟨b, off, spot⟩ : Addr).add j) = some u := by
  intro j u hu
  have hj : j < P.length * 2 := by
    have := (List.getElem?_eq_some_iff.1 hu).1; rwa [flatP_length] at this
  have hi : j / 2 < P.length := by omega
  obtain ⟨e0, e1⟩ := flatP_get P (j / 2) hi
  obtain ⟨b', off', e2, hc⟩ := h.2.2.2.1 (by rw [← h.1]; omega)
  cases e2
  obtain ⟨c0, c1⟩ := hc (j / 2) (by rw [← h.1]; exact hi)
  have ha : (⟨b, off, none⟩ : Addr).add j = ⟨b, off + j, none⟩ := by unfold Addr.add; split <;> simp_all
  rw [ha]
  by_cases hm : j % 2 = 0
  · rw [show j / 2 * 2 = j by omega, hu] at e0
    cases e0
    rw [show off + j / 2 * 2 = off + j by omega] at c0
    exact c0
  · rw [show j / 2 * 2 + 1 = j by omega, hu] at e1
    cases e1
    rw [show off + j / 2 * 2 + 1 = off + j by omega] at c1
    exact c1
theorem OwnP.none_new (w : World) (base : Nat) (hb : base ≤ w.heap.size) : OwnP (w.alloc (Obj.cells #[] 24)) base (.slice (some ⟨w.heap.size, 0, none⟩) 0 0) [] :=
  ⟨rfl, .inr ⟨_, _, #[], rfl, hb, alloc_new w _, Nat.le_refl _, by unfold maxLen; omega, rfl, rfl⟩⟩
theorem run_append_pts {w : World} (ty base : Nat) (v : Value) (L : List Pt) (hown : OwnP w base v L)
    (ao : Option Addr) (m c : Nat) (L2 : List Pt) (hsrc : IsPts w ao m c L2) (hnm : L.length + m ≤ 1000000000) (hbase : base ≤ w.heap.size) :
    ∃ v' w', (Builtin.append_ #[40, 40] ty #[v, .slice ao m c]).run Tryz.prog w = .ok v' w' ∧ OwnP w' base v' (L ++ L2) ∧ w.grownBy w' v.ownBlock := by
  obtain ⟨i0, hi, hz0, hz1, hz2⟩ := info_parts' Tryz.infoPt
  have hl := hsrc.1
  cases ao with
  | none =>
    obtain ⟨rfl, rfl⟩ := hsrc.2.2.2.2 rfl
    obtain rfl : L2 = [] := List.eq_nil_of_length_eq_zero hl
    exact ⟨v, w, run_append_owned_none (P := Tryz.prog) (w := w) base _ ty _ i0 2 Tryz.underlying40 hi v _ _ hown, by rw [List.append_nil]; exact hown, ⟨rfl, rfl, rfl, Nat.le_refl _, fun _ _ _ => rfl⟩⟩
  | some ad =>
    obtain ⟨b, off, spot⟩ := ad
    obtain ⟨v', w', hr, h2, h3, _⟩ := run_append_own (P := Tryz.prog) w base 40 ty _ i0 (.agg #[.int .i64 0, .int .i64 0]) 2 16 Tryz.underlying40 hi hz0 hz1 hz2 rfl (by decide) v _ _ hown ⟨b, off, spot⟩ m c (flatP L2) (by rw [flatP_length, hl]) hsrc.cells (flatP_one _)
      (by unfold maxLen; omega) (by omega) hbase
    refine ⟨v', w', hr, ?_, h3⟩
    unfold OwnP
    rw [flatP_append, List.length_append, hl]; exact h2
theorem wpList_append_pts {w : World} {ops : Array Oper} {rest : List Oper} {o : Oper} {a : Act} {Q : Exit → Act → World → Prop} (hgd : o.guard = none) (s x : Operand)
    (ho : o.op = .call { callee := .builtin .append, args := #[s, x], argTypes := #[40, 40] })
    (base : Nat) (v : Value) (L : List Pt) (hs : a.eval s = v) (hown : OwnP w base v L)
    (ao : Option Addr) (m c : Nat) (L2 : List Pt) (hx : a.eval x = .slice ao m c) (hsrc : IsPts w ao m c L2) (hnm : L.length + m ≤ 1000000000) (hbase : base ≤ w.heap.size)
    (h : ∀ v' w', OwnP w' base v' (L ++ L2) → w.grownBy w' v.ownBlock → wpList Tryz.prog ops Q rest (a.put o.dst v') w') : wpList Tryz.prog ops Q (o :: rest) a w := by
  obtain ⟨v', w', hr, h2, h3⟩ := run_append_pts o.type base v L hown ao m c L2 hsrc hnm hbase
  refine wpList_plain hgd fun K hK => ?_
  unfold Oper.wp execOp
  simp only [ho, resolve, invoke, builtin, Sem.run_bind, Sem.run_pure, Result.andThen_ok, List.map_toArray, List.map_cons, List.map_nil, hs, hx, hr]
  exact hK _ _ (h v' w' h2 h3)
/-- rings of the call's own, one behind the other. -/
def OwnR (w : World) (base : Nat) (v : Value) (R : List (List Pt)) : Prop :=
  ∃ vs : List Value, vs.length = R.length ∧ w.ownsRow base 40 1 v R.length vs ∧
    ∀ i, i < R.length → ∃ u, vs[i]? = some u ∧ OwnP w base u (R.getD i [])
theorem OwnR.nil (w : World) (base : Nat) : OwnR w base (.slice none 0 0) [] := ⟨[], rfl, World.ownsRow_nil _ _ _ _, fun i h => absurd h (by simp)⟩
theorem OwnR.later {w w' : World} {base : Nat} {v : Value} {R : List (List Pt)} (h : OwnR w base v R) (hb : Below w.heap.size w w') : OwnR w' base v R := by
  obtain ⟨vs, h1, h2, h3⟩ := h
  refine ⟨vs, h1, ownsRow_move h2 fun g hg => hb.block g (h2.lt g hg).2, fun i hi => ?_⟩
  obtain ⟨u, hu, ho⟩ := h3 i hi
  exact ⟨u, hu, ho.later hb⟩
theorem OwnR.base {w : World} {base base' : Nat} {v : Value} {R : List (List Pt)} (h : OwnR w base v R) (hb : base' ≤ base) : OwnR w base' v R := by
  obtain ⟨vs, h1, h2, h3⟩ := h
  refine ⟨vs, h1, ownsRow_base h2 hb, fun i hi => ?_⟩
  obtain ⟨x, hx, ho⟩ := h3 i hi
  exact ⟨x, hx, ho.base hb⟩
theorem OwnR.lt {w : World} {base : Nat} {v : Value} {R : List (List Pt)} (h : OwnR w base v R) : ∀ g, v.ownBlock = some g → base ≤ g ∧ g < w.heap.size := by
  obtain ⟨vs, _, h2, _⟩ := h
  exact fun g hg => h2.lt g hg
/-- a step that turns no block with cells of these two types. -/
theorem OwnR.move {w w' : World} {base : Nat} {v : Value} {R : List (List Pt)} (h : OwnR w base v R)
    (hb : ∀ (g : Nat) (c : Array Value) (t : Nat), w.heap[g]? = some (Obj.cells c t (0, 0)) → t = 40 ∨ t = 24 → w'.heap[g]? = w.heap[g]?) : OwnR w' base v R := by
  have key : ∀ {e s n : Nat} {u : Value} {xs : List Value}, w.ownsRow base e s u n xs → e = 40 ∨ e = 24 → ∀ g, u.ownBlock = some g → w'.heap[g]? = w.heap[g]? := by
    intro e s n u xs hu he g hg
    rcases hu.2 with ⟨rfl, _⟩ | ⟨g', cap, cur, rfl, _, hg', _⟩
    · simp [Value.ownBlock] at hg
    · simp only [Value.ownBlock, Option.some.injEq] at hg
      subst hg
      exact hb _ _ _ hg' he
  obtain ⟨vs, h1, h2, h3⟩ := h
  refine ⟨vs, h1, ownsRow_move h2 (key h2 (.inl rfl)), fun i hi => ?_⟩
  obtain ⟨u, hu, ho⟩ := h3 i hi
  exact ⟨u, hu, ownsRow_move ho (key ho (.inr rfl))⟩
theorem OwnR.setCell {w : World} {base b off t : Nat} {v u : Value} {R : List (List Pt)} {c : Array Value} {f : Nat × Nat} (h : OwnR w base v R) (hb : w.heap[b]? = some (.cells c t f)) (ht : t ≠ 40) (ht2 : t ≠ 24) :
    OwnR (w.setCell ⟨b, off, none⟩ u) base v R :=
  OwnR.move h fun g c' t' hg he => Below.heap_setCell _ _ _ _ (by
    intro e
    simp only at e
    subst e
    rw [hb] at hg
    injection hg with hg
    injection hg with _ h2
    subst h2
    rcases he with he | he
    · exact ht he
    · exact ht2 he)
theorem own_apart {w : World} {base b2 e e' s s' : Nat} {v u : Value} {n m : Nat} {xs ys : List Value} (he : e ≠ e') (hv : w.ownsRow base e s v n xs) (hu : w.ownsRow b2 e' s' u m ys) : u.ownBlock = none ∨ u.ownBlock ≠ v.ownBlock := by
  rcases hu.2 with ⟨rfl, _⟩ | ⟨g', cap', cur', rfl, _, hg', _⟩
  · exact .inl rfl
  · refine .inr fun e1 => ?_
    rcases hv.2 with ⟨rfl, _⟩ | ⟨g, cap, cur, rfl, _, hg, _⟩
    · simp [Value.ownBlock] at e1
    · simp only [Value.ownBlock, Option.some.injEq] at e1
      subst e1
      rw [hg] at hg'
      injection hg' with hg'
      injection hg' with _ h2
      exact he h2
theorem OwnR.snoc {w w' : World} {base : Nat} {v v' u : Value} {R : List (List Pt)} {r : List Pt} {vs : List Value} (hL : vs.length = R.length)
    (hi : ∀ i, i < R.length → ∃ u, vs[i]? = some u ∧ OwnP w base u (R.getD i []))
    (hv : w.ownsRow base 40 1 v R.length vs) (hu : OwnP w base u r) (hown : w'.ownsRow base 40 1 v' (R.length + 1) (vs ++ [u])) (hg : w.grownBy w' v.ownBlock) :
    OwnR w' base v' (R ++ [r]) := by
  refine ⟨vs ++ [u], by simp [hL], by simpa using hown, fun i hi' => ?_⟩
  by_cases h : i < R.length
  · obtain ⟨x, hx, ho⟩ := hi i h
    have e : (R ++ [r]).getD i [] = R.getD i [] := by simp [List.getD_eq_getElem?_getD, List.getElem?_append_left h]
    refine ⟨x, by rw [List.getElem?_append_left (by omega)]; exact hx, ?_⟩
    rw [e]
    exact World.ownsRow.kept ho hg (own_apart (by decide) hv ho)
  · obtain rfl : i = R.length := by simp at hi'; omega
    have e : (R ++ [r]).getD R.length [] = r := by simp [List.getD_eq_getElem?_getD]
    refine ⟨u, by rw [← hL]; simp, ?_⟩
    rw [e]
    exact World.ownsRow.kept hu hg (own_apart (by decide) hv hu)
theorem OwnR.rings {w : World} {base : Nat} {v : Value} {R : List (List Pt)} (h : OwnR w base v R) : ∃ ao cap, v = .slice ao R.length cap ∧ IsRings w ao R.length cap R := by
  obtain ⟨vs, h1, h2, h3⟩ := h
  rcases h2.2 with ⟨rfl, h0⟩ | ⟨g, cap, cur, rfl, hb, hg, hn, hm, hs, ht⟩
  · have : R = [] := List.eq_nil_of_length_eq_zero h0
    subst this
    exact ⟨none, 0, rfl, rfl, Nat.le_refl _, by unfold maxLen; omega, fun _ => ⟨rfl, rfl⟩, fun k hk => absurd hk (by simp)⟩
  · refine ⟨_, cap, rfl, rfl, hn, hm, fun h => (by cases h), fun k hk => ?_⟩
    obtain ⟨u, hu, ho⟩ := h3 k hk
    obtain ⟨x, z, rfl, hp⟩ := ho.pts
    have hc := h2.cells (g := g) rfl k _ hu
    rw [add_cell] at hc
    exact ⟨g, 0, x, _, z, rfl, hc, hp.1 ▸ hp⟩
end Go.Proofs.YtjiiikeniocmfaaGreat

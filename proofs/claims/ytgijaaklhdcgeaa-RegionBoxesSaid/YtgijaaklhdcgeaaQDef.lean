/- points and rings: what the values are; the world has only grown -/
import Derived.Test.YtgijaaklhdcgeaaRows
import Derived.Test.YtgijaaklhdcgeaaGeo4
import Derived.WalkKit
import Derived.ProofKit
import Derived.Below
import Derived.Lib.Hide
import Derived.Sort.Grow
import Derived.Deep.RegionWith
import Derived.Deep.RegionHeld3
import Derived.Orders
import Derived.OrdersIn
import Derived.BigQuiet
import Derived.Shelf.Abstract
import Derived.StillTactics
import Derived.Laws.AppendOwnNone
import Derived.Lib.SliceRun
import Derived.WalkSpells
import Derived.Laws.Rows
import Derived.Laws.ResultCell
import Derived.Deep.Slices
import Derived.ChangeShapes
import Derived.SizedLaws
import Derived.Laws.StructEq
import Derived.Deep.QuietTactic
namespace Go.Proofs.Ytgijaaklhdcgeaa
open Go.RowKit Go.Geo

theorem below_drewN {w0 w : World} {B : Nat} (h : Below B w0 w) (q : Nat) : Below B w0 (w.drewN q) := ⟨h.os, h.tape, h.output, h.size, h.block⟩
/-- the world has only grown: new blocks, draws. -/
def Grew (w w' : World) : Prop := Below w.heap.size w w' ∧ w.drawn ≤ w'.drawn
theorem Grew.refl (w : World) : Grew w w := ⟨Below.refl _ _, Nat.le_refl _⟩
theorem Grew.alloc {a w : World} (h : Grew a w) (o : Obj) : Grew a (w.alloc o) := ⟨h.1.alloc h.1.size _, h.2⟩
theorem Grew.drewN {a w : World} (h : Grew a w) (q : Nat) : Grew a (w.drewN q) := ⟨below_drewN h.1 q, Nat.le_trans h.2 (Nat.le_add_right _ _)⟩
theorem Grew.drew {a w : World} (h : Grew a w) : Grew a w.drew := ⟨h.1.drew, Nat.le_trans h.2 (Nat.le_succ _)⟩
theorem Grew.trans {a b c : World} (h : Grew a b) (k : Grew b c) : Grew a c := ⟨h.1.trans (k.1.mono h.1.size), Nat.le_trans h.2 k.2⟩
theorem Grew.size {a b : World} (h : Grew a b) : a.heap.size ≤ b.heap.size := h.1.size
theorem Grew.grow {w w' : World} (h : Grew w w') : ∃ q os, w' = Sort.grow (w.drewN q) os := by
  obtain ⟨⟨ho, ht, hu, hs, hb⟩, hd⟩ := h
  refine ⟨w'.drawn - w.drawn, w'.heap.extract w.heap.size w'.heap.size, ?_⟩
  have hh : w'.heap = w.heap ++ w'.heap.extract w.heap.size w'.heap.size := by
    apply Array.ext_getElem?
    intro i
    rw [Array.getElem?_append]
    by_cases hi : i < w.heap.size
    · rw [if_pos hi]; exact hb i hi
    · rw [if_neg hi, Array.getElem?_extract]
      by_cases h2 : i < w'.heap.size
      · rw [if_pos (by omega)]; congr 1; omega
      · rw [if_neg (by omega), Array.getElem?_eq_none (by omega)]
  cases w'
  simp only at *
  unfold Sort.grow World.drewN
  simp only [World.mk.injEq]
  refine ⟨hh, ?_⟩
  first | exact ⟨ht, by omega, ho, hu⟩ | (refine ⟨?_, ?_, ?_, ?_⟩ <;> first | assumption | omega)
theorem Grew.cell {w w' : World} (h : Grew w w') {b o : Nat} {v : Value} (hc : w.cell? ⟨b, o, none⟩ = some v) : w'.cell? ⟨b, o, none⟩ = some v :=
  (h.1.cell (p := ⟨b, o, none⟩) (block_lt_of_cell hc)).trans hc
theorem alloc_new (w : World) (o : Obj) : (w.alloc o).heap[w.heap.size]? = some o := by
  show (w.heap.push o)[w.heap.size]? = _
  simp
theorem alloc_new2 (w : World) (o o2 : Obj) : ((w.alloc o).alloc o2).heap[w.heap.size + 1]? = some o2 := by
  have := alloc_new (w.alloc o) o2
  rwa [show (w.alloc o).heap.size = w.heap.size + 1 by simp] at this
theorem alloc_cell (w : World) (v : Value) (t : TypeId) : (w.alloc (.cells #[v] t)).cell? ⟨w.heap.size, 0, none⟩ = some v := cell_of_row _ _ _ _ _ _ (alloc_new w _)
theorem Grew.heap_new {w w1 : World} {o : Obj} (h : Grew (w.alloc o) w1) : w1.heap[w.heap.size]? = some o :=
  (h.1.block w.heap.size (by simp)).trans (alloc_new w o)
/-- points in a slice. -/
def IsPts (w : World) (ao : Option Addr) (n cap : Nat) (P : List Pt) : Prop :=
  P.length = n ∧ n ≤ cap ∧ cap ≤ maxLen ∧ (0 < n → ∃ b off, ao = some ⟨b, off, none⟩ ∧ ∀ i, i < n → w.cell? ⟨b, off + i * 2, none⟩ = some (.int .i64 (P.getD i p0).x) ∧ w.cell? ⟨b, off + i * 2 + 1, none⟩ = some (.int .i64 (P.getD i p0).y)) ∧ (ao = none → n = 0 ∧ cap = 0)
/-- rings in a slice. -/
def IsRings (w : World) (ao : Option Addr) (n cap : Nat) (R : List (List Pt)) : Prop :=
  R.length = n ∧ n ≤ cap ∧ cap ≤ maxLen ∧ (ao = none → n = 0 ∧ cap = 0) ∧ ∀ k, k < n → ∃ b off x y z, ao = some ⟨b, off, none⟩ ∧ w.cell? ⟨b, off + k, none⟩ = some (.slice x y z) ∧ IsPts w x y z (R.getD k [])
theorem Try.cellsRs : Try.prog.cellsOf 23 = 1 := by kernel_rfl
theorem Try.cellsPs : Try.prog.cellsOf 28 = 1 := by kernel_rfl
theorem Try.cellsPt : Try.prog.cellsOf 27 = 2 := by kernel_rfl
theorem Try.cellsI : Try.prog.cellsOf 3 = 1 := by kernel_rfl
/-- an address that bears a cell has no spot. -/
theorem spot_of_cell {w : World} {a : Addr} {v : Value} (h : w.cell? (a.add 0) = some v) : a.spot = none := by
  obtain ⟨b, off, spot⟩ := a
  cases spot with
  | none => rfl
  | some s =>
    exfalso
    simp only [Addr.add, World.cell?] at h
    split at h
    · simp at h
    · cases h
theorem add_add (b off i j : Nat) : ((⟨b, off, none⟩ : Addr).add i).add j = ⟨b, off + i + j, none⟩ := by
  have e1 : (⟨b, off, none⟩ : Addr).add i = ⟨b, off + i, none⟩ := by unfold Addr.add; split <;> simp_all
  rw [e1]; unfold Addr.add; split <;> simp_all
section
variable {H : Type} {enc : TypeId × Value → H} {w : World} {base : Nat} {spare : Nat → Bool} {held : Bool}
/-- a row's elements, one by one: a slice whose elements are of k cells. -/
theorem rows_of {k len m : Nat} {a : Addr} {α : Type} (d : α) (Q : List Value → α → Prop) (hk : 0 < k) (hl : len ≤ m) (h : ∀ i, i < m → ∃ cs', w.cells? base (a.add (i * k)) k = some cs' ∧ ∃ x, Q cs' x) :
    ∃ X : List α, X.length = len ∧ (0 < len → ∃ b off, a = ⟨b, off, none⟩ ∧ ∀ i, i < len → ∃ cs : List Value, cs.length = k ∧ (∀ j, j < k → w.cell? ⟨b, off + i * k + j, none⟩ = cs[j]?) ∧ Q cs (X.getD i d)) := by
  have each : ∀ i, ∃ x : α, i < len → ∃ cs, w.cells? base (a.add (i * k)) k = some cs ∧ Q cs x := by
    intro i
    by_cases hi : i < len
    · obtain ⟨cs, h1, x, h2⟩ := h i (by omega)
      exact ⟨x, fun _ => ⟨cs, h1, h2⟩⟩
    · exact ⟨d, fun h => absurd h hi⟩
  obtain ⟨R, hR⟩ := Classical.axiomOfChoice each
  refine ⟨(List.range len).map R, by simp, fun hpos => ?_⟩
  obtain ⟨b, off, spot⟩ := a
  have hs : spot = none := by
    obtain ⟨cs, h1, _⟩ := hR 0 hpos
    obtain ⟨_, hl0, hc⟩ := World.cells?_some h1
    have h0 := hc 0 hk
    rw [List.getElem?_eq_getElem (by omega)] at h0
    rw [Nat.zero_mul] at h0
    have hz : (⟨b, off, spot⟩ : Addr).add 0 = ⟨b, off, spot⟩ := rfl
    rw [hz] at h0
    exact spot_of_cell h0
  subst hs
  refine ⟨b, off, rfl, fun i hi => ?_⟩
  obtain ⟨cs, h1, h2⟩ := hR i hi
  obtain ⟨_, hl0, hc⟩ := World.cells?_some h1
  refine ⟨cs, hl0, fun j hj => by rw [← hc j hj, add_add], ?_⟩
  have : ((List.range len).map R).getD i d = R i := by simp [List.getD, hi]
  rw [this]
  exact h2
set_option maxRecDepth 100000 in
theorem point_cells {fuel : Nat} {cs : List Value} {x : DataW H × List MemPlace} (h : DataW.trod enc Try.prog w base spare held fuel 27 cs = some x) : ∃ p : Pt, cs = [.int .i64 p.x, .int .i64 p.y] := by
  obtain ⟨xs, n, _, _, hl, hxs, hf⟩ := DataW.trod_struct Try.underlying27 h
  rw [Try.cellsPt] at hl
  have hx2 : xs.length = 2 := hxs
  obtain ⟨v0, v1, rfl⟩ : ∃ v0 v1, cs = [v0, v1] := by
    match cs, hl with
    | [a, b], _ => exact ⟨a, b, rfl⟩
  have f0 : DataW.trod enc Try.prog w base spare held n 3 (([v0, v1].drop 0).take (Try.prog.cellsOf 3)) = xs[0]? := hf 0 _ rfl
  have f1 : DataW.trod enc Try.prog w base spare held n 3 (([v0, v1].drop 1).take (Try.prog.cellsOf 3)) = xs[1]? := hf 1 _ rfl
  rw [List.getElem?_eq_getElem (by omega), Try.cellsI] at f0
  rw [List.getElem?_eq_getElem (by omega), Try.cellsI] at f1
  obtain ⟨z0, e0, _, _⟩ := DataW.trod_int Try.underlying3 f0
  obtain ⟨z1, e1, _, _⟩ := DataW.trod_int Try.underlying3 f1
  have g0 : [v0] = [Value.int .i64 z0] := e0
  have g1 : [v1] = [Value.int .i64 z1] := e1
  cases g0
  cases g1
  exact ⟨⟨z0, z1⟩, rfl⟩
set_option maxRecDepth 100000 in
theorem pts_in {fuel : Nat} {cs : List Value} {x : DataW H × List MemPlace} (h : DataW.trod enc Try.prog w base spare held fuel 28 cs = some x) : ∃ ao n cap P, cs = [.slice ao n cap] ∧ IsPts w ao n cap P := by
  rcases Go.Deep.open_slice Try.underlying28 h with ⟨rfl, _⟩ | ⟨a, l, c, m, n, D, Pl, rfl, _, hl, hm, hmm, _, hx⟩
  · exact ⟨_, _, _, [], rfl, rfl, Nat.le_refl _, by unfold maxLen; omega, fun h => absurd h (by omega), fun _ => ⟨rfl, rfl⟩⟩
  · rw [Try.cellsPt] at hx
    obtain ⟨P, hP, hc⟩ := rows_of (k := 2) (m := m) (len := l) p0 (fun cs p => cs = [.int .i64 p.x, .int .i64 p.y]) (by omega) (by rw [hmm]; split <;> omega) (fun i hi => by
      obtain ⟨cs', h1, h2⟩ := hx i hi
      exact ⟨cs', h1, point_cells h2⟩)
    refine ⟨_, _, _, P, rfl, hP, hl, hm, fun hpos => ?_, fun h => by cases h⟩
    obtain ⟨b, off, rfl, hcc⟩ := hc hpos
    refine ⟨b, off, rfl, fun i hi => ?_⟩
    obtain ⟨cs, _, hj, rfl⟩ := hcc i hi
    exact ⟨hj 0 (by omega), hj 1 (by omega)⟩
set_option maxRecDepth 100000 in
theorem rings_in {fuel : Nat} {cs : List Value} {x : DataW H × List MemPlace} (h : DataW.trod enc Try.prog w base spare held fuel 23 cs = some x) : ∃ ao n cap R, cs = [.slice ao n cap] ∧ IsRings w ao n cap R := by
  rcases Go.Deep.open_slice Try.underlying23 h with ⟨rfl, _⟩ | ⟨a, l, c, m, n, D, Pl, rfl, _, hl, hm, hmm, _, hx⟩
  · exact ⟨_, _, _, [], rfl, rfl, Nat.le_refl _, by unfold maxLen; omega, fun _ => ⟨rfl, rfl⟩, fun k h => absurd h (by omega)⟩
  · rw [Try.cellsPs] at hx
    obtain ⟨R, hR, hc⟩ := rows_of (k := 1) (m := m) (len := l) ([] : List Pt) (fun cs P => ∃ ao n cap, cs = [.slice ao n cap] ∧ IsPts w ao n cap P) (by omega) (by rw [hmm]; split <;> omega) (fun i hi => by
      obtain ⟨cs', h1, h2⟩ := hx i hi
      obtain ⟨ao, n, cap, P, e, hp⟩ := pts_in h2
      exact ⟨cs', h1, P, ao, n, cap, e, hp⟩)
    refine ⟨_, _, _, R, rfl, hR, hl, hm, (fun h => by cases h), fun k hk => ?_⟩
    obtain ⟨b, off, rfl, hcc⟩ := hc (by omega)
    obtain ⟨cs, _, hj, ao, n', cap, rfl, hp⟩ := hcc k hk
    exact ⟨b, off, ao, n', cap, rfl, by simpa using hj 0 (by omega), hp⟩
end
theorem IsPts.later {w w' : World} {B : Nat} {ao : Option Addr} {n cap : Nat} {P : List Pt} (h : IsPts w ao n cap P) (hb : Below B w w') (hB : w.heap.size ≤ B) : IsPts w' ao n cap P := by
  obtain ⟨h1, h2, h3, h4, h5⟩ := h
  refine ⟨h1, h2, h3, fun hn => ?_, h5⟩
  obtain ⟨b, off, rfl, hc⟩ := h4 hn
  refine ⟨b, off, rfl, fun i hi => ?_⟩
  obtain ⟨e0, e1⟩ := hc i hi
  exact ⟨(hb.cell (p := ⟨b, off + i * 2, none⟩) (Nat.lt_of_lt_of_le (block_lt_of_cell e0) hB)).trans e0, (hb.cell (p := ⟨b, off + i * 2 + 1, none⟩) (Nat.lt_of_lt_of_le (block_lt_of_cell e1) hB)).trans e1⟩
theorem IsRings.later {w w' : World} {B : Nat} {ao : Option Addr} {n cap : Nat} {R : List (List Pt)} (h : IsRings w ao n cap R) (hb : Below B w w') (hB : w.heap.size ≤ B) : IsRings w' ao n cap R := by
  obtain ⟨h1, h2, h3, h4, h5⟩ := h
  refine ⟨h1, h2, h3, h4, fun k hk => ?_⟩
  obtain ⟨b, off, x, y, z, rfl, hc, hp⟩ := h5 k hk
  exact ⟨b, off, x, y, z, rfl, (hb.cell (p := ⟨b, off + k, none⟩) (Nat.lt_of_lt_of_le (block_lt_of_cell hc) hB)).trans hc, hp.later hb hB⟩
theorem IsRings.nil (w : World) : IsRings w none 0 0 [] := ⟨rfl, Nat.le_refl _, by unfold maxLen; omega, fun _ => ⟨rfl, rfl⟩, fun k hk => absurd hk (by omega)⟩
theorem drewN2 (w : World) (a b : Nat) : (w.drewN a).drewN b = w.drewN (a + b) := by unfold World.drewN; simp [Nat.add_assoc]
theorem fieldsP : Try.prog.underlying 27 = some (.struct (Try.prog.fieldsOf 27)) := by kernel_rfl
theorem heldP : Try.prog.stoodInHeld 27 = false := by kernel_rfl
theorem fieldsPI : (Try.prog.fieldsOf 27).toList.map (fun f => (decide (f.name ≠ "_"), f.type, f.offset)) = [(true, 3, 0), (true, 3, 1)] := by kernel_rfl
theorem isAggI (w : World) : (isAgg 3).run Try.prog w = .ok false w := by
  simp [isAgg, run_underlying Try.underlying3]
theorem part_int (xs : Array Value) (o : Nat) (v : Value) (h : xs[o]? = some v) (w : World) : (part 3 xs o).run Try.prog w = .ok v w := by
  simp [part, h]
theorem eqFields_cons (d : Nat) (xs ys : Array Value) (f : Field) (fs : List Field) (o : Nat) (a b : Int) (w : World) (hn : decide (f.name ≠ "_") = true) (ht : f.type = 3) (ho : f.offset = o)
    (hx : xs[o]? = some (.int .i64 a)) (hy : ys[o]? = some (.int .i64 b)) :
    (Op.eqFields (d + 1) xs ys (f :: fs)).run Try.prog w = if (a == b) = true then (Op.eqFields (d + 1) xs ys fs).run Try.prog w else .ok false w := by
  have hn' : f.name ≠ "_" := of_decide_eq_true hn
  rw [Op.eqFields, if_pos hn', ht, ho]
  simp only [Sem.run_bind, part_int xs o _ hx, part_int ys o _ hy, Result.andThen_ok, run_equalIn_int w d 3 .i64 .i64 a b Try.underlying3]
  cases (a == b) <;> simp
theorem run_neq_pt (a b : Int) (w : World) : (binOp .neq 27 (.agg #[.int .i64 a, .int .i64 b]) (.agg #[.int .i64 a, .int .i64 b])).run Try.prog w = .ok (.bool false) w := by
  have hf := fieldsPI
  rw [run_neq_struct, run_equalIn_agg _ _ _ _ _ fieldsP heldP]
  generalize (Try.prog.fieldsOf 27).toList = fs at hf
  obtain _ | ⟨f0, _ | ⟨f1, _ | ⟨f2, fs⟩⟩⟩ := fs <;> simp only [List.map_cons, List.map_nil, List.cons.injEq, Prod.mk.injEq, and_false, and_true, List.cons_ne_nil, List.nil_eq] at hf
  obtain ⟨⟨n0, t0, o0⟩, ⟨n1, t1, o1⟩⟩ := hf
  rw [eqFields_cons 9998 _ _ f0 _ 0 _ _ w n0 t0 o0 rfl rfl, eqFields_cons 9998 _ _ f1 _ 1 _ _ w n1 t1 o1 rfl rfl]
  unfold Op.eqFields
  simp
set_option maxRecDepth 100000 in
set_option maxHeartbeats 1000000 in
theorem SamePoints_any (ao : Option Addr) (n cap : Nat) (bo : Option Addr) (cap2 : Nat) (P : List Pt) (w : World) (h : IsPts w ao n cap P) (h2 : IsPts w bo n cap2 P) :
    Calls Try.prog 74 #[.slice ao n cap, .slice bo n cap2] w fun e w' => e = .returned (.bool true) ∧ ∃ q, w' = w.drewN q := by
  have HI := Lib.hid h
  have HJ := Lib.hid h2
  have hcm := h.2.2.1
  have hnc := h.2.1
  clear h h2
  unfold maxLen at hcm
  have hnn : ((n : Int) == (n : Int)) = true := by simp
  go_enter Try.func74, Try.ntmps74
  go_wp2
  go_loopw [5] (fun i wr => ∃ k : Nat, k ≤ n ∧ i = .int .i64 k ∧ Hid (∃ q, wr = w.drewN q)) (fun i _ => n - (intOf i).toNat)
  case atStart => exact ⟨0, by omega, rfl, 0, rfl⟩
  case round =>
    obtain ⟨k, hk, rfl, hq⟩ := hrel
    by_cases hlt : k < n
    · have hi0 : (0 : Int) ≤ (k : Int) := by omega
      have hi5 : (k : Int) < (n : Int) := by omega
      have hb : Below w.heap.size w wr := by obtain ⟨q, rfl⟩ := hq.out; exact below_drewN (Below.refl _ _) q
      obtain ⟨b, off, rfl, hat⟩ := (HI.out.later hb (Nat.le_refl _)).2.2.2.1 (by omega)
      obtain ⟨b2, off2, rfl, hat2⟩ := (HJ.out.later hb (Nat.le_refl _)).2.2.2.1 (by omega)
      obtain ⟨x, hx⟩ : ∃ x, x = (P.getD k p0).x := ⟨_, rfl⟩
      obtain ⟨y, hy⟩ : ∃ y, y = (P.getD k p0).y := ⟨_, rfl⟩
      obtain ⟨e0, e1⟩ := hat k hlt
      obtain ⟨d0, d1⟩ := hat2 k hlt
      rw [← hx] at e0 d0
      rw [← hy] at e1 d1
      have hql : ∀ w', (binOp .neq 27 (.agg #[.int .i64 x, .int .i64 y]) (.agg #[.int .i64 x, .int .i64 y])).run Try.prog w' = .ok (.bool false) w' := run_neq_pt x y
      clear hat hat2 hx hy hb
      go_wp2_with fail
      go_quiet (fail)
      go_wp2_with fail
      go_roundw
      case rel =>
        refine ⟨k + 1, by omega, by go_num, ?_⟩
        obtain ⟨q, rfl⟩ := hq.out
        exact ⟨_, drewN2 _ _ _⟩
      case measure => simp [intOf]; omega
    · obtain rfl : k = n := by omega
      go_wp2
      go_ret
      exact ⟨rfl, hq.out⟩
set_option maxRecDepth 100000 in
set_option maxHeartbeats 1000000 in
theorem SameRings_any (ao : Option Addr) (n cap : Nat) (bo : Option Addr) (cap2 : Nat) (R : List (List Pt)) (w : World) (h : IsRings w ao n cap R) (h2 : IsRings w bo n cap2 R) :
    Calls Try.prog 49 #[.slice ao n cap, .slice bo n cap2] w fun e w' => e = .returned (.bool true) ∧ ∃ q, w' = w.drewN q := by
  have HI := Lib.hid h
  have HJ := Lib.hid h2
  have hcm := h.2.2.1
  have hnc := h.2.1
  clear h h2
  unfold maxLen at hcm
  have hnn : ((n : Int) == (n : Int)) = true := by simp
  go_enter Try.func49, Try.ntmps49
  go_wp2
  go_loopw [5] (fun i wr => ∃ k : Nat, k ≤ n ∧ i = .int .i64 k ∧ Hid (∃ q, wr = w.drewN q)) (fun i _ => n - (intOf i).toNat)
  case atStart => exact ⟨0, by omega, rfl, 0, rfl⟩
  case round =>
    obtain ⟨k, hk, rfl, hq⟩ := hrel
    by_cases hlt : k < n
    · have hi0 : (0 : Int) ≤ (k : Int) := by omega
      have hi5 : (k : Int) < (n : Int) := by omega
      have hb : Below w.heap.size w wr := by obtain ⟨q, rfl⟩ := hq.out; exact below_drewN (Below.refl _ _) q
      obtain ⟨b, off, x, y, z, rfl, e0, hp⟩ := (HI.out.later hb (Nat.le_refl _)).2.2.2.2 k hlt
      obtain ⟨b2, off2, x2, y2, z2, rfl, d0, hp2⟩ := (HJ.out.later hb (Nat.le_refl _)).2.2.2.2 k hlt
      obtain rfl : y2 = y := hp2.1.symm.trans hp.1
      have hcall : ∀ q', Calls Try.prog 74 #[.slice x y2 z, .slice x2 y2 z2] (wr.drewN q') fun e w' => e = .returned (.bool true) ∧ ∃ m, w' = wr.drewN m := fun q' =>
        (SamePoints_any _ _ _ _ _ _ _ (hp.later (below_drewN (Below.refl _ _) q') (Nat.le_refl _)) (hp2.later (below_drewN (Below.refl _ _) q') (Nat.le_refl _))).mono fun e w' h => ⟨h.1, by obtain ⟨m, hm⟩ := h.2; exact ⟨q' + m, by rw [hm]; exact drewN2 _ _ _⟩⟩
      have HC := Lib.hid hcall
      clear hp hp2 hb hcall
      go_wp2_with fail
      go_quiet ((go_at_call 74; exact HC.out _))
      go_wp2_with fail
      go_roundw
      case rel =>
        refine ⟨k + 1, by omega, by go_num, ?_⟩
        obtain ⟨q, rfl⟩ := hq.out
        exact ⟨_, drewN2 _ _ _⟩
      case measure => simp [intOf]; omega
    · obtain rfl : k = n := by omega
      go_wp2
      go_ret
      exact ⟨rfl, hq.out⟩
/-- no ring is longer than memory. -/
def Kept (R : List (List Pt)) : Prop := ∀ k, k < R.length → (R.getD k []).length ≤ 8796093022208
theorem Try.bytesPt : Try.prog.bytesOf 27 = 16 := by kernel_rfl
section
variable {H : Type} {enc : TypeId × Value → H} {w : World} {base : Nat} {spare : Nat → Bool} {held : Bool}
theorem weightsAll_memJ {P : Program} {e : TypeId} {d : DataW H} {n : Nat} : ∀ {l : List (DataW H)}, d ∈ l → n ∈ d.weights P e → n ∈ DataW.weightsAll P e l
  | x :: l, h, hm => by
    simp only [DataW.weightsAll, List.mem_append]
    rcases List.mem_cons.1 h with rfl | h
    · exact .inl hm
    · exact .inr (weightsAll_memJ h hm)
set_option maxRecDepth 100000 in
theorem pts_len {fuel : Nat} {ao : Option Addr} {n cap : Nat} {x : DataW H × List MemPlace} (h : DataW.trod enc Try.prog w base spare held fuel 28 [.slice ao n cap] = some x) (hz : ∀ k ∈ x.1.weights Try.prog 28, k ≤ reachBytes) : n ≤ 8796093022208 := by
  rcases Go.Deep.open_slice Try.underlying28 h with ⟨e2, _⟩ | ⟨a, l, c, m, n', D, Pl, e2, _, hl, hm, hmm, rfl, hx⟩
  · cases e2; omega
  · cases e2
    have h1 := hz ((n + (m - n)) * 16) (by
      simp only [DataW.weights, Try.underlying28, Try.bytesPt, List.length_map, List.length_range]
      exact List.mem_cons_self)
    have h2 : reachBytes < 2 ^ 47 := reachBytes_lt
    omega
set_option maxRecDepth 100000 in
theorem rings_in_sized {fuel : Nat} {cs : List Value} {x : DataW H × List MemPlace} (h : DataW.trod enc Try.prog w base spare held fuel 23 cs = some x) (hz : ∀ k ∈ x.1.weights Try.prog 23, k ≤ reachBytes) : ∃ ao n cap R, cs = [.slice ao n cap] ∧ IsRings w ao n cap R ∧ Kept R := by
  rcases Go.Deep.open_slice Try.underlying23 h with ⟨rfl, _⟩ | ⟨a, l, c, m, n, D, Pl, rfl, _, hl, hm, hmm, rfl, hx⟩
  · exact ⟨_, _, _, [], rfl, ⟨rfl, Nat.le_refl _, by unfold maxLen; omega, fun _ => ⟨rfl, rfl⟩, fun k h => absurd h (by omega)⟩, fun k hk => absurd hk (by simp)⟩
  · rw [Try.cellsPs] at hx
    have hlm : l ≤ m := by rw [hmm]; split <;> omega
    obtain ⟨R, hR, hc⟩ := rows_of (k := 1) (m := l) (len := l) ([] : List Pt) (fun cs P => ∃ ao n cap, cs = [.slice ao n cap] ∧ IsPts w ao n cap P ∧ P.length ≤ 8796093022208) (by omega) (Nat.le_refl _) (fun i hi => by
      obtain ⟨cs', h1, h2⟩ := hx i (by omega)
      obtain ⟨ao, n, cap, P, e, hp⟩ := pts_in h2
      subst e
      refine ⟨_, h1, P, ao, n, cap, rfl, hp, ?_⟩
      rw [hp.1]
      exact pts_len h2 (fun k hk => hz k (by
        simp only [DataW.weights, Try.underlying23]
        refine List.mem_cons_of_mem _ (List.mem_append_left _ ?_)
        exact weightsAll_memJ (List.mem_map.2 ⟨i, List.mem_range.2 hi, rfl⟩) hk)))
    refine ⟨_, _, _, R, rfl, ⟨hR, hl, hm, (fun h => by cases h), fun k hk => ?_⟩, fun k hk => ?_⟩
    · obtain ⟨b, off, rfl, hcc⟩ := hc (by omega)
      obtain ⟨cs, _, hj, ao, n', cap, rfl, hp, _⟩ := hcc k hk
      exact ⟨b, off, ao, n', cap, rfl, by simpa using hj 0 (by omega), hp⟩
    · obtain ⟨b, off, _, hcc⟩ := hc (by omega)
      obtain ⟨cs, _, hj, ao, n', cap, _, _, hz⟩ := hcc k (by omega)
      exact hz
end
end Go.Proofs.Ytgijaaklhdcgeaa

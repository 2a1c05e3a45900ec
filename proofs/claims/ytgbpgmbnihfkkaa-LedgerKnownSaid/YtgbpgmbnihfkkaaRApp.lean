/- the reference's disk (apportionref27): its memory; bytes, Bytes, units -/
import Derived.Test.YtgbpgmbnihfkkaaRow3
import Derived.Laws.OwnMore
import Derived.Deep.RegionHeld3
namespace Go.Proofs.Ytgbpgmbnihfkkaa
open Go.RowKit
set_option linter.unusedSectionVars false
variable [Zone]
/-- an act's three cells. -/
def IsRAct (w : World) (c0 c1 c2 : Value) : Deed → Prop
  | .more x => c0 = .bool false ∧ c1 = .int .i64 0 ∧ ∃ a n c, c2 = .slice a n c ∧ IsBytesZ w a n c x
  | .cut z => c0 = .bool true ∧ c1 = .int .i64 (z : Int) ∧ c2 = .slice none 0 0
theorem IsRAct.moved {w w' : World} {c0 c1 c2 : Value} {d : Deed} (h : IsRAct w c0 c1 c2 d) (hm : ∀ j off v, w.cell? ⟨j, off, none⟩ = some (.int .u8 v) → w'.heap[j]? = w.heap[j]?) : IsRAct w' c0 c1 c2 d := by
  cases d with
  | more x => obtain ⟨h0, h1, a, n, c, e, hb⟩ := h; exact ⟨h0, h1, a, n, c, e, hb.moved hm⟩
  | cut z => exact h
/-- the cells of acts. -/
def Acts3 (w : World) (T : List V3) (D : List Deed) : Prop := T.length = D.length ∧ ∀ i, i < D.length → IsRAct w (T.getD i v30).1 (T.getD i v30).2.1 (T.getD i v30).2.2 (D.getD i (.cut 0))
theorem Acts3.nil (w : World) : Acts3 w [] [] := ⟨rfl, fun i h => absurd h (by simp)⟩
theorem Acts3.moved {w w' : World} {T : List V3} {D : List Deed} (h : Acts3 w T D) (hm : ∀ j off v, w.cell? ⟨j, off, none⟩ = some (.int .u8 v) → w'.heap[j]? = w.heap[j]?) : Acts3 w' T D := ⟨h.1, fun i hi => (h.2 i hi).moved hm⟩
theorem Acts3.later {w w' : World} {T : List V3} {D : List Deed} (h : Acts3 w T D) (hb : Below w.heap.size w w') : Acts3 w' T D := h.moved fun j _ _ hc => hb.block j (block_lt_of_cell hc)
theorem Acts3.push {w : World} {T : List V3} {D : List Deed} {t : V3} {d : Deed} (h : Acts3 w T D) (ht : IsRAct w t.1 t.2.1 t.2.2 d) : Acts3 w (T ++ [t]) (D ++ [d]) := by
  refine ⟨by simp [h.1], fun i hi => ?_⟩
  simp only [List.length_append, List.length_cons, List.length_nil] at hi
  by_cases hl : i < D.length
  · have e1 : (T ++ [t]).getD i v30 = T.getD i v30 := by simp [List.getD_eq_getElem?_getD, List.getElem?_append_left (show i < T.length by rw [h.1]; exact hl)]
    have e2 : (D ++ [d]).getD i (.cut 0) = D.getD i (.cut 0) := by simp [List.getD_eq_getElem?_getD, List.getElem?_append_left hl]
    rw [e1, e2]
    exact h.2 i hl
  · obtain rfl : i = D.length := by omega
    have e1 : (T ++ [t]).getD D.length v30 = t := by rw [← h.1]; simp [List.getD_eq_getElem?_getD]
    have e2 : (D ++ [d]).getD D.length (.cut 0) = d := by simp [List.getD_eq_getElem?_getD]
    rw [e1, e2]
    exact ht
theorem take_units_all (D : List Deed) (n : Nat) (h : D.length = n) : ((D.take n).map Deed.units).sum = unitsD D := by
  rw [List.take_of_length_le (by omega)]
  rfl
end Go.Proofs.Ytgbpgmbnihfkkaa

/- the reference's disk: At, step, Fuse, Loose, Read -/
namespace Go.Proofs.Ytgbpgmbnihfkkaa
open Go.RowKit
set_option linter.unusedSectionVars false
variable [Zone]
/-- a file: its name, its safe bytes, what is under way. -/
abbrev FileV := ByteArray × List UInt8 × List Deed
def f0 : FileV := (ByteArray.empty, [], [])
/-- the block in which a disk's files lie. -/
def listOf (w : World) (r : Nat) : Option Nat := match w.cell? ⟨r, 0, none⟩ with
  | some v => v.ownBlock
  | none => none
theorem listOf_same {w w' : World} {r : Nat} (h : w'.heap[r]? = w.heap[r]?) : listOf w' r = listOf w r := by
  unfold listOf
  rw [World.cell?_of_block (w := w) h]
/-- of the old blocks only r, and that in which its files lie, may have changed. -/
structure MovedR (r base : Nat) (w w' : World) : Prop where
  below : Below base w w'
  block : ∀ j, j < w.heap.size → j ≠ r → listOf w r ≠ some j → w'.heap[j]? = w.heap[j]?
  row : ∀ k, listOf w' r = some k → listOf w r = some k ∨ w.heap.size ≤ k
theorem MovedR.refl (r base : Nat) (w : World) : MovedR r base w w := ⟨Below.refl _ _, fun _ _ _ _ => rfl, fun _ h => .inl h⟩
theorem MovedR.trans {r base : Nat} {a b c : World} (h : MovedR r base a b) (k : MovedR r base b c) : MovedR r base a c := by
  refine ⟨h.below.trans k.below, fun j hj h1 h2 => ?_, fun x hx => ?_⟩
  · refine (k.block j (Nat.lt_of_lt_of_le hj h.below.size) h1 (fun hr => ?_)).trans (h.block j hj h1 h2)
    rcases h.row j hr with q | q
    · exact h2 q
    · omega
  · rcases k.row x hx with q | q
    · exact h.row x q
    · exact .inr (Nat.le_trans h.below.size q)
theorem MovedR.of_below {r base : Nat} {w w' : World} (h : Below w.heap.size w w') (hr : r < w.heap.size) (hb : base ≤ w.heap.size) : MovedR r base w w' :=
  ⟨h.mono hb, fun j hj _ _ => h.block j hj, fun k hk => .inl (by rwa [listOf_same (h.block r hr)] at hk)⟩
/-- where a name stands. -/
def AtR (s : ByteArray) (R : List FileV) (z : Int) : Prop := (∃ k : Nat, z = (k : Int) ∧ k < R.length ∧ (R.getD k f0).1 = s ∧ ∀ j, j < k → (R.getD j f0).1 ≠ s) ∨ (z = -1 ∧ ∀ j, j < R.length → (R.getD j f0).1 ≠ s)
end Go.Proofs.Ytgbpgmbnihfkkaa

/- the reference's disk: step, Fuse, Loose, Read, name -/
namespace Go.Proofs.Ytgbpgmbnihfkkaa
open Go.RowKit
set_option linter.unusedSectionVars false
variable [Zone]
/-- what may be of a file of the reference's. -/
def FitF (x : FileV) : Prop := fitsD x.2.1 x.2.2 ∧ x.2.1.length + unitsD x.2.2 ≤ 4294967296
/-- what it tells. -/
def RLooseR (s : ByteArray) (R : List FileV) (w : World) (e : Ending) (w' : World) : Prop := ∃ z, AtR s R z ∧ e = .returned (.int .i64 (if 0 ≤ z then ((unitsD (R.getD z.toNat f0).2.2 : Nat) : Int) else 0)) ∧ Below w.heap.size w w'
/-- what it tells. -/
def RReadR (s : ByteArray) (R : List FileV) (out : Bool) (w : World) (e : Ending) (w' : World) : Prop := ∃ z, AtR s R z ∧ (∃ v c, e = .returned (.tuple #[v, .int .i64 c]) ∧ ((out = true ∧ v = .slice none 0 0 ∧ c = 10) ∨ (out = false ∧ z < 0 ∧ v = .slice none 0 0 ∧ c = 6) ∨ (out = false ∧ 0 ≤ z ∧ c = 0 ∧ OwnB w' w.heap.size v (runD (R.getD z.toNat f0).2.1 (R.getD z.toNat f0).2.2)))) ∧ Below w.heap.size w w'
end Go.Proofs.Ytgbpgmbnihfkkaa

/- the reference's disk: a file's parts are stored -/
namespace Go.Proofs.Ytgbpgmbnihfkkaa
open Go.RowKit
set_option linter.unusedSectionVars false
variable [Zone]
theorem flat3_set : ∀ (T : List V3) (k : Nat) (t : V3), k < T.length → flat3 (T.set k t) = (((flat3 T).set (k * 3) t.1).set (k * 3 + 1) t.2.1).set (k * 3 + 2) t.2.2
  | x :: T, 0, t, _ => by simp [flat3]
  | x :: T, k + 1, t, h => by
    rw [List.set_cons_succ, flat3_cons, flat3_cons, flat3_set T k t (by simpa using h)]
    rw [show (k + 1) * 3 = k * 3 + 1 + 1 + 1 by omega, show k * 3 + 1 + 1 + 1 + 1 = (k * 3 + 1) + 1 + 1 + 1 by omega, show k * 3 + 1 + 1 + 1 + 2 = (k * 3 + 2) + 1 + 1 + 1 by omega]
    simp only [List.set_cons_succ]
theorem set_same {l : List Value} {j : Nat} {u : Value} (h : l[j]? = some u) : l.set j u = l := by
  apply List.ext_getElem?
  intro i
  rw [List.getElem?_set]
  split
  · rename_i e
    subst e
    split
    · exact h.symm
    · rename_i hn
      rw [List.getElem?_eq_none (by omega)] at h
      cases h
  · rfl
theorem flat3_set2 (T : List V3) (k : Nat) (u : Value) (h : k < T.length) : flat3 (T.set k ((T.getD k v30).1, (T.getD k v30).2.1, u)) = (flat3 T).set (k * 3 + 2) u := by
  obtain ⟨g0, g1, g2⟩ := flat3_get T k h
  rw [flat3_set T k _ h]
  dsimp only
  rw [set_same g0, set_same g1]
theorem flat3_set1 (T : List V3) (k : Nat) (u : Value) (h : k < T.length) : flat3 (T.set k ((T.getD k v30).1, u, (T.getD k v30).2.2)) = (flat3 T).set (k * 3 + 1) u := by
  obtain ⟨g0, g1, g2⟩ := flat3_get T k h
  rw [flat3_set T k _ h]
  dsimp only
  rw [set_same g0]
  refine set_same ?_
  rw [List.getElem?_set, if_neg (by omega)]
  exact g2
theorem AllCells.set {w : World} {g j n cap : Nat} {cs : Array Value} {e : TypeId} {u : Value} {P : Value → Prop} (h : AllCells w (.slice (some ⟨g, 0, none⟩) n cap) P) (ho : w.heap[g]? = some (.cells cs e (0, 0))) (hu : P u) : AllCells (w.setCell ⟨g, j, none⟩ u) (.slice (some ⟨g, 0, none⟩) n cap) P := by
  intro g' c t f hg hc x hx
  simp only [Value.ownBlock, Option.some.injEq] at hg
  subst hg
  rw [heap_setCell_same w g j cs e u ho] at hc
  injection hc with hc
  injection hc with hc _
  subst hc
  rcases Array.mem_or_eq_of_mem_setIfInBounds hx with q | q
  · exact h g cs e (0, 0) rfl ho x q
  · rw [q]; exact hu
theorem Own3.put {w : World} {base g n cap j : Nat} {ty : TypeId} {T T' : List V3} {u : Value} (h : Own3 w base ty (.slice (some ⟨g, 0, none⟩) n cap) T) (hT : flat3 T' = (flat3 T).set j u) (hl : T'.length = T.length) (hu : u.oneCell' = true ∧ PlainV u) : Own3 (w.setCell ⟨g, j, none⟩ u) base ty (.slice (some ⟨g, 0, none⟩) n cap) T' := by
  obtain ⟨ao, cap', e, _⟩ := h.is3
  injection e with e1 e2 e3
  subst e2
  have hrow : ∃ cs, w.heap[g]? = some (.cells cs ty (0, 0)) := by
    rcases h.1.2 with ⟨e, _⟩ | ⟨g', cap', cur, e, _, hg, _⟩
    · cases e
    · injection e with e _
      injection e with e
      injection e with e
      subst e
      exact ⟨_, hg⟩
  obtain ⟨cs, hcs⟩ := hrow
  refine ⟨?_, h.2.1.set hcs hu.2, fun x hx => ?_⟩
  · have := (World.ownsRow.stored h.1 j u).1
    rw [hT, hl]
    exact this
  · rw [hT] at hx
    rcases List.mem_or_eq_of_mem_set hx with q | q
    · exact h.2.2 x q
    · rw [q]; exact hu
theorem getD_set_ne {α : Type} {l : List α} {k i : Nat} {x d : α} (h : i ≠ k) : (l.set k x).getD i d = l.getD i d := by
  rw [List.getD_eq_getElem?_getD, List.getD_eq_getElem?_getD, List.getElem?_set, if_neg (Ne.symm h)]
theorem getD_set_at {α : Type} {l : List α} {k : Nat} {x d : α} (h : k < l.length) : (l.set k x).getD k d = x := by
  rw [List.getD_eq_getElem?_getD, List.getElem?_set, if_pos rfl, if_pos h]
  rfl
end Go.Proofs.Ytgbpgmbnihfkkaa

/- the reference's disk: keeps -/
namespace Go.Proofs.Ytgbpgmbnihfkkaa
open Go.RowKit
set_option linter.unusedSectionVars false
variable [Zone]
/-- the first units of what is under way. -/
def keepsD : Nat → List Deed → List Deed
  | _, [] => []
  | n, d :: D => if n = 0 then [] else match d with
    | .cut z => .cut z :: keepsD (n - 1) D
    | .more x => .more (x.take (min n x.length)) :: keepsD (n - min n x.length) D
theorem keepsD_zero (D : List Deed) : keepsD 0 D = [] := by cases D <;> simp [keepsD]
theorem keepsD_cut {n : Nat} (z : Nat) (D : List Deed) (h : n ≠ 0) : keepsD n (.cut z :: D) = .cut z :: keepsD (n - 1) D := by rw [keepsD, if_neg h]
theorem keepsD_more {n : Nat} (x : List UInt8) (D : List Deed) (h : n ≠ 0) : keepsD n (.more x :: D) = .more (x.take (min n x.length)) :: keepsD (n - min n x.length) D := by rw [keepsD, if_neg h]
/-- a file's bytes behind a crash, the one way and the other. -/
theorem runD_keeps : ∀ (D : List Deed) (S : List UInt8) (n : Nat), runD S (keepsD n D) = afterZ S D (n : Nat)
  | [], S, n => by simp [keepsD, runD, afterZ]
  | .more x :: D, S, n => by
    by_cases h : n = 0
    · subst h
      rw [keepsD_zero, afterZ_stop _ _ _ (by omega)]
      rfl
    · rw [keepsD_more _ _ h, afterZ_more _ _ _ (by omega), runD]
      have e1 : (min (n : Int) (x.length : Int)).toNat = min n x.length := by omega
      rw [e1]
      by_cases hx : x.length ≤ n
      · rw [runD_keeps D _ _]
        congr 1
        omega
      · rw [show n - min n x.length = 0 by omega, keepsD_zero, runD]
        cases D with
        | nil => rw [afterZ]
        | cons d D => rw [afterZ_stop _ _ _ (by omega)]
  | .cut z :: D, S, n => by
    by_cases h : n = 0
    · subst h
      rw [keepsD_zero, afterZ_stop _ _ _ (by omega)]
      rfl
    · rw [keepsD_cut _ _ h, afterZ_cut _ _ _ (by omega), runD, runD_keeps D _ _]
      congr 1
      omega
theorem fitsD_keeps : ∀ (D : List Deed) (S : List UInt8) (n : Nat), fitsD S D → fitsD S (keepsD n D)
  | [], _, _, _ => trivial
  | .more x :: D, S, n, h => by
    by_cases h0 : n = 0
    · subst h0; rw [keepsD_zero]; trivial
    · rw [keepsD_more _ _ h0]
      by_cases hx : x.length ≤ n
      · rw [show min n x.length = x.length by omega, List.take_of_length_le (Nat.le_refl _)]
        exact fitsD_keeps D _ _ h
      · rw [show n - min n x.length = 0 by omega, keepsD_zero]
        trivial
  | .cut z :: D, S, n, h => by
    by_cases h0 : n = 0
    · subst h0; rw [keepsD_zero]; trivial
    · rw [keepsD_cut _ _ h0]
      exact ⟨h.1, fitsD_keeps D _ _ h.2⟩
theorem units_keeps : ∀ (D : List Deed) (n : Nat), unitsD (keepsD n D) ≤ unitsD D
  | [], n => by simp [keepsD]
  | .more x :: D, n => by
    by_cases h0 : n = 0
    · subst h0; rw [keepsD_zero]; simp [unitsD]
    · rw [keepsD_more _ _ h0]
      have := units_keeps D (n - min n x.length)
      simp only [unitsD, List.map_cons, List.sum_cons, Deed.units, List.length_take] at *
      omega
  | .cut z :: D, n => by
    by_cases h0 : n = 0
    · subst h0; rw [keepsD_zero]; simp [unitsD]
    · rw [keepsD_cut _ _ h0]
      have := units_keeps D (n - 1)
      simp only [unitsD, List.map_cons, List.sum_cons, Deed.units] at *
      omega
theorem Own3.u8 {w : World} {base : Nat} {ty : TypeId} {v : Value} {T : List V3} (h : Own3 w base ty v T) {j off : Nat} {x : Int} (hc : w.cell? ⟨j, off, none⟩ = some (.int .u8 x)) : some j ≠ v.ownBlock := by
  intro e
  rcases h.1.2 with ⟨rfl, _⟩ | ⟨g, cap, cur, rfl, _, hg, _⟩
  · simp [Value.ownBlock] at e
  · simp only [Value.ownBlock, Option.some.injEq] at e
    subst e
    simp only [World.cell?, hg] at hc
    have := h.2.1 j cur _ _ rfl hg _ (Array.mem_of_getElem? hc)
    simp [PlainV, plainV] at this
theorem Is3.one (w : World) (ty : TypeId) (t : V3) (h : Ok3 [t]) : Is3 (w.alloc (.cells #[t.1, t.2.1, t.2.2] ty)) ty (some ⟨w.heap.size, 0, none⟩) 1 1 [t] := by
  refine ⟨rfl, Nat.le_refl _, by unfold maxLen; omega, (fun e => by cases e), h, fun _ => ⟨_, _, _, _, rfl, heap_alloc_new _ _, fun j u hu => ?_⟩⟩
  rw [Nat.zero_add]
  have : flat3 [t] = [t.1, t.2.1, t.2.2] := rfl
  rw [this] at hu
  rw [List.getElem?_toArray]
  exact hu
end Go.Proofs.Ytgbpgmbnihfkkaa

/- the reference's disk: Sync -/
namespace Go.Proofs.Ytgbpgmbnihfkkaa
open Go.RowKit
set_option linter.unusedSectionVars false
variable [Zone]
end Go.Proofs.Ytgbpgmbnihfkkaa

/- the reference's disk: appends of acts and of files, in drawn regions -/
namespace Go.Proofs.Ytgbpgmbnihfkkaa
open Go.RowKit
set_option linter.unusedSectionVars false
variable [Zone]
theorem Own3.none_new (w : World) (base : Nat) (ty : TypeId) (hb : base ≤ w.heap.size) : Own3 (w.alloc (.cells #[] ty)) base ty (.slice (some ⟨w.heap.size, 0, none⟩) 0 0) [] := by
  refine ⟨World.ownsRow_made w #[] 0 hb (by unfold maxLen; omega) (by simp), fun g c t f hg hc u hu => ?_, Ok3.nil⟩
  simp only [Value.ownBlock, Option.some.injEq] at hg
  subst hg
  rw [heap_alloc_new] at hc
  cases hc
  simp at hu
theorem Acts3.append {w : World} {T : List V3} {D : List Deed} {U : List V3} {E : List Deed} (h : Acts3 w T D) (k : Acts3 w U E) : Acts3 w (T ++ U) (D ++ E) := by
  refine ⟨by simp [h.1, k.1], fun i hi => ?_⟩
  simp only [List.length_append] at hi
  by_cases hl : i < D.length
  · have e1 : (T ++ U).getD i v30 = T.getD i v30 := by simp [List.getD_eq_getElem?_getD, List.getElem?_append_left (show i < T.length by rw [h.1]; exact hl)]
    have e2 : (D ++ E).getD i (.cut 0) = D.getD i (.cut 0) := by simp [List.getD_eq_getElem?_getD, List.getElem?_append_left hl]
    rw [e1, e2]
    exact h.2 i hl
  · have e1 : (T ++ U).getD i v30 = U.getD (i - D.length) v30 := by rw [← h.1]; simp [List.getD_eq_getElem?_getD, List.getElem?_append_right (show T.length ≤ i by rw [h.1]; omega)]
    have e2 : (D ++ E).getD i (.cut 0) = E.getD (i - D.length) (.cut 0) := by simp [List.getD_eq_getElem?_getD, List.getElem?_append_right (show D.length ≤ i by omega)]
    rw [e1, e2]
    exact k.2 _ (by omega)
theorem opwp_append3 {w : World} {et sl : TypeId} (hT : Ty3 et sl) {o : Oper} {a : Act} {K : Act → World → Prop} {Q : Exit → Act → World → Prop} (s x : Operand)
    (ho : o.op = .call { callee := .builtin .append, args := #[s, x], argTypes := #[sl, sl] })
    (base : Nat) (v : Value) (T : List V3) (hs : a.eval s = v) (hown : Own3 w base et v T)
    (ao : Option Addr) (m c : Nat) (U : List V3) (hx : a.eval x = .slice ao m c) (hsrc : Is3 w et ao m c U) (hnm : T.length + m ≤ 100000000) (hbase : base ≤ w.heap.size)
    (h : ∀ v' w', Own3 w' base et v' (T ++ U) → w.grownBy w' v.ownBlock → (∀ g, v'.ownBlock = some g → v.ownBlock = some g ∨ w.heap.size ≤ g) → K (a.put o.dst v') w') : o.wp Try.prog a w K Q := by
  obtain ⟨v', w', hr, h2, h3, h4⟩ := run_append3 hT o.type base v T hown ao m c U hsrc hnm hbase
  unfold Oper.wp execOp
  simp only [ho, resolve, invoke, builtin, Sem.run_bind, Sem.run_pure, Result.andThen_ok, List.map_toArray, List.map_cons, List.map_nil, hs, hx, hr]
  exact h v' w' h2 h3 h4
theorem Is3.at {w : World} {ty : TypeId} {g : Nat} {t : V3} (hg : w.heap[g]? = some (.cells #[t.1, t.2.1, t.2.2] ty (0, 0))) (h : Ok3 [t]) : Is3 w ty (some ⟨g, 0, none⟩) 1 1 [t] := by
  refine ⟨rfl, Nat.le_refl _, by unfold maxLen; omega, (fun e => by cases e), h, fun _ => ⟨_, _, _, _, rfl, hg, fun j u hu => ?_⟩⟩
  rw [Nat.zero_add]
  have : flat3 [t] = [t.1, t.2.1, t.2.2] := rfl
  rw [this] at hu
  rw [List.getElem?_toArray]
  exact hu
end Go.Proofs.Ytgbpgmbnihfkkaa

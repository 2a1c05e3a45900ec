/- layer 16: words.cut: what it holds on its way -/
import Derived.Test.YtbgihfjagfbfgaaDoorMWSort
import Derived.Test.YtbgihfjagfbfgaaDoorMRegC
set_option linter.unusedSimpArgs false
set_option linter.unusedVariables false
namespace Go.Proofs.YtbgihfjagfbfgaaDoor
open Go.RowKit Go.Words
def pr0 : Pr := ([], [])
def stepS (f : Wd → Option Wd) (p : Pr) : Wd → Option Wd := upW (upW f p.1 p.2) p.2 p.2
def stepL (f : Wd → Option Wd) (p : Pr) : Wd → Option Wd := upW f p.2 p.1
def shortF (P : List Pr) : Wd → Option Wd := P.foldl stepS (fun _ => none)
def longF (P : List Pr) : Wd → Option Wd := P.foldl stepL (fun _ => none)
theorem takeP {α : Type} {d : α} {P : List α} {i : Nat} (h : i < P.length) : P.take (i + 1) = P.take i ++ [P.getD i d] := by
  rw [List.take_add_one, List.getElem?_eq_getElem h, List.getD_eq_getElem?_getD, List.getElem?_eq_getElem h]; rfl
theorem shortF_more {P : List Pr} {i : Nat} (h : i < P.length) : shortF (P.take (i + 1)) = stepS (shortF (P.take i)) (P.getD i pr0) := by
  unfold shortF; rw [takeP (d := pr0) h, List.foldl_append]; rfl
theorem longF_more {P : List Pr} {i : Nat} (h : i < P.length) : longF (P.take (i + 1)) = stepL (longF (P.take i)) (P.getD i pr0) := by
  unfold longF; rw [takeP (d := pr0) h, List.foldl_append]; rfl
theorem cut_len (s sep : Wd) : (Lib.cut s sep).1.length ≤ s.length := by
  unfold Lib.cut
  split
  · simp; omega
  · exact Nat.le_refl _
theorem below_setObj {B mb : Nat} {w0 w : World} {o : Obj} (h : Below B w0 w) (hb : B ≤ mb) : Below B w0 (setObjAt w mb o) :=
  ⟨h.os, h.tape, h.output, by rw [setObjAt_size]; exact h.size, fun k hk => (setObjAt_ne (by omega)).trans (h.block k hk)⟩
/-- the table on its way: its row in g3, its maps in m1 and m2; all else below W2 stands. -/
structure CutSt (W W2 : World) (g3 m1 m2 : Nat) (S : List Wd) (F G : Wd → Option Wd) (w : World) : Prop where
  row : ∃ v, w.heap[g3]? = some (.cells #[.map (some m1), .map (some m2), v] 39 (0, 0)) ∧ OwnS w W2.heap.size v S
  s : MapIs w m1 F
  l : MapIs w m2 G
  keep : ∀ k, k < W2.heap.size → k ≠ m1 → k ≠ m2 → k ≠ g3 → w.heap[k]? = W2.heap[k]?
  size : W2.heap.size ≤ w.heap.size
  bel : Below W.heap.size W w
/-- where they lie. -/
structure CutAt (W W2 : World) (g3 m1 m2 : Nat) : Prop where
  a1 : W.heap.size ≤ g3
  a2 : W.heap.size ≤ m1
  a3 : W.heap.size ≤ m2
  b1 : g3 < W2.heap.size
  b2 : m1 < W2.heap.size
  b3 : m2 < W2.heap.size
  n1 : m1 ≠ m2
  n2 : g3 ≠ m1
  n3 : g3 ≠ m2
theorem CutSt.later {W W2 : World} {g3 m1 m2 : Nat} {S : List Wd} {F G : Wd → Option Wd} {w w' : World} (h : CutSt W W2 g3 m1 m2 S F G w) (hb : Below w.heap.size w w') : CutSt W W2 g3 m1 m2 S F G w' := by
  obtain ⟨⟨v, h1, h2⟩, h3, h4, h5, h6, h7⟩ := h
  exact ⟨⟨v, (hb.block _ (heap_lt2 h1)).trans h1, h2.later hb⟩, h3.later hb, h4.later hb, fun k a b c d => (hb.block k (Nat.lt_of_lt_of_le a h6)).trans (h5 k a b c d), Nat.le_trans h6 hb.size, h7.trans (hb.mono h7.size)⟩
theorem CutSt.put1 {W W2 : World} {g3 m1 m2 : Nat} {S : List Wd} {F G : Wd → Option Wd} {w : World} (h : CutSt W W2 g3 m1 m2 S F G w) (a : CutAt W W2 g3 m1 m2) (k v : Wd) :
    ∃ o, (Instr.mapUpdate 37 (.map (some m1)) (sV k) (fV (bs v))).run Tryd.prog w = .ok () (setObjAt w m1 o) ∧ CutSt W W2 g3 m1 m2 S (upW F k v) G (setObjAt w m1 o) := by
  obtain ⟨⟨u, h1, h2⟩, h3, h4, h5, h6, h7⟩ := h
  obtain ⟨o, hr, hp⟩ := h3.put k v
  exact ⟨o, hr, ⟨u, (setObjAt_ne a.n2).trans h1, ownsRow_move h2 fun g hg => setObjAt_ne (by have := (h2.lt g hg).1; have := a.b2; omega)⟩, hp, h4.move (setObjAt_ne a.n1.symm), fun k b c d e => (setObjAt_ne c).trans (h5 k b c d e), by rw [setObjAt_size]; exact h6, below_setObj h7 a.a2⟩
theorem CutSt.put2 {W W2 : World} {g3 m1 m2 : Nat} {S : List Wd} {F G : Wd → Option Wd} {w : World} (h : CutSt W W2 g3 m1 m2 S F G w) (a : CutAt W W2 g3 m1 m2) (k v : Wd) :
    ∃ o, (Instr.mapUpdate 37 (.map (some m2)) (sV k) (fV (bs v))).run Tryd.prog w = .ok () (setObjAt w m2 o) ∧ CutSt W W2 g3 m1 m2 S F (upW G k v) (setObjAt w m2 o) := by
  obtain ⟨⟨u, h1, h2⟩, h3, h4, h5, h6, h7⟩ := h
  obtain ⟨o, hr, hp⟩ := h4.put k v
  exact ⟨o, hr, ⟨u, (setObjAt_ne a.n3).trans h1, ownsRow_move h2 fun g hg => setObjAt_ne (by have := (h2.lt g hg).1; have := a.b3; omega)⟩, h3.move (setObjAt_ne a.n1), hp, fun k b c d e => (setObjAt_ne d).trans (h5 k b c d e), by rw [setObjAt_size]; exact h6, below_setObj h7 a.a3⟩
/-- the stages of t.short[long], t.short[short], t.long[short] = .. -/
def CutM (W W2 : World) (g3 m1 m2 : Nat) (S : List Wd) (F G : Wd → Option Wd) (lg sh : Wd) : List Value → World → Prop
  | [], w => CutSt W W2 g3 m1 m2 S F G w
  | [_], w => CutSt W W2 g3 m1 m2 S (upW F lg sh) G w
  | [_, _], w => CutSt W W2 g3 m1 m2 S (upW (upW F lg sh) sh sh) G w
  | _, w => CutSt W W2 g3 m1 m2 S (upW (upW F lg sh) sh sh) (upW G sh lg) w
theorem CutSt.cells {W W2 : World} {g3 m1 m2 : Nat} {S : List Wd} {F G : Wd → Option Wd} {w : World} (h : CutSt W W2 g3 m1 m2 S F G w) : w.cell? ⟨g3, 0, none⟩ = some (.map (some m1)) ∧ w.cell? ⟨g3, 1, none⟩ = some (.map (some m2)) ∧ ∃ v, w.cell? ⟨g3, 2, none⟩ = some v ∧ OwnS w W2.heap.size v S ∧ w.heap[g3]? = some (.cells #[.map (some m1), .map (some m2), v] 39 (0, 0)) := by
  obtain ⟨⟨v, h1, h2⟩, _⟩ := h
  exact ⟨cell_of_row _ _ _ _ _ _ h1, cell_of_row _ _ _ _ _ _ h1, v, cell_of_row _ _ _ _ _ _ h1, h2, h1⟩
theorem CutSt.app {W W2 : World} {g3 m1 m2 : Nat} {S : List Wd} {F G : Wd → Option Wd} {w w7 : World} {v v7 : Value} {sh : Wd} {o : Obj} (h : CutSt W W2 g3 m1 m2 S F G w) (a : CutAt W W2 g3 m1 m2) (hr : w.heap[g3]? = some (.cells #[.map (some m1), .map (some m2), v] 39 (0, 0))) (hov : OwnS w W2.heap.size v S) (ho : OwnS w7 W2.heap.size v7 (S ++ [sh])) (hg : (w.alloc o).grownBy w7 v.ownBlock) :
    w7.heap[g3]? = some (.cells #[.map (some m1), .map (some m2), v] 39 (0, 0)) ∧ CutSt W W2 g3 m1 m2 (S ++ [sh]) F G (w7.setCell ⟨g3, 2, none⟩ v7) := by
  have low : ∀ k, k < W2.heap.size → w7.heap[k]? = w.heap[k]? := fun k hk => by
    have h1 := hg.block k (by simp; have := h.size; omega) (fun e => by have := (hov.lt k e.symm).1; omega)
    rw [h1]
    exact Below.heap_alloc _ _ _ (by have := h.size; omega)
  have h7 : w7.heap[g3]? = some (.cells #[.map (some m1), .map (some m2), v] 39 (0, 0)) := (low g3 a.b1).trans hr
  refine ⟨h7, ⟨v7, heap_setCell_same _ _ 2 _ _ v7 h7, ownsRow_move ho fun g e => Below.heap_setCell _ _ _ _ (by show g ≠ g3; have := (ho.lt g e).1; have := a.b1; omega)⟩,
    h.s.move ((Below.heap_setCell _ _ _ _ (by show m1 ≠ g3; exact a.n2.symm)).trans (low m1 a.b2)), h.l.move ((Below.heap_setCell _ _ _ _ (by show m2 ≠ g3; exact a.n3.symm)).trans (low m2 a.b3)),
    fun k b c d e => (Below.heap_setCell _ _ _ _ (by show k ≠ g3; exact e)).trans ((low k b).trans (h.keep k b c d e)), ?_, ?_⟩
  · have h1 := h.size
    have h2 := hg.size
    simp at h2 ⊢
    omega
  · exact ((h.bel.alloc h.bel.size o).grown hg (by have := h.bel.size; simp; omega) (fun k hk => by have := (hov.lt k hk).1; have := a.b1; have := a.a1; omega)).setCell (p := ⟨g3, 2, none⟩) a.a1 _
theorem alloc4 (w : World) (a b c d : Obj) : ((((w.alloc a).alloc b).alloc c).alloc d).heap[w.heap.size]? = some a ∧ ((((w.alloc a).alloc b).alloc c).alloc d).heap[w.heap.size + 1]? = some b ∧ ((((w.alloc a).alloc b).alloc c).alloc d).heap[w.heap.size + 1 + 1]? = some c ∧ ((((w.alloc a).alloc b).alloc c).alloc d).heap[w.heap.size + 1 + 1 + 1]? = some d ∧ ((((w.alloc a).alloc b).alloc c).alloc d).heap.size = w.heap.size + 4 := by
  have s1 : (w.alloc a).heap.size = w.heap.size + 1 := by simp
  have s2 : ((w.alloc a).alloc b).heap.size = w.heap.size + 1 + 1 := by simp
  have s3 : (((w.alloc a).alloc b).alloc c).heap.size = w.heap.size + 1 + 1 + 1 := by simp
  have n1 := alloc_new (w.alloc a) b
  have n2 := alloc_new ((w.alloc a).alloc b) c
  have n3 := alloc_new (((w.alloc a).alloc b).alloc c) d
  rw [s1] at n1
  rw [s2] at n2
  rw [s3] at n3
  exact ⟨(Below.heap_alloc _ _ _ (by rw [s3]; omega)).trans ((Below.heap_alloc _ _ _ (by rw [s2]; omega)).trans ((Below.heap_alloc _ _ _ (by rw [s1]; omega)).trans (alloc_new w a))),
    (Below.heap_alloc _ _ _ (by rw [s3]; omega)).trans ((Below.heap_alloc _ _ _ (by rw [s2]; omega)).trans n1), (Below.heap_alloc _ _ _ (by rw [s3]; omega)).trans n2, n3, by simp⟩
def CutR (P : List Pr) (w : World) (e : Ending) (w' : World) : Prop := ∃ m1 m2 v, e = .returned (.agg #[.map (some m1), .map (some m2), v]) ∧ MapIs w' m1 (shortF P) ∧ MapIs w' m2 (longF P) ∧ OwnS w' w.heap.size v ((P.map (·.2)).mergeSort fun x y => decide (x ≤ y)) ∧ Below w.heap.size w w'
end Go.Proofs.YtbgihfjagfbfgaaDoor

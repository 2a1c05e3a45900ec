/- inside.pairs: each point and the one ahead of it -/
import Derived.Test.YtdikecfplohpeaaGreatMQUnlike
import Derived.Test.YtdikecfplohpeaaGreatMQCont
import Derived.WideShapes
set_option linter.unusedSimpArgs false
set_option linter.unusedVariables false
namespace Go.Proofs.YtdikecfplohpeaaGreat
open Go.RowKit Go.Shelf Go.Geo
attribute [local go_sem] Oper.semAt_some
/-- the point ahead of the k-th, round the list. -/
def prevP (P : List Pt) (k : Nat) : Pt := if k = 0 then P.getD (P.length - 1) p0 else P.getD (k - 1) p0
theorem prevP_succ (P : List Pt) (k : Nat) : prevP P (k + 1) = P.getD k p0 := by unfold prevP; rw [if_neg (by omega)]; rfl
def pairsL (P : List Pt) : List (Pt × Pt) := (List.range P.length).map fun k => (prevP P k, P.getD k p0)
theorem pairsL_length (P : List Pt) : (pairsL P).length = P.length := by simp [pairsL]
theorem pairsL_take {P : List Pt} {k : Nat} (h : k < P.length) : (pairsL P).take (k + 1) = (pairsL P).take k ++ [(prevP P k, P.getD k p0)] := by
  rw [List.take_succ_eq_append_getElem (by rw [pairsL_length]; exact h)]
  simp [pairsL]
def encP (x : Pt × Pt) : Array Value := #[ptV x.1, ptV x.2]
/-- blocks below n0 stay, and all points. -/
def KpP (n0 : Nat) (W W' : World) : Prop := Below n0 W W' ∧ ∀ (j : Nat) (c : Array Value), W.heap[j]? = some (.cells c 40 (0, 0)) → W'.heap[j]? = some (.cells c 40 (0, 0))
theorem KpP.trans {n0 : Nat} {A B C : World} (h : KpP n0 A B) (k : KpP n0 B C) : KpP n0 A C := ⟨h.1.trans k.1, fun j c hj => k.2 j c (h.2 j c hj)⟩
theorem KpP.putObj {n0 : Nat} {w : World} (hn : n0 ≤ w.heap.size) (W : World) (l : Nat) (o o' : Obj) (hl : w.heap.size ≤ l) (h : W.heap[l]? = some o) (hc : o.isCells = false) : KpP n0 W (W.putObj l o') :=
  ⟨(Below.refl n0 W).grown (grownBy_putObj' W l o') (by have := (Array.getElem?_eq_some_iff.1 h).1; omega) (fun k e => by cases e; omega),
   fun j c hj => (World.putObj_heap_other (fun e => by subst e; rw [h] at hj; cases hj; cases hc)).trans hj⟩
theorem KpP.grew {n0 : Nat} {W W' : World} (h : Below W.heap.size W W') (hn : n0 ≤ W.heap.size) : KpP n0 W W' := ⟨h.mono hn, fun j c hj => (h.block j (Array.getElem?_eq_some_iff.1 hj).1).trans hj⟩
theorem own_put {B g : Nat} {W : World} {c : Array Value} (h : W.heap[g]? = some (.cells c 40 (0, 0))) (hB : B ≤ g) (o : Nat) (v : Value) : OwnStep B W (W.setCell ⟨g, o, none⟩ v) :=
  ⟨some g, ⟨rfl, rfl, rfl, by simp, fun k hk hne => Below.heap_setCell _ _ _ _ (fun e => hne (by rw [e]))⟩, fun r e => by cases e; exact ⟨hB, c, h⟩⟩
end Go.Proofs.YtdikecfplohpeaaGreat

/- inside.In -/
set_option linter.unusedSimpArgs false
set_option linter.unusedVariables false
namespace Go.Proofs.YtdikecfplohpeaaGreat
open Go.RowKit Go.Shelf Go.Geo
attribute [local go_sem] Oper.semAt_some
def xorL (p : Pt) (pre : List (Pt × Pt)) : Bool := pre.foldl (fun b x => b != countsP p x.1 x.2) false
theorem xorL_snoc (p : Pt) (pre : List (Pt × Pt)) (x : Pt × Pt) : xorL p (pre ++ [x]) = (xorL p pre != countsP p x.1 x.2) := by simp [xorL]
theorem xorL_pairs (p : Pt) (P : List Pt) : xorL p (pairsL P) = inP p P := by
  have key : ∀ k, k ≤ P.length → xorL p ((pairsL P).take k) = oddB (cntB k (fun i => countsP p (prevP P i) (P.getD i p0))) := by
    intro k
    induction k with
    | zero => intro _; rfl
    | succ k ih =>
      intro hk
      rw [pairsL_take (by omega), xorL_snoc, ih (by omega), cntB, oddB_add, oddB_ite]
  have h := key P.length (Nat.le_refl _)
  rw [List.take_of_length_le (by rw [pairsL_length]; exact Nat.le_refl _)] at h
  rw [h, inP_count]
  cases P with
  | nil => rfl
  | cons a m =>
    unfold countK
    rw [List.length_cons, cntB_front, cntB, oddB_add, oddB_add, oddB_ite, oddB_ite, Bool.xor_comm]
    congr 1
    · congr 1
      refine cntB_congr _ fun i hi => ?_
      rw [prevP_succ, atP_lt (by simp; omega)]
    · unfold prevP atP
      simp
/-- what In's loop keeps. -/
def InI (p : Pt) (w : World) (B0 : Nat) (pre : List (Pt × Pt)) (W : World) : Prop :=
  W.heap[B0 + 1]? = some (.cells #[.bool (xorL p pre)] 4 (0, 0)) ∧ W.heap[B0]? = some (.cells #[.int .i64 p.x, .int .i64 p.y] 40 (0, 0)) ∧ Below B0 w W ∧ B0 + 3 ≤ W.heap.size
theorem inI_own {p : Pt} {w : World} {B0 B : Nat} (hB : B = B0 + 3) : OwnFrom B (InI p w B0) := by
  subst hB
  rintro pre W W' row ⟨h1, h2, h3, h4⟩ hg hr
  have hne : ∀ {j : Nat}, j < B0 + 3 → some j ≠ row := fun hj e => by have := (hr _ e.symm).1; omega
  exact ⟨(hg.block _ (by omega) (hne (by omega))).trans h1, (hg.block _ (by omega) (hne (by omega))).trans h2, h3.grown hg (by omega) (fun k hk => by have := (hr k hk).1; omega), Nat.le_trans h4 hg.size⟩
theorem inI_step {p : Pt} {w : World} {B0 B : Nat} (hB : B = B0 + 3) (pre : List (Pt × Pt)) (W W' : World) (h : InI p w B0 pre W) (hs : OwnStep B W W') : InI p w B0 pre W' := by
  subst hB
  obtain ⟨h1, h2, h3, h4⟩ := h
  obtain ⟨row, hg, hr⟩ := hs
  have hne : ∀ {j : Nat}, j < B0 + 3 → some j ≠ row := fun hj e => by have := (hr _ e.symm).1; omega
  exact ⟨(hg.block _ (by omega) (hne (by omega))).trans h1, (hg.block _ (by omega) (hne (by omega))).trans h2, h3.grown hg (by omega) (fun k hk => by have := (hr k hk).1; omega), Nat.le_trans h4 hg.size⟩
theorem in_round {p : Pt} {w W w7 : World} {B B0 : Nat} {v r : Bool} {pre : List (Pt × Pt)} (hg : Grew W.drew w7) (h1 : W.heap[B0 + 1]? = some (.cells #[.bool v] 4 (0, 0))) (h2 : W.heap[B0]? = some (.cells #[.int .i64 p.x, .int .i64 p.y] 40 (0, 0))) (h3 : Below B0 w W) (h4 : B0 + 3 ≤ W.heap.size) (hr : xorL p pre = r) :
    KeepsFrom B W (w7.setCell ⟨B0 + 1, 0, none⟩ (.bool r)) ∧ KpP B0 W (w7.setCell ⟨B0 + 1, 0, none⟩ (.bool r)) ∧ InI p w B0 pre (w7.setCell ⟨B0 + 1, 0, none⟩ (.bool r)) := by
  have hb : Below W.heap.size W w7 := ⟨hg.1.os, hg.1.tape, hg.1.output, hg.1.size, hg.1.block⟩
  have k1 := (hb.block _ (by omega)).trans h1
  have k2 := (hb.block _ (by omega)).trans h2
  have hb2 : Below B0 W (w7.setCell ⟨B0 + 1, 0, none⟩ (.bool r)) := (hb.mono (by omega)).setCell (p := ⟨B0 + 1, 0, none⟩) (Nat.le_succ _) _
  refine ⟨⟨by simp; exact hb.size, fun k o _ hk ho => ?_⟩, ⟨hb2, fun j c hj => ?_⟩, ?_, ?_, h3.trans hb2, by simp; exact Nat.le_trans h4 hb.size⟩
  · exact (heap_other (fun e => by subst e; rw [h1] at hk; cases hk; cases ho)).trans ((hb.block _ (Array.getElem?_eq_some_iff.1 hk).1).trans hk)
  · exact (heap_other (fun e => by subst e; rw [h1] at hj; injection hj with hj; injection hj with _ h; exact absurd h (by decide))).trans ((hb.block _ (Array.getElem?_eq_some_iff.1 hj).1).trans hj)
  · rw [hr]; exact heap_setCell_same _ _ 0 _ _ _ k1
  · exact (heap_other (by omega)).trans k2
end Go.Proofs.YtdikecfplohpeaaGreat

/- regions, points that came in -/
namespace Go.Proofs.YtdikecfplohpeaaGreat
open Go.RowKit Go.Geo
/-- a region: its one cell, a slice. -/
structure Rg where
  a : Option Addr
  n : Nat
  c : Nat
def Rg.val (g : Rg) : Value := .agg #[.slice g.a g.n g.c]
theorem Tryz.cellsRg : Tryz.prog.cellsOf 24 = 1 := by kernel_rfl
section
variable {H : Type} {enc : TypeId × Value → H} {w : World} {base : Nat} {held : Bool}
set_option maxRecDepth 100000 in
theorem region_of_val {r : Reach} {b2 fuel : Nat} {v : Value} {x : DataW H × List MemPlace} (hv : Value.okWide Tryz.prog w r b2 24 v) (h : DataW.trod enc Tryz.prog w base (fun _ => true) held fuel 24 v.cells.toList = some x) : ∃ c : Rg, v = c.val ∧ ∃ R, IsRings w c.a c.n c.c R := by
  obtain ⟨cs, rfl, _⟩ := Go.WideShapes.okWide_struct Tryz.underlying24 hv
  obtain ⟨ys, n2, _, _, hl, hys, hf2⟩ := DataW.trod_struct Tryz.underlying24 h
  rw [Tryz.cellsRg] at hl
  have hy1 : ys.length = 1 := hys
  have hl1 : cs.toList.length = 1 := hl
  obtain ⟨v4, hv4⟩ : ∃ v4, cs.toList = [v4] := by
    match cs.toList, hl1 with
    | [a], _ => exact ⟨a, rfl⟩
  have k0 : DataW.trod enc Tryz.prog w base (fun _ => true) held n2 22 ((cs.toList.drop 0).take (Tryz.prog.cellsOf 22)) = ys[0]? := hf2 0 _ rfl
  rw [List.getElem?_eq_getElem (by omega), Tryz.cellsRs, hv4] at k0
  have k1 : DataW.trod enc Tryz.prog w base (fun _ => true) held n2 22 [v4] = some ys[0] := k0
  obtain ⟨ra, rn, rc, R, e4, hR⟩ := rings_in k1
  refine ⟨⟨ra, rn, rc⟩, ?_, R, hR⟩
  have : cs.toList = [.slice ra rn rc] := by rw [hv4]; exact e4
  unfold Rg.val
  rw [show cs = #[.slice ra rn rc] from Array.toList_inj.1 this]
set_option maxRecDepth 100000 in
theorem point_of_val {r : Reach} {b2 fuel : Nat} {v : Value} {x : DataW H × List MemPlace} (hv : Value.okWide Tryz.prog w r b2 40 v) (h : DataW.trod enc Tryz.prog w base (fun _ => true) held fuel 40 v.cells.toList = some x) : ∃ p : Pt, v = ptV p ∧ True := by
  obtain ⟨cs, rfl, _⟩ := Go.WideShapes.okWide_struct Tryz.underlying40 hv
  obtain ⟨p, hp⟩ := point_cells h
  refine ⟨p, ?_, trivial⟩
  have : cs.toList = [.int .i64 p.x, .int .i64 p.y] := hp
  unfold ptV
  rw [show cs = #[.int .i64 p.x, .int .i64 p.y] from Array.toList_inj.1 this]
end
end Go.Proofs.YtdikecfplohpeaaGreat

/- region.In -/
set_option linter.unusedSimpArgs false
set_option linter.unusedVariables false
namespace Go.Proofs.YtdikecfplohpeaaGreat
open Go.RowKit Go.Geo
attribute [local go_sem] Oper.semAt_some
end Go.Proofs.YtdikecfplohpeaaGreat

/- regions that came in, within the form's reach -/
namespace Go.Proofs.YtdikecfplohpeaaGreat
open Go.RowKit Go.Geo
section
variable {H : Type} {enc : TypeId × Value → H} {w : World} {base : Nat} {spare : Nat → Bool} {held : Bool}
set_option maxRecDepth 100000 in
theorem region_of_val_sized {r : Reach} {b2 fuel : Nat} {v : Value} {x : DataW H × List MemPlace} (hv : Value.okWide Tryz.prog w r b2 24 v) (h : DataW.trod enc Tryz.prog w base (fun _ => true) held fuel 24 v.cells.toList = some x) (hz : ∀ k ∈ x.1.weights Tryz.prog 24, k ≤ reachBytes) : ∃ c : Rg, v = c.val ∧ ∃ R, IsRings w c.a c.n c.c R ∧ Kept R := by
  obtain ⟨cs, rfl, _⟩ := Go.WideShapes.okWide_struct Tryz.underlying24 hv
  obtain ⟨ys, n2, _, rfl, hl, hys, hf2⟩ := DataW.trod_struct Tryz.underlying24 h
  rw [Tryz.cellsRg] at hl
  have hy1 : ys.length = 1 := hys
  have hl1 : cs.toList.length = 1 := hl
  obtain ⟨v4, hv4⟩ : ∃ v4, cs.toList = [v4] := by
    match cs.toList, hl1 with
    | [a], _ => exact ⟨a, rfl⟩
  obtain ⟨u0, rfl⟩ : ∃ u0, ys = [u0] := by
    match ys, hy1 with
    | [a], _ => exact ⟨a, rfl⟩
  have k0 : DataW.trod enc Tryz.prog w base (fun _ => true) held n2 22 ((cs.toList.drop 0).take (Tryz.prog.cellsOf 22)) = some u0 := hf2 0 _ rfl
  rw [Tryz.cellsRs, hv4] at k0
  have k1 : DataW.trod enc Tryz.prog w base (fun _ => true) held n2 22 [v4] = some u0 := k0
  obtain ⟨ra, rn, rc, R, e4, hR, hK⟩ := rings_in_sized k1 (fun k hk => hz k (by
    simp only [DataW.weights, Tryz.underlying24, List.map_cons]
    exact DataW.weights_mem_each (j := 0) rfl rfl k hk))
  refine ⟨⟨ra, rn, rc⟩, ?_, R, hR, hK⟩
  have : cs.toList = [.slice ra rn rc] := by rw [hv4]; exact e4
  unfold Rg.val
  rw [show cs = #[.slice ra rn rc] from Array.toList_inj.1 this]
theorem pts_of {fuel : Nat} {ao : Option Addr} {n cap : Nat} {d : DataW H} {pl : List MemPlace} (h : DataW.trod enc Tryz.prog w base spare held fuel 25 [.slice ao n cap] = some (d, pl)) : ∃ L, IsPts w ao n cap L := by
  obtain ⟨a, l, c, P, e, hp⟩ := pts_in h
  cases e
  exact ⟨P, hp⟩
end
end Go.Proofs.YtdikecfplohpeaaGreat

/- boxes, points, ints that came in -/
import Derived.Test.YtlmmejdcjhbppaaMBCmp
import Derived.Test.YtlmmejdcjhbppaaMQIn
import Derived.WideShapes
set_option linter.unusedSimpArgs false
set_option linter.unusedVariables false
namespace Go.Proofs.Ytlmmejdcjhbppaa
open Go.RowKit Go.Geo
def InX (b : Bx) : Prop := InI b.1.x ∧ InI b.1.y ∧ InI b.2.x ∧ InI b.2.y
theorem inI_wf {n : Int} (h : (Lit.int .i64 n).wf = true) : InI n := by
  have := h
  simp only [Lit.wf, Bool.and_eq_true, decide_eq_true_eq] at this
  have e1 : IntKind.i64.min = -9223372036854775808 := by decide
  have e2 : IntKind.i64.max = 9223372036854775807 := by decide
  unfold InI
  omega
def IsXB (w : World) (ao : Option Addr) (n cap : Nat) (X : List Bx) : Prop := IsX w ao n cap X ∧ InB X
section
variable {H : Type} {enc : TypeId × Value → H} {w : World} {base : Nat} {spare : Nat → Bool} {held : Bool}
set_option maxRecDepth 100000 in
theorem point_cellsR {fuel : Nat} {cs : List Value} {x : DataW H × List MemPlace} (h : DataW.trod enc Try.prog w base spare held fuel 31 cs = some x) : ∃ p : Pt, cs = [.int .i64 p.x, .int .i64 p.y] ∧ InI p.x ∧ InI p.y := by
  obtain ⟨xs, n, _, _, hl, hxs, hf⟩ := DataW.trod_struct Try.underlying31 h
  rw [Try.cellsPt] at hl
  have hx2 : xs.length = 2 := hxs
  obtain ⟨v0, v1, rfl⟩ : ∃ v0 v1, cs = [v0, v1] := by
    match cs, hl with
    | [a, b], _ => exact ⟨a, b, rfl⟩
  have f0 : DataW.trod enc Try.prog w base spare held n 3 (([v0, v1].drop 0).take (Try.prog.cellsOf 3)) = xs[0]? := hf 0 _ rfl
  have f1 : DataW.trod enc Try.prog w base spare held n 3 (([v0, v1].drop 1).take (Try.prog.cellsOf 3)) = xs[1]? := hf 1 _ rfl
  rw [List.getElem?_eq_getElem (by omega), Try.cellsI] at f0
  rw [List.getElem?_eq_getElem (by omega), Try.cellsI] at f1
  obtain ⟨z0, e0, _, w0⟩ := DataW.trod_int Try.underlying3 f0
  obtain ⟨z1, e1, _, w1⟩ := DataW.trod_int Try.underlying3 f1
  have g0 : [v0] = [Value.int .i64 z0] := e0
  have g1 : [v1] = [Value.int .i64 z1] := e1
  cases g0
  cases g1
  exact ⟨⟨z0, z1⟩, rfl, inI_wf w0, inI_wf w1⟩
set_option maxRecDepth 100000 in
theorem box_cellsR {fuel : Nat} {cs : List Value} {x : DataW H × List MemPlace} (h : DataW.trod enc Try.prog w base spare held fuel 33 cs = some x) : ∃ b : Bx, cs = rowX b ∧ InX b := by
  obtain ⟨xs, n, _, _, hl, hxs, hf⟩ := DataW.trod_struct Try.underlying33 h
  rw [Try.cellsX] at hl
  have hx2 : xs.length = 2 := hxs
  obtain ⟨v0, v1, v2, v3, rfl⟩ : ∃ v0 v1 v2 v3, cs = [v0, v1, v2, v3] := by
    match cs, hl with
    | [a, b, c, d], _ => exact ⟨a, b, c, d, rfl⟩
  have f0 : DataW.trod enc Try.prog w base spare held n 31 (([v0, v1, v2, v3].drop 0).take (Try.prog.cellsOf 31)) = xs[0]? := hf 0 _ rfl
  have f1 : DataW.trod enc Try.prog w base spare held n 31 (([v0, v1, v2, v3].drop 2).take (Try.prog.cellsOf 31)) = xs[1]? := hf 1 _ rfl
  rw [List.getElem?_eq_getElem (by omega), Try.cellsPt] at f0
  rw [List.getElem?_eq_getElem (by omega), Try.cellsPt] at f1
  obtain ⟨p, e0, a0, a1⟩ := point_cellsR f0
  obtain ⟨q, e1, b0, b1⟩ := point_cellsR f1
  have g0 : [v0, v1] = [Value.int .i64 p.x, .int .i64 p.y] := e0
  have g1 : [v2, v3] = [Value.int .i64 q.x, .int .i64 q.y] := e1
  cases g0
  cases g1
  exact ⟨(p, q), rfl, a0, a1, b0, b1⟩
set_option maxRecDepth 100000 in
theorem boxes_in {fuel : Nat} {cs : List Value} {x : DataW H × List MemPlace} (h : DataW.trod enc Try.prog w base spare held fuel 22 cs = some x) : ∃ ao n cap X, cs = [.slice ao n cap] ∧ IsX w ao n cap X ∧ InB X := by
  rcases Go.Deep.open_slice Try.underlying22 h with ⟨rfl, _⟩ | ⟨a, l, c, m, n, D, Pl, rfl, _, hl, hm, hmm, _, hx⟩
  · exact ⟨_, _, _, [], rfl, ⟨rfl, Nat.le_refl _, by unfold maxLen; omega, fun _ => ⟨rfl, rfl⟩, fun h => absurd h (by omega)⟩, fun b hb => by cases hb⟩
  · rw [Try.cellsX] at hx
    obtain ⟨P, hP, hc⟩ := rows_of (k := 4) (m := m) (len := l) bx0 (fun cs b => cs = rowX b ∧ InX b) (by omega) (by rw [hmm]; split <;> omega) (fun i hi => by
      obtain ⟨cs', h1, h2⟩ := hx i hi
      exact ⟨cs', h1, box_cellsR h2⟩)
    refine ⟨_, _, _, P, rfl, ⟨hP, hl, hm, (fun h => by cases h), fun hpos => ?_⟩, ?_⟩
    · obtain ⟨b, off, rfl, hcc⟩ := hc hpos
      refine ⟨b, off, rfl, fun i hi k hk => ?_⟩
      obtain ⟨cs, _, hj, rfl, _⟩ := hcc i hi
      exact hj k hk
    · intro b hb
      obtain ⟨i, hi, rfl⟩ := List.mem_iff_getElem.1 hb
      obtain ⟨b', off, rfl, hcc⟩ := hc (by omega)
      obtain ⟨cs, _, hj, _, hin⟩ := hcc i (by omega)
      rw [List.getD_eq_getElem?_getD, List.getElem?_eq_getElem hi] at hin
      exact hin
set_option maxRecDepth 100000 in
theorem ints_in {fuel : Nat} {cs : List Value} {x : DataW H × List MemPlace} (h : DataW.trod enc Try.prog w base spare held fuel 34 cs = some x) : ∃ ao n cap X, cs = [.slice ao n cap] ∧ IsInts w ao n cap X := by
  rcases Go.Deep.open_slice Try.underlying34 h with ⟨rfl, _⟩ | ⟨a, l, c, m, n, D, Pl, rfl, _, hl, hm, hmm, _, hx⟩
  · exact ⟨_, _, _, [], rfl, ⟨rfl, Nat.le_refl _, by unfold maxLen; omega, fun h => absurd h (by omega), fun _ => ⟨rfl, rfl⟩⟩⟩
  · rw [Try.cellsI] at hx
    obtain ⟨P, hP, hc⟩ := rows_of (k := 1) (m := m) (len := l) (0 : Int) (fun cs b => cs = [.int .i64 b]) (by omega) (by rw [hmm]; split <;> omega) (fun i hi => by
      obtain ⟨cs', h1, h2⟩ := hx i hi
      obtain ⟨z, e, _, _⟩ := DataW.trod_int Try.underlying3 h2
      exact ⟨cs', h1, z, e⟩)
    refine ⟨_, _, _, P, rfl, ⟨hP, hl, hm, fun hpos => ?_, fun h => by cases h⟩⟩
    obtain ⟨b, off, rfl, hcc⟩ := hc hpos
    refine ⟨b, off, rfl, fun i hi => ?_⟩
    obtain ⟨cs, _, hj, rfl⟩ := hcc i hi
    have := hj 0 (by omega)
    simpa using this
theorem boxes_of {fuel : Nat} {ao : Option Addr} {n cap : Nat} {x : DataW H × List MemPlace} (h : DataW.trod enc Try.prog w base spare held fuel 22 [.slice ao n cap] = some x) : ∃ X, IsXB w ao n cap X := by
  obtain ⟨a, l, c, X, e, hp⟩ := boxes_in h
  cases e
  exact ⟨X, hp⟩
theorem ints_of {fuel : Nat} {ao : Option Addr} {n cap : Nat} {x : DataW H × List MemPlace} (h : DataW.trod enc Try.prog w base spare held fuel 34 [.slice ao n cap] = some x) : ∃ X, IsInts w ao n cap X := by
  obtain ⟨a, l, c, X, e, hp⟩ := ints_in h
  cases e
  exact ⟨X, hp⟩
theorem pts_of {fuel : Nat} {ao : Option Addr} {n cap : Nat} {x : DataW H × List MemPlace} (h : DataW.trod enc Try.prog w base spare held fuel 23 [.slice ao n cap] = some x) : ∃ X, IsPts w ao n cap X := by
  obtain ⟨a, l, c, X, e, hp⟩ := pts_in h
  cases e
  exact ⟨X, hp⟩
set_option maxRecDepth 100000 in
theorem box_of_val {r : Reach} {b2 fuel : Nat} {v : Value} {x : DataW H × List MemPlace} (hv : Value.okWide Try.prog w r b2 33 v) (h : DataW.trod enc Try.prog w base (fun _ => true) held fuel 33 v.cells.toList = some x) : ∃ b : Bx, v = boxV b.1 b.2 ∧ InX b := by
  obtain ⟨cs, rfl, _⟩ := Go.WideShapes.okWide_struct Try.underlying33 hv
  obtain ⟨b, hb, hin⟩ := box_cellsR h
  refine ⟨b, ?_, hin⟩
  have : cs.toList = [.int .i64 b.1.x, .int .i64 b.1.y, .int .i64 b.2.x, .int .i64 b.2.y] := hb
  unfold boxV
  rw [show cs = #[.int .i64 b.1.x, .int .i64 b.1.y, .int .i64 b.2.x, .int .i64 b.2.y] from Array.toList_inj.1 this]
end
end Go.Proofs.Ytlmmejdcjhbppaa

/- lives that came in: structs of lists of records, a fuse, what stays -/
import Derived.Test.YtdglaacjefcfdaaLRowsZ
import Derived.Deep.Slices
namespace Go.Proofs.Ytdglaacjefcfdaa
open Go.RowKit
theorem Try.cellsLife : Try.prog.cellsOf 56 = 3 := by kernel_rfl
theorem Try.cellsI : Try.prog.cellsOf 3 = 1 := by kernel_rfl
theorem Try.cellsR : Try.prog.cellsOf 22 = 1 := by kernel_rfl
/-- a life. -/
structure LifeV where
  L : List (List UInt8)
  fuse : Int
  keep : Int
/-- a life's three cells. -/
def LifeAt (w : World) (c0 c1 c2 : Value) (x : LifeV) : Prop :=
  (∃ la ln lc, c0 = .slice la ln lc ∧ IsLists w la ln lc x.L) ∧ c1 = .int .i64 x.fuse ∧ c2 = .int .i64 x.keep ∧ (Lit.int .i64 x.fuse).wf = true ∧ (Lit.int .i64 x.keep).wf = true ∧ ∀ r ∈ x.L, r.length ≤ 140737488355328
section
variable {H : Type} {enc : TypeId × Value → H} {w : World} {base : Nat} {held : Bool}
set_option maxRecDepth 100000 in
theorem life_cells {fuel : Nat} {cs : List Value} {d : DataW H} {pl : List MemPlace} (h : DataW.trod enc Try.prog w base (fun _ => true) held fuel 56 cs = some (d, pl)) (hz : ∀ n ∈ d.weights Try.prog 56, n ≤ reachBytes) :
    ∃ c0 c1 c2 x, cs = [c0, c1, c2] ∧ LifeAt w c0 c1 c2 x := by
  obtain ⟨xs, n, _, hx, hl, hxs, hf⟩ := DataW.trod_struct Try.underlying56 h
  rw [Try.cellsLife] at hl
  have hx3 : xs.length = 3 := hxs
  obtain ⟨v0, v1, v2, rfl⟩ : ∃ v0 v1 v2, cs = [v0, v1, v2] := by
    match cs, hl with
    | [a, b, c], _ => exact ⟨a, b, c, rfl⟩
  obtain ⟨x0, x1, x2, rfl⟩ : ∃ x0 x1 x2, xs = [x0, x1, x2] := by
    match xs, hx3 with
    | [a, b, c], _ => exact ⟨a, b, c, rfl⟩
  have f0 : DataW.trod enc Try.prog w base (fun _ => true) held n 22 (([v0, v1, v2].drop 0).take (Try.prog.cellsOf 22)) = some x0 := hf 0 _ rfl
  have f1 : DataW.trod enc Try.prog w base (fun _ => true) held n 3 (([v0, v1, v2].drop 1).take (Try.prog.cellsOf 3)) = some x1 := hf 1 _ rfl
  have f2 : DataW.trod enc Try.prog w base (fun _ => true) held n 3 (([v0, v1, v2].drop 2).take (Try.prog.cellsOf 3)) = some x2 := hf 2 _ rfl
  rw [Try.cellsR] at f0
  rw [Try.cellsI] at f1 f2
  obtain ⟨z1, e1, _, q1⟩ := DataW.trod_int Try.underlying3 f1
  obtain ⟨z2, e2, _, q2⟩ := DataW.trod_int Try.underlying3 f2
  have g1 : [v1] = [Value.int .i64 z1] := e1
  have g2 : [v2] = [Value.int .i64 z2] := e2
  cases g1
  cases g2
  have f3 : DataW.trod enc Try.prog w base (fun _ => true) held n 22 [v0] = some x0 := f0
  obtain ⟨d0, p0⟩ := x0
  have hsl : ∃ la ln lc, v0 = .slice la ln lc := by
    rcases Go.Deep.open_slice Try.underlying22 f3 with ⟨hcs, _⟩ | ⟨a, l, c, m, n, D, Pl, hcs, _⟩
    · cases hcs; exact ⟨_, _, _, rfl⟩
    · cases hcs; exact ⟨_, _, _, rfl⟩
  obtain ⟨la, ln, lc, rfl⟩ := hsl
  injection hx with hx _
  subst hx
  obtain ⟨L, hL, hLb⟩ := lists_in_sized f3 (fun k hk => hz k (by
    simp only [DataW.weights, Try.underlying56, List.map_cons]
    exact DataW.weights_mem_each (j := 0) rfl rfl k hk))
  exact ⟨_, _, _, ⟨L, z1, z2⟩, rfl, ⟨la, ln, lc, rfl, hL⟩, rfl, rfl, q1, q2, hLb⟩
end
end Go.Proofs.Ytdglaacjefcfdaa

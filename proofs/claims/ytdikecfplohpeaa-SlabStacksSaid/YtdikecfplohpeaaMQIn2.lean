/- regions, points that came in -/
import Derived.Test.YtdikecfplohpeaaMQCont
import Derived.WideShapes
namespace Go.Proofs.Ytdikecfplohpeaa
open Go.RowKit Go.Geo
/-- a region: its one cell, a slice. -/
structure Rg where
  a : Option Addr
  n : Nat
  c : Nat
def Rg.val (g : Rg) : Value := .agg #[.slice g.a g.n g.c]
theorem Try.cellsRg : Try.prog.cellsOf 24 = 1 := by kernel_rfl
section
variable {H : Type} {enc : TypeId × Value → H} {w : World} {base : Nat} {held : Bool}
set_option maxRecDepth 100000 in
theorem region_of_val {r : Reach} {b2 fuel : Nat} {v : Value} {x : DataW H × List MemPlace} (hv : Value.okWide Try.prog w r b2 24 v) (h : DataW.trod enc Try.prog w base (fun _ => true) held fuel 24 v.cells.toList = some x) : ∃ c : Rg, v = c.val ∧ ∃ R, IsRings w c.a c.n c.c R := by
  obtain ⟨cs, rfl, _⟩ := Go.WideShapes.okWide_struct Try.underlying24 hv
  obtain ⟨ys, n2, _, _, hl, hys, hf2⟩ := DataW.trod_struct Try.underlying24 h
  rw [Try.cellsRg] at hl
  have hy1 : ys.length = 1 := hys
  have hl1 : cs.toList.length = 1 := hl
  obtain ⟨v4, hv4⟩ : ∃ v4, cs.toList = [v4] := by
    match cs.toList, hl1 with
    | [a], _ => exact ⟨a, rfl⟩
  have k0 : DataW.trod enc Try.prog w base (fun _ => true) held n2 22 ((cs.toList.drop 0).take (Try.prog.cellsOf 22)) = ys[0]? := hf2 0 _ rfl
  rw [List.getElem?_eq_getElem (by omega), Try.cellsRs, hv4] at k0
  have k1 : DataW.trod enc Try.prog w base (fun _ => true) held n2 22 [v4] = some ys[0] := k0
  obtain ⟨ra, rn, rc, R, e4, hR⟩ := rings_in k1
  refine ⟨⟨ra, rn, rc⟩, ?_, R, hR⟩
  have : cs.toList = [.slice ra rn rc] := by rw [hv4]; exact e4
  unfold Rg.val
  rw [show cs = #[.slice ra rn rc] from Array.toList_inj.1 this]
set_option maxRecDepth 100000 in
theorem point_of_val {r : Reach} {b2 fuel : Nat} {v : Value} {x : DataW H × List MemPlace} (hv : Value.okWide Try.prog w r b2 40 v) (h : DataW.trod enc Try.prog w base (fun _ => true) held fuel 40 v.cells.toList = some x) : ∃ p : Pt, v = ptV p ∧ True := by
  obtain ⟨cs, rfl, _⟩ := Go.WideShapes.okWide_struct Try.underlying40 hv
  obtain ⟨p, hp⟩ := point_cells h
  refine ⟨p, ?_, trivial⟩
  have : cs.toList = [.int .i64 p.x, .int .i64 p.y] := hp
  unfold ptV
  rw [show cs = #[.int .i64 p.x, .int .i64 p.y] from Array.toList_inj.1 this]
end
end Go.Proofs.Ytdikecfplohpeaa

/- regions that came in, within the form's reach -/
namespace Go.Proofs.Ytdikecfplohpeaa
open Go.RowKit Go.Geo
section
variable {H : Type} {enc : TypeId × Value → H} {w : World} {base : Nat} {spare : Nat → Bool} {held : Bool}
set_option maxRecDepth 100000 in
theorem region_of_val_sized {r : Reach} {b2 fuel : Nat} {v : Value} {x : DataW H × List MemPlace} (hv : Value.okWide Try.prog w r b2 24 v) (h : DataW.trod enc Try.prog w base (fun _ => true) held fuel 24 v.cells.toList = some x) (hz : ∀ k ∈ x.1.weights Try.prog 24, k ≤ reachBytes) : ∃ c : Rg, v = c.val ∧ ∃ R, IsRings w c.a c.n c.c R ∧ Kept R := by
  obtain ⟨cs, rfl, _⟩ := Go.WideShapes.okWide_struct Try.underlying24 hv
  obtain ⟨ys, n2, _, rfl, hl, hys, hf2⟩ := DataW.trod_struct Try.underlying24 h
  rw [Try.cellsRg] at hl
  have hy1 : ys.length = 1 := hys
  have hl1 : cs.toList.length = 1 := hl
  obtain ⟨v4, hv4⟩ : ∃ v4, cs.toList = [v4] := by
    match cs.toList, hl1 with
    | [a], _ => exact ⟨a, rfl⟩
  obtain ⟨u0, rfl⟩ : ∃ u0, ys = [u0] := by
    match ys, hy1 with
    | [a], _ => exact ⟨a, rfl⟩
  have k0 : DataW.trod enc Try.prog w base (fun _ => true) held n2 22 ((cs.toList.drop 0).take (Try.prog.cellsOf 22)) = some u0 := hf2 0 _ rfl
  rw [Try.cellsRs, hv4] at k0
  have k1 : DataW.trod enc Try.prog w base (fun _ => true) held n2 22 [v4] = some u0 := k0
  obtain ⟨ra, rn, rc, R, e4, hR, hK⟩ := rings_in_sized k1 (fun k hk => hz k (by
    simp only [DataW.weights, Try.underlying24, List.map_cons]
    exact DataW.weights_mem_each (j := 0) rfl rfl k hk))
  refine ⟨⟨ra, rn, rc⟩, ?_, R, hR, hK⟩
  have : cs.toList = [.slice ra rn rc] := by rw [hv4]; exact e4
  unfold Rg.val
  rw [show cs = #[.slice ra rn rc] from Array.toList_inj.1 this]
theorem pts_of {fuel : Nat} {ao : Option Addr} {n cap : Nat} {d : DataW H} {pl : List MemPlace} (h : DataW.trod enc Try.prog w base spare held fuel 56 [.slice ao n cap] = some (d, pl)) : ∃ L, IsPts w ao n cap L := by
  obtain ⟨a, l, c, P, e, hp⟩ := pts_in h
  cases e
  exact ⟨P, hp⟩
end
end Go.Proofs.Ytdikecfplohpeaa

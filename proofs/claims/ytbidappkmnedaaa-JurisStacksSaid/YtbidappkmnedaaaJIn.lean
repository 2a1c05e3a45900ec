/- jurisdictions that came in, with their regions -/
import Derived.Test.YtbidappkmnedaaaJBig
import Derived.Test.YtbidappkmnedaaaJInts
import Derived.Deep.Slices
import Derived.ChangeShapes
import Derived.SizedLaws
namespace Go.Proofs.Ytbidappkmnedaaa
open Go.RowKit
/-- points in a slice. -/
def IsPts (w : World) (ao : Option Addr) (n cap : Nat) (P : List (Int × Int)) : Prop :=
  P.length = n ∧ n ≤ cap ∧ cap ≤ maxLen ∧ (0 < n → ∃ b off, ao = some ⟨b, off, none⟩ ∧ ∀ i, i < n → w.cell? ⟨b, off + i * 2, none⟩ = some (.int .i64 (P.getD i (0, 0)).1) ∧ w.cell? ⟨b, off + i * 2 + 1, none⟩ = some (.int .i64 (P.getD i (0, 0)).2)) ∧ (ao = none → n = 0 ∧ cap = 0)
/-- rings in a slice. -/
def IsRings (w : World) (ao : Option Addr) (n cap : Nat) (R : List (List (Int × Int))) : Prop :=
  R.length = n ∧ n ≤ cap ∧ cap ≤ maxLen ∧ (ao = none → n = 0 ∧ cap = 0) ∧ ∀ k, k < n → ∃ b off x y z, ao = some ⟨b, off, none⟩ ∧ w.cell? ⟨b, off + k, none⟩ = some (.slice x y z) ∧ IsPts w x y z (R.getD k [])
/-- the jurisdictions' regions. -/
def JursD (w : World) (L : List Jur) (RR : List (List (List (Int × Int)))) : Prop := ∀ i, i < L.length → IsRings w (L.getD i j0).ra (L.getD i j0).rn (L.getD i j0).rc (RR.getD i [])
theorem JursD.rings {w : World} {L : List Jur} {RR : List (List (List (Int × Int)))} (h : JursD w L RR) : JursR w L := fun i hi => by
  obtain ⟨h1, h2, h3, h4, h5⟩ := h i hi
  unfold maxLen at h3
  refine ⟨by omega, fun k hk => ?_⟩
  obtain ⟨b, off, x, y, z, e, hc, _⟩ := h5 k hk
  exact ⟨b, off, x, y, z, e, hc⟩
/-- jurisdictions, and all that they hold. -/
def IsJursX (w : World) (ao : Option Addr) (n cap : Nat) (L : List Jur) : Prop := IsJurs w ao n cap L ∧ ∃ RR, JursD w L RR
theorem Try.cellsJ : Try.prog.cellsOf 33 = 5 := by kernel_rfl
theorem Try.cellsRg : Try.prog.cellsOf 31 = 1 := by kernel_rfl
theorem Try.cellsRs : Try.prog.cellsOf 29 = 1 := by kernel_rfl
theorem Try.cellsPs : Try.prog.cellsOf 49 = 1 := by kernel_rfl
theorem Try.cellsPt : Try.prog.cellsOf 70 = 2 := by kernel_rfl
theorem Try.cellsI : Try.prog.cellsOf 3 = 1 := by kernel_rfl
/-- an address that bears a cell has no spot. -/
theorem spot_of_cell {w : World} {a : Addr} {v : Value} (h : w.cell? (a.add 0) = some v) : a.spot = none := by
  obtain ⟨b, off, spot⟩ := a
  cases spot with
  | none => rfl
  | some s =>
    exfalso
    simp only [Addr.add, World.cell?] at h
    split at h
    · simp at h
    · cases h
theorem add_add (b off i j : Nat) : ((⟨b, off, none⟩ : Addr).add i).add j = ⟨b, off + i + j, none⟩ := by
  have e1 : (⟨b, off, none⟩ : Addr).add i = ⟨b, off + i, none⟩ := by unfold Addr.add; split <;> simp_all
  rw [e1]; unfold Addr.add; split <;> simp_all
section
variable {H : Type} {enc : TypeId × Value → H} {w : World} {base : Nat} {spare : Nat → Bool} {held : Bool}
/-- a row's elements, one by one: a slice whose elements are of k cells. -/
theorem rows_of {k len m : Nat} {a : Addr} {α : Type} (d : α) (Q : List Value → α → Prop) (hk : 0 < k) (hl : len ≤ m) (h : ∀ i, i < m → ∃ cs', w.cells? base (a.add (i * k)) k = some cs' ∧ ∃ x, Q cs' x) :
    ∃ X : List α, X.length = len ∧ (0 < len → ∃ b off, a = ⟨b, off, none⟩ ∧ ∀ i, i < len → ∃ cs : List Value, cs.length = k ∧ (∀ j, j < k → w.cell? ⟨b, off + i * k + j, none⟩ = cs[j]?) ∧ Q cs (X.getD i d)) := by
  have each : ∀ i, ∃ x : α, i < len → ∃ cs, w.cells? base (a.add (i * k)) k = some cs ∧ Q cs x := by
    intro i
    by_cases hi : i < len
    · obtain ⟨cs, h1, x, h2⟩ := h i (by omega)
      exact ⟨x, fun _ => ⟨cs, h1, h2⟩⟩
    · exact ⟨d, fun h => absurd h hi⟩
  obtain ⟨R, hR⟩ := Classical.axiomOfChoice each
  refine ⟨(List.range len).map R, by simp, fun hpos => ?_⟩
  obtain ⟨b, off, spot⟩ := a
  have hs : spot = none := by
    obtain ⟨cs, h1, _⟩ := hR 0 hpos
    obtain ⟨_, hl0, hc⟩ := World.cells?_some h1
    have h0 := hc 0 hk
    rw [List.getElem?_eq_getElem (by omega)] at h0
    rw [Nat.zero_mul] at h0
    have hz : (⟨b, off, spot⟩ : Addr).add 0 = ⟨b, off, spot⟩ := rfl
    rw [hz] at h0
    exact spot_of_cell h0
  subst hs
  refine ⟨b, off, rfl, fun i hi => ?_⟩
  obtain ⟨cs, h1, h2⟩ := hR i hi
  obtain ⟨_, hl0, hc⟩ := World.cells?_some h1
  refine ⟨cs, hl0, fun j hj => by rw [← hc j hj, add_add], ?_⟩
  have : ((List.range len).map R).getD i d = R i := by simp [List.getD, hi]
  rw [this]
  exact h2
theorem point_cells {fuel : Nat} {cs : List Value} {x : DataW H × List MemPlace} (h : DataW.trod enc Try.prog w base spare held fuel 70 cs = some x) : ∃ p : Int × Int, cs = [.int .i64 p.1, .int .i64 p.2] := by
  obtain ⟨xs, n, _, _, hl, hxs, hf⟩ := DataW.trod_struct Try.underlying70 h
  rw [Try.cellsPt] at hl
  have hx2 : xs.length = 2 := hxs
  obtain ⟨v0, v1, rfl⟩ : ∃ v0 v1, cs = [v0, v1] := by
    match cs, hl with
    | [a, b], _ => exact ⟨a, b, rfl⟩
  have f0 : DataW.trod enc Try.prog w base spare held n 3 (([v0, v1].drop 0).take (Try.prog.cellsOf 3)) = xs[0]? := hf 0 _ rfl
  have f1 : DataW.trod enc Try.prog w base spare held n 3 (([v0, v1].drop 1).take (Try.prog.cellsOf 3)) = xs[1]? := hf 1 _ rfl
  rw [List.getElem?_eq_getElem (by omega), Try.cellsI] at f0
  rw [List.getElem?_eq_getElem (by omega), Try.cellsI] at f1
  obtain ⟨z0, e0, _, _⟩ := DataW.trod_int Try.underlying3 f0
  obtain ⟨z1, e1, _, _⟩ := DataW.trod_int Try.underlying3 f1
  have g0 : [v0] = [Value.int .i64 z0] := e0
  have g1 : [v1] = [Value.int .i64 z1] := e1
  cases g0
  cases g1
  exact ⟨(z0, z1), rfl⟩
theorem pts_in {fuel : Nat} {cs : List Value} {x : DataW H × List MemPlace} (h : DataW.trod enc Try.prog w base spare held fuel 49 cs = some x) : ∃ ao n cap P, cs = [.slice ao n cap] ∧ IsPts w ao n cap P := by
  rcases Go.Deep.open_slice Try.underlying49 h with ⟨rfl, _⟩ | ⟨a, l, c, m, n, D, Pl, rfl, _, hl, hm, hmm, _, hx⟩
  · exact ⟨_, _, _, [], rfl, rfl, Nat.le_refl _, by unfold maxLen; omega, fun h => absurd h (by omega), fun _ => ⟨rfl, rfl⟩⟩
  · rw [Try.cellsPt] at hx
    obtain ⟨P, hP, hc⟩ := rows_of (k := 2) (m := m) (len := l) ((0, 0) : Int × Int) (fun cs p => cs = [.int .i64 p.1, .int .i64 p.2]) (by omega) (by rw [hmm]; split <;> omega) (fun i hi => by
      obtain ⟨cs', h1, h2⟩ := hx i hi
      exact ⟨cs', h1, point_cells h2⟩)
    refine ⟨_, _, _, P, rfl, hP, hl, hm, fun hpos => ?_, fun h => by cases h⟩
    obtain ⟨b, off, rfl, hcc⟩ := hc hpos
    refine ⟨b, off, rfl, fun i hi => ?_⟩
    obtain ⟨cs, _, hj, rfl⟩ := hcc i hi
    exact ⟨hj 0 (by omega), hj 1 (by omega)⟩
theorem rings_in {fuel : Nat} {cs : List Value} {x : DataW H × List MemPlace} (h : DataW.trod enc Try.prog w base spare held fuel 29 cs = some x) : ∃ ao n cap R, cs = [.slice ao n cap] ∧ IsRings w ao n cap R := by
  rcases Go.Deep.open_slice Try.underlying29 h with ⟨rfl, _⟩ | ⟨a, l, c, m, n, D, Pl, rfl, _, hl, hm, hmm, _, hx⟩
  · exact ⟨_, _, _, [], rfl, rfl, Nat.le_refl _, by unfold maxLen; omega, fun _ => ⟨rfl, rfl⟩, fun k h => absurd h (by omega)⟩
  · rw [Try.cellsPs] at hx
    obtain ⟨R, hR, hc⟩ := rows_of (k := 1) (m := m) (len := l) ([] : List (Int × Int)) (fun cs P => ∃ ao n cap, cs = [.slice ao n cap] ∧ IsPts w ao n cap P) (by omega) (by rw [hmm]; split <;> omega) (fun i hi => by
      obtain ⟨cs', h1, h2⟩ := hx i hi
      obtain ⟨ao, n, cap, P, e, hp⟩ := pts_in h2
      exact ⟨cs', h1, P, ao, n, cap, e, hp⟩)
    refine ⟨_, _, _, R, rfl, hR, hl, hm, (fun h => by cases h), fun k hk => ?_⟩
    obtain ⟨b, off, rfl, hcc⟩ := hc (by omega)
    obtain ⟨cs, _, hj, ao, n', cap, rfl, hp⟩ := hcc k hk
    exact ⟨b, off, ao, n', cap, rfl, by simpa using hj 0 (by omega), hp⟩
theorem jur_cells {fuel : Nat} {cs : List Value} {x : DataW H × List MemPlace} (h : DataW.trod enc Try.prog w base spare held fuel 33 cs = some x) : ∃ jr : Jur × List (List (Int × Int)), cs = jr.1.row.toList ∧ IsRings w jr.1.ra jr.1.rn jr.1.rc jr.2 := by
  obtain ⟨xs, n, _, _, hl, hxs, hf⟩ := DataW.trod_struct Try.underlying33 h
  rw [Try.cellsJ] at hl
  have hx5 : xs.length = 5 := hxs
  obtain ⟨v0, v1, v2, v3, v4, rfl⟩ : ∃ v0 v1 v2 v3 v4, cs = [v0, v1, v2, v3, v4] := by
    match cs, hl with
    | [a, b, c, d, e], _ => exact ⟨a, b, c, d, e, rfl⟩
  have f0 : DataW.trod enc Try.prog w base spare held n 3 (([v0, v1, v2, v3, v4].drop 0).take (Try.prog.cellsOf 3)) = xs[0]? := hf 0 _ rfl
  have f1 : DataW.trod enc Try.prog w base spare held n 3 (([v0, v1, v2, v3, v4].drop 1).take (Try.prog.cellsOf 3)) = xs[1]? := hf 1 _ rfl
  have f2 : DataW.trod enc Try.prog w base spare held n 3 (([v0, v1, v2, v3, v4].drop 2).take (Try.prog.cellsOf 3)) = xs[2]? := hf 2 _ rfl
  have f3 : DataW.trod enc Try.prog w base spare held n 3 (([v0, v1, v2, v3, v4].drop 3).take (Try.prog.cellsOf 3)) = xs[3]? := hf 3 _ rfl
  have f4 : DataW.trod enc Try.prog w base spare held n 31 (([v0, v1, v2, v3, v4].drop 4).take (Try.prog.cellsOf 31)) = xs[4]? := hf 4 _ rfl
  rw [List.getElem?_eq_getElem (by omega), Try.cellsI] at f0
  rw [List.getElem?_eq_getElem (by omega), Try.cellsI] at f1
  rw [List.getElem?_eq_getElem (by omega), Try.cellsI] at f2
  rw [List.getElem?_eq_getElem (by omega), Try.cellsI] at f3
  rw [List.getElem?_eq_getElem (by omega), Try.cellsRg] at f4
  obtain ⟨z0, e0, _, _⟩ := DataW.trod_int Try.underlying3 f0
  obtain ⟨z1, e1, _, _⟩ := DataW.trod_int Try.underlying3 f1
  obtain ⟨z2, e2, _, _⟩ := DataW.trod_int Try.underlying3 f2
  obtain ⟨z3, e3, _, _⟩ := DataW.trod_int Try.underlying3 f3
  have g0 : [v0] = [Value.int .i64 z0] := e0
  have g1 : [v1] = [Value.int .i64 z1] := e1
  have g2 : [v2] = [Value.int .i64 z2] := e2
  have g3 : [v3] = [Value.int .i64 z3] := e3
  have f5 : DataW.trod enc Try.prog w base spare held n 31 [v4] = some xs[4] := f4
  obtain ⟨ys, n2, _, _, _, hys, hf2⟩ := DataW.trod_struct Try.underlying31 f5
  have hy1 : ys.length = 1 := hys
  have k0 : DataW.trod enc Try.prog w base spare held n2 29 (([v4].drop 0).take (Try.prog.cellsOf 29)) = ys[0]? := hf2 0 _ rfl
  rw [List.getElem?_eq_getElem (by omega), Try.cellsRs] at k0
  have k1 : DataW.trod enc Try.prog w base spare held n2 29 [v4] = some ys[0] := k0
  obtain ⟨ra, rn, rc, R, e4, hR⟩ := rings_in k1
  cases g0
  cases g1
  cases g2
  cases g3
  cases e4
  exact ⟨(⟨z0, z1, z2, z3, ra, rn, rc⟩, R), rfl, hR⟩
theorem juris_in {fuel : Nat} {ao : Option Addr} {len cap : Nat} {x : DataW H × List MemPlace} (h : DataW.trod enc Try.prog w base spare held fuel 22 [.slice ao len cap] = some x) : ∃ L, IsJursX w ao len cap L := by
  rcases Go.Deep.open_slice Try.underlying22 h with ⟨hcs, _⟩ | ⟨a, l, c, m, n, D, Pl, hcs, _, hl, hm, hmm, _, hx⟩
  · simp at hcs
    obtain ⟨rfl, rfl, rfl⟩ := hcs
    exact ⟨[], ⟨rfl, Nat.le_refl _, by unfold maxLen; omega, fun h => absurd h (by omega), fun _ => ⟨rfl, rfl⟩⟩, [], fun i hi => absurd hi (by simp)⟩
  · simp at hcs
    obtain ⟨rfl, rfl, rfl⟩ := hcs
    rw [Try.cellsJ] at hx
    obtain ⟨X, hX, hc⟩ := rows_of (k := 5) (m := m) (len := len) ((j0, []) : Jur × List (List (Int × Int))) (fun cs jr => cs = jr.1.row.toList ∧ IsRings w jr.1.ra jr.1.rn jr.1.rc jr.2) (by omega) (by rw [hmm]; split <;> omega) (fun i hi => by
      obtain ⟨cs', h1, h2⟩ := hx i hi
      exact ⟨cs', h1, jur_cells h2⟩)
    have gf : ∀ i, i < len → (X.map (·.1)).getD i j0 = (X.getD i (j0, [])).1 := fun i hi => by simp [List.getD_eq_getElem?_getD, List.getElem?_map, List.getElem?_eq_getElem (show i < X.length by omega)]
    have gs : ∀ i, i < len → (X.map (·.2)).getD i [] = (X.getD i (j0, [])).2 := fun i hi => by simp [List.getD_eq_getElem?_getD, List.getElem?_map, List.getElem?_eq_getElem (show i < X.length by omega)]
    refine ⟨X.map (·.1), ⟨by simpa using hX, hl, hm, fun hpos => ?_, fun h => by cases h⟩, X.map (·.2), fun i hi => ?_⟩
    · obtain ⟨b, off, rfl, hcc⟩ := hc hpos
      refine ⟨b, off, rfl, fun i hi j hj => ?_⟩
      obtain ⟨cs, _, hcell, e, _⟩ := hcc i hi
      rw [gf i hi, hcell j hj, e, Array.getElem?_toList]
      exact Jur.row_get _ j hj
    · rw [List.length_map, hX] at hi
      obtain ⟨b, off, _, hcc⟩ := hc (by omega)
      obtain ⟨cs, _, _, _, hr⟩ := hcc i hi
      rw [gf i hi, gs i hi]
      exact hr
end
end Go.Proofs.Ytbidappkmnedaaa

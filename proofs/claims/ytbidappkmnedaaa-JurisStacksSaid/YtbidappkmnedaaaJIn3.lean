/- jurisdictions that came in, within the form's reach -/
import Derived.Test.YtbidappkmnedaaaJIn
namespace Go.Proofs.Ytbidappkmnedaaa
open Go.RowKit
/-- no ring is longer than memory. -/
def Kept (R : List (List (Int × Int))) : Prop := ∀ k, k < R.length → (R.getD k []).length ≤ 8796093022208
def IsJursZ (w : World) (ao : Option Addr) (n cap : Nat) (L : List Jur) : Prop := IsJurs w ao n cap L ∧ ∃ RR, JursD w L RR ∧ ∀ i, i < L.length → Kept (RR.getD i [])
theorem Try.bytesPt : Try.prog.bytesOf 70 = 16 := by kernel_rfl
section
variable {H : Type} {enc : TypeId × Value → H} {w : World} {base : Nat} {spare : Nat → Bool} {held : Bool}
theorem weightsAll_memJ {P : Program} {e : TypeId} {d : DataW H} {n : Nat} : ∀ {l : List (DataW H)}, d ∈ l → n ∈ d.weights P e → n ∈ DataW.weightsAll P e l
  | x :: l, h, hm => by
    simp only [DataW.weightsAll, List.mem_append]
    rcases List.mem_cons.1 h with rfl | h
    · exact .inl hm
    · exact .inr (weightsAll_memJ h hm)
theorem pts_len {fuel : Nat} {ao : Option Addr} {n cap : Nat} {x : DataW H × List MemPlace} (h : DataW.trod enc Try.prog w base spare held fuel 49 [.slice ao n cap] = some x) (hz : ∀ k ∈ x.1.weights Try.prog 49, k ≤ reachBytes) : n ≤ 8796093022208 := by
  rcases Go.Deep.open_slice Try.underlying49 h with ⟨e2, _⟩ | ⟨a, l, c, m, n', D, Pl, e2, _, hl, hm, hmm, rfl, hx⟩
  · cases e2; omega
  · cases e2
    have h1 := hz ((n + (m - n)) * 16) (by
      simp only [DataW.weights, Try.underlying49, Try.bytesPt, List.length_map, List.length_range]
      exact List.mem_cons_self)
    have h2 : reachBytes < 2 ^ 47 := reachBytes_lt
    omega
theorem rings_in_sized {fuel : Nat} {cs : List Value} {x : DataW H × List MemPlace} (h : DataW.trod enc Try.prog w base spare held fuel 29 cs = some x) (hz : ∀ k ∈ x.1.weights Try.prog 29, k ≤ reachBytes) : ∃ ao n cap R, cs = [.slice ao n cap] ∧ IsRings w ao n cap R ∧ Kept R := by
  rcases Go.Deep.open_slice Try.underlying29 h with ⟨rfl, _⟩ | ⟨a, l, c, m, n, D, Pl, rfl, _, hl, hm, hmm, rfl, hx⟩
  · exact ⟨_, _, _, [], rfl, ⟨rfl, Nat.le_refl _, by unfold maxLen; omega, fun _ => ⟨rfl, rfl⟩, fun k h => absurd h (by omega)⟩, fun k hk => absurd hk (by simp)⟩
  · rw [Try.cellsPs] at hx
    have hlm : l ≤ m := by rw [hmm]; split <;> omega
    obtain ⟨R, hR, hc⟩ := rows_of (k := 1) (m := l) (len := l) ([] : List (Int × Int)) (fun cs P => ∃ ao n cap, cs = [.slice ao n cap] ∧ IsPts w ao n cap P ∧ P.length ≤ 8796093022208) (by omega) (Nat.le_refl _) (fun i hi => by
      obtain ⟨cs', h1, h2⟩ := hx i (by omega)
      obtain ⟨ao, n, cap, P, e, hp⟩ := pts_in h2
      subst e
      refine ⟨_, h1, P, ao, n, cap, rfl, hp, ?_⟩
      rw [hp.1]
      exact pts_len h2 (fun k hk => hz k (by
        simp only [DataW.weights, Try.underlying29]
        refine List.mem_cons_of_mem _ (List.mem_append_left _ ?_)
        exact weightsAll_memJ (List.mem_map.2 ⟨i, List.mem_range.2 hi, rfl⟩) hk)))
    refine ⟨_, _, _, R, rfl, ⟨hR, hl, hm, (fun h => by cases h), fun k hk => ?_⟩, fun k hk => ?_⟩
    · obtain ⟨b, off, rfl, hcc⟩ := hc (by omega)
      obtain ⟨cs, _, hj, ao, n', cap, rfl, hp, _⟩ := hcc k hk
      exact ⟨b, off, ao, n', cap, rfl, by simpa using hj 0 (by omega), hp⟩
    · obtain ⟨b, off, _, hcc⟩ := hc (by omega)
      obtain ⟨cs, _, hj, ao, n', cap, _, _, hz⟩ := hcc k (by omega)
      exact hz
theorem jur_cells_sized {fuel : Nat} {cs : List Value} {x : DataW H × List MemPlace} (h : DataW.trod enc Try.prog w base spare held fuel 33 cs = some x) (hz : ∀ k ∈ x.1.weights Try.prog 33, k ≤ reachBytes) : ∃ jr : Jur × List (List (Int × Int)), cs = jr.1.row.toList ∧ IsRings w jr.1.ra jr.1.rn jr.1.rc jr.2 ∧ Kept jr.2 := by
  obtain ⟨xs, n, _, rfl, hl, hxs, hf⟩ := DataW.trod_struct Try.underlying33 h
  rw [Try.cellsJ] at hl
  have hx5 : xs.length = 5 := hxs
  obtain ⟨v0, v1, v2, v3, v4, rfl⟩ : ∃ v0 v1 v2 v3 v4, cs = [v0, v1, v2, v3, v4] := by
    match cs, hl with
    | [a, b, c, d, e], _ => exact ⟨a, b, c, d, e, rfl⟩
  obtain ⟨y0, y1, y2, y3, y4, rfl⟩ : ∃ y0 y1 y2 y3 y4, xs = [y0, y1, y2, y3, y4] := by
    match xs, hx5 with
    | [a, b, c, d, e], _ => exact ⟨a, b, c, d, e, rfl⟩
  have f0 : DataW.trod enc Try.prog w base spare held n 3 (([v0, v1, v2, v3, v4].drop 0).take (Try.prog.cellsOf 3)) = some y0 := hf 0 _ rfl
  have f1 : DataW.trod enc Try.prog w base spare held n 3 (([v0, v1, v2, v3, v4].drop 1).take (Try.prog.cellsOf 3)) = some y1 := hf 1 _ rfl
  have f2 : DataW.trod enc Try.prog w base spare held n 3 (([v0, v1, v2, v3, v4].drop 2).take (Try.prog.cellsOf 3)) = some y2 := hf 2 _ rfl
  have f3 : DataW.trod enc Try.prog w base spare held n 3 (([v0, v1, v2, v3, v4].drop 3).take (Try.prog.cellsOf 3)) = some y3 := hf 3 _ rfl
  have f4 : DataW.trod enc Try.prog w base spare held n 31 (([v0, v1, v2, v3, v4].drop 4).take (Try.prog.cellsOf 31)) = some y4 := hf 4 _ rfl
  rw [Try.cellsI] at f0 f1 f2 f3
  rw [Try.cellsRg] at f4
  obtain ⟨z0, e0, _, _⟩ := DataW.trod_int Try.underlying3 f0
  obtain ⟨z1, e1, _, _⟩ := DataW.trod_int Try.underlying3 f1
  obtain ⟨z2, e2, _, _⟩ := DataW.trod_int Try.underlying3 f2
  obtain ⟨z3, e3, _, _⟩ := DataW.trod_int Try.underlying3 f3
  have g0 : [v0] = [Value.int .i64 z0] := e0
  have g1 : [v1] = [Value.int .i64 z1] := e1
  have g2 : [v2] = [Value.int .i64 z2] := e2
  have g3 : [v3] = [Value.int .i64 z3] := e3
  have f5 : DataW.trod enc Try.prog w base spare held n 31 [v4] = some y4 := f4
  have hz4 : ∀ k ∈ y4.1.weights Try.prog 31, k ≤ reachBytes := fun k hk => hz k (by
    simp only [DataW.weights, Try.underlying33, List.map_cons]
    exact DataW.weights_mem_each (j := 4) rfl rfl k hk)
  obtain ⟨ys, n2, _, rfl, _, hys, hf2⟩ := DataW.trod_struct Try.underlying31 f5
  have hy1 : ys.length = 1 := hys
  obtain ⟨u0, rfl⟩ : ∃ u0, ys = [u0] := by
    match ys, hy1 with
    | [a], _ => exact ⟨a, rfl⟩
  have k0 : DataW.trod enc Try.prog w base spare held n2 29 (([v4].drop 0).take (Try.prog.cellsOf 29)) = some u0 := hf2 0 _ rfl
  rw [Try.cellsRs] at k0
  have k1 : DataW.trod enc Try.prog w base spare held n2 29 [v4] = some u0 := k0
  obtain ⟨ra, rn, rc, R, e4, hR, hK⟩ := rings_in_sized k1 (fun k hk => hz4 k (by
    simp only [DataW.weights, Try.underlying31, List.map_cons]
    exact DataW.weights_mem_each (j := 0) rfl rfl k hk))
  cases g0
  cases g1
  cases g2
  cases g3
  cases e4
  exact ⟨(⟨z0, z1, z2, z3, ra, rn, rc⟩, R), rfl, hR, hK⟩
theorem juris_in_sized {fuel : Nat} {ao : Option Addr} {len cap : Nat} {d : DataW H} {pl : List MemPlace} (h : DataW.trod enc Try.prog w base spare held fuel 22 [.slice ao len cap] = some (d, pl)) (hz : ∀ n ∈ d.weights Try.prog 22, n ≤ reachBytes) : ∃ L, IsJursZ w ao len cap L := by
  rcases Go.Deep.open_slice Try.underlying22 h with ⟨hcs, _⟩ | ⟨a, l, c, m, n, D, Pl, hcs, _, hl, hm, hmm, hx0, hx⟩
  · simp at hcs
    obtain ⟨rfl, rfl, rfl⟩ := hcs
    exact ⟨[], ⟨rfl, Nat.le_refl _, by unfold maxLen; omega, fun h => absurd h (by omega), fun _ => ⟨rfl, rfl⟩⟩, [], fun i hi => absurd hi (by simp), fun i hi => absurd hi (by simp)⟩
  · simp at hcs
    obtain ⟨rfl, rfl, rfl⟩ := hcs
    injection hx0 with hx0 _
    subst hx0
    rw [Try.cellsJ] at hx
    have hlm : len ≤ m := by rw [hmm]; split <;> omega
    obtain ⟨X, hX, hc⟩ := rows_of (k := 5) (m := len) (len := len) ((j0, []) : Jur × List (List (Int × Int))) (fun cs jr => cs = jr.1.row.toList ∧ IsRings w jr.1.ra jr.1.rn jr.1.rc jr.2 ∧ Kept jr.2) (by omega) (Nat.le_refl _) (fun i hi => by
      obtain ⟨cs', h1, h2⟩ := hx i (by omega)
      exact ⟨cs', h1, jur_cells_sized h2 (fun k hk => hz k (by
        simp only [DataW.weights, Try.underlying22]
        refine List.mem_cons_of_mem _ (List.mem_append_left _ ?_)
        exact weightsAll_memJ (List.mem_map.2 ⟨i, List.mem_range.2 hi, rfl⟩) hk))⟩)
    have gf : ∀ i, i < len → (X.map (·.1)).getD i j0 = (X.getD i (j0, [])).1 := fun i hi => by simp [List.getD_eq_getElem?_getD, List.getElem?_map, List.getElem?_eq_getElem (show i < X.length by omega)]
    have gs : ∀ i, i < len → (X.map (·.2)).getD i [] = (X.getD i (j0, [])).2 := fun i hi => by simp [List.getD_eq_getElem?_getD, List.getElem?_map, List.getElem?_eq_getElem (show i < X.length by omega)]
    refine ⟨X.map (·.1), ⟨by simpa using hX, hl, hm, fun hpos => ?_, fun h => by cases h⟩, X.map (·.2), fun i hi => ?_, fun i hi => ?_⟩
    · obtain ⟨b, off, rfl, hcc⟩ := hc hpos
      refine ⟨b, off, rfl, fun i hi j hj => ?_⟩
      obtain ⟨cs, _, hcell, e, _⟩ := hcc i hi
      rw [gf i hi, hcell j hj, e, Array.getElem?_toList]
      exact Jur.row_get _ j hj
    · rw [List.length_map, hX] at hi
      obtain ⟨b, off, _, hcc⟩ := hc (by omega)
      obtain ⟨cs, _, _, _, hr, _⟩ := hcc i hi
      rw [gf i hi, gs i hi]
      exact hr
    · rw [List.length_map, hX] at hi
      obtain ⟨b, off, _, hcc⟩ := hc (by omega)
      obtain ⟨cs, _, _, _, _, hk⟩ := hcc i hi
      rw [gs i hi]
      exact hk
end
end Go.Proofs.Ytbidappkmnedaaa

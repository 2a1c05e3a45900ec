/- regions in a slice that came in, within the form's reach -/
import Derived.Test.YtjiiikeniocmfaaGreatMQConcat
import Derived.Test.YtjiiikeniocmfaaGreatMSInts
namespace Go.Proofs.YtjiiikeniocmfaaGreat
open Go.RowKit Go.Geo
def IsRegsZ (w : World) (ao : Option Addr) (n cap : Nat) (G : List Reg) : Prop := IsRegs w ao n cap G ∧ ∀ i, i < G.length → Kept (G.getD i [])
section
variable {H : Type} {enc : TypeId × Value → H} {w : World} {base : Nat} {spare : Nat → Bool} {held : Bool}
set_option maxRecDepth 100000 in
theorem region_cells_sized {fuel : Nat} {cs : List Value} {x : DataW H × List MemPlace} (h : DataW.trod enc Tryz.prog w base spare held fuel 30 cs = some x) (hz : ∀ k ∈ x.1.weights Tryz.prog 30, k ≤ reachBytes) : ∃ R ra rn rc, cs = [.slice ra rn rc] ∧ IsRings w ra rn rc R ∧ Kept R := by
  obtain ⟨ys, n2, _, rfl, hl, hys, hf2⟩ := DataW.trod_struct Tryz.underlying30 h
  rw [Tryz.cellsRg] at hl
  have hy1 : ys.length = 1 := hys
  have hl1 : cs.length = 1 := hl
  obtain ⟨v4, hv4⟩ : ∃ v4, cs = [v4] := by
    match cs, hl1 with
    | [a], _ => exact ⟨a, rfl⟩
  obtain ⟨u0, rfl⟩ : ∃ u0, ys = [u0] := by
    match ys, hy1 with
    | [a], _ => exact ⟨a, rfl⟩
  have k0 : DataW.trod enc Tryz.prog w base spare held n2 28 ((cs.drop 0).take (Tryz.prog.cellsOf 28)) = some u0 := hf2 0 _ rfl
  rw [Tryz.cellsRs, hv4] at k0
  have k1 : DataW.trod enc Tryz.prog w base spare held n2 28 [v4] = some u0 := k0
  obtain ⟨ra, rn, rc, R, e4, hR, hK⟩ := rings_in_sized k1 (fun k hk => hz k (by
    simp only [DataW.weights, Tryz.underlying30, List.map_cons]
    exact DataW.weights_mem_each (j := 0) rfl rfl k hk))
  exact ⟨R, ra, rn, rc, hv4.trans e4, hR, hK⟩
set_option maxRecDepth 100000 in
theorem regs_in_sized {fuel : Nat} {ao : Option Addr} {n cap : Nat} {d : DataW H} {pl : List MemPlace} (h : DataW.trod enc Tryz.prog w base spare held fuel 26 [.slice ao n cap] = some (d, pl)) (hz : ∀ k ∈ d.weights Tryz.prog 26, k ≤ reachBytes) : ∃ G, IsRegsZ w ao n cap G := by
  rcases Go.Deep.open_slice Tryz.underlying26 h with ⟨hcs, _⟩ | ⟨a, l, c, m, n', D, Pl, hcs, _, hl, hm, hmm, hx0, hx⟩
  · simp at hcs
    obtain ⟨rfl, rfl, rfl⟩ := hcs
    exact ⟨[], ⟨rfl, Nat.le_refl _, by unfold maxLen; omega, fun _ => ⟨rfl, rfl⟩, fun k h => absurd h (by omega)⟩, fun k hk => absurd hk (by simp)⟩
  · simp at hcs
    obtain ⟨rfl, rfl, rfl⟩ := hcs
    injection hx0 with hx0 _
    subst hx0
    rw [Tryz.cellsRg] at hx
    have hlm : n ≤ m := by rw [hmm]; split <;> omega
    obtain ⟨R, hR, hc⟩ := rows_of (k := 1) (m := n) (len := n) ([] : Reg) (fun cs R => ∃ ra rn rc, cs = [.slice ra rn rc] ∧ IsRings w ra rn rc R ∧ Kept R) (by omega) (Nat.le_refl _) (fun i hi => by
      obtain ⟨cs', h1, h2⟩ := hx i (by omega)
      obtain ⟨R, ra, rn, rc, e, hp, hk⟩ := region_cells_sized h2 (fun k hk => hz k (by
        simp only [DataW.weights, Tryz.underlying26]
        refine List.mem_cons_of_mem _ (List.mem_append_left _ ?_)
        exact weightsAll_memJ (List.mem_map.2 ⟨i, List.mem_range.2 hi, rfl⟩) hk))
      exact ⟨_, h1, R, ra, rn, rc, e, hp, hk⟩)
    refine ⟨R, ⟨hR, hl, hm, (fun h => by cases h), fun k hk => ?_⟩, fun k hk => ?_⟩
    · obtain ⟨b, off, e, hcc⟩ := hc (by omega)
      obtain ⟨cs, _, hj, ra, rn, rc, rfl, hp, _⟩ := hcc k hk
      exact ⟨b, off, ra, rn, rc, congrArg some e, by simpa using hj 0 (by omega), hp⟩
    · obtain ⟨b, off, _, hcc⟩ := hc (by omega)
      obtain ⟨cs, _, hj, ra, rn, rc, _, _, hz⟩ := hcc k (by omega)
      exact hz
theorem ints_in {fuel : Nat} {cs : List Value} {x : DataW H × List MemPlace} (h : DataW.trod enc Tryz.prog w base spare held fuel 22 cs = some x) : ∃ ao n cap X, cs = [.slice ao n cap] ∧ IsInts w ao n cap X := by
  rcases Go.Deep.open_slice Tryz.underlying22 h with ⟨rfl, _⟩ | ⟨a, l, c, m, n, D, Pl, rfl, _, hl, hm, hmm, _, hx⟩
  · exact ⟨_, _, _, [], rfl, ⟨rfl, Nat.le_refl _, by unfold maxLen; omega, fun h => absurd h (by omega), fun _ => ⟨rfl, rfl⟩⟩⟩
  · rw [Tryz.cellsI] at hx
    obtain ⟨P, hP, hc⟩ := rows_of (k := 1) (m := m) (len := l) (0 : Int) (fun cs b => cs = [.int .i64 b]) (by omega) (by rw [hmm]; split <;> omega) (fun i hi => by
      obtain ⟨cs', h1, h2⟩ := hx i hi
      obtain ⟨z, e, _, _⟩ := DataW.trod_int Tryz.underlying3 h2
      exact ⟨cs', h1, z, e⟩)
    refine ⟨_, _, _, P, rfl, ⟨hP, hl, hm, fun hpos => ?_, fun h => by cases h⟩⟩
    obtain ⟨b, off, rfl, hcc⟩ := hc hpos
    refine ⟨b, off, rfl, fun i hi => ?_⟩
    obtain ⟨cs, _, hj, rfl⟩ := hcc i hi
    have := hj 0 (by omega)
    simpa using this
theorem ints_of {fuel : Nat} {ao : Option Addr} {n cap : Nat} {x : DataW H × List MemPlace} (h : DataW.trod enc Tryz.prog w base spare held fuel 22 [.slice ao n cap] = some x) : ∃ X, IsInts w ao n cap X := by
  obtain ⟨a, l, c, X, e, hp⟩ := ints_in h
  cases e
  exact ⟨X, hp⟩
end
end Go.Proofs.YtjiiikeniocmfaaGreat

/- lives that came in -/
import Derived.Test.YtdglaacjefcfdaaLCrO
namespace Go.Proofs.Ytdglaacjefcfdaa
open Go.RowKit
section
variable {H : Type} {enc : TypeId × Value → H} {w : World} {base : Nat} {held : Bool}
/-- n is among a life's weights. -/
def weightsLife (d : DataW H) (n : Nat) : Prop := n ∈ d.weights Try.prog 56
theorem weightsAll_life {d : DataW H} {n : Nat} : ∀ {l : List (DataW H)}, d ∈ l → weightsLife d n → n ∈ DataW.weightsAll Try.prog 56 l
  | x :: l, h, hm => by
    simp only [DataW.weightsAll, List.mem_append]
    rcases List.mem_cons.1 h with rfl | h
    · exact .inl hm
    · exact .inr (weightsAll_life h hm)
theorem lives_in_sized {fuel : Nat} {ao : Option Addr} {len cap : Nat} {d : DataW H} {pl : List MemPlace} (h : DataW.trod enc Try.prog w base (fun _ => true) held fuel 54 [.slice ao len cap] = some (d, pl))
    (hz : ∀ n ∈ d.weights Try.prog 54, n ≤ reachBytes) : ∃ X, IsLives w ao len cap X := by
  rcases Go.Deep.open_slice Try.underlying54 h with ⟨hcs, _⟩ | ⟨a, l, c, m, n, D, Pl, hcs, _, hl, hm, hmm, hx0, hx⟩
  · simp at hcs
    obtain ⟨rfl, rfl, rfl⟩ := hcs
    exact ⟨[], rfl, Nat.le_refl _, by unfold maxLen; omega, fun i h => absurd h (by omega)⟩
  · simp at hcs
    obtain ⟨rfl, rfl, rfl⟩ := hcs
    rw [Try.cellsLife] at hx
    have hlm : len ≤ m := by rw [hmm]; split <;> omega
    injection hx0 with hx0 _
    subst hx0
    have hsp : 0 < len → a.spot = none := fun h0 => by
      obtain ⟨cs', h1, _⟩ := hx 0 (by omega)
      obtain ⟨_, hl3, hcell⟩ := World.cells?_some h1
      have g0 := hcell 0 (by omega)
      rw [List.getElem?_eq_getElem (by omega)] at g0
      obtain ⟨b, off, spot⟩ := a
      cases spot with
      | none => rfl
      | some s =>
        exfalso
        simp only [Addr.add, World.cell?] at g0
        split at g0
        · simp at g0
        · cases g0
    have each : ∀ i, ∃ x : LifeV, i < len → ∃ b off c0 c1 c2, (some a : Option Addr) = some ⟨b, off, none⟩ ∧ w.cell? ⟨b, off + i * 3, none⟩ = some c0 ∧ w.cell? ⟨b, off + i * 3 + 1, none⟩ = some c1 ∧ w.cell? ⟨b, off + i * 3 + 2, none⟩ = some c2 ∧ LifeAt w c0 c1 c2 x := by
      intro i
      by_cases hi : i < len
      · obtain ⟨cs', h1, h2⟩ := hx i (by omega)
        obtain ⟨c0, c1, c2, x, rfl, hX⟩ := life_cells h2 (fun k hk => hz k (by
          simp only [DataW.weights, Try.underlying54]
          refine List.mem_cons_of_mem _ (List.mem_append_left _ ?_)
          exact weightsAll_life (List.mem_map.2 ⟨i, List.mem_range.2 hi, rfl⟩) hk))
        obtain ⟨_, _, hcell⟩ := World.cells?_some h1
        have g0 : w.cell? ((a.add (i * 3)).add 0) = some c0 := hcell 0 (by omega)
        have g1 : w.cell? ((a.add (i * 3)).add 1) = some c1 := hcell 1 (by omega)
        have g2 : w.cell? ((a.add (i * 3)).add 2) = some c2 := hcell 2 (by omega)
        have hs := hsp (by omega)
        obtain ⟨b, off, spot⟩ := a
        dsimp only at hs
        subst hs
        have e : ∀ j, ((⟨b, off, none⟩ : Addr).add (i * 3)).add j = ⟨b, off + i * 3 + j, none⟩ := fun j => by
          have e1 : (⟨b, off, none⟩ : Addr).add (i * 3) = ⟨b, off + i * 3, none⟩ := by unfold Addr.add; split <;> simp_all
          rw [e1]; unfold Addr.add; split <;> simp_all
        rw [e] at g0 g1 g2
        exact ⟨x, fun _ => ⟨b, off, c0, c1, c2, rfl, g0, g1, g2, hX⟩⟩
      · exact ⟨life0, fun h => absurd h hi⟩
    obtain ⟨R, hR⟩ := Classical.axiomOfChoice each
    refine ⟨(List.range len).map R, by simp, hl, hm, fun i hi => ?_⟩
    have e : ((List.range len).map R).getD i life0 = R i := by simp [List.getD, hi]
    rw [e]
    exact hR i hi
end
end Go.Proofs.Ytdglaacjefcfdaa

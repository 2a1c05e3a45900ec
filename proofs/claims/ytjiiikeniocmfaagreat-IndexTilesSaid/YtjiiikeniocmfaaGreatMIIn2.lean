/- regions in a slice that came in, within the form's reach -/
import Derived.Test.YtjiiikeniocmfaaGreatMQConcat
import Derived.Test.YtjiiikeniocmfaaGreatMSInts
namespace Go.Proofs.YtjiiikeniocmfaaGreat
open Go.RowKit Go.Geo
section
variable {H : Type} {enc : TypeId × Value → H} {w : World} {base : Nat} {spare : Nat → Bool} {held : Bool}
theorem ints_in {fuel : Nat} {cs : List Value} {x : DataW H × List MemPlace} (h : DataW.trod enc Tryz.prog w base spare held fuel 22 cs = some x) : ∃ ao n cap X, cs = [.slice ao n cap] ∧ IsInts w ao n cap X := by
  rcases Go.Deep.open_slice Tryz.underlying22 h with ⟨rfl, _⟩ | ⟨a, l, c, m, n, D, Pl, rfl, _, hl, hm, hmm, _, hx⟩
  · exact ⟨_, _, _, [], rfl, ⟨rfl, Nat.le_refl _, by unfold maxLen; omega, fun h => absurd h (by omega), fun _ => ⟨rfl, rfl⟩⟩⟩
  · rw [Tryz.cellsI] at hx
    obtain ⟨P, hP, hc⟩ := rows_of (k := 1) (m := m) (len := l) (0 : Int) (fun cs b => cs = [.int .i64 b]) (by omega) (by rw [hmm]; split <;> omega) (fun i hi => by
      obtain ⟨cs', h1, h2⟩ := hx i hi
      obtain ⟨z, e, _, _⟩ := DataW.trod_int Tryz.underlying3 h2
      exact ⟨cs', h1, z, e⟩)
    refine ⟨_, _, _, P, rfl, ⟨hP, hl, hm, fun hpos => ?_, fun h => by cases h⟩⟩
    obtain ⟨b, off, rfl, hcc⟩ := hc hpos
    refine ⟨b, off, rfl, fun i hi => ?_⟩
    obtain ⟨cs, _, hj, rfl⟩ := hcc i hi
    have := hj 0 (by omega)
    simpa using this
theorem ints_of {fuel : Nat} {ao : Option Addr} {n cap : Nat} {x : DataW H × List MemPlace} (h : DataW.trod enc Tryz.prog w base spare held fuel 22 [.slice ao n cap] = some x) : ∃ X, IsInts w ao n cap X := by
  obtain ⟨a, l, c, X, e, hp⟩ := ints_in h
  cases e
  exact ⟨X, hp⟩
end
end Go.Proofs.YtjiiikeniocmfaaGreat

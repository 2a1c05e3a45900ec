/- whole numbers that came in -/
import Derived.Test.YtbidappkmnedaaaJIn
namespace Go.Proofs.Ytbidappkmnedaaa
open Go.RowKit
theorem wf_int {a : Int} (h : (Lit.int .i64 a).wf = true) : -9223372036854775808 ≤ a ∧ a ≤ 9223372036854775807 := by
  simp only [Lit.wf, decide_eq_true_eq, Bool.and_eq_true] at h
  exact h
/-- numbers that came in: each fits its kind. -/
def IsIntsX (w : World) (ao : Option Addr) (n cap : Nat) (L : List Int) : Prop := IsInts w ao n cap L ∧ ∀ x ∈ L, -9223372036854775808 ≤ x ∧ x ≤ 9223372036854775807
section
variable {H : Type} {enc : TypeId × Value → H} {w : World} {base : Nat} {spare : Nat → Bool} {held : Bool}
theorem ints_in {fuel : Nat} {a : Option Addr} {n cap : Nat} {x : DataW H × List MemPlace} (h : DataW.trod enc Try.prog w base spare held fuel 38 [.slice a n cap] = some x) : ∃ L, IsIntsX w a n cap L := by
  rcases Go.Deep.open_slice Try.underlying38 h with ⟨e, _⟩ | ⟨a', l, c, m, n', D, Pl, e, _, hl, hm, hmm, _, hx⟩
  · cases e
    exact ⟨[], ⟨rfl, Nat.le_refl _, by unfold maxLen; omega, fun h => absurd h (by omega), fun _ => ⟨rfl, rfl⟩⟩, fun x hx => by cases hx⟩
  · cases e
    rw [Try.cellsI] at hx
    obtain ⟨P, hP, hc⟩ := rows_of (k := 1) (m := m) (len := n) (0 : Int) (fun cs p => cs = [.int .i64 p] ∧ (-9223372036854775808 ≤ p ∧ p ≤ 9223372036854775807)) (by omega) (by rw [hmm]; split <;> omega) (fun i hi => by
      obtain ⟨cs', h1, h2⟩ := hx i hi
      obtain ⟨z, e1, _, hwf⟩ := DataW.trod_int Try.underlying3 h2
      exact ⟨cs', h1, z, e1, wf_int hwf⟩)
    refine ⟨P, ⟨hP, hl, hm, fun hpos => ?_, fun h => by cases h⟩, fun x hx => ?_⟩
    · obtain ⟨b, off, rfl, hcc⟩ := hc hpos
      refine ⟨b, off, rfl, fun i hi => ?_⟩
      obtain ⟨cs, _, hj, rfl, _⟩ := hcc i hi
      simpa using hj 0 (by omega)
    · obtain ⟨i, hi, rfl⟩ := List.mem_iff_getElem.1 hx
      obtain ⟨b, off, rfl, hcc⟩ := hc (by omega)
      obtain ⟨cs, _, hj, _, hb⟩ := hcc i (by omega)
      rw [List.getD_eq_getElem?_getD, List.getElem?_eq_getElem hi] at hb
      exact hb
end
end Go.Proofs.Ytbidappkmnedaaa

/- slices.Index, slices.Contains of points; cross.on, cross.gather -/
import Derived.Test.YtlmmejdcjhbppaaMQEq
set_option linter.unusedSimpArgs false
set_option linter.unusedVariables false
namespace Go.Proofs.Ytlmmejdcjhbppaa
open Go.RowKit Go.Geo
/-- where a point is, or -1. -/
def idxP (P : List Pt) (p : Pt) : Int := match P.findIdx? (fun q => decide (p = q)) with
  | none => -1
  | some i => (i : Int)
theorem idxP_some {P : List Pt} {p : Pt} {k n : Nat} (hl : P.length = n) (hk : k < n) (h : p = P.getD k p0) (hb : ∀ i, i < k → p ≠ P.getD i p0) : idxP P p = (k : Int) := by
  unfold idxP
  have : P.findIdx? (fun q => decide (p = q)) = some k := by
    rw [List.findIdx?_eq_some_iff_getElem]
    refine ⟨by omega, by rw [← getD_lt (d := p0) (by omega)]; simpa using h, fun i hi => ?_⟩
    rw [← getD_lt (d := p0) (by omega)]
    simpa using hb i hi
  rw [this]
theorem idxP_none {P : List Pt} {p : Pt} {n : Nat} (hl : P.length = n) (hb : ∀ i, i < n → p ≠ P.getD i p0) : idxP P p = -1 := by
  unfold idxP
  have : P.findIdx? (fun q => decide (p = q)) = none := by
    rw [List.findIdx?_eq_none_iff]
    intro q hq
    obtain ⟨i, hi, rfl⟩ := List.mem_iff_getElem.1 hq
    have := hb i (by omega)
    rw [getD_lt hi] at this
    simpa using this
  rw [this]
theorem idxP_ge {P : List Pt} {p : Pt} : decide (0 ≤ idxP P p) = decide (p ∈ P) := by
  unfold idxP
  cases h : P.findIdx? (fun q => decide (p = q)) with
  | none =>
    rw [List.findIdx?_eq_none_iff] at h
    have : p ∉ P := fun hm => by have := h p hm; simp at this
    simp [this]
  | some i =>
    rw [List.findIdx?_eq_some_iff_getElem] at h
    obtain ⟨h1, h2, _⟩ := h
    have h2 : p = P[i] := by simpa using h2
    have : p ∈ P := by rw [h2]; exact List.getElem_mem _
    simp [this]
end Go.Proofs.Ytlmmejdcjhbppaa

/- a slice of slices of bytes that came in. -/
import Derived.Test.YtfpjbkbfaaieiaaCut
import Derived.Deep.Matrix
namespace Go.Proofs.Ytfpjbkbfaaieiaa
open Go.RowKit
theorem wf_i64 {a : Int} (h : (Lit.int .i64 a).wf = true) : -9223372036854775808 ≤ a ∧ a ≤ 9223372036854775807 := by
  simp only [Lit.wf, decide_eq_true_eq, Bool.and_eq_true] at h
  exact h
theorem wf_u32 {a : Int} (h : (Lit.int .u32 a).wf = true) : 0 ≤ a ∧ a ≤ 4294967295 := by
  simp only [Lit.wf, decide_eq_true_eq, Bool.and_eq_true] at h
  exact h
theorem IsLists.nil (w : World) : IsLists w none 0 0 [] := ⟨rfl, Nat.le_refl _, by unfold maxLen; omega, fun _ => ⟨rfl, rfl⟩, fun i h => absurd h (by omega)⟩
theorem lists_of_rows {w : World} {x : Addr} {len cap : Nat} {A : Nat → Option Addr} {RL C : Nat → Nat} {Z : Nat → List Int} (hl : len ≤ cap) (hm : cap ≤ maxLen)
    (h : ∀ r, r < cap → w.cell? (x.add r) = some (.slice (A r) (RL r) (C r)) ∧ RL r ≤ C r ∧ C r ≤ maxLen ∧ (Z r).length = C r ∧ (∀ n ∈ Z r, (Lit.int .u8 n).wf = true) ∧ (A r = none → C r = 0) ∧
      ∀ a', A r = some a' → ∀ c, c < C r → w.cell? (a'.add c) = some (.int .u8 ((Z r).getD c 0))) : ∃ L, IsLists w (some x) len cap L := by
  have each : ∀ r, ∃ l, r < cap → IsBytes w (A r) (RL r) (C r) l := by
    intro r
    by_cases hr : r < cap
    · obtain ⟨h1, h2, h3, h4, h5, h6, h7⟩ := h r hr
      cases ha : A r with
      | none =>
        have hc := h6 ha
        have hrl : RL r = 0 := by omega
        exact ⟨[], fun _ => by rw [hc, hrl]; exact IsBytes.nil w⟩
      | some a' =>
        obtain ⟨l, hb⟩ := bytes_of_cells (x := a') h2 h3 h4 (fun i hi => h7 a' ha i (by omega)) h5
        exact ⟨l, fun _ => hb⟩
    · exact ⟨[], fun hh => absurd hh hr⟩
  obtain ⟨R, hR⟩ := Classical.axiomOfChoice each
  refine ⟨(List.range len).map R, by simp, hl, hm, (fun h => by cases h), fun i hi => ?_⟩
  obtain ⟨h1, _⟩ := h i (by omega)
  obtain ⟨b, off, spot⟩ := x
  have h0 := (h 0 (by omega)).1
  have hs : spot = none := by
    cases spot with
    | none => rfl
    | some s =>
      simp only [Addr.add, if_true, World.cell?] at h0
      split at h0 <;> simp at h0
  subst hs
  have e : (⟨b, off, none⟩ : Addr).add i = ⟨b, off + i, none⟩ := by unfold Addr.add; split <;> simp_all
  rw [e] at h1
  refine ⟨b, off, A i, RL i, C i, rfl, h1, ?_⟩
  have : ((List.range len).map R).getD i [] = R i := by simp [List.getD, hi]
  rw [this]
  exact hR i (by omega)
end Go.Proofs.Ytfpjbkbfaaieiaa

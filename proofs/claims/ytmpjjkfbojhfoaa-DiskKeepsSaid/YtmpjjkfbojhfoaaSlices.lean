/- slices of slices of bytes -/
import Derived.Test.YtmpjjkfbojhfoaaPut
namespace Go.Proofs.Ytmpjjkfbojhfoaa
open Go.RowKit
theorem IsBytes.add {w : World} {ao : Option Addr} {n cap : Nat} {l : List UInt8} (h : IsBytes w ao n cap l) (lo : Nat) (hlo : lo ≤ n) :
    IsBytes w (if cap = lo then ao else ao.map (·.add (lo * 1))) (n - lo) (cap - lo) (l.drop lo) := by
  obtain ⟨h1, h2, h3, h4, h5⟩ := h
  refine ⟨by simp; omega, by omega, by omega, ?_, ?_⟩
  · intro hl
    have hlt : lo < n := by
      have : 0 < (l.drop lo).length := by cases hq : l.drop lo; exact absurd hq hl; simp
      simp at this; omega
    obtain ⟨b, off, e, hc⟩ := h4 (by intro h0; rw [h0] at h1; simp at h1; omega)
    rw [if_neg (by omega), e]
    have hadd : (⟨b, off, none⟩ : Addr).add (lo * 1) = ⟨b, off + lo, none⟩ := by rw [Nat.mul_one]; unfold Addr.add; split <;> simp_all
    exact ⟨b, off + lo, by rw [Option.map_some, hadd], hc.drop lo⟩
  · intro hn
    have : ao = none := by
      split at hn
      · exact hn
      · simpa using hn
    have := h5 this
    omega
theorem IsBytes.cut {w : World} {ao : Option Addr} {n cap : Nat} {l : List UInt8} (h : IsBytes w ao n cap l) (hi : Nat) (hhi : hi ≤ n) :
    IsBytes w ao hi cap (l.take hi) := by
  obtain ⟨h1, h2, h3, h4, h5⟩ := h
  refine ⟨by simp; omega, by omega, h3, ?_, fun e => by have := h5 e; omega⟩
  intro hl
  obtain ⟨b, off, e, hc⟩ := h4 (by intro h0; rw [h0] at hl; simp at hl)
  exact ⟨b, off, e, hc.take hi⟩
theorem add_block (ao : Option Addr) (c lo k : Nat) : (if c = lo then ao else ao.map (·.add k)).map (·.block) = ao.map (·.block) := by
  split
  · rfl
  · cases ao with
    | none => rfl
    | some a => simp only [Option.map_some, Addr.add]; split <;> rfl
/-- 'b[lo:]'. -/
theorem slice_from {w : World} {ao : Option Addr} {n cap : Nat} {l : List UInt8} (h : IsBytes w ao n cap l) (lo : Nat) (hlo : lo ≤ n) :
    ∃ ao', (∀ w', (Instr.slice 23 (.slice ao n cap) (some (.int .i64 (lo : Int))) none none).run Try.prog w' = .ok (.slice ao' (n - lo) (cap - lo)) w') ∧ IsBytes w ao' (n - lo) (cap - lo) (l.drop lo) ∧ ao'.map (·.block) = ao.map (·.block) := by
  obtain ⟨i0, hi, hz0, hz1, hz2⟩ := info_parts Try.infoByte
  have h2 := h.2.1
  refine ⟨_, fun w' => ?_, h.add lo hlo, add_block _ _ _ _⟩
  have e1 : (Instr.sliceBounds true n cap (some (.int .i64 (lo : Int))) none none).run Try.prog w' = .ok (lo, n, cap) w' := by
    simp [Instr.sliceBounds, Instr.sliceBound, asIntOf, hlo]
  simp [Instr.slice, run_underlying Try.underlying23, e1, sizeOf, typeInfo, hi, hz1, Result.andThen]
/-- 'b[:hi]'. -/
theorem slice_to {w : World} {ao : Option Addr} {n cap : Nat} {l : List UInt8} (h : IsBytes w ao n cap l) (hi : Nat) (hhi : hi ≤ n) :
    (∀ w', (Instr.slice 23 (.slice ao n cap) none (some (.int .i64 (hi : Int))) none).run Try.prog w' = .ok (.slice ao hi cap) w') ∧ IsBytes w ao hi cap (l.take hi) := by
  obtain ⟨i0, hi0, hz0, hz1, hz2⟩ := info_parts Try.infoByte
  have h2 := h.2.1
  have hle : hi ≤ cap := by omega
  refine ⟨fun w' => ?_, h.cut hi hhi⟩
  have e1 : (Instr.sliceBounds true n cap none (some (.int .i64 (hi : Int))) none).run Try.prog w' = .ok (0, hi, cap) w' := by
    simp [Instr.sliceBounds, Instr.sliceBound, asIntOf, hle]
  simp [Instr.slice, run_underlying Try.underlying23, e1, sizeOf, typeInfo, hi0, Result.andThen]
  cases ao with
  | none => simp
  | some a => simp [Addr.add]
/-- 'b[lo:hi]'. -/
theorem slice_both {w : World} {ao : Option Addr} {n cap : Nat} {l : List UInt8} (h : IsBytes w ao n cap l) (lo hi : Nat) (hlo : lo ≤ hi) (hhi : hi ≤ n) :
    ∃ ao', (∀ w', (Instr.slice 23 (.slice ao n cap) (some (.int .i64 (lo : Int))) (some (.int .i64 (hi : Int))) none).run Try.prog w' = .ok (.slice ao' (hi - lo) (cap - lo)) w') ∧ IsBytes w ao' (hi - lo) (cap - lo) ((l.take hi).drop lo) ∧ ao'.map (·.block) = ao.map (·.block) := by
  obtain ⟨i0, hi0, hz0, hz1, hz2⟩ := info_parts Try.infoByte
  have h2 := h.2.1
  have hle : hi ≤ cap := by omega
  refine ⟨_, fun w' => ?_, (h.cut hi hhi).add lo hlo, add_block _ _ _ _⟩
  have e1 : (Instr.sliceBounds true n cap (some (.int .i64 (lo : Int))) (some (.int .i64 (hi : Int))) none).run Try.prog w' = .ok (lo, hi, cap) w' := by
    simp [Instr.sliceBounds, Instr.sliceBound, asIntOf, hle, hlo]
  simp [Instr.slice, run_underlying Try.underlying23, e1, sizeOf, typeInfo, hi0, hz1, Result.andThen]
end Go.Proofs.Ytmpjjkfbojhfoaa

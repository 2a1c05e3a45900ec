/- slices.Compact of certificates that the call owns -/
import Derived.Test.YtlmimocmllhbkaaCSortF
namespace Go.Proofs.Ytlmimocmllhbkaa
open Go.RowKit
/-- runs of equal certificates made one: of the first i. -/
def dedN (L : List Crt) : Nat → List Crt
  | 0 => []
  | 1 => [L.getD 0 c0]
  | m + 2 => if eqC (L.getD (m + 1) c0) (L.getD m c0) = true then dedN L (m + 1) else dedN L (m + 1) ++ [L.getD (m + 1) c0]
theorem dedN_same {L : List Crt} {k : Nat} (hk : 1 ≤ k) (h : eqC (L.getD k c0) (L.getD (k - 1) c0) = true) : dedN L (k + 1) = dedN L k := by
  obtain ⟨m, rfl⟩ : ∃ m, k = m + 1 := ⟨k - 1, by omega⟩
  rw [dedN, if_pos (by simpa using h)]
theorem dedN_more {L : List Crt} {k : Nat} (hk : 1 ≤ k) (h : eqC (L.getD k c0) (L.getD (k - 1) c0) = false) : dedN L (k + 1) = dedN L k ++ [L.getD k c0] := by
  obtain ⟨m, rfl⟩ : ∃ m, k = m + 1 := ⟨k - 1, by omega⟩
  rw [dedN, if_neg (by simpa using h)]
theorem take_more {L : List Crt} {k : Nat} (hk : k < L.length) : L.take (k + 1) = L.take k ++ [L.getD k c0] := by
  rw [List.take_succ_eq_append_getElem hk, List.getD_eq_getElem?_getD, List.getElem?_eq_getElem hk]; rfl
theorem take_set_more {S : List Crt} {k : Nat} (hk : k < S.length) (x : Crt) : (S.set k x).take (k + 1) = S.take k ++ [x] := by
  rw [take_more (by rw [List.length_set]; exact hk)]
  congr 1
  · apply List.ext_getElem?
    intro i
    rw [List.getElem?_take, List.getElem?_take]
    by_cases h : i < k
    · rw [if_pos h, if_pos h, List.getElem?_set_ne (by omega)]
    · rw [if_neg h, if_neg h]
  · rw [List.getD_eq_getElem?_getD, List.getElem?_set_self hk]; rfl
theorem getD_set_ne {S : List Crt} {k i : Nat} (h : k ≠ i) (x : Crt) : (S.set k x).getD i c0 = S.getD i c0 := by
  rw [List.getD_eq_getElem?_getD, List.getD_eq_getElem?_getD, List.getElem?_set_ne h]
theorem slice_fromC (g n cap k : Nat) (hk : k < n) (hn : n ≤ cap) (w : World) : (Instr.slice 24 (.slice (some ⟨g, 0, none⟩) n cap) (some (.int .i64 (k : Int))) none none).run Try.prog w = .ok (.slice (some ⟨g, k * 5, none⟩) (n - k) (cap - k)) w := by
  obtain ⟨i0, hi0, hz0, hz1, hz2⟩ := info_parts Try.infoCert
  have e1 : (Instr.sliceBounds true n cap (some (.int .i64 (k : Int))) none none).run Try.prog w = .ok (k, n, cap) w := by
    have h0 : (0 : Int) ≤ (k : Int) := by omega
    have h1 : ((k : Int)).toNat = k := by omega
    simp [Instr.sliceBounds, Instr.sliceBound, asIntOf, h0, h1, Nat.le_of_lt hk]
  simp [Instr.slice, run_underlying Try.underlying24, e1, sizeOf, typeInfo, hi0, Result.andThen, Addr.add, hz1]
  rw [if_neg (by omega)]
  by_cases h : k = 0
  · subst h; rfl
  · rw [if_neg (by omega)]
theorem slice_toC (g n cap k : Nat) (hk : k ≤ n) (hn : n ≤ cap) (w : World) : (Instr.slice 24 (.slice (some ⟨g, 0, none⟩) n cap) none (some (.int .i64 (k : Int))) none).run Try.prog w = .ok (.slice (some ⟨g, 0, none⟩) k cap) w := by
  obtain ⟨i0, hi0, hz0, hz1, hz2⟩ := info_parts Try.infoCert
  have e1 : (Instr.sliceBounds true n cap none (some (.int .i64 (k : Int))) none).run Try.prog w = .ok (0, k, cap) w := by
    have h0 : (0 : Int) ≤ (k : Int) := by omega
    have h1 : ((k : Int)).toNat = k := by omega
    simp [Instr.sliceBounds, Instr.sliceBound, asIntOf, h0, h1, show k ≤ cap by omega]
  simp [Instr.slice, run_underlying Try.underlying24, e1, sizeOf, typeInfo, hi0, Result.andThen, Addr.add]
/-- 'clear(s[k:])': some cells laid, nothing else turns. -/
theorem run_clear_cert (w : World) (g o n c : Nat) (hn : 0 < n) (hc : ∀ j, j < n * 5 → (w.cell? ⟨g, o + j, none⟩).isSome = true) (hf : ∀ j, j < n * 5 → w.frozen? ⟨g, o + j, none⟩ = false) :
    ∃ vs : List Value, vs.length = n * 5 ∧ ∀ ty, (Builtin.clear_ #[24] ty #[.slice (some ⟨g, o, none⟩) n c]).run Try.prog w = .ok (.tuple #[]) (w.setCells g o vs) := by
  have hlen : (Builtin.zeroCells c0.val.cells n).toList.length = n * 5 := by
    simp [Builtin.zeroCells, c0, Crt.val, Value.cells]
  have hone : ∀ v ∈ (Builtin.zeroCells c0.val.cells n).toList, v.oneCell' = true := by
    intro v hv
    simp only [Builtin.zeroCells, Array.toList_map, List.mem_map] at hv
    obtain ⟨i, _, rfl⟩ := hv
    have hi : i % 5 = 0 ∨ i % 5 = 1 ∨ i % 5 = 2 ∨ i % 5 = 3 ∨ i % 5 = 4 := by omega
    simp only [c0, Crt.val, Value.cells, List.size_toArray, List.length_cons, List.length_nil]
    rcases hi with h | h | h | h | h <;> simp [h] <;> rfl
  have hst := run_storeCells_cells (P := Try.prog) g o (Builtin.zeroCells c0.val.cells n).toList 0 w (by rw [hlen]; simpa using hc) (by rw [hlen]; simpa using hf) hone
  simp only [Nat.add_zero] at hst
  obtain ⟨m, rfl⟩ : ∃ m, n = m + 1 := ⟨n - 1, by omega⟩
  refine ⟨_, hlen, fun ty => ?_⟩
  simp [Builtin.clear_, run_underlying Try.underlying24]
  have e : (Value.agg #[Value.int .i64 0, .int .i64 0, .int .i64 0, .int .i64 0, .int .i64 0]) = c0.val := rfl
  rw [e, hst]
  rfl
end Go.Proofs.Ytlmimocmllhbkaa

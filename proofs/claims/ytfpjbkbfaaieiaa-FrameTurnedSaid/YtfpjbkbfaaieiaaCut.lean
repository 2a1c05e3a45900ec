/- Slices of slices of bytes cut to a prefix; bytes of a row that came in. -/
import Derived.Test.YtfpjbkbfaaieiaaLaw0
namespace Go.Proofs.Ytfpjbkbfaaieiaa
open Go.RowKit
theorem IsLists.cut {w : World} {ao : Option Addr} {n cap : Nat} {L : List (List UInt8)} (h : IsLists w ao n cap L) (hi : Nat) (hhi : hi ≤ n) : IsLists w ao hi cap (L.take hi) := by
  obtain ⟨h1, h2, h3, h4, h5⟩ := h
  refine ⟨by simp; omega, by omega, h3, fun e => by have := h4 e; omega, fun i hlt => ?_⟩
  obtain ⟨b, off, aoi, ni, capi, e, hc, hb⟩ := h5 i (by omega)
  refine ⟨b, off, aoi, ni, capi, e, hc, ?_⟩
  have : (L.take hi).getD i [] = L.getD i [] := by simp [List.getD, hlt]
  rw [this]; exact hb
/-- 'l[:hi]'. -/
theorem slice_lists {w : World} {ao : Option Addr} {n cap : Nat} {L : List (List UInt8)} (h : IsLists w ao n cap L) (hi : Nat) (hhi : hi ≤ n) :
    (∀ w', (Instr.slice 33 (.slice ao n cap) none (some (.int .i64 (hi : Int))) none).run Try.prog w' = .ok (.slice ao hi cap) w') ∧ IsLists w ao hi cap (L.take hi) := by
  obtain ⟨i0, hi0, hz0, hz1, hz2⟩ := info_parts Try.infoSlice
  have h2 := h.2.1
  have hle : hi ≤ cap := by omega
  refine ⟨fun w' => ?_, h.cut hi hhi⟩
  have e1 : (Instr.sliceBounds true n cap none (some (.int .i64 (hi : Int))) none).run Try.prog w' = .ok (0, hi, cap) w' := by
    simp [Instr.sliceBounds, Instr.sliceBound, asIntOf, hle]
  simp [Instr.slice, run_underlying Try.underlying33, e1, sizeOf, typeInfo, hi0, Result.andThen]
  cases ao with
  | none => simp
  | some a => simp [Addr.add]
/-- a row of numbers of kind u8 that came in, as bytes. -/
theorem bytes_of_cells {w : World} {x : Addr} {len cap : Nat} {zs : List Int} (h1 : len ≤ cap) (h2 : cap ≤ maxLen) (h3 : zs.length = cap)
    (h4 : ∀ i, i < zs.length → w.cell? (x.add i) = some (.int .u8 (zs.getD i 0))) (h5 : ∀ n ∈ zs, (Lit.int .u8 n).wf = true) : ∃ l, IsBytes w (some x) len cap l := by
  refine ⟨(zs.take len).map fun n => UInt8.ofNat n.toNat, by simp; omega, h1, h2, fun hne => ?_, fun h => by cases h⟩
  have hpos : 0 < len := by
    rcases Nat.eq_zero_or_pos len with h | h
    · subst h; simp at hne
    · exact h
  obtain ⟨b, off, spot⟩ := x
  have h0 := h4 0 (by omega)
  have hs : spot = none := by
    cases spot with
    | none => rfl
    | some s =>
      simp only [Addr.add, if_true, World.cell?] at h0
      split at h0 <;> simp at h0
  subst hs
  refine ⟨b, off, rfl, fun i hi => ?_⟩
  have hi2 : i < len := by simp at hi; omega
  have hc := h4 i (by omega)
  have e : (⟨b, off, none⟩ : Addr).add i = ⟨b, off + i, none⟩ := by unfold Addr.add; split <;> simp_all
  rw [e] at hc
  rw [hc]
  have hz : zs.getD i 0 ∈ zs := by
    rw [List.getD_eq_getElem?_getD, List.getElem?_eq_getElem (by omega : i < zs.length)]
    exact List.getElem_mem _
  have hw := h5 _ hz
  simp only [Lit.wf, decide_eq_true_eq, Bool.and_eq_true] at hw
  have hg : ((zs.take len).map fun n => UInt8.ofNat n.toNat).getD i 0 = UInt8.ofNat (zs.getD i 0).toNat := by
    simp [List.getD, hi2, List.getElem?_eq_getElem (by omega : i < zs.length)]
  rw [hg]
  have hb : 0 ≤ zs.getD i 0 ∧ zs.getD i 0 ≤ 255 := by
    exact hw
  congr 1
  rw [UInt8.toNat_ofNat']
  congr 1
  omega
/-- frames of a part are no longer than the frames of all. -/
theorem putAll_append (L M : List (List UInt8)) : Fr.putAll (L ++ M) = Fr.putAll L ++ Fr.putAll M := List.flatMap_append
theorem putAll_take_le (L : List (List UInt8)) (k : Nat) : (Fr.putAll (L.take k)).length ≤ (Fr.putAll L).length := by
  have h := putAll_append (L.take k) (L.drop k)
  rw [List.take_append_drop] at h
  rw [h, List.length_append]
  omega
theorem putAll_succ (L : List (List UInt8)) (k : Nat) (h : k < L.length) : Fr.putAll (L.take (k + 1)) = Fr.putAll (L.take k) ++ Fr.putF (L.getD k []) := by
  have e : L.take (k + 1) = L.take k ++ [L.getD k []] := by
    rw [List.take_add_one, List.getElem?_eq_getElem h]
    simp [List.getD, List.getElem?_eq_getElem h]
  rw [e, putAll_append]
  simp [Fr.putAll]
end Go.Proofs.Ytfpjbkbfaaieiaa

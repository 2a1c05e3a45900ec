/- disk: Names, where there is the one file "log" -/
import Derived.Test.YtdglaacjefcfdaaNIter
import Derived.CallsIn
import Derived.OwnWalkIn
namespace Go.Proofs.Ytdglaacjefcfdaa
open Go.RowKit Go.Maps Go.Sort
/-- how a file reads: as nothing. -/
def R0 : Value → Option (DataW Unit × List MemPlace) := fun _ => some (.nil, [])
theorem owns_log {w : World} {mb f b c : Nat} (hbc : b < c) (h : w.heap[mb]? = some (.map #[{ key := .string logB, val := .pointer (some ⟨f, 0, none⟩), born := b }] c)) :
    w.ownsMap (H := Unit) Try.prog 9 R0 mb 1 (.map [(.string [108, 111, 103], .nil)]) := by
  have hk : keyOf Try.prog 9 (.string logB) = some (.string [108, 111, 103]) := by kernel_rfl
  refine ⟨_, c, h, ⟨by show 1 ≤ maxLen; unfold maxLen; omega, ⟨by simpa using hbc, by simp, by simp⟩, fun x hx => ?_⟩, by simp, ?_⟩
  · simp at hx
    subst hx
    exact ⟨(.string [108, 111, 103], .nil), by simp [WideElems.rd, hk, R0]⟩
  · simp [WideElems.rg, WideElems.rd, hk, R0, DataW.insert]
set_option maxRecDepth 100000 in
theorem Names_log (d mb f b c : Nat) (st fu : Int) (out : Bool) (w : World) (hbc : b < c) (hd : DiskRow w d mb st fu out) (hm : w.heap[mb]? = some (.map #[{ key := .string logB, val := .pointer (some ⟨f, 0, none⟩), born := b }] c)) :
    Calls Try.prog 45 #[.pointer (some ⟨d, 0, none⟩)] w fun e w' => ∃ v, e = .returned v ∧ w'.ownsRow w.heap.size 9 1 v 1 [.string logB] ∧ Below w.heap.size w w' := by
  have h0 := hd.cells.1
  have HN := Lib.hid (none_any d mb st fu out w hd)
  have HO := Lib.hid (owns_log hbc hm)
  clear hd hm
  have hfK : Fence.wide.fn 53 := trivial
  have hfS : Fence.wide.fn 52 := trivial
  have hfN : Fence.wide.fn 44 := trivial
  refine (callsIn_wide (n := 6)).1 ?_
  refine callsIn_of_wp Try.func45 rfl trivial ?_ rfl
  simp only [Try.ntmps45, List.size_toArray, List.length_cons, List.length_nil, Nat.reduceAdd, Nat.reduceSub, Array.replicate_succ, Array.replicate_zero, List.push_toArray, List.append_toArray, List.nil_append, List.cons_append]
  gi_wp2_with (first
    | (gi_at_call 44; refine (callsIn_wide.2 HN.out).mono ?_; rintro e w' ⟨rfl, rfl⟩)
    | (gi_at_call 53; refine (Try.maps_Keys_53 _ _).mono ?_; rintro e w' ⟨rfl, rfl⟩)
    | (gi_at_call 52; refine (Try.slices_Sorted_keys_52_53 mb 1 _ R0 w HO.out (by show 1 ≤ maxLen; unfold maxLen; omega) (by show 1 * 16 ≤ 140737488355328; omega)).mono ?_; rintro e w' ⟨v, ss, rfl, hS, hrow, hnil, hb⟩))
  go_ret
  have hss : ss = [[108, 111, 103]] := List.perm_singleton.1 hS
  subst hss
  rw [List.mergeSort_singleton] at hrow
  have hrow2 : w'.ownsRow (w.alloc (.cells #[.map (some mb)] 60)).heap.size 9 1 v 1 [.string logB] := hrow
  exact ⟨v, rfl, ownsRow_base hrow2 (by simp), ((Below.refl _ w).alloc (Nat.le_refl _) _).trans (hb.mono (by simp))⟩
end Go.Proofs.Ytdglaacjefcfdaa

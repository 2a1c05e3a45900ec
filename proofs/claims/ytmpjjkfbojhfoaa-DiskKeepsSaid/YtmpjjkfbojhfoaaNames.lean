/- disk: Names -/
import Derived.Test.YtmpjjkfbojhfoaaNIter
import Derived.Test.YtmpjjkfbojhfoaaDUp
import Derived.CallsIn
import Derived.OwnWalkIn
namespace Go.Proofs.Ytmpjjkfbojhfoaa
open Go.RowKit Go.Maps Go.Sort
/-- how a file reads: as nothing. -/
def R0 : Value → Option (DataW Unit × List MemPlace) := fun _ => some (.nil, [])
theorem key_any {nm : ByteArray} (h : nameP nm.data.toList = true) : keyOf Try.prog 9 (.string nm) = some (.string nm.data.toList) := by
  have h64 : nm.size ≤ 64 := by
    unfold nameP at h
    simp only [Bool.and_eq_true, decide_eq_true_eq] at h
    exact h.2
  simp [keyOf, mapKey, Try.underlying9]
  unfold maxLen
  omega
/-- a map's names, as they are told. -/
def sortN (M : List Ent) : List (List UInt8) := (M.map fun x => x.1.data.toList).mergeSort leB
theorem rd_ent {x : Ent} (h : nameP x.1.data.toList = true) : WideElems.rd (H := Unit) Try.prog 9 R0 (ent x) = some (.string x.1.data.toList, .nil) := by
  have := key_any h
  simp [WideElems.rd, ent, this, R0]
theorem rg_ent {x : Ent} (h : nameP x.1.data.toList = true) : WideElems.rg (H := Unit) Try.prog 9 R0 (ent x) = (.string x.1.data.toList, .nil) := by
  rw [WideElems.rg, rd_ent h, Option.getD_some]
theorem bytes_inj {x y : ByteArray} (h : x.data.toList = y.data.toList) : x = y := by
  cases x; cases y
  simp at h
  simp [h]
theorem owns_ents {w : World} {mb c : Nat} {M : List Ent} (hfit : MapFit M c) (h : w.heap[mb]? = some (.map (ents M) c)) :
    w.ownsMap (H := Unit) Try.prog 9 R0 mb 16 (.map ((M.map fun x => ((.string x.1.data.toList, .nil) : Lit × DataW Unit)).foldr DataW.insert [])) := by
  have e : (ents M).toList = M.map ent := by simp [ents]
  have hm : (ents M).toList.map (WideElems.rg (H := Unit) Try.prog 9 R0) = M.map fun x => ((.string x.1.data.toList, .nil) : Lit × DataW Unit) := by
    rw [e, List.map_map]
    apply List.map_congr_left
    intro x hx
    rw [Function.comp_apply, rg_ent (hfit.fit x hx)]
  refine ⟨_, c, h, ⟨?_, ⟨?_, ?_, ?_⟩, fun x hx => ?_⟩, ?_, by rw [hm]⟩
  · have e2 : (ents M).size = M.length := by simp [ents]
    have h1 := hfit.few
    have h2 : (16 : Nat) ≤ maxLen := by unfold maxLen; omega
    rw [e2]
    exact Nat.le_trans h1 h2
  · intro x hx
    rw [e] at hx
    obtain ⟨y, hy, rfl⟩ := List.mem_map.1 hx
    exact hfit.clock y hy
  · rw [e, List.map_map]
    show (M.map fun x => x.2.2).Nodup
    unfold List.Nodup
    rw [List.pairwise_map]
    exact hfit.rise.imp (fun h => Nat.ne_of_lt h)
  · rw [e, List.map_map]
    show (M.map fun x => Value.string x.1).Nodup
    have := hfit.once
    unfold List.Nodup at this ⊢
    rw [List.pairwise_map] at this ⊢
    exact this.imp (fun h e => h (by injection e))
  · rw [e] at hx
    obtain ⟨y, hy, rfl⟩ := List.mem_map.1 hx
    exact ⟨_, rd_ent (hfit.fit y hy)⟩
  · simpa [ents] using hfit.few
theorem strKeys_ents (M : List Ent) : (strKeys (.map ((M.map fun x => ((.string x.1.data.toList, .nil) : Lit × DataW Unit)).foldr DataW.insert []))).Perm (M.map fun x => x.1.data.toList) := by
  unfold strKeys
  refine ((WideShapes.sorted_perm _).map _).trans ?_
  rw [List.map_map]
  exact .refl _
set_option maxRecDepth 100000 in
theorem Names_any (d mb : Nat) (M : List Ent) (st fu : Int) (out : Bool) (w : World) (h : DiskM w st fu out d mb M) :
    Calls Try.prog 17 #[.pointer (some ⟨d, 0, none⟩)] w fun e w' => ∃ v, e = .returned v ∧ w'.ownsRow w.heap.size 9 1 v M.length ((sortN M).map encStr) ∧ (v = .slice none 0 0 ↔ M = []) ∧ Below w.heap.size w w' := by
  obtain ⟨hfu, hmd, hd, c, hfit, hm⟩ := h
  have h0 := hd.cells.1
  have HN := Lib.hid (none_any d mb st fu out w hd)
  have HO := Lib.hid (owns_ents hfit hm)
  have hsz : Go.Maps.size (DataW.map ((M.map fun x => ((.string x.1.data.toList, .nil) : Lit × DataW Unit)).foldr DataW.insert [])) ≤ 16 := by
    have h1 := (WideShapes.sorted_perm (M.map fun x => ((.string x.1.data.toList, .nil) : Lit × DataW Unit))).length_eq
    have h2 := hfit.few
    rw [List.length_map] at h1
    show (_ : List _).length ≤ 16
    omega
  have HSZ := Lib.hid hsz
  clear hfu hmd hfit hsz
  clear hd hm
  have hfK : Fence.wide.fn 47 := trivial
  have hfS : Fence.wide.fn 46 := trivial
  have hfN : Fence.wide.fn 45 := trivial
  refine (callsIn_wide (n := 6)).1 ?_
  refine callsIn_of_wp Try.func17 rfl trivial ?_ rfl
  simp only [Try.ntmps17, List.size_toArray, List.length_cons, List.length_nil, Nat.reduceAdd, Nat.reduceSub, Array.replicate_succ, Array.replicate_zero, List.push_toArray, List.append_toArray, List.nil_append, List.cons_append]
  gi_wp2_with (first
    | (gi_at_call 45; refine (callsIn_wide.2 HN.out).mono ?_; rintro e w' ⟨rfl, rfl⟩)
    | (gi_at_call 47; refine (Try.maps_Keys_47 _ _).mono ?_; rintro e w' ⟨rfl, rfl⟩)
    | (gi_at_call 46; refine (Try.slices_Sorted_keys_46_47 mb 16 _ R0 w HO.out (Nat.le_trans HSZ.out (by unfold maxLen; omega)) (by have := HSZ.out; omega)).mono ?_; rintro e w' ⟨v, ss, rfl, hS, hrow, hnil, hb⟩))
  go_ret
  have hp : ss.Perm (M.map fun x => x.1.data.toList) := hS.trans (strKeys_ents M)
  have hl : ss.length = M.length := by have := hp.length_eq; simpa using this
  rw [hl, show ss.mergeSort (fun x y => decide (x ≤ y)) = sortN M from mergeSort_of_perm hp] at hrow
  refine ⟨v, rfl, ownsRow_base hrow (by simp), ?_, ((Below.refl _ w).alloc (Nat.le_refl _) _).trans (hb.mono (by simp))⟩
  rw [hnil]
  constructor
  · rintro rfl
    exact List.eq_nil_of_length_eq_zero hl.symm
  · rintro rfl
    exact List.eq_nil_of_length_eq_zero hl
end Go.Proofs.Ytmpjjkfbojhfoaa

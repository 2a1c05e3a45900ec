/- disk: Fuse, Steps -/
import Derived.Test.YtgbpgmbnihfkkaaDPlain
import Derived.Shelf.SlIter.Nil
import Derived.Shelf.SortM.Plain
import Derived.Shelf.SortM.SortNone
import Derived.Ground.GgzProg
import Derived.Ground.SlgmProg
import Derived.CallsIn
import Derived.OwnWalkIn
namespace Go.Proofs.Ytgbpgmbnihfkkaa
open Go.RowKit
variable {nm : ByteArray}
set_option maxRecDepth 100000 in
theorem Fuse_any (d mb : Nat) (M : List Ent) (z st fu : Int) (out : Bool) (w : World) (hz1 : z ≤ 9223372036854775807) (h : DiskM w st fu out d mb M) :
    Calls Try.prog 7 #[.pointer (some ⟨d, 0, none⟩), .int .i64 z] w fun e w' => (z < 0 ∧ e = .returned (.int .i64 2) ∧ w' = w) ∨ (0 ≤ z ∧ e = .returned (.int .i64 0) ∧ DiskM w' st z out d mb M ∧ w' = w.setCell ⟨d, 2, none⟩ (.int .i64 z)) := by
  obtain ⟨hfu, hmd, hd, c, hfit, hm⟩ := h
  obtain ⟨h0, h1, h2, h3⟩ := hd.cells
  have z2 : w.frozen? ⟨d, 2, none⟩ = false := frozen_of_row _ _ _ _ _ hd
  have HN := Lib.hid (none_any d mb st fu out w hd)
  have HRES := Lib.hid (show DiskM (w.setCell ⟨d, 2, none⟩ (.int .i64 z)) st z out d mb M from ⟨hz1, hmd, heap_setCell_same w d 2 _ _ (.int .i64 z) hd, c, hfit, (Below.heap_setCell _ _ _ _ (by dsimp only; omega)).trans hm⟩)
  clear hd hm h0 h1 h3 hfu hmd hfit
  by_cases hz : z < 0
  · go_enter Try.func7, Try.ntmps7
    go_wp2_with fail
    refine HN.out.mono ?_
    rintro e w' ⟨rfl, rfl⟩
    go_wp2_with fail
    go_ret
    exact .inl ⟨hz, rfl, rfl⟩
  · go_enter Try.func7, Try.ntmps7
    go_wp2_with fail
    refine HN.out.mono ?_
    rintro e w' ⟨rfl, rfl⟩
    go_wp2_with fail
    go_ret
    exact .inr ⟨by omega, rfl, HRES.out, rfl⟩
end Go.Proofs.Ytgbpgmbnihfkkaa

/- maps.Keys and slices.Sorted of the files' names, laid at this program (written by the shelf's own tools, lay-iter.mjs and lay-plain.mjs; the numbers are this program's) -/
namespace Go.Proofs.Ytgbpgmbnihfkkaa
open Go.RowKit Go.Maps Go.Sort Go.Shelf
def Try.keys41_ren : Go.Shelf.Ren := ⟨fun | 7 => 41 | 10 => 50 | n => n, fun | 23 => 40 | 26 => 9 | 3 => 55 | 28 => 78 | 0 => 0 | 27 => 77 | 33 => 58 | 4 => 4 | n => n, fun | n => n⟩
theorem Try.keys41 : Go.Proofs.SlLaysZ.n7 Try.prog Try.keys41_ren := {
  mixed := by kernel_rfl
  f7 := ⟨Try.f41.name, by decide, Try.func41.trans (congrArg some (by kernel_rfl))⟩
  f10 := ⟨Try.f50.name, by decide, Try.func50.trans (congrArg some (by kernel_rfl))⟩
  t0 := Try.underlying0
  a0 := Try.isAgg0
  z0 := Try.sizeOf0
  v0 := Try.zeroValue0
  t4 := Try.underlying4
  a4 := Try.isAgg4
  z4 := Try.sizeOf4
  v4 := Try.zeroValue4
  t23 := Try.underlying40
  a23 := Try.isAgg40
  z23 := Try.sizeOf40
  v23 := Try.zeroValue40
  t26 := Try.underlying9
  a26 := Try.isAgg9
  z26 := Try.sizeOf9
  v26 := Try.zeroValue9
  t27 := Try.underlying77
  a27 := Try.isAgg77
  z27 := Try.sizeOf77
  v27 := Try.zeroValue77
  t28 := Try.underlying78
  a28 := Try.isAgg78
  z28 := Try.sizeOf78
  v28 := Try.zeroValue78
  t33 := Try.underlying58
  a33 := Try.isAgg58
  z33 := Try.sizeOf58
  v33 := Try.zeroValue58 }
def Try.sorted40_ren : Go.Shelf.Ren := ⟨fun | 6 => 40 | 8 => 48 | 9 => 49 | 11 => 54 | 13 => 56 | 12 => 55 | 23 => 66 | 24 => 67 | 14 => 57 | 15 => 58 | 16 => 59 | 17 => 60 | 18 => 61 | 19 => 62 | 20 => 63 | 21 => 64 | 22 => 65 | 25 => 68 | 26 => 69 | 27 => 70 | 28 => 71 | 29 => 72 | 30 => 73 | 31 => 74 | n => n, fun | 26 => 9 | 28 => 78 | 24 => 53 | 0 => 0 | 3 => 3 | 37 => 90 | 48 => 73 | 50 => 112 | 4 => 4 | 40 => 103 | 39 => 102 | 45 => 108 | 5 => 5 | 9 => 9 | 51 => 113 | 55 => 87 | 57 => 118 | 58 => 119 | 33 => 58 | n => n, fun | n => n⟩
theorem Try.sorted40 : Go.Proofs.SlLaysZ.n6 Try.prog Try.sorted40_ren := {
  mixed := by kernel_rfl
  f6 := ⟨Try.f40.name, by decide, Try.func40.trans (congrArg some (by kernel_rfl))⟩
  f8 := ⟨Try.f48.name, by decide, Try.func48.trans (congrArg some (by kernel_rfl))⟩
  f11 := ⟨Try.f54.name, by decide, Try.func54.trans (congrArg some (by kernel_rfl))⟩
  t0 := Try.underlying0
  a0 := Try.isAgg0
  z0 := Try.sizeOf0
  v0 := Try.zeroValue0
  t24 := Try.underlying53
  a24 := Try.isAgg53
  z24 := Try.sizeOf53
  v24 := Try.zeroValue53
  t26 := Try.underlying9
  a26 := Try.isAgg9
  z26 := Try.sizeOf9
  v26 := Try.zeroValue9
  t28 := Try.underlying78
  a28 := Try.isAgg78
  z28 := Try.sizeOf78
  v28 := Try.zeroValue78
  i26 := by kernel_rfl }
def Try.sort49_ren : Go.Shelf.Ren := ⟨fun | 6 => 49 | 8 => 56 | 9 => 55 | 19 => 66 | 20 => 67 | 21 => 57 | 22 => 58 | 23 => 59 | 24 => 60 | 25 => 61 | 26 => 62 | 27 => 63 | 28 => 64 | 29 => 65 | 36 => 68 | 31 => 69 | 32 => 70 | 37 => 71 | 38 => 72 | 39 => 73 | 41 => 74 | n => n, fun | 27 => 53 | 29 => 9 | 3 => 3 | 32 => 90 | 26 => 53 | 0 => 0 | 44 => 73 | 46 => 112 | 4 => 4 | 36 => 103 | 35 => 102 | 41 => 108 | 5 => 5 | 9 => 9 | 53 => 113 | 57 => 87 | 63 => 118 | 64 => 119 | n => n, fun | n => n⟩
theorem Try.sort49 : Go.Proofs.SlLaysM.n6 Try.prog Try.sort49_ren := {
  mixed := by kernel_rfl
  f6 := ⟨Try.f49.name, by decide, Try.func49.trans (congrArg some (by kernel_rfl))⟩
  f8 := Try.func56.trans (congrArg some (by kernel_rfl))
  f9 := ⟨Try.f55.name, by decide, Try.func55.trans (congrArg some (by kernel_rfl))⟩
  f19 := Try.func66.trans (congrArg some (by kernel_rfl))
  f20 := Try.func67.trans (congrArg some (by kernel_rfl))
  f21 := ⟨Try.f57.name, by decide, Try.func57.trans (congrArg some (by kernel_rfl))⟩
  f22 := ⟨Try.f58.name, by decide, Try.func58.trans (congrArg some (by kernel_rfl))⟩
  f23 := ⟨Try.f59.name, by decide, Try.func59.trans (congrArg some (by kernel_rfl))⟩
  f24 := ⟨Try.f60.name, by decide, Try.func60.trans (congrArg some (by kernel_rfl))⟩
  f25 := ⟨Try.f61.name, by decide, Try.func61.trans (congrArg some (by kernel_rfl))⟩
  f26 := ⟨Try.f62.name, by decide, Try.func62.trans (congrArg some (by kernel_rfl))⟩
  f27 := ⟨Try.f63.name, by decide, Try.func63.trans (congrArg some (by kernel_rfl))⟩
  f28 := ⟨Try.f64.name, by decide, Try.func64.trans (congrArg some (by kernel_rfl))⟩
  f29 := ⟨Try.f65.name, by decide, Try.func65.trans (congrArg some (by kernel_rfl))⟩
  f31 := Try.func69.trans (congrArg some (by kernel_rfl))
  f32 := Try.func70.trans (congrArg some (by kernel_rfl))
  f36 := ⟨Try.f68.name, by decide, Try.func68.trans (congrArg some (by kernel_rfl))⟩
  f37 := ⟨Try.f71.name, by decide, Try.func71.trans (congrArg some (by kernel_rfl))⟩
  f38 := ⟨Try.f72.name, by decide, Try.func72.trans (congrArg some (by kernel_rfl))⟩
  f39 := ⟨Try.f73.name, by decide, Try.func73.trans (congrArg some (by kernel_rfl))⟩
  f41 := ⟨Try.f74.name, by decide, Try.func74.trans (congrArg some (by kernel_rfl))⟩
  t0 := Try.underlying0
  a0 := Try.isAgg0
  z0 := Try.sizeOf0
  v0 := Try.zeroValue0
  t3 := Try.underlying3
  a3 := Try.isAgg3
  z3 := Try.sizeOf3
  v3 := Try.zeroValue3
  t4 := Try.underlying4
  a4 := Try.isAgg4
  z4 := Try.sizeOf4
  v4 := Try.zeroValue4
  t5 := Try.underlying5
  a5 := Try.isAgg5
  z5 := Try.sizeOf5
  v5 := Try.zeroValue5
  t9 := Try.underlying9
  a9 := Try.isAgg9
  z9 := Try.sizeOf9
  v9 := Try.zeroValue9
  t26 := Try.underlying53
  a26 := Try.isAgg53
  z26 := Try.sizeOf53
  v26 := Try.zeroValue53
  t27 := Try.underlying53
  a27 := Try.isAgg53
  z27 := Try.sizeOf53
  v27 := Try.zeroValue53
  t29 := Try.underlying9
  a29 := Try.isAgg9
  z29 := Try.sizeOf9
  v29 := Try.zeroValue9
  t32 := Try.underlying90
  a32 := Try.isAgg90
  z32 := Try.sizeOf90
  v32 := Try.zeroValue90
  t35 := Try.underlying102
  a35 := Try.isAgg102
  z35 := Try.sizeOf102
  v35 := Try.zeroValue102
  t36 := Try.underlying103
  a36 := Try.isAgg103
  z36 := Try.sizeOf103
  v36 := Try.zeroValue103
  t41 := Try.underlying108
  a41 := Try.isAgg108
  z41 := Try.sizeOf108
  v41 := Try.zeroValue108
  t44 := Try.underlying73
  a44 := Try.isAgg73
  z44 := Try.sizeOf73
  v44 := Try.zeroValue73
  t46 := Try.underlying112
  a46 := Try.isAgg112
  z46 := Try.sizeOf112
  v46 := Try.zeroValue112
  t53 := Try.underlying113
  a53 := Try.isAgg113
  z53 := Try.sizeOf113
  v53 := Try.zeroValue113
  t57 := Try.underlying87
  a57 := Try.isAgg87
  z57 := Try.sizeOf87
  v57 := Try.zeroValue87
  t63 := Try.underlying118
  a63 := Try.isAgg118
  z63 := Try.sizeOf118
  v63 := Try.zeroValue118
  t64 := Try.underlying119
  a64 := Try.isAgg119
  z64 := Try.sizeOf119
  v64 := Try.zeroValue119 }
theorem Try.sorts40 (m : Nat) : AnyZ.SortsIn Try.prog Try.sorted40_ren Fence.wide m :=
  ⟨fun blk off cap ss W hH hblk hsz => callsIn_wide.2 (AnyM.slices_Sort_string Try.sort49 blk off cap ss W hH hblk hsz),
   fun p cap W => callsIn_wide.2 (AnyM.slices_Sort_string_none Try.sort49 p cap W)⟩

theorem Try.maps_Keys_41 (mb : Option Nat) (W : World) : CallsIn Fence.wide 5 Try.prog 41 #[.map mb] W fun e w' => e = .returned (.func (.func 50) #[] #[.pointer (some ⟨W.heap.size, 0, none⟩)]) ∧ w' = W.alloc (.cells #[.map mb] 40) :=
  AnyZ.keys_in Try.keys41 Fence.wide 5 trivial rfl mb W

set_option maxHeartbeats 1000000 in
theorem Try.slices_Sorted_keys_40_41 {H : Type} (b nn : Nat) (D0 : DataW H) (R : Value → Option (DataW H × List MemPlace)) (w : World) (hown : w.ownsMap Try.prog 9 R b nn D0) (hmax : Maps.size D0 ≤ maxLen) (hbytes : Maps.size D0 * 16 ≤ 140737488355328) :
    CallsIn Fence.wide 5 Try.prog 40 #[.func (.func 50) #[] #[.pointer (some ⟨w.heap.size, 0, none⟩)]] (w.alloc (.cells #[.map (some b)] 40)) fun e w' => ∃ (v : Value) (ss : List (List UInt8)), e = .returned v ∧ ss.Perm (strKeys D0) ∧
      w'.ownsRow (w.alloc (.cells #[.map (some b)] 40)).heap.size 9 1 v ss.length ((ss.mergeSort (fun x y => decide (x ≤ y))).map encStr) ∧ (v = .slice none 0 0 ↔ ss = []) ∧ Below (w.alloc (.cells #[.map (some b)] 40)).heap.size (w.alloc (.cells #[.map (some b)] 40)) w' := by
  have hbl := hown.lt
  have hseq : SeqGives Fence.wide 2 Try.prog 50 #[.pointer (some ⟨w.heap.size, 0, none⟩)] encStr (fun ss => ss.Perm (strKeys D0)) (Maps.size D0) (w.alloc (.cells #[.map (some b)] 40)) :=
    AnyZ.keys_gives (ρ := Try.keys41_ren) { Try.keys41 with } Fence.wide _ trivial rfl (by omega) w.heap.size b nn D0 _ (by simp) (by simp) (by
      obtain ⟨es, clock, hb, Ft, hs, hD⟩ := hown
      exact ⟨es, clock, (Below.heap_alloc _ _ b hbl).trans hb, Ft, hs, hD⟩)
  exact AnyZ.sorted_in Try.sorted40 Fence.wide 5 trivial trivial trivial trivial rfl (by omega) (Try.sorts40 _) (enters_of Try.func49 (by kernel_rfl) rfl) 50 #[.pointer (some ⟨w.heap.size, 0, none⟩)] trivial (enters_of Try.func50 (by kernel_rfl) rfl) _ _ hmax hbytes _ hseq
end Go.Proofs.Ytgbpgmbnihfkkaa

/- disk: a disk that is out; Up; an unfit call -/
namespace Go.Proofs.Ytgbpgmbnihfkkaa
open Go.RowKit
theorem down_out (d mb : Nat) (st fu : Int) (w : World) (h : DiskRow w d mb st fu true) :
    Calls Try.prog 23 #[.pointer (some ⟨d, 0, none⟩)] w fun e w' => e = .returned (.int .i64 10) ∧ w = w' := by
  obtain ⟨h0, h1, h2, h3⟩ := h.cells
  have H := Lib.hid h
  clear h h0 h1 h2
  go_enter Try.func23, Try.ntmps23
  go_wp2_with fail
  refine (none_any _ _ _ _ _ _ H.out).mono ?_
  rintro e w' ⟨rfl, rfl⟩
  go_wp2_with fail
  go_ret
  exact ⟨rfl, rfl⟩
theorem open_out (d mb : Nat) (st fu : Int) (nm : Value) (w : World) (h : DiskRow w d mb st fu true) :
    Calls Try.prog 34 #[.pointer (some ⟨d, 0, none⟩), nm] w fun e w' => e = .returned (.tuple #[.pointer none, .int .i64 10]) ∧ w = w' := by
  have H := Lib.hid h
  clear h
  go_enter Try.func34, Try.ntmps34
  go_wp2_with fail
  refine (down_out _ _ _ _ _ H.out).mono ?_
  rintro e w' ⟨rfl, rfl⟩
  go_wp2_with fail
  go_ret2
  exact ⟨rfl, rfl⟩
theorem Append_gone (d mb : Nat) (st fu : Int) (nm : ByteArray) (ao : Option Addr) (n cap : Nat) (w : World) (h : DiskRow w d mb st fu true) :
    Calls Try.prog 10 #[.pointer (some ⟨d, 0, none⟩), .string nm, .slice ao n cap] w fun e w' => e = .returned (.int .i64 10) ∧ Below w.heap.size w w' := by
  have H := Lib.hid h
  clear h
  go_enter Try.func10, Try.ntmps10
  go_wp2_with fail
  have hb : Below w.heap.size w (((w.alloc (.cells #[.pointer (some ⟨d, 0, none⟩)] 22)).alloc (.cells #[.string nm] 9)).alloc (.cells #[.slice ao n cap] 30)) := (((Below.refl _ _).alloc (Nat.le_refl _) _).alloc (by simp) _).alloc (by simp; omega) _
  generalize (((w.alloc (.cells #[.pointer (some ⟨d, 0, none⟩)] 22)).alloc (.cells #[.string nm] 9)).alloc (.cells #[.slice ao n cap] 30)) = w1 at hb ⊢
  have HB := Lib.hid hb
  refine (down_out _ _ _ _ _ ((hb.block _ H.out.lt).trans H.out)).mono ?_
  clear hb
  rintro e w' ⟨rfl, rfl⟩
  go_wp2_with fail
  go_ret
  exact ⟨rfl, HB.out⟩
theorem Sync_gone (d mb : Nat) (st fu : Int) (nm : ByteArray) (w : World) (h : DiskRow w d mb st fu true) :
    Calls Try.prog 18 #[.pointer (some ⟨d, 0, none⟩), .string nm] w fun e w' => e = .returned (.int .i64 10) ∧ Below w.heap.size w w' := by
  have H := Lib.hid h
  clear h
  go_enter Try.func18, Try.ntmps18
  go_wp2_with fail
  refine (open_out d mb st fu _ _ H.out).mono ?_
  rintro e w' ⟨rfl, rfl⟩
  have hb := Below.refl w.heap.size w
  go_wp2_with fail
  go_ret
  exact ⟨rfl, by first | exact Below.refl _ _ | exact (Below.refl _ _).alloc (Nat.le_refl _) _⟩
end Go.Proofs.Ytgbpgmbnihfkkaa

/- disk: Up (only programs that reach it; move to tpl27 for seat r27) -/
namespace Go.Proofs.Ytgbpgmbnihfkkaa
open Go.RowKit
end Go.Proofs.Ytgbpgmbnihfkkaa

/- disk: Names -/
namespace Go.Proofs.Ytgbpgmbnihfkkaa
open Go.RowKit Go.Maps Go.Sort
/-- how a file reads: as nothing. -/
def R0 : Value → Option (DataW Unit × List MemPlace) := fun _ => some (.nil, [])
theorem key_any {nm : ByteArray} (h : nameP nm.data.toList = true) : keyOf Try.prog 9 (.string nm) = some (.string nm.data.toList) := by
  have h64 : nm.size ≤ 64 := by
    unfold nameP at h
    simp only [Bool.and_eq_true, decide_eq_true_eq] at h
    exact h.2
  simp [keyOf, mapKey, Try.underlying9]
  unfold maxLen
  omega
/-- a map's names, as they are told. -/
def sortN (M : List Ent) : List (List UInt8) := (M.map fun x => x.1.data.toList).mergeSort leB
theorem rd_ent {x : Ent} (h : nameP x.1.data.toList = true) : WideElems.rd (H := Unit) Try.prog 9 R0 (ent x) = some (.string x.1.data.toList, .nil) := by
  have := key_any h
  simp [WideElems.rd, ent, this, R0]
theorem rg_ent {x : Ent} (h : nameP x.1.data.toList = true) : WideElems.rg (H := Unit) Try.prog 9 R0 (ent x) = (.string x.1.data.toList, .nil) := by
  rw [WideElems.rg, rd_ent h, Option.getD_some]
theorem bytes_inj {x y : ByteArray} (h : x.data.toList = y.data.toList) : x = y := by
  cases x; cases y
  simp at h
  simp [h]
theorem owns_ents {w : World} {mb c : Nat} {M : List Ent} (hfit : MapFit M c) (h : w.heap[mb]? = some (.map (ents M) c)) :
    w.ownsMap (H := Unit) Try.prog 9 R0 mb 16 (.map ((M.map fun x => ((.string x.1.data.toList, .nil) : Lit × DataW Unit)).foldr DataW.insert [])) := by
  have e : (ents M).toList = M.map ent := by simp [ents]
  have hm : (ents M).toList.map (WideElems.rg (H := Unit) Try.prog 9 R0) = M.map fun x => ((.string x.1.data.toList, .nil) : Lit × DataW Unit) := by
    rw [e, List.map_map]
    apply List.map_congr_left
    intro x hx
    rw [Function.comp_apply, rg_ent (hfit.fit x hx)]
  refine ⟨_, c, h, ⟨?_, ⟨?_, ?_, ?_⟩, fun x hx => ?_⟩, ?_, by rw [hm]⟩
  · have e2 : (ents M).size = M.length := by simp [ents]
    have h1 := hfit.few
    have h2 : (16 : Nat) ≤ maxLen := by unfold maxLen; omega
    rw [e2]
    exact Nat.le_trans h1 h2
  · intro x hx
    rw [e] at hx
    obtain ⟨y, hy, rfl⟩ := List.mem_map.1 hx
    exact hfit.clock y hy
  · rw [e, List.map_map]
    show (M.map fun x => x.2.2).Nodup
    unfold List.Nodup
    rw [List.pairwise_map]
    exact hfit.rise.imp (fun h => Nat.ne_of_lt h)
  · rw [e, List.map_map]
    show (M.map fun x => Value.string x.1).Nodup
    have := hfit.once
    unfold List.Nodup at this ⊢
    rw [List.pairwise_map] at this ⊢
    exact this.imp (fun h e => h (by injection e))
  · rw [e] at hx
    obtain ⟨y, hy, rfl⟩ := List.mem_map.1 hx
    exact ⟨_, rd_ent (hfit.fit y hy)⟩
  · simpa [ents] using hfit.few
theorem strKeys_ents (M : List Ent) : (strKeys (.map ((M.map fun x => ((.string x.1.data.toList, .nil) : Lit × DataW Unit)).foldr DataW.insert []))).Perm (M.map fun x => x.1.data.toList) := by
  unfold strKeys
  refine ((WideShapes.sorted_perm _).map _).trans ?_
  rw [List.map_map]
  exact .refl _
set_option maxRecDepth 100000 in
theorem Names_any (d mb : Nat) (M : List Ent) (st fu : Int) (out : Bool) (w : World) (h : DiskM w st fu out d mb M) :
    Calls Try.prog 20 #[.pointer (some ⟨d, 0, none⟩)] w fun e w' => ∃ v, e = .returned v ∧ w'.ownsRow w.heap.size 9 1 v M.length ((sortN M).map encStr) ∧ (v = .slice none 0 0 ↔ M = []) ∧ Below w.heap.size w w' := by
  obtain ⟨hfu, hmd, hd, c, hfit, hm⟩ := h
  have h0 := hd.cells.1
  have HN := Lib.hid (none_any d mb st fu out w hd)
  have HO := Lib.hid (owns_ents hfit hm)
  have hsz : Go.Maps.size (DataW.map ((M.map fun x => ((.string x.1.data.toList, .nil) : Lit × DataW Unit)).foldr DataW.insert [])) ≤ 16 := by
    have h1 := (WideShapes.sorted_perm (M.map fun x => ((.string x.1.data.toList, .nil) : Lit × DataW Unit))).length_eq
    have h2 := hfit.few
    rw [List.length_map] at h1
    show (_ : List _).length ≤ 16
    omega
  have HSZ := Lib.hid hsz
  clear hfu hmd hfit hsz
  clear hd hm
  have hfK : Fence.wide.fn 41 := trivial
  have hfS : Fence.wide.fn 40 := trivial
  have hfN : Fence.wide.fn 19 := trivial
  refine (callsIn_wide (n := 6)).1 ?_
  refine callsIn_of_wp Try.func20 rfl trivial ?_ rfl
  simp only [Try.ntmps20, List.size_toArray, List.length_cons, List.length_nil, Nat.reduceAdd, Nat.reduceSub, Array.replicate_succ, Array.replicate_zero, List.push_toArray, List.append_toArray, List.nil_append, List.cons_append]
  gi_wp2_with (first
    | (gi_at_call 19; refine (callsIn_wide.2 HN.out).mono ?_; rintro e w' ⟨rfl, rfl⟩)
    | (gi_at_call 41; refine (Try.maps_Keys_41 _ _).mono ?_; rintro e w' ⟨rfl, rfl⟩)
    | (gi_at_call 40; refine (Try.slices_Sorted_keys_40_41 mb 16 _ R0 w HO.out (Nat.le_trans HSZ.out (by unfold maxLen; omega)) (by have := HSZ.out; omega)).mono ?_; rintro e w' ⟨v, ss, rfl, hS, hrow, hnil, hb⟩))
  go_ret
  have hp : ss.Perm (M.map fun x => x.1.data.toList) := hS.trans (strKeys_ents M)
  have hl : ss.length = M.length := by have := hp.length_eq; simpa using this
  rw [hl, show ss.mergeSort (fun x y => decide (x ≤ y)) = sortN M from mergeSort_of_perm hp] at hrow
  refine ⟨v, rfl, ownsRow_base hrow (by simp), ?_, ((Below.refl _ w).alloc (Nat.le_refl _) _).trans (hb.mono (by simp))⟩
  rw [hnil]
  constructor
  · rintro rfl
    exact List.eq_nil_of_length_eq_zero hl.symm
  · rintro rfl
    exact List.eq_nil_of_length_eq_zero hl
end Go.Proofs.Ytgbpgmbnihfkkaa

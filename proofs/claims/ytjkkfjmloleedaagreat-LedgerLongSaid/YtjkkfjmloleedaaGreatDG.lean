/- maps.Keys and slices.Sorted of the files' names, laid at this program (written by the shelf's own tools, lay-iter.mjs and lay-plain.mjs; the numbers are this program's) -/
import Derived.Shelf.SlIter.Nil
import Derived.Shelf.SortM.Plain
import Derived.Shelf.SortM.SortNone
import Derived.Ground.GgzProg
import Derived.Ground.SlgmProg
import Derived.Test.YtjkkfjmloleedaaGreatDFuse
import Derived.CallsIn
import Derived.OwnWalkIn
namespace Go.Proofs.YtjkkfjmloleedaaGreat
open Go.RowKit Go.Maps Go.Sort Go.Shelf
def Tryz.keys72_ren : Go.Shelf.Ren := ⟨fun | 7 => 72 | 10 => 88 | n => n, fun | 23 => 43 | 26 => 9 | 3 => 82 | 28 => 103 | 0 => 0 | 27 => 102 | 33 => 40 | 4 => 4 | n => n, fun | n => n⟩
theorem Tryz.keys72 : Go.Proofs.SlLaysZ.n7 Tryz.prog Tryz.keys72_ren := {
  mixed := by kernel_rfl
  f7 := ⟨Tryz.f72.name, by decide, Tryz.func72.trans (congrArg some (by kernel_rfl))⟩
  f10 := ⟨Tryz.f88.name, by decide, Tryz.func88.trans (congrArg some (by kernel_rfl))⟩
  t0 := Tryz.underlying0
  a0 := Tryz.isAgg0
  z0 := Tryz.sizeOf0
  v0 := Tryz.zeroValue0
  t4 := Tryz.underlying4
  a4 := Tryz.isAgg4
  z4 := Tryz.sizeOf4
  v4 := Tryz.zeroValue4
  t23 := Tryz.underlying43
  a23 := Tryz.isAgg43
  z23 := Tryz.sizeOf43
  v23 := Tryz.zeroValue43
  t26 := Tryz.underlying9
  a26 := Tryz.isAgg9
  z26 := Tryz.sizeOf9
  v26 := Tryz.zeroValue9
  t27 := Tryz.underlying102
  a27 := Tryz.isAgg102
  z27 := Tryz.sizeOf102
  v27 := Tryz.zeroValue102
  t28 := Tryz.underlying103
  a28 := Tryz.isAgg103
  z28 := Tryz.sizeOf103
  v28 := Tryz.zeroValue103
  t33 := Tryz.underlying40
  a33 := Tryz.isAgg40
  z33 := Tryz.sizeOf40
  v33 := Tryz.zeroValue40 }
def Tryz.sorted71_ren : Go.Shelf.Ren := ⟨fun | 6 => 71 | 8 => 86 | 9 => 87 | 11 => 94 | 13 => 96 | 12 => 95 | 23 => 108 | 24 => 109 | 14 => 99 | 15 => 100 | 16 => 101 | 17 => 102 | 18 => 103 | 19 => 104 | 20 => 105 | 21 => 106 | 22 => 107 | 25 => 110 | 26 => 111 | 27 => 112 | 28 => 113 | 29 => 114 | 30 => 115 | 31 => 116 | n => n, fun | 26 => 9 | 28 => 103 | 24 => 61 | 0 => 0 | 3 => 3 | 37 => 125 | 48 => 109 | 50 => 144 | 4 => 4 | 40 => 135 | 39 => 134 | 45 => 140 | 5 => 5 | 9 => 9 | 51 => 145 | 55 => 124 | 57 => 150 | 58 => 151 | 33 => 40 | n => n, fun | n => n⟩
theorem Tryz.sorted71 : Go.Proofs.SlLaysZ.n6 Tryz.prog Tryz.sorted71_ren := {
  mixed := by kernel_rfl
  f6 := ⟨Tryz.f71.name, by decide, Tryz.func71.trans (congrArg some (by kernel_rfl))⟩
  f8 := ⟨Tryz.f86.name, by decide, Tryz.func86.trans (congrArg some (by kernel_rfl))⟩
  f11 := ⟨Tryz.f94.name, by decide, Tryz.func94.trans (congrArg some (by kernel_rfl))⟩
  t0 := Tryz.underlying0
  a0 := Tryz.isAgg0
  z0 := Tryz.sizeOf0
  v0 := Tryz.zeroValue0
  t24 := Tryz.underlying61
  a24 := Tryz.isAgg61
  z24 := Tryz.sizeOf61
  v24 := Tryz.zeroValue61
  t26 := Tryz.underlying9
  a26 := Tryz.isAgg9
  z26 := Tryz.sizeOf9
  v26 := Tryz.zeroValue9
  t28 := Tryz.underlying103
  a28 := Tryz.isAgg103
  z28 := Tryz.sizeOf103
  v28 := Tryz.zeroValue103
  i26 := by kernel_rfl }
def Tryz.sort87_ren : Go.Shelf.Ren := ⟨fun | 6 => 87 | 8 => 96 | 9 => 95 | 19 => 108 | 20 => 109 | 21 => 99 | 22 => 100 | 23 => 101 | 24 => 102 | 25 => 103 | 26 => 104 | 27 => 105 | 28 => 106 | 29 => 107 | 36 => 110 | 31 => 111 | 32 => 112 | 37 => 113 | 38 => 114 | 39 => 115 | 41 => 116 | n => n, fun | 27 => 61 | 29 => 9 | 3 => 3 | 32 => 125 | 26 => 61 | 0 => 0 | 44 => 109 | 46 => 144 | 4 => 4 | 36 => 135 | 35 => 134 | 41 => 140 | 5 => 5 | 9 => 9 | 53 => 145 | 57 => 124 | 63 => 150 | 64 => 151 | n => n, fun | n => n⟩
theorem Tryz.sort87 : Go.Proofs.SlLaysM.n6 Tryz.prog Tryz.sort87_ren := {
  mixed := by kernel_rfl
  f6 := ⟨Tryz.f87.name, by decide, Tryz.func87.trans (congrArg some (by kernel_rfl))⟩
  f8 := Tryz.func96.trans (congrArg some (by kernel_rfl))
  f9 := ⟨Tryz.f95.name, by decide, Tryz.func95.trans (congrArg some (by kernel_rfl))⟩
  f19 := Tryz.func108.trans (congrArg some (by kernel_rfl))
  f20 := Tryz.func109.trans (congrArg some (by kernel_rfl))
  f21 := ⟨Tryz.f99.name, by decide, Tryz.func99.trans (congrArg some (by kernel_rfl))⟩
  f22 := ⟨Tryz.f100.name, by decide, Tryz.func100.trans (congrArg some (by kernel_rfl))⟩
  f23 := ⟨Tryz.f101.name, by decide, Tryz.func101.trans (congrArg some (by kernel_rfl))⟩
  f24 := ⟨Tryz.f102.name, by decide, Tryz.func102.trans (congrArg some (by kernel_rfl))⟩
  f25 := ⟨Tryz.f103.name, by decide, Tryz.func103.trans (congrArg some (by kernel_rfl))⟩
  f26 := ⟨Tryz.f104.name, by decide, Tryz.func104.trans (congrArg some (by kernel_rfl))⟩
  f27 := ⟨Tryz.f105.name, by decide, Tryz.func105.trans (congrArg some (by kernel_rfl))⟩
  f28 := ⟨Tryz.f106.name, by decide, Tryz.func106.trans (congrArg some (by kernel_rfl))⟩
  f29 := ⟨Tryz.f107.name, by decide, Tryz.func107.trans (congrArg some (by kernel_rfl))⟩
  f31 := Tryz.func111.trans (congrArg some (by kernel_rfl))
  f32 := Tryz.func112.trans (congrArg some (by kernel_rfl))
  f36 := ⟨Tryz.f110.name, by decide, Tryz.func110.trans (congrArg some (by kernel_rfl))⟩
  f37 := ⟨Tryz.f113.name, by decide, Tryz.func113.trans (congrArg some (by kernel_rfl))⟩
  f38 := ⟨Tryz.f114.name, by decide, Tryz.func114.trans (congrArg some (by kernel_rfl))⟩
  f39 := ⟨Tryz.f115.name, by decide, Tryz.func115.trans (congrArg some (by kernel_rfl))⟩
  f41 := ⟨Tryz.f116.name, by decide, Tryz.func116.trans (congrArg some (by kernel_rfl))⟩
  t0 := Tryz.underlying0
  a0 := Tryz.isAgg0
  z0 := Tryz.sizeOf0
  v0 := Tryz.zeroValue0
  t3 := Tryz.underlying3
  a3 := Tryz.isAgg3
  z3 := Tryz.sizeOf3
  v3 := Tryz.zeroValue3
  t4 := Tryz.underlying4
  a4 := Tryz.isAgg4
  z4 := Tryz.sizeOf4
  v4 := Tryz.zeroValue4
  t5 := Tryz.underlying5
  a5 := Tryz.isAgg5
  z5 := Tryz.sizeOf5
  v5 := Tryz.zeroValue5
  t9 := Tryz.underlying9
  a9 := Tryz.isAgg9
  z9 := Tryz.sizeOf9
  v9 := Tryz.zeroValue9
  t26 := Tryz.underlying61
  a26 := Tryz.isAgg61
  z26 := Tryz.sizeOf61
  v26 := Tryz.zeroValue61
  t27 := Tryz.underlying61
  a27 := Tryz.isAgg61
  z27 := Tryz.sizeOf61
  v27 := Tryz.zeroValue61
  t29 := Tryz.underlying9
  a29 := Tryz.isAgg9
  z29 := Tryz.sizeOf9
  v29 := Tryz.zeroValue9
  t32 := Tryz.underlying125
  a32 := Tryz.isAgg125
  z32 := Tryz.sizeOf125
  v32 := Tryz.zeroValue125
  t35 := Tryz.underlying134
  a35 := Tryz.isAgg134
  z35 := Tryz.sizeOf134
  v35 := Tryz.zeroValue134
  t36 := Tryz.underlying135
  a36 := Tryz.isAgg135
  z36 := Tryz.sizeOf135
  v36 := Tryz.zeroValue135
  t41 := Tryz.underlying140
  a41 := Tryz.isAgg140
  z41 := Tryz.sizeOf140
  v41 := Tryz.zeroValue140
  t44 := Tryz.underlying109
  a44 := Tryz.isAgg109
  z44 := Tryz.sizeOf109
  v44 := Tryz.zeroValue109
  t46 := Tryz.underlying144
  a46 := Tryz.isAgg144
  z46 := Tryz.sizeOf144
  v46 := Tryz.zeroValue144
  t53 := Tryz.underlying145
  a53 := Tryz.isAgg145
  z53 := Tryz.sizeOf145
  v53 := Tryz.zeroValue145
  t57 := Tryz.underlying124
  a57 := Tryz.isAgg124
  z57 := Tryz.sizeOf124
  v57 := Tryz.zeroValue124
  t63 := Tryz.underlying150
  a63 := Tryz.isAgg150
  z63 := Tryz.sizeOf150
  v63 := Tryz.zeroValue150
  t64 := Tryz.underlying151
  a64 := Tryz.isAgg151
  z64 := Tryz.sizeOf151
  v64 := Tryz.zeroValue151 }
/-- slices.Sort's two contracts at this dump, at the fence that asks nothing. -/
theorem Tryz.sorts71 (m : Nat) : AnyZ.SortsIn Tryz.prog Tryz.sorted71_ren Fence.wide m :=
  ⟨fun blk off cap ss W hH hblk hsz => callsIn_wide.2 (AnyM.slices_Sort_string Tryz.sort87 blk off cap ss W hH hblk hsz),
   fun p cap W => callsIn_wide.2 (AnyM.slices_Sort_string_none Tryz.sort87 p cap W)⟩

/-- **maps.Keys[map[string]*apportion/disk.file,string,*apportion/disk.file], at whatever map, the nil one too:** a function value over ONE NEW BLOCK, which holds the map. -/
theorem Tryz.maps_Keys_72 (mb : Option Nat) (W : World) : CallsIn Fence.wide 5 Tryz.prog 72 #[.map mb] W fun e w' => e = .returned (.func (.func 88) #[] #[.pointer (some ⟨W.heap.size, 0, none⟩)]) ∧ w' = W.alloc (.cells #[.map mb] 43) :=
  AnyZ.keys_in Tryz.keys72 Fence.wide 5 trivial rfl mb W

set_option maxHeartbeats 1000000 in
/-- **slices.Sorted[string] AT WHAT maps.Keys[map[string]*apportion/disk.file,string,*apportion/disk.file] HANDED BACK FOR A MAP THAT IS NOT nil** ('w': the world AHEAD of maps.Keys' call): A NEW SLICE THAT HOLDS THE MAP's KEYS, SORTED; nil just where it has none; nothing that lay before has turned. -/
theorem Tryz.slices_Sorted_keys_71_72 {H : Type} (b nn : Nat) (D0 : DataW H) (R : Value → Option (DataW H × List MemPlace)) (w : World) (hown : w.ownsMap Tryz.prog 9 R b nn D0) (hmax : Maps.size D0 ≤ maxLen) (hbytes : Maps.size D0 * 16 ≤ 140737488355328) :
    CallsIn Fence.wide 5 Tryz.prog 71 #[.func (.func 88) #[] #[.pointer (some ⟨w.heap.size, 0, none⟩)]] (w.alloc (.cells #[.map (some b)] 43)) fun e w' => ∃ (v : Value) (ss : List (List UInt8)), e = .returned v ∧ ss.Perm (strKeys D0) ∧
      w'.ownsRow (w.alloc (.cells #[.map (some b)] 43)).heap.size 9 1 v ss.length ((ss.mergeSort (fun x y => decide (x ≤ y))).map encStr) ∧ (v = .slice none 0 0 ↔ ss = []) ∧ Below (w.alloc (.cells #[.map (some b)] 43)).heap.size (w.alloc (.cells #[.map (some b)] 43)) w' := by
  have hbl := hown.lt
  have hseq : SeqGives Fence.wide 2 Tryz.prog 88 #[.pointer (some ⟨w.heap.size, 0, none⟩)] encStr (fun ss => ss.Perm (strKeys D0)) (Maps.size D0) (w.alloc (.cells #[.map (some b)] 43)) :=
    AnyZ.keys_gives (ρ := Tryz.keys72_ren) { Tryz.keys72 with } Fence.wide _ trivial rfl (by omega) w.heap.size b nn D0 _ (by simp) (by simp) (by
      obtain ⟨es, clock, hb, Ft, hs, hD⟩ := hown
      exact ⟨es, clock, (Below.heap_alloc _ _ b hbl).trans hb, Ft, hs, hD⟩)
  exact AnyZ.sorted_in Tryz.sorted71 Fence.wide 5 trivial trivial trivial trivial rfl (by omega) (Tryz.sorts71 _) (enters_of Tryz.func87 (by kernel_rfl) rfl) 88 #[.pointer (some ⟨w.heap.size, 0, none⟩)] trivial (enters_of Tryz.func88 (by kernel_rfl) rfl) _ _ hmax hbytes _ hseq
end Go.Proofs.YtjkkfjmloleedaaGreat

/- disk: a disk that is out; Up; an unfit call -/
namespace Go.Proofs.YtjkkfjmloleedaaGreat
open Go.RowKit
theorem down_out (d mb : Nat) (st fu : Int) (w : World) (h : DiskRow w d mb st fu true) :
    Calls Tryz.prog 56 #[.pointer (some ⟨d, 0, none⟩)] w fun e w' => e = .returned (.int .i64 10) ∧ w = w' := by
  obtain ⟨h0, h1, h2, h3⟩ := h.cells
  have H := Lib.hid h
  clear h h0 h1 h2
  go_enter Tryz.func56, Tryz.ntmps56
  go_wp2_with fail
  refine (none_any _ _ _ _ _ _ H.out).mono ?_
  rintro e w' ⟨rfl, rfl⟩
  go_wp2_with fail
  go_ret
  exact ⟨rfl, rfl⟩
theorem open_out (d mb : Nat) (st fu : Int) (nm : Value) (w : World) (h : DiskRow w d mb st fu true) :
    Calls Tryz.prog 66 #[.pointer (some ⟨d, 0, none⟩), nm] w fun e w' => e = .returned (.tuple #[.pointer none, .int .i64 10]) ∧ w = w' := by
  have H := Lib.hid h
  clear h
  go_enter Tryz.func66, Tryz.ntmps66
  go_wp2_with fail
  refine (down_out _ _ _ _ _ H.out).mono ?_
  rintro e w' ⟨rfl, rfl⟩
  go_wp2_with fail
  go_ret2
  exact ⟨rfl, rfl⟩
theorem Append_gone (d mb : Nat) (st fu : Int) (nm : ByteArray) (ao : Option Addr) (n cap : Nat) (w : World) (h : DiskRow w d mb st fu true) :
    Calls Tryz.prog 20 #[.pointer (some ⟨d, 0, none⟩), .string nm, .slice ao n cap] w fun e w' => e = .returned (.int .i64 10) ∧ Below w.heap.size w w' := by
  have H := Lib.hid h
  clear h
  go_enter Tryz.func20, Tryz.ntmps20
  go_wp2_with fail
  have hb : Below w.heap.size w (((w.alloc (.cells #[.pointer (some ⟨d, 0, none⟩)] 24)).alloc (.cells #[.string nm] 9)).alloc (.cells #[.slice ao n cap] 36)) := (((Below.refl _ _).alloc (Nat.le_refl _) _).alloc (by simp) _).alloc (by simp; omega) _
  generalize (((w.alloc (.cells #[.pointer (some ⟨d, 0, none⟩)] 24)).alloc (.cells #[.string nm] 9)).alloc (.cells #[.slice ao n cap] 36)) = w1 at hb ⊢
  have HB := Lib.hid hb
  refine (down_out _ _ _ _ _ ((hb.block _ H.out.lt).trans H.out)).mono ?_
  clear hb
  rintro e w' ⟨rfl, rfl⟩
  go_wp2_with fail
  go_ret
  exact ⟨rfl, HB.out⟩
theorem Sync_gone (d mb : Nat) (st fu : Int) (nm : ByteArray) (w : World) (h : DiskRow w d mb st fu true) :
    Calls Tryz.prog 24 #[.pointer (some ⟨d, 0, none⟩), .string nm] w fun e w' => e = .returned (.int .i64 10) ∧ Below w.heap.size w w' := by
  have H := Lib.hid h
  clear h
  go_enter Tryz.func24, Tryz.ntmps24
  go_wp2_with fail
  refine (open_out d mb st fu _ _ H.out).mono ?_
  rintro e w' ⟨rfl, rfl⟩
  have hb := Below.refl w.heap.size w
  go_wp2_with fail
  go_ret
  exact ⟨rfl, by first | exact Below.refl _ _ | exact (Below.refl _ _).alloc (Nat.le_refl _) _⟩
end Go.Proofs.YtjkkfjmloleedaaGreat

/- disk: Up (only programs that reach it; move to tpl27 for seat r27) -/
namespace Go.Proofs.YtjkkfjmloleedaaGreat
open Go.RowKit
theorem Up_any (d mb : Nat) (st fu : Int) (out : Bool) (w : World) (h : DiskRow w d mb st fu out) :
    Calls Tryz.prog 32 #[.pointer (some ⟨d, 0, none⟩)] w fun e w' => e = .returned (.bool (!out)) ∧ w = w' := by
  obtain ⟨h0, h1, h2, h3⟩ := h.cells
  have H := Lib.hid h
  clear h h0 h1 h2
  go_enter Tryz.func32, Tryz.ntmps32
  go_wp2_with fail
  refine (none_any _ _ _ _ _ _ H.out).mono ?_
  rintro e w' ⟨rfl, rfl⟩
  go_wp2_with fail
  go_ret
  exact ⟨by first | rfl | (cases out <;> rfl), rfl⟩
end Go.Proofs.YtjkkfjmloleedaaGreat

/- disk: Names -/
namespace Go.Proofs.YtjkkfjmloleedaaGreat
open Go.RowKit Go.Maps Go.Sort
/-- how a file reads: as nothing. -/
def R0 : Value → Option (DataW Unit × List MemPlace) := fun _ => some (.nil, [])
theorem key_any {nm : ByteArray} (h : nameP nm.data.toList = true) : keyOf Tryz.prog 9 (.string nm) = some (.string nm.data.toList) := by
  have h64 : nm.size ≤ 64 := by
    unfold nameP at h
    simp only [Bool.and_eq_true, decide_eq_true_eq] at h
    exact h.2
  simp [keyOf, mapKey, Tryz.underlying9]
  unfold maxLen
  omega
/-- a map's names, as they are told. -/
def sortN (M : List Ent) : List (List UInt8) := (M.map fun x => x.1.data.toList).mergeSort leB
theorem rd_ent {x : Ent} (h : nameP x.1.data.toList = true) : WideElems.rd (H := Unit) Tryz.prog 9 R0 (ent x) = some (.string x.1.data.toList, .nil) := by
  have := key_any h
  simp [WideElems.rd, ent, this, R0]
theorem rg_ent {x : Ent} (h : nameP x.1.data.toList = true) : WideElems.rg (H := Unit) Tryz.prog 9 R0 (ent x) = (.string x.1.data.toList, .nil) := by
  rw [WideElems.rg, rd_ent h, Option.getD_some]
theorem bytes_inj {x y : ByteArray} (h : x.data.toList = y.data.toList) : x = y := by
  cases x; cases y
  simp at h
  simp [h]
theorem owns_ents {w : World} {mb c : Nat} {M : List Ent} (hfit : MapFit M c) (h : w.heap[mb]? = some (.map (ents M) c)) :
    w.ownsMap (H := Unit) Tryz.prog 9 R0 mb 16 (.map ((M.map fun x => ((.string x.1.data.toList, .nil) : Lit × DataW Unit)).foldr DataW.insert [])) := by
  have e : (ents M).toList = M.map ent := by simp [ents]
  have hm : (ents M).toList.map (WideElems.rg (H := Unit) Tryz.prog 9 R0) = M.map fun x => ((.string x.1.data.toList, .nil) : Lit × DataW Unit) := by
    rw [e, List.map_map]
    apply List.map_congr_left
    intro x hx
    rw [Function.comp_apply, rg_ent (hfit.fit x hx)]
  refine ⟨_, c, h, ⟨?_, ⟨?_, ?_, ?_⟩, fun x hx => ?_⟩, ?_, by rw [hm]⟩
  · have e2 : (ents M).size = M.length := by simp [ents]
    have h1 := hfit.few
    have h2 : (16 : Nat) ≤ maxLen := by unfold maxLen; omega
    rw [e2]
    exact Nat.le_trans h1 h2
  · intro x hx
    rw [e] at hx
    obtain ⟨y, hy, rfl⟩ := List.mem_map.1 hx
    exact hfit.clock y hy
  · rw [e, List.map_map]
    show (M.map fun x => x.2.2).Nodup
    unfold List.Nodup
    rw [List.pairwise_map]
    exact hfit.rise.imp (fun h => Nat.ne_of_lt h)
  · rw [e, List.map_map]
    show (M.map fun x => Value.string x.1).Nodup
    have := hfit.once
    unfold List.Nodup at this ⊢
    rw [List.pairwise_map] at this ⊢
    exact this.imp (fun h e => h (by injection e))
  · rw [e] at hx
    obtain ⟨y, hy, rfl⟩ := List.mem_map.1 hx
    exact ⟨_, rd_ent (hfit.fit y hy)⟩
  · simpa [ents] using hfit.few
theorem strKeys_ents (M : List Ent) : (strKeys (.map ((M.map fun x => ((.string x.1.data.toList, .nil) : Lit × DataW Unit)).foldr DataW.insert []))).Perm (M.map fun x => x.1.data.toList) := by
  unfold strKeys
  refine ((WideShapes.sorted_perm _).map _).trans ?_
  rw [List.map_map]
  exact .refl _
set_option maxRecDepth 100000 in
theorem Names_any (d mb : Nat) (M : List Ent) (st fu : Int) (out : Bool) (w : World) (h : DiskM w st fu out d mb M) :
    Calls Tryz.prog 30 #[.pointer (some ⟨d, 0, none⟩)] w fun e w' => ∃ v, e = .returned v ∧ w'.ownsRow w.heap.size 9 1 v M.length ((sortN M).map encStr) ∧ (v = .slice none 0 0 ↔ M = []) ∧ Below w.heap.size w w' := by
  obtain ⟨hfu, hmd, hd, c, hfit, hm⟩ := h
  have h0 := hd.cells.1
  have HN := Lib.hid (none_any d mb st fu out w hd)
  have HO := Lib.hid (owns_ents hfit hm)
  have hsz : Go.Maps.size (DataW.map ((M.map fun x => ((.string x.1.data.toList, .nil) : Lit × DataW Unit)).foldr DataW.insert [])) ≤ 16 := by
    have h1 := (WideShapes.sorted_perm (M.map fun x => ((.string x.1.data.toList, .nil) : Lit × DataW Unit))).length_eq
    have h2 := hfit.few
    rw [List.length_map] at h1
    show (_ : List _).length ≤ 16
    omega
  have HSZ := Lib.hid hsz
  clear hfu hmd hfit hsz
  clear hd hm
  have hfK : Fence.wide.fn 72 := trivial
  have hfS : Fence.wide.fn 71 := trivial
  have hfN : Fence.wide.fn 50 := trivial
  refine (callsIn_wide (n := 6)).1 ?_
  refine callsIn_of_wp Tryz.func30 rfl trivial ?_ rfl
  simp only [Tryz.ntmps30, List.size_toArray, List.length_cons, List.length_nil, Nat.reduceAdd, Nat.reduceSub, Array.replicate_succ, Array.replicate_zero, List.push_toArray, List.append_toArray, List.nil_append, List.cons_append]
  gi_wp2_with (first
    | (gi_at_call 50; refine (callsIn_wide.2 HN.out).mono ?_; rintro e w' ⟨rfl, rfl⟩)
    | (gi_at_call 72; refine (Tryz.maps_Keys_72 _ _).mono ?_; rintro e w' ⟨rfl, rfl⟩)
    | (gi_at_call 71; refine (Tryz.slices_Sorted_keys_71_72 mb 16 _ R0 w HO.out (Nat.le_trans HSZ.out (by unfold maxLen; omega)) (by have := HSZ.out; omega)).mono ?_; rintro e w' ⟨v, ss, rfl, hS, hrow, hnil, hb⟩))
  go_ret
  have hp : ss.Perm (M.map fun x => x.1.data.toList) := hS.trans (strKeys_ents M)
  have hl : ss.length = M.length := by have := hp.length_eq; simpa using this
  rw [hl, show ss.mergeSort (fun x y => decide (x ≤ y)) = sortN M from mergeSort_of_perm hp] at hrow
  refine ⟨v, rfl, ownsRow_base hrow (by simp), ?_, ((Below.refl _ w).alloc (Nat.le_refl _) _).trans (hb.mono (by simp))⟩
  rw [hnil]
  constructor
  · rintro rfl
    exact List.eq_nil_of_length_eq_zero hl.symm
  · rintro rfl
    exact List.eq_nil_of_length_eq_zero hl
end Go.Proofs.YtjkkfjmloleedaaGreat

/- disk: all files of a disk -/
namespace Go.Proofs.YtjkkfjmloleedaaGreat
open Go.RowKit
set_option linter.unusedSectionVars false
variable [Zone]
/-- what files have: safe bytes, what is under way. -/
abbrev Cont := Nat → List UInt8 × List Deed
def setC (C : Cont) (f : Nat) (v : List UInt8 × List Deed) : Cont := fun g => if g = f then v else C g
theorem setC_same (C : Cont) (f : Nat) : setC C f (C f) = C := by
  funext g
  unfold setC
  split
  · rename_i h; rw [h]
  · rfl
theorem setC_at (C : Cont) (f : Nat) (v : List UInt8 × List Deed) : setC C f v f = v := if_pos rfl
theorem setC_ne (C : Cont) {f g : Nat} (v : List UInt8 × List Deed) (h : g ≠ f) : setC C f v g = C g := if_neg h
/-- a disk with all its files, each in memory of its own. -/
structure DiskG (w : World) (st fu : Int) (out : Bool) (d mb base : Nat) (M : List Ent) (C : Cont) : Prop where
  dm : DiskM w st fu out d mb M
  low : base ≤ mb
  own : ∀ x ∈ M, base ≤ x.2.1 ∧ FileOwn w x.2.1 base (C x.2.1).1 (C x.2.1).2
  apart : ∀ x ∈ M, ∀ y ∈ M, x.2.1 = y.2.1 → x.1 = y.1
  rows : ∀ x ∈ M, ∀ y ∈ M, x.2.1 ≠ y.2.1 → ∀ k, rowOf w x.2.1 = some k → rowOf w y.2.1 ≠ some k
  zone : ZW w
/-- what a call of a disk leaves as it was. -/
structure Kept (d mb base : Nat) (w w' : World) : Prop where
  below : Below base w w'
  keep : ∀ j, j < w.heap.size → j ≠ d → j ≠ mb → (∀ c t, w.heap[j]? ≠ some (.cells c 92 t)) → (∀ c t, w.heap[j]? ≠ some (.cells c 114 t)) → w'.heap[j]? = w.heap[j]?
  u8 : ∀ j off v, w.cell? ⟨j, off, none⟩ = some (.int .u8 v) → j ≠ d → j ≠ mb → w'.heap[j]? = w.heap[j]?
theorem Kept.trans {d mb base : Nat} {a b c : World} (h : Kept d mb base a b) (k : Kept d mb base b c) : Kept d mb base a c := by
  refine ⟨h.below.trans k.below, fun j hj h1 h2 h3 h4 => ?_, fun j off v hc h1 h2 => ?_⟩
  · have e := h.keep j hj h1 h2 h3 h4
    exact (k.keep j (Nat.lt_of_lt_of_le hj h.below.size) h1 h2 (by rw [e]; exact h3) (by rw [e]; exact h4)).trans e
  · have e := h.u8 j off v hc h1 h2
    exact (k.u8 j off v ((World.cell?_of_block (a := ⟨j, off, none⟩) e).trans hc) h1 h2).trans e
theorem Kept.refl (d mb base : Nat) (w : World) : Kept d mb base w w := ⟨Below.refl _ _, fun _ _ _ _ _ _ => rfl, fun _ _ _ _ _ _ => rfl⟩
theorem Kept.of_below {d mb base : Nat} {w w' : World} (h : Below w.heap.size w w') (hb : base ≤ w.heap.size) : Kept d mb base w w' := ⟨h.mono hb, fun j hj _ _ _ _ => h.block j hj, fun j _ _ hc _ _ => h.block j (block_lt_of_cell hc)⟩
theorem rowOf_new {w : World} {f : Nat} (h : w.heap.size ≤ f) : rowOf w f = none := by
  unfold rowOf World.cell?
  rw [Array.getElem?_eq_none h]
theorem FileOwn.rowOf {w : World} {f base k : Nat} {S : List UInt8} {D : List Deed} (h : FileOwn w f base S D) (hk : rowOf w f = some k) : base ≤ k ∧ ∃ c t, w.heap[k]? = some (.cells c 114 t) := by
  obtain ⟨⟨ao, n, cap, lv, hr, hs, hds⟩, _, _⟩ := h
  rw [rowOf_row hr] at hk
  exact hds.deed_block hk
theorem FileOwn.row {w : World} {f base : Nat} {S : List UInt8} {D : List Deed} (h : FileOwn w f base S D) : ∃ c t, w.heap[f]? = some (.cells c 92 t) := by
  obtain ⟨⟨ao, n, cap, lv, hr, hs, hds⟩, _, _⟩ := h
  exact ⟨_, _, hr⟩
theorem Kept.of_moved {d mb f base : Nat} {w w' : World} (h : Moved d mb f w w') (hmd : mb < d) (h1 : base ≤ mb) (hb : base ≤ w.heap.size) (hf : (base ≤ f ∧ ∃ S D, FileOwn w f base S D) ∨ w.heap.size ≤ f) : Kept d mb base w w' := by
  have hrow : ∀ k, rowOf w f = some k → base ≤ k ∧ ∃ c t, w.heap[k]? = some (.cells c 114 t) := by
    intro k hk
    rcases hf with ⟨_, S, D, hf⟩ | hf
    · exact hf.rowOf hk
    · rw [rowOf_new hf] at hk; cases hk
  refine ⟨⟨h.os, h.tape, h.output, h.size, fun j hj => h.block j (by omega) (by omega) (by omega) (by rcases hf with ⟨hf, _⟩ | hf <;> omega) (fun e => ?_)⟩, fun j hj h2 h3 h4 h5 => h.block j hj h2 h3 ?_ (fun e => ?_), fun j off v hc h2 h3 => h.block j (block_lt_of_cell hc) h2 h3 ?_ (fun e => ?_)⟩
  · have := (hrow j e).1
    omega
  · rintro rfl
    rcases hf with ⟨_, S, D, hf⟩ | hf
    · obtain ⟨c, t, hc⟩ := hf.row
      exact h4 c t hc
    · omega
  · obtain ⟨c, t, hc⟩ := (hrow j e).2
    exact h5 c t hc
  · rintro rfl
    rcases hf with ⟨_, S, D, hf⟩ | hf
    · obtain ⟨⟨ao, n, cap, lv, hr', _, hds'⟩, _, _⟩ := hf
      obtain ⟨al, capl, rfl, _⟩ := hds'.deeds
      have := hr'.plain _ _ hc; simp [plainV] at this
    · have hl9 : j < w.heap.size := block_lt_of_cell hc
      omega
  · rcases hf with ⟨_, S, D, hf⟩ | hf
    · obtain ⟨⟨ao, n, cap, lv, hr', _, hds'⟩, _, _⟩ := hf
      rw [rowOf_row hr'] at e
      exact hds'.ne_u8 hc e.symm
    · rw [rowOf_new hf] at e; cases e
theorem FileOwn.other {w w' : World} {d mb f g base base' c : Nat} {es : Array MapEntry} {st fu : Int} {out : Bool} {S : List UInt8} {D : List Deed} (hg : FileOwn w g base S D) (hd : DiskRow w d mb st fu out) (hm : w.heap[mb]? = some (.map es c))
    (hf : (∃ S D, FileOwn w f base' S D) ∨ w.heap.size ≤ f) (hne : g ≠ f) (hrow : ∀ k, Go.Proofs.YtjkkfjmloleedaaGreat.rowOf w g = some k → Go.Proofs.YtjkkfjmloleedaaGreat.rowOf w f ≠ some k) (hmv : Moved d mb f w w') : FileOwn w' g base S D ∧ Go.Proofs.YtjkkfjmloleedaaGreat.rowOf w' g = Go.Proofs.YtjkkfjmloleedaaGreat.rowOf w g := by
  have hgl := hg.at.lt
  have hgd := hg.at.ne_disk hd
  have hgm := hg.at.ne_map hm
  have hfrow : ∀ k, Go.Proofs.YtjkkfjmloleedaaGreat.rowOf w f = some k → ∃ c t, w.heap[k]? = some (.cells c 114 t) := by
    intro k hk
    rcases hf with ⟨S, D, hf⟩ | hf
    · exact (hf.rowOf hk).2
    · rw [rowOf_new hf] at hk; cases hk
  obtain ⟨⟨ao, n, cap, lv, hr, hs, hds⟩, q1, q2⟩ := hg
  have hgsame : w'.heap[g]? = w.heap[g]? := by
    refine hmv.block g hgl hgd hgm hne (fun e => ?_)
    obtain ⟨c', t', hc⟩ := hfrow g e
    unfold FileRow at hr
    rw [hr] at hc
    simp at hc
  have hu8 : ∀ j off v, w.cell? ⟨j, off, none⟩ = some (.int .u8 v) → w'.heap[j]? = w.heap[j]? := by
    intro j off v hc
    have hjl : j < w.heap.size := block_lt_of_cell hc
    refine hmv.block j hjl ?_ ?_ ?_ (fun e => ?_)
    · rintro rfl; have := hd.plain _ _ hc; simp [plainV] at this
    · rintro rfl; have := map_plain hm _ _ hc; simp [plainV] at this
    · rintro rfl
      rcases hf with ⟨S, D, hf⟩ | hf
      · obtain ⟨⟨ao, n, cap, lv, hr', _, hds'⟩, _, _⟩ := hf
        obtain ⟨al, capl, rfl, _⟩ := hds'.deeds
        have := hr'.plain _ _ hc; simp [plainV] at this
      · omega
    · rcases hf with ⟨S, D, hf⟩ | hf
      · obtain ⟨⟨ao, n, cap, lv, hr', _, hds'⟩, _, _⟩ := hf
        rw [rowOf_row hr'] at e
        exact hds'.ne_u8 hc e.symm
      · rw [rowOf_new hf] at e; cases e
  refine ⟨⟨⟨ao, n, cap, lv, hgsame.trans hr, hs.moved hu8, hds.moved hu8 (fun k hk => ?_)⟩, q1, q2⟩, rowOf_same hgsame⟩
  obtain ⟨c', t', hc⟩ := (hds.deed_block hk).2
  refine hmv.block k (heap_lt hc) ?_ ?_ ?_ (hrow k (by rw [rowOf_row hr]; exact hk))
  · rintro rfl; unfold DiskRow at hd; rw [hd] at hc; simp at hc
  · rintro rfl; rw [hm] at hc; cases hc
  · rintro rfl
    rcases hf with ⟨S, D, hf⟩ | hf
    · obtain ⟨c2, t2, hc2⟩ := hf.row
      rw [hc2] at hc
      simp at hc
    · exact absurd (heap_lt hc) (by omega)
theorem DiskG.moved {w w' : World} {st fu st' fu' : Int} {out out' : Bool} {d mb base : Nat} {M : List Ent} {C : Cont} {S' : List UInt8} {D' : List Deed} (h : DiskG w st fu out d mb base M C) {x : Ent} (hx : x ∈ M) (hb : base ≤ w.heap.size) (hmv : Moved d mb x.2.1 w w') (hdm : DiskM w' st' fu' out' d mb M) (hf : FileOwn w' x.2.1 base S' D') :
    DiskG w' st' fu' out' d mb base M (setC C x.2.1 (S', D')) ∧ Kept d mb base w w' := by
  obtain ⟨q1, q2, q3, c, q4, q5⟩ := h.dm
  have hfx := (h.own x hx).2
  have hoth : ∀ y ∈ M, y.2.1 ≠ x.2.1 → FileOwn w' y.2.1 base (C y.2.1).1 (C y.2.1).2 ∧ rowOf w' y.2.1 = rowOf w y.2.1 := fun y hy hne =>
    (h.own y hy).2.other q3 q5 (.inl ⟨_, _, hfx⟩) hne (h.rows y hy x hx hne) hmv
  have hlt : ∀ y ∈ M, ∀ k, rowOf w y.2.1 = some k → k < w.heap.size := fun y hy k hk => by
    obtain ⟨_, c, t, hc⟩ := (h.own y hy).2.rowOf hk
    exact heap_lt hc
  refine ⟨⟨hdm, h.low, fun y hy => ⟨(h.own y hy).1, ?_⟩, h.apart, fun y hy z hz hne k hk => ?_, h.zone.mono hmv.size⟩, .of_moved hmv q2 h.low hb (.inl ⟨(h.own x hx).1, _, _, hfx⟩)⟩
  · by_cases e : y.2.1 = x.2.1
    · rw [e, setC_at]
      exact hf
    · rw [setC_ne _ _ e]
      exact (hoth y hy e).1
  · by_cases e1 : y.2.1 = x.2.1
    · have e2 : z.2.1 ≠ x.2.1 := fun e => hne (e1.trans e.symm)
      rw [(hoth z hz e2).2]
      rw [e1] at hk
      rcases hmv.row k hk with r | r
      · exact h.rows x hx z hz (fun e => e2 e.symm) k r
      · exact fun e => absurd (hlt z hz k e) (by omega)
    · rw [(hoth y hy e1).2] at hk
      by_cases e2 : z.2.1 = x.2.1
      · rw [e2]
        intro e
        rcases hmv.row k e with r | r
        · exact h.rows y hy x hx e1 k hk r
        · have := hlt y hy k hk
          omega
      · rw [(hoth z hz e2).2]
        exact h.rows y hy z hz hne k hk
/-- nothing of the files changes. -/
theorem DiskG.stay {w w' : World} {st fu st' fu' : Int} {out out' : Bool} {d mb base f : Nat} {M : List Ent} {C : Cont} (h : DiskG w st fu out d mb base M C) (hb : base ≤ w.heap.size) (hmv : Moved d mb f w w') (hnew : w.heap.size ≤ f) (hdm : DiskM w' st' fu' out' d mb M) :
    DiskG w' st' fu' out' d mb base M C ∧ Kept d mb base w w' := by
  obtain ⟨q1, q2, q3, c, q4, q5⟩ := h.dm
  have hoth : ∀ y ∈ M, FileOwn w' y.2.1 base (C y.2.1).1 (C y.2.1).2 ∧ rowOf w' y.2.1 = rowOf w y.2.1 := fun y hy =>
    (h.own y hy).2.other (base' := base) q3 q5 (.inr hnew) (by have := (h.own y hy).2.at.lt; omega) (fun k _ => by rw [rowOf_new hnew]; exact fun e => by cases e) hmv
  refine ⟨⟨hdm, h.low, fun y hy => ⟨(h.own y hy).1, (hoth y hy).1⟩, h.apart, fun y hy z hz hne k hk => ?_, h.zone.mono hmv.size⟩, .of_moved hmv q2 h.low hb (.inr hnew)⟩
  rw [(hoth y hy).2] at hk
  rw [(hoth z hz).2]
  exact h.rows y hy z hz hne k hk
/-- a file more. -/
theorem DiskG.push {w w' : World} {st fu st' fu' : Int} {out out' : Bool} {d mb base f c : Nat} {nm : ByteArray} {M : List Ent} {C : Cont} {S' : List UInt8} {D' : List Deed} (h : DiskG w st fu out d mb base M C) (hb : base ≤ w.heap.size) (hmv : Moved d mb f w w') (hnew : w.heap.size ≤ f)
    (hdm : DiskM w' st' fu' out' d mb (M ++ [(nm, f, c)])) (hf : FileOwn w' f base S' D') :
    DiskG w' st' fu' out' d mb base (M ++ [(nm, f, c)]) (setC C f (S', D')) ∧ Kept d mb base w w' := by
  obtain ⟨q1, q2, q3, cc, q4, q5⟩ := h.dm
  have hne : ∀ y ∈ M, y.2.1 ≠ f := fun y hy => by have := (h.own y hy).2.at.lt; omega
  have hoth : ∀ y ∈ M, FileOwn w' y.2.1 base (C y.2.1).1 (C y.2.1).2 ∧ rowOf w' y.2.1 = rowOf w y.2.1 := fun y hy =>
    (h.own y hy).2.other (base' := base) q3 q5 (.inr hnew) (hne y hy) (fun k _ => by rw [rowOf_new hnew]; exact fun e => by cases e) hmv
  have hlt : ∀ y ∈ M, ∀ k, rowOf w y.2.1 = some k → k < w.heap.size := fun y hy k hk => by
    obtain ⟨_, c, t, hc⟩ := (h.own y hy).2.rowOf hk
    exact heap_lt hc
  have hfr : ∀ k, rowOf w' f = some k → w.heap.size ≤ k := fun k hk => by
    rcases hmv.row k hk with r | r
    · rw [rowOf_new hnew] at r; cases r
    · exact r
  refine ⟨⟨hdm, h.low, fun y hy => ?_, ?_, fun y hy z hz hyz k hk => ?_, h.zone.mono hmv.size⟩, .of_moved hmv q2 h.low hb (.inr hnew)⟩
  · rcases List.mem_append.1 hy with hy | hy
    · rw [setC_ne _ _ (hne y hy)]
      exact ⟨(h.own y hy).1, (hoth y hy).1⟩
    · simp only [List.mem_singleton] at hy
      subst hy
      refine ⟨by dsimp only; omega, ?_⟩
      dsimp only
      rw [setC_at]
      exact hf
  · intro y hy z hz e
    rcases List.mem_append.1 hy with hy | hy <;> rcases List.mem_append.1 hz with hz | hz
    · exact h.apart y hy z hz e
    · simp only [List.mem_singleton] at hz
      subst hz
      exact absurd e (hne y hy)
    · simp only [List.mem_singleton] at hy
      subst hy
      exact absurd e.symm (hne z hz)
    · simp only [List.mem_singleton] at hy hz
      rw [hy, hz]
  · rcases List.mem_append.1 hy with hy | hy <;> rcases List.mem_append.1 hz with hz | hz
    · rw [(hoth y hy).2] at hk
      rw [(hoth z hz).2]
      exact h.rows y hy z hz hyz k hk
    · simp only [List.mem_singleton] at hz
      subst hz
      rw [(hoth y hy).2] at hk
      have := hlt y hy k hk
      exact fun e => absurd (hfr k e) (by omega)
    · simp only [List.mem_singleton] at hy
      subst hy
      rw [(hoth z hz).2]
      have := hfr k hk
      exact fun e => absurd (hlt z hz k e) (by omega)
    · simp only [List.mem_singleton] at hy hz
      subst hy; subst hz
      exact absurd rfl hyz
theorem DiskG.later {w w' : World} {st fu : Int} {out : Bool} {d mb base : Nat} {M : List Ent} {C : Cont} (h : DiskG w st fu out d mb base M C) (hb : Below w.heap.size w w') : DiskG w' st fu out d mb base M C := by
  have hr : ∀ y ∈ M, rowOf w' y.2.1 = rowOf w y.2.1 := fun y hy => rowOf_same (hb.block _ (h.own y hy).2.at.lt)
  refine ⟨h.dm.later hb, h.low, fun y hy => ⟨(h.own y hy).1, (h.own y hy).2.later hb⟩, h.apart, fun y hy z hz hne k hk => ?_, h.zone.mono hb.size⟩
  rw [hr y hy] at hk
  rw [hr z hz]
  exact h.rows y hy z hz hne k hk
theorem fileOf_mem {nm : ByteArray} {f : Nat} {M : List Ent} (h : fileOf nm M = some f) : ∃ b, (nm, f, b) ∈ M := by
  unfold fileOf at h
  cases hq : fnd nm M 0 with
  | none => rw [hq] at h; cases h
  | some p =>
    rw [hq] at h
    injection h with h
    obtain ⟨j, b, _, hj⟩ := fnd_spec nm M 0 p.1 p.2 hq
    exact ⟨b, by rw [← h]; exact List.mem_of_getElem? hj⟩
theorem DiskG.file {w : World} {st fu : Int} {out : Bool} {d mb base f : Nat} {M : List Ent} {C : Cont} {nm : ByteArray} (h : DiskG w st fu out d mb base M C) (hf : fileOf nm M = some f) : base ≤ f ∧ FileOwn w f base (C f).1 (C f).2 := by
  obtain ⟨b, hb⟩ := fileOf_mem hf
  exact h.own _ hb
end Go.Proofs.YtjkkfjmloleedaaGreat

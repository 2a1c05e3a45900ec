/- the library's sort, laid at this program (written by the shelf's own tool, lay-plain.mjs; the numbers are this program's) -/
import Derived.Shelf.SortM.Plain
import Derived.Shelf.SortM.SortNone
import Derived.Shelf.SlicesG.CompactI
import Derived.Shelf.SlicesG.SearchI
import Derived.Test.YtdikecfplohpeaaGreatProg
import Derived.Test.YtdikecfplohpeaaGreatMQLay
import Derived.Test.YtdikecfplohpeaaGreatMQRCheck
import Derived.Test.YtdikecfplohpeaaGreatMQCont
import Derived.Test.YtdikecfplohpeaaGreatMRegC
import Derived.Test.YtdikecfplohpeaaGreatMSlab2
import Derived.Test.YtdikecfplohpeaaGreatMQUnlike
namespace Go.Proofs.YtdikecfplohpeaaGreat
open Go.Shelf
def Tryz.sortI_ren : Go.Shelf.Ren := ⟨fun | 5 => 20 | 8 => 40 | 7 => 39 | 19 => 69 | 20 => 70 | 10 => 61 | 11 => 62 | 12 => 63 | 13 => 64 | 14 => 65 | 15 => 66 | 16 => 47 | 17 => 67 | 18 => 68 | 30 => 91 | 31 => 92 | 32 => 93 | 33 => 94 | 34 => 95 | 35 => 77 | 40 => 106 | n => n, fun | 23 => 49 | 25 => 3 | 3 => 3 | 32 => 74 | 22 => 49 | 0 => 0 | 44 => 99 | 46 => 101 | 4 => 4 | 36 => 93 | 35 => 92 | 41 => 61 | 5 => 5 | 9 => 9 | 53 => 125 | 57 => 122 | 63 => 139 | 64 => 140 | n => n, fun | n => n⟩
theorem Tryz.sortI : Go.Proofs.SlLaysM.n5 Tryz.prog Tryz.sortI_ren := {
  mixed := by kernel_rfl
  f5 := ⟨Tryz.f20.name, by decide, Tryz.func20.trans (congrArg some (by kernel_rfl))⟩
  f7 := ⟨Tryz.f39.name, by decide, Tryz.func39.trans (congrArg some (by kernel_rfl))⟩
  f8 := Tryz.func40.trans (congrArg some (by kernel_rfl))
  f10 := ⟨Tryz.f61.name, by decide, Tryz.func61.trans (congrArg some (by kernel_rfl))⟩
  f11 := ⟨Tryz.f62.name, by decide, Tryz.func62.trans (congrArg some (by kernel_rfl))⟩
  f12 := ⟨Tryz.f63.name, by decide, Tryz.func63.trans (congrArg some (by kernel_rfl))⟩
  f13 := ⟨Tryz.f64.name, by decide, Tryz.func64.trans (congrArg some (by kernel_rfl))⟩
  f14 := ⟨Tryz.f65.name, by decide, Tryz.func65.trans (congrArg some (by kernel_rfl))⟩
  f15 := ⟨Tryz.f66.name, by decide, Tryz.func66.trans (congrArg some (by kernel_rfl))⟩
  f16 := ⟨Tryz.f47.name, by decide, Tryz.func47.trans (congrArg some (by kernel_rfl))⟩
  f17 := ⟨Tryz.f67.name, by decide, Tryz.func67.trans (congrArg some (by kernel_rfl))⟩
  f18 := ⟨Tryz.f68.name, by decide, Tryz.func68.trans (congrArg some (by kernel_rfl))⟩
  f19 := Tryz.func69.trans (congrArg some (by kernel_rfl))
  f20 := Tryz.func70.trans (congrArg some (by kernel_rfl))
  f30 := ⟨Tryz.f91.name, by decide, Tryz.func91.trans (congrArg some (by kernel_rfl))⟩
  f31 := Tryz.func92.trans (congrArg some (by kernel_rfl))
  f32 := Tryz.func93.trans (congrArg some (by kernel_rfl))
  f33 := ⟨Tryz.f94.name, by decide, Tryz.func94.trans (congrArg some (by kernel_rfl))⟩
  f34 := ⟨Tryz.f95.name, by decide, Tryz.func95.trans (congrArg some (by kernel_rfl))⟩
  f35 := ⟨Tryz.f77.name, by decide, Tryz.func77.trans (congrArg some (by kernel_rfl))⟩
  f40 := ⟨Tryz.f106.name, by decide, Tryz.func106.trans (congrArg some (by kernel_rfl))⟩
  t0 := Tryz.underlying0
  a0 := Tryz.isAgg0
  z0 := Tryz.sizeOf0
  v0 := Tryz.zeroValue0
  t3 := Tryz.underlying3
  a3 := Tryz.isAgg3
  z3 := Tryz.sizeOf3
  v3 := Tryz.zeroValue3
  t4 := Tryz.underlying4
  a4 := Tryz.isAgg4
  z4 := Tryz.sizeOf4
  v4 := Tryz.zeroValue4
  t5 := Tryz.underlying5
  a5 := Tryz.isAgg5
  z5 := Tryz.sizeOf5
  v5 := Tryz.zeroValue5
  t9 := Tryz.underlying9
  a9 := Tryz.isAgg9
  z9 := Tryz.sizeOf9
  v9 := Tryz.zeroValue9
  t22 := Tryz.underlying49
  a22 := Tryz.isAgg49
  z22 := Tryz.sizeOf49
  v22 := Tryz.zeroValue49
  t23 := Tryz.underlying49
  a23 := Tryz.isAgg49
  z23 := Tryz.sizeOf49
  v23 := Tryz.zeroValue49
  t25 := Tryz.underlying3
  a25 := Tryz.isAgg3
  z25 := Tryz.sizeOf3
  v25 := Tryz.zeroValue3
  t32 := Tryz.underlying74
  a32 := Tryz.isAgg74
  z32 := Tryz.sizeOf74
  v32 := Tryz.zeroValue74
  t35 := Tryz.underlying92
  a35 := Tryz.isAgg92
  z35 := Tryz.sizeOf92
  v35 := Tryz.zeroValue92
  t36 := Tryz.underlying93
  a36 := Tryz.isAgg93
  z36 := Tryz.sizeOf93
  v36 := Tryz.zeroValue93
  t41 := Tryz.underlying61
  a41 := Tryz.isAgg61
  z41 := Tryz.sizeOf61
  v41 := Tryz.zeroValue61
  t44 := Tryz.underlying99
  a44 := Tryz.isAgg99
  z44 := Tryz.sizeOf99
  v44 := Tryz.zeroValue99
  t46 := Tryz.underlying101
  a46 := Tryz.isAgg101
  z46 := Tryz.sizeOf101
  v46 := Tryz.zeroValue101
  t53 := Tryz.underlying125
  a53 := Tryz.isAgg125
  z53 := Tryz.sizeOf125
  v53 := Tryz.zeroValue125
  t57 := Tryz.underlying122
  a57 := Tryz.isAgg122
  z57 := Tryz.sizeOf122
  v57 := Tryz.zeroValue122
  t63 := Tryz.underlying139
  a63 := Tryz.isAgg139
  z63 := Tryz.sizeOf139
  v63 := Tryz.zeroValue139
  t64 := Tryz.underlying140
  a64 := Tryz.isAgg140
  z64 := Tryz.sizeOf140
  v64 := Tryz.zeroValue140 }
def Tryz.compactI_ren : Go.Shelf.Ren := ⟨fun | 43 => 21 | n => n, fun | 22 => 49 | 23 => 3 | 3 => 3 | 4 => 4 | 0 => 0 | n => n, fun | n => n⟩
theorem Tryz.compactI : Go.Proofs.SlLaysN.n43 Tryz.prog Tryz.compactI_ren := {
  mixed := by kernel_rfl
  f43 := ⟨Tryz.f21.name, by decide, Tryz.func21.trans (congrArg some (by kernel_rfl))⟩
  t0 := Tryz.underlying0
  a0 := Tryz.isAgg0
  z0 := Tryz.sizeOf0
  v0 := Tryz.zeroValue0
  t3 := Tryz.underlying3
  a3 := Tryz.isAgg3
  z3 := Tryz.sizeOf3
  v3 := Tryz.zeroValue3
  t4 := Tryz.underlying4
  a4 := Tryz.isAgg4
  z4 := Tryz.sizeOf4
  v4 := Tryz.zeroValue4
  t22 := Tryz.underlying49
  a22 := Tryz.isAgg49
  z22 := Tryz.sizeOf49
  v22 := Tryz.zeroValue49
  t23 := Tryz.underlying3
  a23 := Tryz.isAgg3
  z23 := Tryz.sizeOf3
  v23 := Tryz.zeroValue3
  i23 := by kernel_rfl }
def Tryz.searchI_ren : Go.Shelf.Ren := ⟨fun | 49 => 28 | 59 => 47 | 60 => 48 | 68 => 77 | n => n, fun | 22 => 49 | 23 => 3 | 3 => 3 | 4 => 4 | 51 => 74 | 0 => 0 | n => n, fun | n => n⟩
theorem Tryz.searchI : Go.Proofs.SlLaysN.n49 Tryz.prog Tryz.searchI_ren := {
  mixed := by kernel_rfl
  f49 := ⟨Tryz.f28.name, by decide, Tryz.func28.trans (congrArg some (by kernel_rfl))⟩
  f59 := ⟨Tryz.f47.name, by decide, Tryz.func47.trans (congrArg some (by kernel_rfl))⟩
  f60 := ⟨Tryz.f48.name, by decide, Tryz.func48.trans (congrArg some (by kernel_rfl))⟩
  f68 := ⟨Tryz.f77.name, by decide, Tryz.func77.trans (congrArg some (by kernel_rfl))⟩
  t0 := Tryz.underlying0
  a0 := Tryz.isAgg0
  z0 := Tryz.sizeOf0
  v0 := Tryz.zeroValue0
  t3 := Tryz.underlying3
  a3 := Tryz.isAgg3
  z3 := Tryz.sizeOf3
  v3 := Tryz.zeroValue3
  t4 := Tryz.underlying4
  a4 := Tryz.isAgg4
  z4 := Tryz.sizeOf4
  v4 := Tryz.zeroValue4
  t22 := Tryz.underlying49
  a22 := Tryz.isAgg49
  z22 := Tryz.sizeOf49
  v22 := Tryz.zeroValue49
  t23 := Tryz.underlying3
  a23 := Tryz.isAgg3
  z23 := Tryz.sizeOf3
  v23 := Tryz.zeroValue3
  t51 := Tryz.underlying74
  a51 := Tryz.isAgg74
  z51 := Tryz.sizeOf74
  v51 := Tryz.zeroValue74 }
end Go.Proofs.YtdikecfplohpeaaGreat

/- the library's Sort, Compact, BinarySearch of ints that the call owns -/
set_option linter.unusedSimpArgs false
set_option linter.unusedVariables false
namespace Go.Proofs.YtdikecfplohpeaaGreat
open Go.RowKit Go.Sort
theorem get_bang {d : List Int} {i : Nat} (h : i < d.length) : d.toArray[i]! = d.getD i 0 := by
  rw [getElem!_pos d.toArray i (by simpa using h), List.getD_eq_getElem?_getD, List.getElem?_eq_getElem h]; simp
/-- of a list in order its elements, each once. -/
theorem compact_spec {zs : List Int} (hs : zs.Pairwise (· ≤ ·)) : (Lib.compact zs).Pairwise (· < ·) ∧ ∀ z, z ∈ Lib.compact zs ↔ z ∈ zs := by
  have hle : ∀ i j, i ≤ j → j < zs.length → zs.getD i 0 ≤ zs.getD j 0 := fun i j hij hj => by
    by_cases e : i = j
    · rw [e]; exact Int.le_refl _
    · rw [List.getD_eq_getElem?_getD, List.getD_eq_getElem?_getD, List.getElem?_eq_getElem (by omega), List.getElem?_eq_getElem hj]
      exact List.pairwise_iff_getElem.1 hs i j (by omega) hj (by omega)
  have hmem : ∀ j, j < zs.length → zs.getD j 0 ∈ zs := fun j hj => by rw [List.getD_eq_getElem?_getD, List.getElem?_eq_getElem hj]; exact List.getElem_mem _
  unfold Lib.compact Lib.compactUpTo
  constructor
  · rw [List.pairwise_map]
    refine List.Pairwise.imp_of_mem ?_ (List.Pairwise.filter _ (List.pairwise_lt_range (n := zs.length)))
    intro a b ha hb hab
    rw [List.mem_filter, List.mem_range] at ha hb
    rw [get_bang ha.1, get_bang hb.1]
    have hk := hb.2
    unfold Lib.keeps at hk
    have hk := of_decide_eq_true hk
    rcases hk with hk | hk
    · omega
    · rw [get_bang hb.1, get_bang (by omega)] at hk
      have h1 := hle a (b - 1) (by omega) (by omega)
      have h2 := hle (b - 1) b (by omega) hb.1
      omega
  · intro z
    rw [List.mem_map]
    constructor
    · rintro ⟨j, hj, rfl⟩
      rw [List.mem_filter, List.mem_range] at hj
      rw [get_bang hj.1]
      exact hmem j hj.1
    · intro hz
      obtain ⟨j, hj, e⟩ := List.mem_iff_getElem.1 hz
      have key : ∀ j, j < zs.length → ∃ i, i < zs.length ∧ Lib.keeps zs.toArray i = true ∧ zs.getD i 0 = zs.getD j 0 := by
        intro j
        induction j with
        | zero => intro hj; exact ⟨0, hj, by simp [Lib.keeps], rfl⟩
        | succ j ih =>
          intro hj
          by_cases he : zs.getD (j + 1) 0 = zs.getD j 0
          · obtain ⟨i, h1, h2, h3⟩ := ih (by omega)
            exact ⟨i, h1, h2, by rw [h3, he]⟩
          · refine ⟨j + 1, hj, ?_, rfl⟩
            refine Lib.keeps_pos ?_
            rw [get_bang hj, get_bang (by omega)]
            simpa using he
      obtain ⟨i, h1, h2, h3⟩ := key j hj
      refine ⟨i, by rw [List.mem_filter, List.mem_range]; exact ⟨h1, h2⟩, ?_⟩
      rw [get_bang h1, h3, List.getD_eq_getElem?_getD, List.getElem?_eq_getElem hj]
      exact e
theorem holds_ints {w : World} {base g n cap : Nat} {L : List Int} (h : OwnI w base (.slice (some ⟨g, 0, none⟩) n cap) L) {cur : Array Value} (hg : w.heap[g]? = some (.cells cur 3 (0, 0))) : Holds (Value.int .i64) w g 0 L.toArray := by
  intro j hj
  have hj' : j < L.length := by simpa using hj
  have hc := World.ownsRow.cells h (g := g) rfl j _ (flatI_get L j hj')
  have e : (⟨g, 0, none⟩ : Addr).add j = ⟨g, 0 + j, none⟩ := by unfold Addr.add; split <;> simp_all
  rw [e] at hc
  exact ⟨by rw [hc, get_bang hj'], frozen_of_row _ _ _ _ _ hg⟩
theorem put_block {w : World} {g n : Nat} {d : Array Int} {cur : Array Value} (hg : w.heap[g]? = some (.cells cur 3 (0, 0))) : (putRow (Value.int .i64) (Go.Sort.ahead w n) g 0 d).heap[g]? = some (.cells (putCells (Value.int .i64) 0 d cur) 3 (0, 0)) := by
  unfold putRow mapBlock Go.Sort.ahead
  simp only [Array.getElem?_modify, if_true, hg]
  rfl
theorem put_other {w : World} {g n k : Nat} {d : Array Int} (hk : k ≠ g) : (putRow (Value.int .i64) (Go.Sort.ahead w n) g 0 d).heap[k]? = w.heap[k]? := by
  unfold putRow mapBlock Go.Sort.ahead
  simp only [Array.getElem?_modify]
  rw [if_neg (Ne.symm hk)]
theorem put_size {w : World} {g n : Nat} {d : Array Int} : (putRow (Value.int .i64) (Go.Sort.ahead w n) g 0 d).heap.size = w.heap.size := by
  unfold putRow mapBlock Go.Sort.ahead; simp
theorem put_own {w' : World} {base g cap : Nat} {M D : List Int} {cur : Array Value} (hb : base ≤ g) (hput : w'.heap[g]? = some (.cells (putCells (Value.int .i64) 0 D.toArray cur) 3 (0, 0))) (hs : cur.size = cap * 1) (hM : M = D.take M.length) (hMl : M.length ≤ D.length) (hc : M.length ≤ cap) (hm : cap ≤ maxLen) : OwnI w' base (.slice (some ⟨g, 0, none⟩) M.length cap) M := by
  refine ⟨by rw [flatI_length, Nat.mul_one], .inr ⟨g, cap, _, rfl, hb, hput, hc, hm, ?_, ?_⟩⟩
  · unfold putCells
    rw [Array.size_mapIdx, hs]
  · apply List.ext_getElem?
    intro i
    rw [List.getElem?_take, Nat.mul_one]
    by_cases hi : i < M.length
    · have hic : i < cur.size := by rw [hs]; omega
      rw [if_pos hi, Array.getElem?_toList, flatI_get _ _ hi]
      unfold putCells
      rw [Array.getElem?_mapIdx, Array.getElem?_eq_getElem hic, Option.map_some, if_pos ⟨Nat.zero_le _, by simp; omega⟩, Nat.sub_zero, get_bang (by omega)]
      have : M.getD i 0 = D.getD i 0 := by
        rw [List.getD_eq_getElem?_getD, List.getD_eq_getElem?_getD]
        conv => lhs; rw [hM]
        rw [List.getElem?_take, if_pos hi]
      rw [this]
    · rw [if_neg hi, List.getElem?_eq_none (by rw [flatI_length]; omega)]
theorem Sort_ints (base : Nat) (v : Value) (L : List Int) (w : World) (h : OwnI w base v L) (hn : L.length ≤ 1000000) :
    Calls Tryz.prog 20 #[v] w fun e w' => e = .returned (.tuple #[]) ∧ ∃ M, OwnI w' base v M ∧ M.Perm L ∧ M.Pairwise (· ≤ ·) ∧ w.grownBy w' v.ownBlock := by
  rcases h.2 with ⟨rfl, h0⟩ | ⟨g, cap', cur, rfl, hbg, hg, hnc, hm, hs, ht⟩
  · have : L = [] := List.eq_nil_of_length_eq_zero h0
    subst this
    have hcon := Go.Proofs.AnyM.slices_Sort_int_none Tryz.sortI none 0 w
    change Calls Tryz.prog 20 _ _ _ at hcon
    refine hcon.mono ?_
    rintro e w' ⟨rfl, rfl⟩
    exact ⟨rfl, [], h, List.Perm.refl _, List.Pairwise.nil, World.grownBy.refl _ _⟩
  · have hlt : g < w.heap.size := (Array.getElem?_eq_some_iff.1 hg).1
    have hcon := Go.Proofs.AnyM.slices_Sort_int Tryz.sortI g 0 cap' L w (holds_ints h hg) hlt (by omega)
    change Calls Tryz.prog 20 _ _ _ at hcon
    refine hcon.mono ?_
    rintro e w' ⟨rfl, q, os, rfl⟩
    have hl : (L.mergeSort fun x y => decide (x ≤ y)).length = L.length := List.length_mergeSort _
    refine ⟨rfl, L.mergeSort fun x y => decide (x ≤ y), ?_, List.mergeSort_perm _ _, ?_, rfl, rfl, rfl, ?_, fun k hk hne => ?_⟩
    · have := put_own (w' := grow (putRow (Value.int .i64) (Go.Sort.ahead w q) g 0 (L.mergeSort fun x y => decide (x ≤ y)).toArray) os) (base := base) (g := g) (cap := cap') (M := L.mergeSort fun x y => decide (x ≤ y)) (D := L.mergeSort fun x y => decide (x ≤ y)) (cur := cur) hbg ((heap_grow_old _ _ (by rw [put_size]; exact hlt)).trans (put_block hg)) hs (by rw [List.take_length]) (Nat.le_refl _) (by rw [hl]; exact hnc) hm
      rw [hl] at this
      exact this
    · have := List.pairwise_mergeSort (le := fun x y : Int => decide (x ≤ y)) (fun a b c h1 h2 => by simp only [decide_eq_true_eq] at *; omega) (fun a b => by simp only [Bool.or_eq_true, decide_eq_true_eq]; omega) L
      exact this.imp fun h => of_decide_eq_true h
    · show w.heap.size ≤ ((putRow (Value.int .i64) (Go.Sort.ahead w q) g 0 _).heap ++ os).size
      rw [Array.size_append, put_size]; omega
    · rw [heap_grow_old _ _ (by rw [put_size]; exact hk)]
      exact put_other fun e => hne (by rw [e]; rfl)
theorem Compact_ints (base : Nat) (v : Value) (L : List Int) (w : World) (h : OwnI w base v L) (hn : L.length ≤ 1000000) :
    Calls Tryz.prog 21 #[v] w fun e w' => ∃ v', e = .returned v' ∧ OwnI w' base v' (Lib.compact L) ∧ w.grownBy w' v.ownBlock ∧ v'.ownBlock = v.ownBlock := by
  rcases h.2 with ⟨rfl, h0⟩ | ⟨g, cap', cur, rfl, hbg, hg, hnc, hm, hs, ht⟩
  · have : L = [] := List.eq_nil_of_length_eq_zero h0
    subst this
    have hcon := Go.Proofs.AnyG.slices_Compact_int_empty Tryz.compactI none 0 w
    change Calls Tryz.prog 21 _ _ _ at hcon
    refine hcon.mono ?_
    rintro e w' ⟨rfl, rfl⟩
    exact ⟨_, rfl, h, World.grownBy.refl _ _, rfl⟩
  · have hlt : g < w.heap.size := (Array.getElem?_eq_some_iff.1 hg).1
    have hcon := Go.Proofs.AnyG.slices_Compact_int Tryz.compactI g 0 cap' L w (holds_ints h hg) (by omega) hnc
    change Calls Tryz.prog 21 _ _ _ at hcon
    refine hcon.mono ?_
    rintro e w' ⟨rfl, q, rfl⟩
    have hl : (Lib.compact L).length ≤ L.length := by
      unfold Lib.compact Lib.compactUpTo
      rw [List.length_map]
      exact Nat.le_trans (List.length_filter_le _ _) (by simp)
    refine ⟨_, rfl, put_own hbg (put_block hg) hs ?_ ?_ (by omega) hm, ⟨rfl, rfl, rfl, by rw [put_size]; exact Nat.le_refl _, fun k hk hne => put_other fun e => hne (by rw [e]; rfl)⟩, rfl⟩
    · simp
    · simp
theorem Search_ints (ao : Option Addr) (n cap : Nat) (L : List Int) (x : Int) (w : World) (h : IsInts w ao n cap L) (h0 : 0 < n) (hn : n ≤ 1000000) (hs : L.Pairwise (· ≤ ·)) :
    Calls Tryz.prog 28 #[.slice ao n cap, .int .i64 x] w fun e w' => e = .returned (.tuple #[.int .i64 (L.countP (· < x) : Nat), .bool (L.contains x)]) ∧ ∃ q, w' = w.drewN q := by
  obtain ⟨b, off, rfl, hc⟩ := h.2.2.2.1 h0
  have hcon := Go.Proofs.AnyG.slices_BinarySearch_int Tryz.searchI b off n cap L x w (by rw [h.1]; exact Nat.le_refl _) (by omega) (getD_cells h.1 hc) (by rw [List.take_of_length_le (by rw [h.1]; exact Nat.le_refl _)]; exact hs)
  rw [List.take_of_length_le (by rw [h.1]; exact Nat.le_refl _)] at hcon
  exact hcon
end Go.Proofs.YtdikecfplohpeaaGreat

/- what a *Slabs is; its methods (printed by mkslab1.py) -/
set_option linter.unusedSimpArgs false
set_option linter.unusedVariables false
namespace Go.Proofs.YtdikecfplohpeaaGreat
open Go.RowKit Go.Geo
attribute [local go_sem] Oper.semAt_some
def offsI (Es : List (List Edg)) : List Int := (List.range (Es.length + 1)).map fun i => ((Es.take i).flatten.length : Int)
theorem offsI_len (Es : List (List Edg)) : (offsI Es).length = Es.length + 1 := by simp [offsI]
theorem offsI_get (Es : List (List Edg)) {i : Nat} (h : i ≤ Es.length) : (offsI Es).getD i 0 = ((Es.take i).flatten.length : Int) := by
  unfold offsI
  rw [List.getD_eq_getElem?_getD, List.getElem?_map, List.getElem?_range (by omega)]; rfl
theorem flat_part (Es : List (List Edg)) {i : Nat} (h : i < Es.length) : (Es.take (i + 1)).flatten.length = (Es.take i).flatten.length + (Es.getD i []).length ∧ (Es.flatten.drop (Es.take i).flatten.length).take (Es.getD i []).length = Es.getD i [] ∧ (Es.take (i + 1)).flatten.length ≤ Es.flatten.length := by
  have h1 : Es.take (i + 1) = Es.take i ++ [Es.getD i []] := take_more h
  have h2 : Es.flatten = (Es.take i).flatten ++ (Es.getD i [] ++ (Es.drop (i + 1)).flatten) := by
    conv => lhs; rw [← List.take_append_drop (i + 1) Es, h1]
    simp
  refine ⟨by rw [h1]; simp, ?_, ?_⟩
  · rw [h2, List.drop_left, List.take_left]
  · rw [h1, h2]; simp <;> omega
theorem IsEdgs.part {w : World} {b off n cap : Nat} {F : List Edg} (h : IsEdgs w (some ⟨b, off, none⟩) n cap F) {lo hi : Nat} (h1 : lo ≤ hi) (h2 : hi ≤ n) : IsEdgs w (some ⟨b, off + lo * 4, none⟩) (hi - lo) (cap - lo) ((F.drop lo).take (hi - lo)) := by
  obtain ⟨e1, e2, e3, e4, e5⟩ := h
  refine ⟨by rw [List.length_take, List.length_drop]; omega, by omega, by omega, (fun h => by cases h), fun hn => ⟨_, _, rfl, fun i hi' => ?_⟩⟩
  obtain ⟨b', off', e6, hc⟩ := e5 (by omega)
  cases e6
  have hg : ((F.drop lo).take (hi - lo)).getD i ed0 = F.getD (lo + i) ed0 := by
    rw [List.getD_eq_getElem?_getD, List.getD_eq_getElem?_getD, List.getElem?_take, if_pos hi', List.getElem?_drop]
  rw [hg]
  have := hc (lo + i) (by omega)
  have e7 : off + (lo + i) * 4 = off + lo * 4 + i * 4 := by omega
  rw [e7] at this
  exact this
structure SlabIs (w : World) (g : Nat) (H : List Int) (Es : List (List Edg)) : Prop where
  ex : ∃ ah ch ao co ae ce, w.heap[g]? = some (.cells #[.bool true, .slice ah H.length ch, .slice ao (Es.length + 1) co, .slice ae Es.flatten.length ce] 52 (0, 0)) ∧ IsInts w ah H.length ch H ∧ IsInts w ao (Es.length + 1) co (offsI Es) ∧ IsEdgs w ae Es.flatten.length ce Es.flatten
  len : H.length = Es.length + 1
  ne : 0 < Es.flatten.length
  small : H.length ≤ 1000000
  small2 : Es.flatten.length ≤ 1000000
theorem SlabIs.later {w w' : World} {g : Nat} {H : List Int} {Es : List (List Edg)} (h : SlabIs w g H Es) (hb : Below w.heap.size w w') : SlabIs w' g H Es := by
  obtain ⟨⟨ah, ch, ao, co, ae, ce, h1, h2, h3, h4⟩, h5, h6, h7, h8⟩ := h
  exact ⟨⟨ah, ch, ao, co, ae, ce, (hb.block g (heap_lt' h1)).trans h1, h2.later hb (Nat.le_refl _), h3.later hb (Nat.le_refl _), h4.later hb (Nat.le_refl _)⟩, h5, h6, h7, h8⟩
set_option maxRecDepth 100000 in
set_option maxHeartbeats 1000000 in
theorem Len_any (g : Nat) (H : List Int) (Es : List (List Edg)) (w : World) (h : SlabIs w g H Es) :
    Calls Tryz.prog 16 #[.pointer (some ⟨g, 0, none⟩)] w fun e w' => e = .returned (.int .i64 (Es.length : Int)) ∧ w' = w := by
  obtain ⟨⟨ah, ch, ao, co, ae, ce, h1, h2, h3, h4⟩, h5, h6, h7, h8⟩ := h
  have k0 : w.cell? ⟨g, 0, none⟩ = some (.bool true) := cell_of_row _ _ _ _ _ _ h1
  have k1 : w.cell? ⟨g, 1, none⟩ = some (.slice ah H.length ch) := cell_of_row _ _ _ _ _ _ h1
  have hi : (H.length : Int) - 1 = (Es.length : Int) := by omega
  have hw : IntKind.i64.wrap ((H.length : Int) - 1) = (H.length : Int) - 1 := IntWalk.i64_in _ (by omega)
  obtain ⟨n, hn⟩ : ∃ n, n = H.length := ⟨_, rfl⟩
  rw [← hn] at k1 hi hw
  have hn1 : n ≤ 1000000 := by omega
  have hn2 : 1 ≤ n := by omega
  clear h1 h2 h3 h4 h5 h7 hn
  go_enter Tryz.func16, Tryz.ntmps16
  go_wp2_with fail
  go_ret
  exact ⟨by rw [← hi]; rfl, rfl⟩
set_option maxRecDepth 100000 in
set_option maxHeartbeats 2000000 in
theorem slab_any (g i : Nat) (H : List Int) (Es : List (List Edg)) (w : World) (h : SlabIs w g H Es) (hi : i < Es.length) :
    Calls Tryz.prog 29 #[.pointer (some ⟨g, 0, none⟩), .int .i64 (i : Int)] w fun e w' => ∃ a n c, e = .returned (.slice a n c) ∧ IsEdgs w' a n c (Es.getD i []) ∧ Below w.heap.size w w' := by
  obtain ⟨⟨ah, ch, ao, co, ae, ce, h1, h2, h3, h4⟩, h5, h6, h7, h8⟩ := h
  obtain ⟨m, hm⟩ : ∃ m, m = Es.length := ⟨_, rfl⟩
  obtain ⟨f, hf⟩ : ∃ f, f = Es.flatten.length := ⟨_, rfl⟩
  obtain ⟨bo, oo, rfl, d0⟩ := h3.at (i := i) (by omega)
  obtain ⟨bo', oo', he, d1⟩ := h3.at (i := i + 1) (by omega)
  cases he
  obtain ⟨be, oe, rfl, _⟩ := h4.at (i := 0) (by omega)
  obtain ⟨p1, p2, p3⟩ := flat_part Es hi
  rw [offsI_get _ (by omega)] at d0 d1
  obtain ⟨lo, hlo⟩ : ∃ x, x = (Es.take i).flatten.length := ⟨_, rfl⟩
  obtain ⟨hi', hhi⟩ : ∃ x, x = (Es.take (i + 1)).flatten.length := ⟨_, rfl⟩
  rw [← hlo] at d0 p1 p2
  rw [← hhi] at d1 p1 p3
  rw [← hm] at h1 h3
  rw [← hf] at h1 h4 p3 h6 h8
  have hce := h4.2.1
  have hce2 := h4.2.2.1
  have hco := h3.2.1
  have hco2 := h3.2.2.1
  unfold maxLen at hce2 hco2
  have HRES : Hid (∀ wX, Below w.heap.size w wX → IsEdgs wX (if ce = lo then some ⟨be, oe, none⟩ else some ⟨be, oe + lo * 4, none⟩) (hi' - lo) (ce - lo) (Es.getD i [])) := Lib.hid (fun wX hX => by
    by_cases hcl : ce = lo
    · rw [if_pos hcl]
      have hz : hi' - lo = 0 := by omega
      have hE : Es.getD i [] = [] := List.eq_nil_of_length_eq_zero (by omega)
      rw [hz, hE]
      exact ⟨rfl, Nat.zero_le _, by unfold maxLen; omega, (fun h => by cases h), fun h => absurd h (by omega)⟩
    rw [if_neg hcl]
    have h := (h4.part (lo := lo) (hi := hi') (by omega) (by omega)).later hX (Nat.le_refl _)
    rw [show hi' - lo = (Es.getD i []).length by omega] at h ⊢
    rw [p2] at h
    exact h)
  have HCELLS : Hid (∀ wX, Below w.heap.size w wX → wX.cell? ⟨g, 0, none⟩ = some (.bool true) ∧ wX.cell? ⟨g, 2, none⟩ = some (.slice (some ⟨bo, oo, none⟩) (m + 1) co) ∧ wX.cell? ⟨g, 3, none⟩ = some (.slice (some ⟨be, oe, none⟩) f ce) ∧ wX.cell? ⟨bo, oo + i, none⟩ = some (.int .i64 (lo : Int)) ∧ wX.cell? ⟨bo, oo + (i + 1), none⟩ = some (.int .i64 (hi' : Int)) ∧ True) := Lib.hid (fun wX hX => by
    have k := (hX.block _ (heap_lt' h1)).trans h1
    exact ⟨cell_of_row _ _ _ _ _ _ k, cell_of_row _ _ _ _ _ _ k, cell_of_row _ _ _ _ _ _ k, (hX.cell (p := ⟨bo, _, none⟩) (block_lt_of_cell d0)).trans d0, (hX.cell (p := ⟨bo, _, none⟩) (block_lt_of_cell d1)).trans d1, trivial⟩)
  have hi0 : (0 : Int) ≤ (i : Int) := by omega
  have him : i < m := by omega
  have hi5 : (i : Int) < ((m + 1 : Nat) : Int) := by omega
  have hi6 : (i : Int) + 1 < ((m + 1 : Nat) : Int) := by omega
  have hi7 : (0 : Int) ≤ (i : Int) + 1 := by omega
  have hi8 : (i : Int) < (m : Int) + 1 := by omega
  have hi9 : (i : Int) + 1 < (m : Int) + 1 := by omega
  have hlo0 : (0 : Int) ≤ (lo : Int) := by omega
  have hhi0 : (0 : Int) ≤ (hi' : Int) := by omega
  have hloi : (lo : Int) ≤ (hi' : Int) := by omega
  have hhic : (hi' : Int) ≤ (ce : Int) := by omega
  have hhin : hi' ≤ ce := by omega
  have hm9 : m ≤ 1000000 := by omega
  have hwi : IntKind.i64.wrap ((i : Int) + 1) = (i : Int) + 1 := IntWalk.i64_in _ (by omega)
  have hlh : lo ≤ hi' := by omega
  have hhf : hi' ≤ f := p3
  clear h1 h2 h3 h4 h5 h6 h7 d0 d1 p1 p2 p3 hlo hhi hi hm hf
  obtain ⟨Ei, hEi⟩ : ∃ E, E = Es.getD i [] := ⟨_, rfl⟩
  rw [← hEi] at HRES ⊢
  clear hEi
  obtain ⟨hi, hhi⟩ : ∃ x, x = hi' := ⟨_, rfl⟩
  subst hhi
  go_enter Tryz.func29, Tryz.ntmps29
  go_wp2_with fail
  refine wp_region_J (s := [(5, 0), (6, 1), (7, 2), (8, 3), (9, 4), (10, 5), (11, 6), (12, 7), (13, 8), (14, 9), (15, 10), (16, 11), (17, 12), (18, 13), (19, 14), (20, 15), (21, 16), (22, 17), (23, 18), (24, 19), (4, 20)]) (by kernel_rfl) (StdJ w (fun iX => match iX with | 0 => some (.pointer (some ⟨g, 0, none⟩)) | 1 => some (.pointer (some ⟨g, 0, none⟩)) | 2 => some (.pointer (some ⟨g, 3, none⟩)) | 3 => some (.slice (some ⟨be, oe, none⟩) f ce) | 4 => some (.pointer (some ⟨g, 0, none⟩)) | 5 => some (.pointer (some ⟨g, 0, none⟩)) | 6 => some (.pointer (some ⟨g, 2, none⟩)) | 7 => some (.slice (some ⟨bo, oo, none⟩) (m + 1) co) | 8 => some (.int .i64 (i : Int)) | 9 => some (.pointer (some ⟨bo, oo + i, none⟩)) | 10 => some (.int .i64 (lo : Int)) | 11 => some (.pointer (some ⟨g, 0, none⟩)) | 12 => some (.pointer (some ⟨g, 0, none⟩)) | 13 => some (.pointer (some ⟨g, 2, none⟩)) | 14 => some (.slice (some ⟨bo, oo, none⟩) (m + 1) co) | 15 => some (.int .i64 (i : Int)) | 16 => some (.int .i64 ((i : Int) + 1)) | 17 => some (.pointer (some ⟨bo, oo + (i + 1), none⟩)) | 18 => some (.int .i64 (hi : Int)) | 19 => some (.slice (if ce = lo then some ⟨be, oe, none⟩ else some ⟨be, oe + lo * 4, none⟩) (hi - lo) (ce - lo)) | 20 => some (.slice (if ce = lo then some ⟨be, oe, none⟩ else some ⟨be, oe + lo * 4, none⟩) (hi - lo) (ce - lo)) | _ => none) []) (by kernel_rfl) (by kernel_rfl) (by kernel_rfl) (by kernel_rfl) (fun _ => undef) ?start1 ?step1 ?done1
  case start1 => exact StdJ.start ((Below.refl _ _).drew)
  case step1 =>
    refine ⟨?o1_0, ?o1_1, ?o1_2, ?o1_3, ?o1_4, ?o1_5, ?o1_6, ?o1_7, ?o1_8, ?o1_9, ?o1_10, ?o1_11, ?o1_12, ?o1_13, ?o1_14, ?o1_15, ?o1_16, ?o1_17, ?o1_18, ?o1_19, ?o1_20, trivial⟩
    case o1_0 =>
      intro LX V aX wX K hl hp hcl hf hJ hK
      have t0 : aX.tmps[0]? = some (.pointer (some ⟨g, 0, none⟩)) := hf.old (by kernel_rfl) rfl
      rw [if_pos (by rfl)]
      go_simp
      exact hK _ _ (hJ.val (Below.refl _ _) 0 _ (by kernel_rfl) rfl)
    case o1_1 =>
      intro LX V aX wX K hl hp hcl hf hJ hK
      have t5 := hf.in (i := 0) (d := 5) (by kernel_rfl) (hp 0 (by kernel_rfl)) (hJ.vals 0 _ rfl (hp 0 (by kernel_rfl)))
      rw [if_pos (by rfl)]
      go_simp
      exact hK _ _ (hJ.val (Below.refl _ _) 1 _ (by kernel_rfl) rfl)
    case o1_2 =>
      intro LX V aX wX K hl hp hcl hf hJ hK
      have t6 := hf.in (i := 1) (d := 6) (by kernel_rfl) (hp 1 (by kernel_rfl)) (hJ.vals 1 _ rfl (hp 1 (by kernel_rfl)))
      rw [if_pos (by rfl)]
      go_simp
      exact hK _ _ (hJ.val (Below.refl _ _) 2 _ (by kernel_rfl) rfl)
    case o1_3 =>
      intro LX V aX wX K hl hp hcl hf hJ hK
      have t7 := hf.in (i := 2) (d := 7) (by kernel_rfl) (hp 2 (by kernel_rfl)) (hJ.vals 2 _ rfl (hp 2 (by kernel_rfl)))
      obtain ⟨c0, c1, c2, c3, c4, c5⟩ := HCELLS.out wX hJ.below
      rw [if_pos (by rfl)]
      go_simp
      exact hK _ _ (hJ.val (Below.refl _ _) 3 _ (by kernel_rfl) rfl)
    case o1_4 =>
      intro LX V aX wX K hl hp hcl hf hJ hK
      have t0 : aX.tmps[0]? = some (.pointer (some ⟨g, 0, none⟩)) := hf.old (by kernel_rfl) rfl
      rw [if_pos (by rfl)]
      go_simp
      exact hK _ _ (hJ.val (Below.refl _ _) 4 _ (by kernel_rfl) rfl)
    case o1_5 =>
      intro LX V aX wX K hl hp hcl hf hJ hK
      have t9 := hf.in (i := 4) (d := 9) (by kernel_rfl) (hp 4 (by kernel_rfl)) (hJ.vals 4 _ rfl (hp 4 (by kernel_rfl)))
      rw [if_pos (by rfl)]
      go_simp
      exact hK _ _ (hJ.val (Below.refl _ _) 5 _ (by kernel_rfl) rfl)
    case o1_6 =>
      intro LX V aX wX K hl hp hcl hf hJ hK
      have t10 := hf.in (i := 5) (d := 10) (by kernel_rfl) (hp 5 (by kernel_rfl)) (hJ.vals 5 _ rfl (hp 5 (by kernel_rfl)))
      rw [if_pos (by rfl)]
      go_simp
      exact hK _ _ (hJ.val (Below.refl _ _) 6 _ (by kernel_rfl) rfl)
    case o1_7 =>
      intro LX V aX wX K hl hp hcl hf hJ hK
      have t11 := hf.in (i := 6) (d := 11) (by kernel_rfl) (hp 6 (by kernel_rfl)) (hJ.vals 6 _ rfl (hp 6 (by kernel_rfl)))
      obtain ⟨c0, c1, c2, c3, c4, c5⟩ := HCELLS.out wX hJ.below
      rw [if_pos (by rfl)]
      go_simp
      exact hK _ _ (hJ.val (Below.refl _ _) 7 _ (by kernel_rfl) rfl)
    case o1_8 =>
      intro LX V aX wX K hl hp hcl hf hJ hK
      have t1 : aX.tmps[1]? = some (.int .i64 (i : Int)) := hf.old (by kernel_rfl) rfl
      rw [if_pos (by rfl)]
      go_simp
      exact hK _ _ (hJ.val (Below.refl _ _) 8 _ (by kernel_rfl) rfl)
    case o1_9 =>
      intro LX V aX wX K hl hp hcl hf hJ hK
      have t12 := hf.in (i := 7) (d := 12) (by kernel_rfl) (hp 7 (by kernel_rfl)) (hJ.vals 7 _ rfl (hp 7 (by kernel_rfl)))
      have t13 := hf.in (i := 8) (d := 13) (by kernel_rfl) (hp 8 (by kernel_rfl)) (hJ.vals 8 _ rfl (hp 8 (by kernel_rfl)))
      rw [if_pos (by rfl)]
      go_simp
      exact hK _ _ (hJ.val (Below.refl _ _) 9 _ (by kernel_rfl) rfl)
    case o1_10 =>
      intro LX V aX wX K hl hp hcl hf hJ hK
      have t14 := hf.in (i := 9) (d := 14) (by kernel_rfl) (hp 9 (by kernel_rfl)) (hJ.vals 9 _ rfl (hp 9 (by kernel_rfl)))
      obtain ⟨c0, c1, c2, c3, c4, c5⟩ := HCELLS.out wX hJ.below
      rw [if_pos (by rfl)]
      go_simp
      exact hK _ _ (hJ.val (Below.refl _ _) 10 _ (by kernel_rfl) rfl)
    case o1_11 =>
      intro LX V aX wX K hl hp hcl hf hJ hK
      have t0 : aX.tmps[0]? = some (.pointer (some ⟨g, 0, none⟩)) := hf.old (by kernel_rfl) rfl
      rw [if_pos (by rfl)]
      go_simp
      exact hK _ _ (hJ.val (Below.refl _ _) 11 _ (by kernel_rfl) rfl)
    case o1_12 =>
      intro LX V aX wX K hl hp hcl hf hJ hK
      have t16 := hf.in (i := 11) (d := 16) (by kernel_rfl) (hp 11 (by kernel_rfl)) (hJ.vals 11 _ rfl (hp 11 (by kernel_rfl)))
      rw [if_pos (by rfl)]
      go_simp
      exact hK _ _ (hJ.val (Below.refl _ _) 12 _ (by kernel_rfl) rfl)
    case o1_13 =>
      intro LX V aX wX K hl hp hcl hf hJ hK
      have t17 := hf.in (i := 12) (d := 17) (by kernel_rfl) (hp 12 (by kernel_rfl)) (hJ.vals 12 _ rfl (hp 12 (by kernel_rfl)))
      rw [if_pos (by rfl)]
      go_simp
      exact hK _ _ (hJ.val (Below.refl _ _) 13 _ (by kernel_rfl) rfl)
    case o1_14 =>
      intro LX V aX wX K hl hp hcl hf hJ hK
      have t18 := hf.in (i := 13) (d := 18) (by kernel_rfl) (hp 13 (by kernel_rfl)) (hJ.vals 13 _ rfl (hp 13 (by kernel_rfl)))
      obtain ⟨c0, c1, c2, c3, c4, c5⟩ := HCELLS.out wX hJ.below
      rw [if_pos (by rfl)]
      go_simp
      exact hK _ _ (hJ.val (Below.refl _ _) 14 _ (by kernel_rfl) rfl)
    case o1_15 =>
      intro LX V aX wX K hl hp hcl hf hJ hK
      have t1 : aX.tmps[1]? = some (.int .i64 (i : Int)) := hf.old (by kernel_rfl) rfl
      rw [if_pos (by rfl)]
      go_simp
      exact hK _ _ (hJ.val (Below.refl _ _) 15 _ (by kernel_rfl) rfl)
    case o1_16 =>
      intro LX V aX wX K hl hp hcl hf hJ hK
      have t20 := hf.in (i := 15) (d := 20) (by kernel_rfl) (hp 15 (by kernel_rfl)) (hJ.vals 15 _ rfl (hp 15 (by kernel_rfl)))
      rw [if_pos (by rfl)]
      go_simp
      exact hK _ _ (hJ.val (Below.refl _ _) 16 _ (by kernel_rfl) rfl)
    case o1_17 =>
      intro LX V aX wX K hl hp hcl hf hJ hK
      have t19 := hf.in (i := 14) (d := 19) (by kernel_rfl) (hp 14 (by kernel_rfl)) (hJ.vals 14 _ rfl (hp 14 (by kernel_rfl)))
      have t21 := hf.in (i := 16) (d := 21) (by kernel_rfl) (hp 16 (by kernel_rfl)) (hJ.vals 16 _ rfl (hp 16 (by kernel_rfl)))
      rw [if_pos (by rfl)]
      go_simp
      exact hK _ _ (hJ.val (Below.refl _ _) 17 _ (by kernel_rfl) rfl)
    case o1_18 =>
      intro LX V aX wX K hl hp hcl hf hJ hK
      have t22 := hf.in (i := 17) (d := 22) (by kernel_rfl) (hp 17 (by kernel_rfl)) (hJ.vals 17 _ rfl (hp 17 (by kernel_rfl)))
      obtain ⟨c0, c1, c2, c3, c4, c5⟩ := HCELLS.out wX hJ.below
      rw [if_pos (by rfl)]
      go_simp
      exact hK _ _ (hJ.val (Below.refl _ _) 18 _ (by kernel_rfl) rfl)
    case o1_19 =>
      intro LX V aX wX K hl hp hcl hf hJ hK
      have t8 := hf.in (i := 3) (d := 8) (by kernel_rfl) (hp 3 (by kernel_rfl)) (hJ.vals 3 _ rfl (hp 3 (by kernel_rfl)))
      have t15 := hf.in (i := 10) (d := 15) (by kernel_rfl) (hp 10 (by kernel_rfl)) (hJ.vals 10 _ rfl (hp 10 (by kernel_rfl)))
      have t23 := hf.in (i := 18) (d := 23) (by kernel_rfl) (hp 18 (by kernel_rfl)) (hJ.vals 18 _ rfl (hp 18 (by kernel_rfl)))
      rw [if_pos (by rfl)]
      go_simp
      exact hK _ _ (hJ.val (Below.refl _ _) 19 _ (by kernel_rfl) rfl)
    case o1_20 =>
      intro LX V aX wX K hl hp hcl hf hJ hK
      have t24 := hf.in (i := 19) (d := 24) (by kernel_rfl) (hp 19 (by kernel_rfl)) (hJ.vals 19 _ rfl (hp 19 (by kernel_rfl)))
      rw [if_pos (by rfl)]
      go_simp
      exact hK _ _ (hJ.val (Below.refl _ _) 20 _ (by kernel_rfl) rfl)
  intro V wZ hJ
  have hv := hJ.vals 20 _ rfl (by kernel_rfl)
  have HBZ := Lib.hid hJ.below
  simp only [puts, Act.put, List.setIfInBounds_toArray, List.set_cons_zero, List.set_cons_succ]
  rw [hv]
  clear hJ hv
  obtain ⟨ax, hax⟩ : ∃ a, a = (if ce = lo then some (⟨be, oe, none⟩ : Addr) else some ⟨be, oe + lo * 4, none⟩) := ⟨_, rfl⟩
  rw [← hax] at HRES ⊢
  clear hax
  go_wp2_with fail
  go_ret
  exact ⟨_, _, _, rfl, HRES.out _ HBZ.out, HBZ.out⟩end Go.Proofs.YtdikecfplohpeaaGreat

/- the struct that slab.Build fills: its rows, and how they grow -/
set_option linter.unusedSimpArgs false
set_option linter.unusedVariables false
namespace Go.Proofs.YtdikecfplohpeaaGreat
open Go.RowKit Go.Geo
/-- the rows of a *Slabs at block g: all behind it, none lies in another. -/
structure SBo (W : World) (g : Nat) (hv ov ev : Value) (H O : List Int) (F : List Edg) (w : World) : Prop where
  h : OwnI w (g + 1) hv H
  o : OwnI w (g + 1) ov O
  e : OwnE w (g + 1) ev F
  ap : ∀ k, hv.ownBlock = some k → ov.ownBlock ≠ some k
  below : Below g W w
  lt : g < w.heap.size
def SBr (g : Nat) (hv ov ev : Value) (w : World) : Prop := w.heap[g]? = some (.cells #[.bool true, hv, ov, ev] 52 (0, 0))
theorem SBo.later {W w w' : World} {g : Nat} {hv ov ev : Value} {H O : List Int} {F : List Edg} (h : SBo W g hv ov ev H O F w) (hb : Below w.heap.size w w') : SBo W g hv ov ev H O F w' :=
  ⟨h.h.later hb, h.o.later hb, h.e.later hb, h.ap, h.below.trans (hb.mono (Nat.le_of_lt h.lt)), Nat.lt_of_lt_of_le h.lt hb.size⟩
theorem SBr.later {w w' : World} {g : Nat} {hv ov ev : Value} (h : SBr g hv ov ev w) (hb : Below w.heap.size w w') : SBr g hv ov ev w' := (hb.block g (heap_lt' h)).trans h
theorem SBr.cell {w : World} {g : Nat} {hv ov ev : Value} (h : SBr g hv ov ev w) : w.cell? ⟨g, 0, none⟩ = some (.bool true) ∧ w.cell? ⟨g, 1, none⟩ = some hv ∧ w.cell? ⟨g, 2, none⟩ = some ov ∧ w.cell? ⟨g, 3, none⟩ = some ev :=
  ⟨cell_of_row _ _ _ _ _ _ h, cell_of_row _ _ _ _ _ _ h, cell_of_row _ _ _ _ _ _ h, cell_of_row _ _ _ _ _ _ h⟩
theorem SBr.frozen {w : World} {g : Nat} {hv ov ev : Value} (h : SBr g hv ov ev w) (k : Nat) : w.frozen? ⟨g, k, none⟩ = false := frozen_of_row _ _ _ _ _ h
theorem own_lt {w : World} {base e s n : Nat} {v : Value} {xs : List Value} (h : w.ownsRow base e s v n xs) {k : Nat} (hk : v.ownBlock = some k) : base ≤ k ∧ k < w.heap.size := h.lt k hk
theorem grown_other {w w' : World} {base e s n : Nat} {v : Value} {xs : List Value} {ob : Option Nat} (h : w.ownsRow base e s v n xs) (hg : w.grownBy w' ob) (hne : ∀ k, v.ownBlock = some k → ob ≠ some k) : w'.ownsRow base e s v n xs :=
  ownsRow_move h fun k hk => hg.block k (h.lt k hk).2 (fun e => hne k hk (e ▸ rfl))
theorem SBr.grown {w w' : World} {g : Nat} {hv ov ev : Value} {ob : Option Nat} (h : SBr g hv ov ev w) (hg : w.grownBy w' ob) (hne : ∀ k, ob = some k → g < k) : SBr g hv ov ev w' :=
  (hg.block g (heap_lt' h) (fun e => by have := hne g e.symm; omega)).trans h
theorem SBo.growH {W w w' : World} {g : Nat} {hv ov ev v' : Value} {H H' O : List Int} {F : List Edg} (h : SBo W g hv ov ev H O F w) (ho : OwnI w' (g + 1) v' H') (hg : w.grownBy w' hv.ownBlock) (hf : ∀ k, v'.ownBlock = some k → w.heap.size ≤ k ∨ hv.ownBlock = some k) : SBo W g v' ov ev H' O F w' := by
  refine ⟨ho, grown_other h.o hg (fun k hk e => h.ap k e hk), grown_other h.e hg (fun k hk e => ?_), fun k hk e => ?_, h.below.grown hg (Nat.le_of_lt h.lt) (fun k hk => by have := (own_lt h.h hk).1; omega), Nat.lt_of_lt_of_le h.lt hg.size⟩
  · rcases own_apart (by decide) h.h h.e with h1 | h1
    · rw [h1] at hk; cases hk
    · exact h1 (hk.trans e.symm)
  · rcases hf k hk with h1 | h1
    · have := (own_lt h.o e).2; omega
    · exact h.ap k h1 e
theorem SBo.growO {W w w' : World} {g : Nat} {hv ov ev v' : Value} {H O O' : List Int} {F : List Edg} (h : SBo W g hv ov ev H O F w) (ho : OwnI w' (g + 1) v' O') (hg : w.grownBy w' ov.ownBlock) (hf : ∀ k, v'.ownBlock = some k → w.heap.size ≤ k ∨ ov.ownBlock = some k) : SBo W g hv v' ev H O' F w' := by
  refine ⟨grown_other h.h hg (fun k hk e => h.ap k hk e), ho, grown_other h.e hg (fun k hk e => ?_), fun k hk e => ?_, h.below.grown hg (Nat.le_of_lt h.lt) (fun k hk => by have := (own_lt h.o hk).1; omega), Nat.lt_of_lt_of_le h.lt hg.size⟩
  · rcases own_apart (by decide) h.o h.e with h1 | h1
    · rw [h1] at hk; cases hk
    · exact h1 (hk.trans e.symm)
  · rcases hf k e with h1 | h1
    · have := (own_lt h.h hk).2; omega
    · exact h.ap k hk h1
theorem SBo.growE {W w w' : World} {g : Nat} {hv ov ev v' : Value} {H O : List Int} {F F' : List Edg} (h : SBo W g hv ov ev H O F w) (ho : OwnE w' (g + 1) v' F') (hg : w.grownBy w' ev.ownBlock) : SBo W g hv ov v' H O F' w' := by
  refine ⟨grown_other h.h hg (fun k hk e => ?_), grown_other h.o hg (fun k hk e => ?_), ho, h.ap, h.below.grown hg (Nat.le_of_lt h.lt) (fun k hk => by have := (own_lt h.e hk).1; omega), Nat.lt_of_lt_of_le h.lt hg.size⟩
  · rcases own_apart (by decide) h.h h.e with h1 | h1
    · rw [h1] at e; cases e
    · exact h1 (e.trans hk.symm)
  · rcases own_apart (by decide) h.o h.e with h1 | h1
    · rw [h1] at e; cases e
    · exact h1 (e.trans hk.symm)
theorem SBo.set {W w : World} {g o : Nat} {hv ov ev u : Value} {H O : List Int} {F : List Edg} (h : SBo W g hv ov ev H O F w) : SBo W g hv ov ev H O F (w.setCell ⟨g, o, none⟩ u) := by
  have hk : ∀ k, g + 1 ≤ k → (w.setCell ⟨g, o, none⟩ u).heap[k]? = w.heap[k]? := fun k hk => Below.heap_setCell _ _ _ _ (by simp only; omega)
  exact ⟨ownsRow_move h.h fun k e => hk k (own_lt h.h e).1, ownsRow_move h.o fun k e => hk k (own_lt h.o e).1, ownsRow_move h.e fun k e => hk k (own_lt h.e e).1, h.ap, h.below.setCell (p := ⟨g, o, none⟩) (Nat.le_refl _) _, by
    have := ((Below.refl g w).setCell (p := ⟨g, o, none⟩) (Nat.le_refl _) u).size
    exact Nat.lt_of_lt_of_le h.lt this⟩
theorem SBr.setH {w : World} {g : Nat} {hv ov ev u : Value} (h : SBr g hv ov ev w) : SBr g u ov ev (w.setCell ⟨g, 1, none⟩ u) := heap_setCell_same _ _ 1 _ _ u h
theorem SBr.setO {w : World} {g : Nat} {hv ov ev u : Value} (h : SBr g hv ov ev w) : SBr g hv u ev (w.setCell ⟨g, 2, none⟩ u) := heap_setCell_same _ _ 2 _ _ u h
theorem SBr.setE {w : World} {g : Nat} {hv ov ev u : Value} (h : SBr g hv ov ev w) : SBr g hv ov u (w.setCell ⟨g, 3, none⟩ u) := heap_setCell_same _ _ 3 _ _ u h
/-- the stages of 's.heights = append(s.heights, y)', of the offsets, of the edges. -/
def StH (W : World) (g : Nat) (hv ov ev : Value) (H O : List Int) (F : List Edg) (y : Int) (C : World → Prop) : List Value → World → Prop
  | [], w => SBr g hv ov ev w ∧ SBo W g hv ov ev H O F w ∧ C w
  | [a], w => SBr g hv ov ev w ∧ SBo W g hv ov ev H O F w ∧ ∃ k, a = .slice (some ⟨k, 0, none⟩) 1 1 ∧ IsInts w (some ⟨k, 0, none⟩) 1 1 [y]
  | [_, b], w => SBr g hv ov ev w ∧ SBo W g b ov ev (H ++ [y]) O F w
  | [_, b, _], w => SBr g b ov ev w ∧ SBo W g b ov ev (H ++ [y]) O F w
  | _, _ => False
/-- the same when heights and edges stand: what was there stays, but for the struct itself. -/
structure SB2 (W WE : World) (g : Nat) (ov ev : Value) (O : List Int) (F : List Edg) (w : World) : Prop where
  o : OwnI w WE.heap.size ov O
  e : OwnE w WE.heap.size ev F
  keep : ∀ k, k < WE.heap.size → k ≠ g → w.heap[k]? = WE.heap[k]?
  below : Below g W w
  size : WE.heap.size ≤ w.heap.size
  glt : g < WE.heap.size
theorem SB2.later {W WE w w' : World} {g : Nat} {ov ev : Value} {O : List Int} {F : List Edg} (h : SB2 W WE g ov ev O F w) (hb : Below w.heap.size w w') : SB2 W WE g ov ev O F w' :=
  ⟨h.o.later hb, h.e.later hb, fun k hk hne => (hb.block k (Nat.lt_of_lt_of_le hk h.size)).trans (h.keep k hk hne), h.below.trans (hb.mono (Nat.le_of_lt (Nat.lt_of_lt_of_le h.glt h.size))), Nat.le_trans h.size hb.size, h.glt⟩
theorem SB2.growO {W WE w w' : World} {g : Nat} {ov ev v' : Value} {O O' : List Int} {F : List Edg} (h : SB2 W WE g ov ev O F w) (ho : OwnI w' WE.heap.size v' O') (hg : w.grownBy w' ov.ownBlock) : SB2 W WE g v' ev O' F w' := by
  have hob : ∀ k, ov.ownBlock = some k → WE.heap.size ≤ k := fun k hk => (own_lt h.o hk).1
  refine ⟨ho, grown_other h.e hg (fun k hk e => ?_), fun k hk hne => (hg.block k (Nat.lt_of_lt_of_le hk h.size) (fun e => by have := hob k e.symm; omega)).trans (h.keep k hk hne), h.below.grown hg (Nat.le_of_lt (Nat.lt_of_lt_of_le h.glt h.size)) (fun k hk => by have := hob k hk; have := h.glt; omega), Nat.le_trans h.size hg.size, h.glt⟩
  rcases own_apart (by decide) h.o h.e with h1 | h1
  · rw [h1] at hk; cases hk
  · exact h1 (hk.trans e.symm)
theorem SB2.growE {W WE w w' : World} {g : Nat} {ov ev v' : Value} {O : List Int} {F F' : List Edg} (h : SB2 W WE g ov ev O F w) (ho : OwnE w' WE.heap.size v' F') (hg : w.grownBy w' ev.ownBlock) : SB2 W WE g ov v' O F' w' := by
  have hob : ∀ k, ev.ownBlock = some k → WE.heap.size ≤ k := fun k hk => (own_lt h.e hk).1
  refine ⟨grown_other h.o hg (fun k hk e => ?_), ho, fun k hk hne => (hg.block k (Nat.lt_of_lt_of_le hk h.size) (fun e => by have := hob k e.symm; omega)).trans (h.keep k hk hne), h.below.grown hg (Nat.le_of_lt (Nat.lt_of_lt_of_le h.glt h.size)) (fun k hk => by have := hob k hk; have := h.glt; omega), Nat.le_trans h.size hg.size, h.glt⟩
  rcases own_apart (by decide) h.o h.e with h1 | h1
  · rw [h1] at e; cases e
  · exact h1 (e.trans hk.symm)
theorem SB2.set {W WE w : World} {g o : Nat} {ov ev u : Value} {O : List Int} {F : List Edg} (h : SB2 W WE g ov ev O F w) : SB2 W WE g ov ev O F (w.setCell ⟨g, o, none⟩ u) := by
  have hk : ∀ k, k ≠ g → (w.setCell ⟨g, o, none⟩ u).heap[k]? = w.heap[k]? := fun k hk => Below.heap_setCell _ _ _ _ hk
  have hs := ((Below.refl g w).setCell (p := ⟨g, o, none⟩) (Nat.le_refl _) u).size
  have hglt := h.glt
  exact ⟨ownsRow_move h.o fun k e => hk k (by have := (own_lt h.o e).1; omega), ownsRow_move h.e fun k e => hk k (by have := (own_lt h.e e).1; omega), fun k hk' hne => (hk k hne).trans (h.keep k hk' hne), h.below.setCell (p := ⟨g, o, none⟩) (Nat.le_refl _) _, Nat.le_trans h.size hs, hglt⟩
def StO (W WE : World) (g : Nat) (hv ov ev : Value) (O : List Int) (F : List Edg) (y : Int) : List Value → World → Prop
  | [], w => SBr g hv ov ev w ∧ SB2 W WE g ov ev O F w
  | [a], w => SBr g hv ov ev w ∧ SB2 W WE g ov ev O F w ∧ ∃ k, a = .slice (some ⟨k, 0, none⟩) 1 1 ∧ IsInts w (some ⟨k, 0, none⟩) 1 1 [y]
  | [_, b], w => SBr g hv ov ev w ∧ SB2 W WE g b ev (O ++ [y]) F w
  | [_, b, _], w => SBr g hv b ev w ∧ SB2 W WE g b ev (O ++ [y]) F w
  | _, _ => False
def StE (W WE : World) (g : Nat) (hv ov ev : Value) (O : List Int) (F : List Edg) (y : Edg) (C : World → Prop) : List Value → World → Prop
  | [], w => SBr g hv ov ev w ∧ SB2 W WE g ov ev O F w ∧ C w
  | [a], w => SBr g hv ov ev w ∧ SB2 W WE g ov ev O F w ∧ ∃ k, a = .slice (some ⟨k, 0, none⟩) 1 1 ∧ IsEdgs w (some ⟨k, 0, none⟩) 1 1 [y]
  | [_, b], w => SBr g hv ov ev w ∧ SB2 W WE g ov b O (F ++ [y]) w
  | [_, b, _], w => SBr g hv ov b w ∧ SB2 W WE g ov b O (F ++ [y]) w
  | _, _ => False
/-- what Build hands back. -/
def SlabOwn (w : World) (g : Nat) (H : List Int) (Es : List (List Edg)) : Prop := ∃ hv ov ev, SBr g hv ov ev w ∧ OwnI w (g + 1) hv H ∧ OwnI w (g + 1) ov (offsI Es) ∧ OwnE w (g + 1) ev Es.flatten
theorem SlabOwn.is {w : World} {g : Nat} {H : List Int} {Es : List (List Edg)} (h : SlabOwn w g H Es) (hl : H.length = Es.length + 1) (h0 : 0 < Es.flatten.length) (h1 : H.length ≤ 1000000) (h2 : Es.flatten.length ≤ 1000000) : SlabIs w g H Es := by
  obtain ⟨hv, ov, ev, k1, k2, k3, k4⟩ := h
  obtain ⟨ah, ch, e1, i1⟩ := k2.ints
  obtain ⟨ao, co, e2, i2⟩ := k3.ints
  obtain ⟨ae, ce, e3, i3⟩ := k4.edgs
  rw [offsI_len] at e2 i2
  subst e1 e2 e3
  exact ⟨⟨ah, ch, ao, co, ae, ce, k1, i1, i2, i3⟩, hl, h0, h1, h2⟩
theorem SlabOwn.move {w w' : World} {g : Nat} {H : List Int} {Es : List (List Edg)} (h : SlabOwn w g H Es) (hb : ∀ k, g ≤ k → k < w.heap.size → w'.heap[k]? = w.heap[k]?) : SlabOwn w' g H Es := by
  obtain ⟨hv, ov, ev, k1, k2, k3, k4⟩ := h
  have hm : ∀ {e s n : Nat} {v : Value} {xs : List Value}, w.ownsRow (g + 1) e s v n xs → w'.ownsRow (g + 1) e s v n xs := fun h => ownsRow_move h fun k hk => hb k (by have := (own_lt h hk).1; omega) (own_lt h hk).2
  exact ⟨hv, ov, ev, (hb g (Nat.le_refl _) (heap_lt' k1)).trans k1, hm k2, hm k3, hm k4⟩
/-- the slabs as Build lays them. -/
def slabsK (R : List (List Pt)) (i : Nat) : List (List Edg) := (List.range i).map (slabI R)
def offK (R : List (List Pt)) (i : Nat) : List Int := (List.range i).map fun j => ((slabsK R j).flatten.length : Int)
def slabsR (R : List (List Pt)) : List (List Edg) := slabsK R ((heightsP R).length - 1)
theorem slabsK_len (R : List (List Pt)) (i : Nat) : (slabsK R i).length = i := by simp [slabsK]
theorem slabsK_succ (R : List (List Pt)) (i : Nat) : slabsK R (i + 1) = slabsK R i ++ [slabI R i] := by unfold slabsK; rw [List.range_succ, List.map_append]; rfl
theorem slabsK_flat (R : List (List Pt)) (i : Nat) : (slabsK R (i + 1)).flatten = (slabsK R i).flatten ++ slabI R i := by rw [slabsK_succ]; simp
theorem offK_succ (R : List (List Pt)) (i : Nat) : offK R (i + 1) = offK R i ++ [((slabsK R i).flatten.length : Int)] := by unfold offK; rw [List.range_succ, List.map_append]; rfl
theorem offK_len (R : List (List Pt)) (i : Nat) : (offK R i).length = i := by simp [offK]
theorem slabsK_take (R : List (List Pt)) {i j : Nat} (h : j ≤ i) : (slabsK R i).take j = slabsK R j := by
  unfold slabsK
  rw [← List.map_take, List.take_range, Nat.min_eq_left h]
theorem offK_all (R : List (List Pt)) (m : Nat) : offsI (slabsK R m) = offK R (m + 1) := by
  unfold offsI offK
  rw [slabsK_len]
  apply List.map_congr_left
  intro j hj
  rw [slabsK_take R (by have := List.mem_range.1 hj; omega)]
theorem slabI_len (R : List (List Pt)) (i : Nat) : (slabI R i).length ≤ (edgesP R).length := List.length_filter_le _ _
theorem slabsK_bound (R : List (List Pt)) : ∀ i, (slabsK R i).flatten.length ≤ i * (edgesP R).length
  | 0 => by simp [slabsK]
  | i + 1 => by
    rw [slabsK_flat, List.length_append]
    have h1 := slabsK_bound R i
    have h2 := slabI_len R i
    rw [Nat.add_mul]
    omega
theorem results_tf {fn : Func} {p u : Tmp} (h : fn.results = #[.tmp u, .cell p 32]) {tmps : Array Value} {w : World} {g : Nat} {a b : Value} (hp : tmps.getD p undef = .pointer (some ⟨g, 0, none⟩)) (hg : w.heap[g]? = some (.cells #[a, b] 32 (0, 0))) :
    (results fn tmps).run Tryz.prog w = .ok (.tuple #[tmps.getD u undef, .agg #[a, b]]) w := by
  have h2 : (results fn tmps).run Tryz.prog w = ((asAddr (tmps.getD p undef)).run Tryz.prog w).andThen fun a w₁ => ((loadVar 32 a).run Tryz.prog w₁).andThen fun v w₂ => .ok (.tuple #[tmps.getD u undef, v]) w₂ := by
    simp only [results, h]
    simp [Sem.run_bind, Result.andThen]
  rw [h2, hp]
  simp [asAddr, load_two (fun w => by kernel_rfl) (fun w => by kernel_rfl) hg, Result.andThen_ok]
theorem one_intsB (w : World) (x : Int) {B : Nat} (hB : B = w.heap.size) : IsInts (w.alloc (Obj.cells #[.int .i64 x] 3)) (some ⟨B, 0, none⟩) 1 1 [x] := by
  subst hB; exact one_ints w x
end Go.Proofs.YtdikecfplohpeaaGreat

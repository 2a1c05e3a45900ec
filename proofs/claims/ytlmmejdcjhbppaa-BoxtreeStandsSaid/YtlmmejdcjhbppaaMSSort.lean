/- the library's sort, laid at this program (written by the shelf's own tool, lay-plain.mjs; the numbers are this program's) -/
import Derived.Shelf.SlSortCmp.NoneTotal
import Derived.Shelf.SortM.Plain
import Derived.Shelf.SortM.SortNone
import Derived.Shelf.SlicesG.Clone
import Derived.Shelf.Small.Bits
import Derived.Test.YtlmmejdcjhbppaaProg
import Derived.Test.YtlmmejdcjhbppaaMQLay
namespace Go.Proofs.Ytlmmejdcjhbppaa
open Go.Shelf
def Try.sortI_ren : Go.Shelf.Ren := ⟨fun | 5 => 47 | 8 => 36 | 7 => 56 | 19 => 48 | 20 => 49 | 10 => 68 | 11 => 69 | 12 => 70 | 13 => 71 | 14 => 72 | 15 => 73 | 16 => 74 | 17 => 75 | 18 => 76 | 30 => 86 | 31 => 82 | 32 => 83 | 33 => 87 | 34 => 88 | 35 => 54 | 40 => 93 | n => n, fun | 23 => 34 | 25 => 3 | 3 => 3 | 32 => 67 | 22 => 34 | 0 => 0 | 44 => 80 | 46 => 82 | 4 => 4 | 36 => 93 | 35 => 92 | 41 => 97 | 5 => 5 | 9 => 9 | 53 => 114 | 57 => 118 | 63 => 123 | 64 => 124 | n => n, fun | n => n⟩
theorem Try.sortI : Go.Proofs.SlLaysM.n5 Try.prog Try.sortI_ren := {
  mixed := by kernel_rfl
  f5 := ⟨Try.f47.name, by decide, Try.func47.trans (congrArg some (by kernel_rfl))⟩
  f7 := ⟨Try.f56.name, by decide, Try.func56.trans (congrArg some (by kernel_rfl))⟩
  f8 := Try.func36.trans (congrArg some (by kernel_rfl))
  f10 := ⟨Try.f68.name, by decide, Try.func68.trans (congrArg some (by kernel_rfl))⟩
  f11 := ⟨Try.f69.name, by decide, Try.func69.trans (congrArg some (by kernel_rfl))⟩
  f12 := ⟨Try.f70.name, by decide, Try.func70.trans (congrArg some (by kernel_rfl))⟩
  f13 := ⟨Try.f71.name, by decide, Try.func71.trans (congrArg some (by kernel_rfl))⟩
  f14 := ⟨Try.f72.name, by decide, Try.func72.trans (congrArg some (by kernel_rfl))⟩
  f15 := ⟨Try.f73.name, by decide, Try.func73.trans (congrArg some (by kernel_rfl))⟩
  f16 := ⟨Try.f74.name, by decide, Try.func74.trans (congrArg some (by kernel_rfl))⟩
  f17 := ⟨Try.f75.name, by decide, Try.func75.trans (congrArg some (by kernel_rfl))⟩
  f18 := ⟨Try.f76.name, by decide, Try.func76.trans (congrArg some (by kernel_rfl))⟩
  f19 := Try.func48.trans (congrArg some (by kernel_rfl))
  f20 := Try.func49.trans (congrArg some (by kernel_rfl))
  f30 := ⟨Try.f86.name, by decide, Try.func86.trans (congrArg some (by kernel_rfl))⟩
  f31 := Try.func82.trans (congrArg some (by kernel_rfl))
  f32 := Try.func83.trans (congrArg some (by kernel_rfl))
  f33 := ⟨Try.f87.name, by decide, Try.func87.trans (congrArg some (by kernel_rfl))⟩
  f34 := ⟨Try.f88.name, by decide, Try.func88.trans (congrArg some (by kernel_rfl))⟩
  f35 := ⟨Try.f54.name, by decide, Try.func54.trans (congrArg some (by kernel_rfl))⟩
  f40 := ⟨Try.f93.name, by decide, Try.func93.trans (congrArg some (by kernel_rfl))⟩
  t0 := Try.underlying0
  a0 := Try.isAgg0
  z0 := Try.sizeOf0
  v0 := Try.zeroValue0
  t3 := Try.underlying3
  a3 := Try.isAgg3
  z3 := Try.sizeOf3
  v3 := Try.zeroValue3
  t4 := Try.underlying4
  a4 := Try.isAgg4
  z4 := Try.sizeOf4
  v4 := Try.zeroValue4
  t5 := Try.underlying5
  a5 := Try.isAgg5
  z5 := Try.sizeOf5
  v5 := Try.zeroValue5
  t9 := Try.underlying9
  a9 := Try.isAgg9
  z9 := Try.sizeOf9
  v9 := Try.zeroValue9
  t22 := Try.underlying34
  a22 := Try.isAgg34
  z22 := Try.sizeOf34
  v22 := Try.zeroValue34
  t23 := Try.underlying34
  a23 := Try.isAgg34
  z23 := Try.sizeOf34
  v23 := Try.zeroValue34
  t25 := Try.underlying3
  a25 := Try.isAgg3
  z25 := Try.sizeOf3
  v25 := Try.zeroValue3
  t32 := Try.underlying67
  a32 := Try.isAgg67
  z32 := Try.sizeOf67
  v32 := Try.zeroValue67
  t35 := Try.underlying92
  a35 := Try.isAgg92
  z35 := Try.sizeOf92
  v35 := Try.zeroValue92
  t36 := Try.underlying93
  a36 := Try.isAgg93
  z36 := Try.sizeOf93
  v36 := Try.zeroValue93
  t41 := Try.underlying97
  a41 := Try.isAgg97
  z41 := Try.sizeOf97
  v41 := Try.zeroValue97
  t44 := Try.underlying80
  a44 := Try.isAgg80
  z44 := Try.sizeOf80
  v44 := Try.zeroValue80
  t46 := Try.underlying82
  a46 := Try.isAgg82
  z46 := Try.sizeOf82
  v46 := Try.zeroValue82
  t53 := Try.underlying114
  a53 := Try.isAgg114
  z53 := Try.sizeOf114
  v53 := Try.zeroValue114
  t57 := Try.underlying118
  a57 := Try.isAgg118
  z57 := Try.sizeOf118
  v57 := Try.zeroValue118
  t63 := Try.underlying123
  a63 := Try.isAgg123
  z63 := Try.sizeOf123
  v63 := Try.zeroValue123
  t64 := Try.underlying124
  a64 := Try.isAgg124
  z64 := Try.sizeOf124
  v64 := Try.zeroValue124 }
def Try.sortF_ren : Go.Shelf.Ren := ⟨fun | 6 => 41 | 15 => 36 | 14 => 51 | 28 => 48 | 29 => 49 | 20 => 58 | 21 => 59 | 22 => 60 | 23 => 61 | 24 => 62 | 25 => 63 | 26 => 64 | 27 => 65 | 46 => 81 | 47 => 82 | 48 => 83 | 49 => 84 | 50 => 85 | 57 => 92 | n => n, fun | 22 => 34 | 24 => 3 | 25 => 59 | 3 => 3 | 39 => 67 | 0 => 0 | 53 => 80 | 55 => 82 | 4 => 4 | 46 => 93 | 45 => 92 | 50 => 97 | 5 => 5 | 9 => 9 | 66 => 114 | 70 => 118 | 76 => 123 | 77 => 124 | n => n, fun | n => n⟩
theorem Try.sortF : Go.Proofs.SlLaysF.n6 Try.prog Try.sortF_ren := {
  mixed := by kernel_rfl
  f6 := ⟨Try.f41.name, by decide, Try.func41.trans (congrArg some (by kernel_rfl))⟩
  f14 := ⟨Try.f51.name, by decide, Try.func51.trans (congrArg some (by kernel_rfl))⟩
  f15 := Try.func36.trans (congrArg some (by kernel_rfl))
  f20 := ⟨Try.f58.name, by decide, Try.func58.trans (congrArg some (by kernel_rfl))⟩
  f21 := ⟨Try.f59.name, by decide, Try.func59.trans (congrArg some (by kernel_rfl))⟩
  f22 := ⟨Try.f60.name, by decide, Try.func60.trans (congrArg some (by kernel_rfl))⟩
  f23 := ⟨Try.f61.name, by decide, Try.func61.trans (congrArg some (by kernel_rfl))⟩
  f24 := ⟨Try.f62.name, by decide, Try.func62.trans (congrArg some (by kernel_rfl))⟩
  f25 := ⟨Try.f63.name, by decide, Try.func63.trans (congrArg some (by kernel_rfl))⟩
  f26 := ⟨Try.f64.name, by decide, Try.func64.trans (congrArg some (by kernel_rfl))⟩
  f27 := ⟨Try.f65.name, by decide, Try.func65.trans (congrArg some (by kernel_rfl))⟩
  f28 := Try.func48.trans (congrArg some (by kernel_rfl))
  f29 := Try.func49.trans (congrArg some (by kernel_rfl))
  f46 := ⟨Try.f81.name, by decide, Try.func81.trans (congrArg some (by kernel_rfl))⟩
  f47 := Try.func82.trans (congrArg some (by kernel_rfl))
  f48 := Try.func83.trans (congrArg some (by kernel_rfl))
  f49 := ⟨Try.f84.name, by decide, Try.func84.trans (congrArg some (by kernel_rfl))⟩
  f50 := ⟨Try.f85.name, by decide, Try.func85.trans (congrArg some (by kernel_rfl))⟩
  f57 := ⟨Try.f92.name, by decide, Try.func92.trans (congrArg some (by kernel_rfl))⟩
  t0 := Try.underlying0
  a0 := Try.isAgg0
  z0 := Try.sizeOf0
  v0 := Try.zeroValue0
  t3 := Try.underlying3
  a3 := Try.isAgg3
  z3 := Try.sizeOf3
  v3 := Try.zeroValue3
  t4 := Try.underlying4
  a4 := Try.isAgg4
  z4 := Try.sizeOf4
  v4 := Try.zeroValue4
  t5 := Try.underlying5
  a5 := Try.isAgg5
  z5 := Try.sizeOf5
  v5 := Try.zeroValue5
  t9 := Try.underlying9
  a9 := Try.isAgg9
  z9 := Try.sizeOf9
  v9 := Try.zeroValue9
  t22 := Try.underlying34
  a22 := Try.isAgg34
  z22 := Try.sizeOf34
  v22 := Try.zeroValue34
  a24 := Try.isAgg3
  z24 := Try.sizeOf3
  t25 := Try.underlying59
  a25 := Try.isAgg59
  z25 := Try.sizeOf59
  v25 := Try.zeroValue59
  t39 := Try.underlying67
  a39 := Try.isAgg67
  z39 := Try.sizeOf67
  v39 := Try.zeroValue67
  t45 := Try.underlying92
  a45 := Try.isAgg92
  z45 := Try.sizeOf92
  v45 := Try.zeroValue92
  t46 := Try.underlying93
  a46 := Try.isAgg93
  z46 := Try.sizeOf93
  v46 := Try.zeroValue93
  t50 := Try.underlying97
  a50 := Try.isAgg97
  z50 := Try.sizeOf97
  v50 := Try.zeroValue97
  t53 := Try.underlying80
  a53 := Try.isAgg80
  z53 := Try.sizeOf80
  v53 := Try.zeroValue80
  t55 := Try.underlying82
  a55 := Try.isAgg82
  z55 := Try.sizeOf82
  v55 := Try.zeroValue82
  t66 := Try.underlying114
  a66 := Try.isAgg114
  z66 := Try.sizeOf114
  v66 := Try.zeroValue114
  t70 := Try.underlying118
  a70 := Try.isAgg118
  z70 := Try.sizeOf118
  v70 := Try.zeroValue118
  t76 := Try.underlying123
  a76 := Try.isAgg123
  z76 := Try.sizeOf123
  v76 := Try.zeroValue123
  t77 := Try.underlying124
  a77 := Try.isAgg124
  z77 := Try.sizeOf124
  v77 := Try.zeroValue124 }
def Try.cloneI_ren : Go.Shelf.Ren := ⟨fun | 41 => 37 | n => n, fun | 22 => 34 | 23 => 3 | 4 => 4 | n => n, fun | n => n⟩
theorem Try.cloneI : Go.Proofs.SlLaysN.n41 Try.prog Try.cloneI_ren := {
  mixed := by kernel_rfl
  f41 := ⟨Try.f37.name, by decide, Try.func37.trans (congrArg some (by kernel_rfl))⟩
  t4 := Try.underlying4
  a4 := Try.isAgg4
  z4 := Try.sizeOf4
  v4 := Try.zeroValue4
  t22 := Try.underlying34
  a22 := Try.isAgg34
  z22 := Try.sizeOf34
  v22 := Try.zeroValue34
  t23 := Try.underlying3
  a23 := Try.isAgg3
  z23 := Try.sizeOf3
  v23 := Try.zeroValue3
  i23 := by kernel_rfl }
def Try.lenI_ren : Go.Shelf.Ren := ⟨fun | 125 => 36 | 128 => 48 | 129 => 49 | n => n, fun | 46 => 67 | 3 => 3 | 51 => 80 | 53 => 82 | 4 => 4 | 5 => 5 | 9 => 9 | n => n, fun | n => n⟩
theorem Try.lenI : Go.Proofs.Lays.n125 Try.prog Try.lenI_ren := {
  mixed := by kernel_rfl
  f125 := Try.func36.trans (congrArg some (by kernel_rfl))
  f128 := Try.func48.trans (congrArg some (by kernel_rfl))
  f129 := Try.func49.trans (congrArg some (by kernel_rfl))
  t3 := Try.underlying3
  a3 := Try.isAgg3
  z3 := Try.sizeOf3
  v3 := Try.zeroValue3
  t4 := Try.underlying4
  a4 := Try.isAgg4
  z4 := Try.sizeOf4
  v4 := Try.zeroValue4
  t5 := Try.underlying5
  a5 := Try.isAgg5
  z5 := Try.sizeOf5
  v5 := Try.zeroValue5
  t9 := Try.underlying9
  a9 := Try.isAgg9
  z9 := Try.sizeOf9
  v9 := Try.zeroValue9
  t46 := Try.underlying67
  a46 := Try.isAgg67
  z46 := Try.sizeOf67
  v46 := Try.zeroValue67
  t51 := Try.underlying80
  a51 := Try.isAgg80
  z51 := Try.sizeOf80
  v51 := Try.zeroValue80
  t53 := Try.underlying82
  a53 := Try.isAgg82
  z53 := Try.sizeOf82
  v53 := Try.zeroValue82 }
end Go.Proofs.Ytlmmejdcjhbppaa

/- the library's Sort, Compact, BinarySearch of ints that the call owns -/
set_option linter.unusedSimpArgs false
set_option linter.unusedVariables false
namespace Go.Proofs.Ytlmmejdcjhbppaa
open Go.RowKit Go.Sort
theorem get_bang {d : List Int} {i : Nat} (h : i < d.length) : d.toArray[i]! = d.getD i 0 := by
  rw [getElem!_pos d.toArray i (by simpa using h), List.getD_eq_getElem?_getD, List.getElem?_eq_getElem h]; simp
/-- of a list in order its elements, each once. -/
theorem holds_ints {w : World} {base g n cap : Nat} {L : List Int} (h : OwnI w base (.slice (some ⟨g, 0, none⟩) n cap) L) {cur : Array Value} (hg : w.heap[g]? = some (.cells cur 3 (0, 0))) : Holds (Value.int .i64) w g 0 L.toArray := by
  intro j hj
  have hj' : j < L.length := by simpa using hj
  have hc := World.ownsRow.cells h (g := g) rfl j _ (flatI_get L j hj')
  have e : (⟨g, 0, none⟩ : Addr).add j = ⟨g, 0 + j, none⟩ := by unfold Addr.add; split <;> simp_all
  rw [e] at hc
  exact ⟨by rw [hc, get_bang hj'], frozen_of_row _ _ _ _ _ hg⟩
theorem put_block {w : World} {g n : Nat} {d : Array Int} {cur : Array Value} (hg : w.heap[g]? = some (.cells cur 3 (0, 0))) : (putRow (Value.int .i64) (Go.Sort.ahead w n) g 0 d).heap[g]? = some (.cells (putCells (Value.int .i64) 0 d cur) 3 (0, 0)) := by
  unfold putRow mapBlock Go.Sort.ahead
  simp only [Array.getElem?_modify, if_true, hg]
  rfl
theorem put_other {w : World} {g n k : Nat} {d : Array Int} (hk : k ≠ g) : (putRow (Value.int .i64) (Go.Sort.ahead w n) g 0 d).heap[k]? = w.heap[k]? := by
  unfold putRow mapBlock Go.Sort.ahead
  simp only [Array.getElem?_modify]
  rw [if_neg (Ne.symm hk)]
theorem put_size {w : World} {g n : Nat} {d : Array Int} : (putRow (Value.int .i64) (Go.Sort.ahead w n) g 0 d).heap.size = w.heap.size := by
  unfold putRow mapBlock Go.Sort.ahead; simp
theorem put_own {w' : World} {base g cap : Nat} {M D : List Int} {cur : Array Value} (hb : base ≤ g) (hput : w'.heap[g]? = some (.cells (putCells (Value.int .i64) 0 D.toArray cur) 3 (0, 0))) (hs : cur.size = cap * 1) (hM : M = D.take M.length) (hMl : M.length ≤ D.length) (hc : M.length ≤ cap) (hm : cap ≤ maxLen) : OwnI w' base (.slice (some ⟨g, 0, none⟩) M.length cap) M := by
  refine ⟨by rw [flatI_length, Nat.mul_one], .inr ⟨g, cap, _, rfl, hb, hput, hc, hm, ?_, ?_⟩⟩
  · unfold putCells
    rw [Array.size_mapIdx, hs]
  · apply List.ext_getElem?
    intro i
    rw [List.getElem?_take, Nat.mul_one]
    by_cases hi : i < M.length
    · have hic : i < cur.size := by rw [hs]; omega
      rw [if_pos hi, Array.getElem?_toList, flatI_get _ _ hi]
      unfold putCells
      rw [Array.getElem?_mapIdx, Array.getElem?_eq_getElem hic, Option.map_some, if_pos ⟨Nat.zero_le _, by simp; omega⟩, Nat.sub_zero, get_bang (by omega)]
      have : M.getD i 0 = D.getD i 0 := by
        rw [List.getD_eq_getElem?_getD, List.getD_eq_getElem?_getD]
        conv => lhs; rw [hM]
        rw [List.getElem?_take, if_pos hi]
      rw [this]
    · rw [if_neg hi, List.getElem?_eq_none (by rw [flatI_length]; omega)]
theorem Sort_ints (base : Nat) (v : Value) (L : List Int) (w : World) (h : OwnI w base v L) (hn : L.length ≤ 1000000) :
    Calls Try.prog 47 #[v] w fun e w' => e = .returned (.tuple #[]) ∧ ∃ M, OwnI w' base v M ∧ M.Perm L ∧ M.Pairwise (· ≤ ·) ∧ w.grownBy w' v.ownBlock := by
  rcases h.2 with ⟨rfl, h0⟩ | ⟨g, cap', cur, rfl, hbg, hg, hnc, hm, hs, ht⟩
  · have : L = [] := List.eq_nil_of_length_eq_zero h0
    subst this
    have hcon := Go.Proofs.AnyM.slices_Sort_int_none Try.sortI none 0 w
    change Calls Try.prog 47 _ _ _ at hcon
    refine hcon.mono ?_
    rintro e w' ⟨rfl, rfl⟩
    exact ⟨rfl, [], h, List.Perm.refl _, List.Pairwise.nil, World.grownBy.refl _ _⟩
  · have hlt : g < w.heap.size := (Array.getElem?_eq_some_iff.1 hg).1
    have hcon := Go.Proofs.AnyM.slices_Sort_int Try.sortI g 0 cap' L w (holds_ints h hg) hlt (by omega)
    change Calls Try.prog 47 _ _ _ at hcon
    refine hcon.mono ?_
    rintro e w' ⟨rfl, q, os, rfl⟩
    have hl : (L.mergeSort fun x y => decide (x ≤ y)).length = L.length := List.length_mergeSort _
    refine ⟨rfl, L.mergeSort fun x y => decide (x ≤ y), ?_, List.mergeSort_perm _ _, ?_, rfl, rfl, rfl, ?_, fun k hk hne => ?_⟩
    · have := put_own (w' := grow (putRow (Value.int .i64) (Go.Sort.ahead w q) g 0 (L.mergeSort fun x y => decide (x ≤ y)).toArray) os) (base := base) (g := g) (cap := cap') (M := L.mergeSort fun x y => decide (x ≤ y)) (D := L.mergeSort fun x y => decide (x ≤ y)) (cur := cur) hbg ((heap_grow_old _ _ (by rw [put_size]; exact hlt)).trans (put_block hg)) hs (by rw [List.take_length]) (Nat.le_refl _) (by rw [hl]; exact hnc) hm
      rw [hl] at this
      exact this
    · have := List.pairwise_mergeSort (le := fun x y : Int => decide (x ≤ y)) (fun a b c h1 h2 => by simp only [decide_eq_true_eq] at *; omega) (fun a b => by simp only [Bool.or_eq_true, decide_eq_true_eq]; omega) L
      exact this.imp fun h => of_decide_eq_true h
    · show w.heap.size ≤ ((putRow (Value.int .i64) (Go.Sort.ahead w q) g 0 _).heap ++ os).size
      rw [Array.size_append, put_size]; omega
    · rw [heap_grow_old _ _ (by rw [put_size]; exact hk)]
      exact put_other fun e => hne (by rw [e]; rfl)
end Go.Proofs.Ytlmmejdcjhbppaa

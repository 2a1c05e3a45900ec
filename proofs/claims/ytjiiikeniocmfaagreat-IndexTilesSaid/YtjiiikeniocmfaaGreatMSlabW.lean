/- the library's sort, laid at this program (written by the shelf's own tool, lay-plain.mjs; the numbers are this program's) -/
import Derived.Shelf.SortM.Plain
import Derived.Shelf.SortM.SortNone
import Derived.Shelf.SlicesG.CompactI
import Derived.Shelf.SlicesG.SearchI
import Derived.Shelf.SlSortCmp.NoneTotal
import Derived.Test.YtjiiikeniocmfaaGreatProg
import Derived.Test.YtjiiikeniocmfaaGreatMSInts
import Derived.Test.YtjiiikeniocmfaaGreatMRegS
import Derived.Test.YtjiiikeniocmfaaGreatMSEdges
import Derived.Test.YtjiiikeniocmfaaGreatMQCont
namespace Go.Proofs.YtjiiikeniocmfaaGreat
open Go.Shelf
def Tryz.sortI_ren : Go.Shelf.Ren := ⟨fun | 5 => 82 | 8 => 107 | 7 => 115 | 19 => 140 | 20 => 141 | 10 => 147 | 11 => 148 | 12 => 149 | 13 => 150 | 14 => 151 | 15 => 152 | 16 => 117 | 17 => 153 | 18 => 154 | 30 => 173 | 31 => 161 | 32 => 162 | 33 => 174 | 34 => 175 | 35 => 110 | 40 => 193 | n => n, fun | 23 => 22 | 25 => 3 | 3 => 3 | 32 => 161 | 22 => 22 | 0 => 0 | 44 => 93 | 46 => 162 | 4 => 4 | 36 => 180 | 35 => 179 | 41 => 140 | 5 => 5 | 9 => 9 | 53 => 201 | 57 => 122 | 63 => 225 | 64 => 226 | n => n, fun | n => n⟩
theorem Tryz.sortI : Go.Proofs.SlLaysM.n5 Tryz.prog Tryz.sortI_ren := {
  mixed := by kernel_rfl
  f5 := ⟨Tryz.f82.name, by decide, Tryz.func82.trans (congrArg some (by kernel_rfl))⟩
  f7 := ⟨Tryz.f115.name, by decide, Tryz.func115.trans (congrArg some (by kernel_rfl))⟩
  f8 := Tryz.func107.trans (congrArg some (by kernel_rfl))
  f10 := ⟨Tryz.f147.name, by decide, Tryz.func147.trans (congrArg some (by kernel_rfl))⟩
  f11 := ⟨Tryz.f148.name, by decide, Tryz.func148.trans (congrArg some (by kernel_rfl))⟩
  f12 := ⟨Tryz.f149.name, by decide, Tryz.func149.trans (congrArg some (by kernel_rfl))⟩
  f13 := ⟨Tryz.f150.name, by decide, Tryz.func150.trans (congrArg some (by kernel_rfl))⟩
  f14 := ⟨Tryz.f151.name, by decide, Tryz.func151.trans (congrArg some (by kernel_rfl))⟩
  f15 := ⟨Tryz.f152.name, by decide, Tryz.func152.trans (congrArg some (by kernel_rfl))⟩
  f16 := ⟨Tryz.f117.name, by decide, Tryz.func117.trans (congrArg some (by kernel_rfl))⟩
  f17 := ⟨Tryz.f153.name, by decide, Tryz.func153.trans (congrArg some (by kernel_rfl))⟩
  f18 := ⟨Tryz.f154.name, by decide, Tryz.func154.trans (congrArg some (by kernel_rfl))⟩
  f19 := Tryz.func140.trans (congrArg some (by kernel_rfl))
  f20 := Tryz.func141.trans (congrArg some (by kernel_rfl))
  f30 := ⟨Tryz.f173.name, by decide, Tryz.func173.trans (congrArg some (by kernel_rfl))⟩
  f31 := Tryz.func161.trans (congrArg some (by kernel_rfl))
  f32 := Tryz.func162.trans (congrArg some (by kernel_rfl))
  f33 := ⟨Tryz.f174.name, by decide, Tryz.func174.trans (congrArg some (by kernel_rfl))⟩
  f34 := ⟨Tryz.f175.name, by decide, Tryz.func175.trans (congrArg some (by kernel_rfl))⟩
  f35 := ⟨Tryz.f110.name, by decide, Tryz.func110.trans (congrArg some (by kernel_rfl))⟩
  f40 := ⟨Tryz.f193.name, by decide, Tryz.func193.trans (congrArg some (by kernel_rfl))⟩
  t0 := Tryz.underlying0
  a0 := Tryz.isAgg0
  z0 := Tryz.sizeOf0
  v0 := Tryz.zeroValue0
  t3 := Tryz.underlying3
  a3 := Tryz.isAgg3
  z3 := Tryz.sizeOf3
  v3 := Tryz.zeroValue3
  t4 := Tryz.underlying4
  a4 := Tryz.isAgg4
  z4 := Tryz.sizeOf4
  v4 := Tryz.zeroValue4
  t5 := Tryz.underlying5
  a5 := Tryz.isAgg5
  z5 := Tryz.sizeOf5
  v5 := Tryz.zeroValue5
  t9 := Tryz.underlying9
  a9 := Tryz.isAgg9
  z9 := Tryz.sizeOf9
  v9 := Tryz.zeroValue9
  t22 := Tryz.underlying22
  a22 := Tryz.isAgg22
  z22 := Tryz.sizeOf22
  v22 := Tryz.zeroValue22
  t23 := Tryz.underlying22
  a23 := Tryz.isAgg22
  z23 := Tryz.sizeOf22
  v23 := Tryz.zeroValue22
  t25 := Tryz.underlying3
  a25 := Tryz.isAgg3
  z25 := Tryz.sizeOf3
  v25 := Tryz.zeroValue3
  t32 := Tryz.underlying161
  a32 := Tryz.isAgg161
  z32 := Tryz.sizeOf161
  v32 := Tryz.zeroValue161
  t35 := Tryz.underlying179
  a35 := Tryz.isAgg179
  z35 := Tryz.sizeOf179
  v35 := Tryz.zeroValue179
  t36 := Tryz.underlying180
  a36 := Tryz.isAgg180
  z36 := Tryz.sizeOf180
  v36 := Tryz.zeroValue180
  t41 := Tryz.underlying140
  a41 := Tryz.isAgg140
  z41 := Tryz.sizeOf140
  v41 := Tryz.zeroValue140
  t44 := Tryz.underlying93
  a44 := Tryz.isAgg93
  z44 := Tryz.sizeOf93
  v44 := Tryz.zeroValue93
  t46 := Tryz.underlying162
  a46 := Tryz.isAgg162
  z46 := Tryz.sizeOf162
  v46 := Tryz.zeroValue162
  t53 := Tryz.underlying201
  a53 := Tryz.isAgg201
  z53 := Tryz.sizeOf201
  v53 := Tryz.zeroValue201
  t57 := Tryz.underlying122
  a57 := Tryz.isAgg122
  z57 := Tryz.sizeOf122
  v57 := Tryz.zeroValue122
  t63 := Tryz.underlying225
  a63 := Tryz.isAgg225
  z63 := Tryz.sizeOf225
  v63 := Tryz.zeroValue225
  t64 := Tryz.underlying226
  a64 := Tryz.isAgg226
  z64 := Tryz.sizeOf226
  v64 := Tryz.zeroValue226 }
def Tryz.compactI_ren : Go.Shelf.Ren := ⟨fun | 43 => 83 | n => n, fun | 22 => 22 | 23 => 3 | 3 => 3 | 4 => 4 | 0 => 0 | n => n, fun | n => n⟩
theorem Tryz.compactI : Go.Proofs.SlLaysN.n43 Tryz.prog Tryz.compactI_ren := {
  mixed := by kernel_rfl
  f43 := ⟨Tryz.f83.name, by decide, Tryz.func83.trans (congrArg some (by kernel_rfl))⟩
  t0 := Tryz.underlying0
  a0 := Tryz.isAgg0
  z0 := Tryz.sizeOf0
  v0 := Tryz.zeroValue0
  t3 := Tryz.underlying3
  a3 := Tryz.isAgg3
  z3 := Tryz.sizeOf3
  v3 := Tryz.zeroValue3
  t4 := Tryz.underlying4
  a4 := Tryz.isAgg4
  z4 := Tryz.sizeOf4
  v4 := Tryz.zeroValue4
  t22 := Tryz.underlying22
  a22 := Tryz.isAgg22
  z22 := Tryz.sizeOf22
  v22 := Tryz.zeroValue22
  t23 := Tryz.underlying3
  a23 := Tryz.isAgg3
  z23 := Tryz.sizeOf3
  v23 := Tryz.zeroValue3
  i23 := by kernel_rfl }
def Tryz.searchI_ren : Go.Shelf.Ren := ⟨fun | 49 => 86 | 59 => 117 | 60 => 118 | 68 => 110 | n => n, fun | 22 => 22 | 23 => 3 | 3 => 3 | 4 => 4 | 51 => 161 | 0 => 0 | n => n, fun | n => n⟩
theorem Tryz.searchI : Go.Proofs.SlLaysN.n49 Tryz.prog Tryz.searchI_ren := {
  mixed := by kernel_rfl
  f49 := ⟨Tryz.f86.name, by decide, Tryz.func86.trans (congrArg some (by kernel_rfl))⟩
  f59 := ⟨Tryz.f117.name, by decide, Tryz.func117.trans (congrArg some (by kernel_rfl))⟩
  f60 := ⟨Tryz.f118.name, by decide, Tryz.func118.trans (congrArg some (by kernel_rfl))⟩
  f68 := ⟨Tryz.f110.name, by decide, Tryz.func110.trans (congrArg some (by kernel_rfl))⟩
  t0 := Tryz.underlying0
  a0 := Tryz.isAgg0
  z0 := Tryz.sizeOf0
  v0 := Tryz.zeroValue0
  t3 := Tryz.underlying3
  a3 := Tryz.isAgg3
  z3 := Tryz.sizeOf3
  v3 := Tryz.zeroValue3
  t4 := Tryz.underlying4
  a4 := Tryz.isAgg4
  z4 := Tryz.sizeOf4
  v4 := Tryz.zeroValue4
  t22 := Tryz.underlying22
  a22 := Tryz.isAgg22
  z22 := Tryz.sizeOf22
  v22 := Tryz.zeroValue22
  t23 := Tryz.underlying3
  a23 := Tryz.isAgg3
  z23 := Tryz.sizeOf3
  v23 := Tryz.zeroValue3
  t51 := Tryz.underlying161
  a51 := Tryz.isAgg161
  z51 := Tryz.sizeOf161
  v51 := Tryz.zeroValue161 }
def Tryz.sortF_ren : Go.Shelf.Ren := ⟨fun | 6 => 75 | 15 => 107 | 14 => 106 | 28 => 140 | 29 => 141 | 20 => 132 | 21 => 133 | 22 => 134 | 23 => 135 | 24 => 136 | 25 => 137 | 26 => 138 | 27 => 139 | 46 => 160 | 47 => 161 | 48 => 162 | 49 => 163 | 50 => 164 | 57 => 185 | n => n, fun | 22 => 22 | 24 => 3 | 25 => 27 | 3 => 3 | 39 => 161 | 0 => 0 | 53 => 93 | 55 => 162 | 4 => 4 | 46 => 180 | 45 => 179 | 50 => 140 | 5 => 5 | 9 => 9 | 66 => 201 | 70 => 122 | 76 => 225 | 77 => 226 | n => n, fun | n => n⟩
theorem Tryz.sortF : Go.Proofs.SlLaysF.n6 Tryz.prog Tryz.sortF_ren := {
  mixed := by kernel_rfl
  f6 := ⟨Tryz.f75.name, by decide, Tryz.func75.trans (congrArg some (by kernel_rfl))⟩
  f14 := ⟨Tryz.f106.name, by decide, Tryz.func106.trans (congrArg some (by kernel_rfl))⟩
  f15 := Tryz.func107.trans (congrArg some (by kernel_rfl))
  f20 := ⟨Tryz.f132.name, by decide, Tryz.func132.trans (congrArg some (by kernel_rfl))⟩
  f21 := ⟨Tryz.f133.name, by decide, Tryz.func133.trans (congrArg some (by kernel_rfl))⟩
  f22 := ⟨Tryz.f134.name, by decide, Tryz.func134.trans (congrArg some (by kernel_rfl))⟩
  f23 := ⟨Tryz.f135.name, by decide, Tryz.func135.trans (congrArg some (by kernel_rfl))⟩
  f24 := ⟨Tryz.f136.name, by decide, Tryz.func136.trans (congrArg some (by kernel_rfl))⟩
  f25 := ⟨Tryz.f137.name, by decide, Tryz.func137.trans (congrArg some (by kernel_rfl))⟩
  f26 := ⟨Tryz.f138.name, by decide, Tryz.func138.trans (congrArg some (by kernel_rfl))⟩
  f27 := ⟨Tryz.f139.name, by decide, Tryz.func139.trans (congrArg some (by kernel_rfl))⟩
  f28 := Tryz.func140.trans (congrArg some (by kernel_rfl))
  f29 := Tryz.func141.trans (congrArg some (by kernel_rfl))
  f46 := ⟨Tryz.f160.name, by decide, Tryz.func160.trans (congrArg some (by kernel_rfl))⟩
  f47 := Tryz.func161.trans (congrArg some (by kernel_rfl))
  f48 := Tryz.func162.trans (congrArg some (by kernel_rfl))
  f49 := ⟨Tryz.f163.name, by decide, Tryz.func163.trans (congrArg some (by kernel_rfl))⟩
  f50 := ⟨Tryz.f164.name, by decide, Tryz.func164.trans (congrArg some (by kernel_rfl))⟩
  f57 := ⟨Tryz.f185.name, by decide, Tryz.func185.trans (congrArg some (by kernel_rfl))⟩
  t0 := Tryz.underlying0
  a0 := Tryz.isAgg0
  z0 := Tryz.sizeOf0
  v0 := Tryz.zeroValue0
  t3 := Tryz.underlying3
  a3 := Tryz.isAgg3
  z3 := Tryz.sizeOf3
  v3 := Tryz.zeroValue3
  t4 := Tryz.underlying4
  a4 := Tryz.isAgg4
  z4 := Tryz.sizeOf4
  v4 := Tryz.zeroValue4
  t5 := Tryz.underlying5
  a5 := Tryz.isAgg5
  z5 := Tryz.sizeOf5
  v5 := Tryz.zeroValue5
  t9 := Tryz.underlying9
  a9 := Tryz.isAgg9
  z9 := Tryz.sizeOf9
  v9 := Tryz.zeroValue9
  t22 := Tryz.underlying22
  a22 := Tryz.isAgg22
  z22 := Tryz.sizeOf22
  v22 := Tryz.zeroValue22
  a24 := Tryz.isAgg3
  z24 := Tryz.sizeOf3
  t25 := Tryz.underlying27
  a25 := Tryz.isAgg27
  z25 := Tryz.sizeOf27
  v25 := Tryz.zeroValue27
  t39 := Tryz.underlying161
  a39 := Tryz.isAgg161
  z39 := Tryz.sizeOf161
  v39 := Tryz.zeroValue161
  t45 := Tryz.underlying179
  a45 := Tryz.isAgg179
  z45 := Tryz.sizeOf179
  v45 := Tryz.zeroValue179
  t46 := Tryz.underlying180
  a46 := Tryz.isAgg180
  z46 := Tryz.sizeOf180
  v46 := Tryz.zeroValue180
  t50 := Tryz.underlying140
  a50 := Tryz.isAgg140
  z50 := Tryz.sizeOf140
  v50 := Tryz.zeroValue140
  t53 := Tryz.underlying93
  a53 := Tryz.isAgg93
  z53 := Tryz.sizeOf93
  v53 := Tryz.zeroValue93
  t55 := Tryz.underlying162
  a55 := Tryz.isAgg162
  z55 := Tryz.sizeOf162
  v55 := Tryz.zeroValue162
  t66 := Tryz.underlying201
  a66 := Tryz.isAgg201
  z66 := Tryz.sizeOf201
  v66 := Tryz.zeroValue201
  t70 := Tryz.underlying122
  a70 := Tryz.isAgg122
  z70 := Tryz.sizeOf122
  v70 := Tryz.zeroValue122
  t76 := Tryz.underlying225
  a76 := Tryz.isAgg225
  z76 := Tryz.sizeOf225
  v76 := Tryz.zeroValue225
  t77 := Tryz.underlying226
  a77 := Tryz.isAgg226
  z77 := Tryz.sizeOf226
  v77 := Tryz.zeroValue226 }
end Go.Proofs.YtjiiikeniocmfaaGreat

/- the library's Sort, Compact, BinarySearch of ints that the call owns -/
set_option linter.unusedSimpArgs false
set_option linter.unusedVariables false
namespace Go.Proofs.YtjiiikeniocmfaaGreat
open Go.RowKit Go.Sort
theorem get_bang {d : List Int} {i : Nat} (h : i < d.length) : d.toArray[i]! = d.getD i 0 := by
  rw [getElem!_pos d.toArray i (by simpa using h), List.getD_eq_getElem?_getD, List.getElem?_eq_getElem h]; simp
/-- of a list in order its elements, each once. -/
theorem compact_spec {zs : List Int} (hs : zs.Pairwise (· ≤ ·)) : (Lib.compact zs).Pairwise (· < ·) ∧ ∀ z, z ∈ Lib.compact zs ↔ z ∈ zs := by
  have hle : ∀ i j, i ≤ j → j < zs.length → zs.getD i 0 ≤ zs.getD j 0 := fun i j hij hj => by
    by_cases e : i = j
    · rw [e]; exact Int.le_refl _
    · rw [List.getD_eq_getElem?_getD, List.getD_eq_getElem?_getD, List.getElem?_eq_getElem (by omega), List.getElem?_eq_getElem hj]
      exact List.pairwise_iff_getElem.1 hs i j (by omega) hj (by omega)
  have hmem : ∀ j, j < zs.length → zs.getD j 0 ∈ zs := fun j hj => by rw [List.getD_eq_getElem?_getD, List.getElem?_eq_getElem hj]; exact List.getElem_mem _
  unfold Lib.compact Lib.compactUpTo
  constructor
  · rw [List.pairwise_map]
    refine List.Pairwise.imp_of_mem ?_ (List.Pairwise.filter _ (List.pairwise_lt_range (n := zs.length)))
    intro a b ha hb hab
    rw [List.mem_filter, List.mem_range] at ha hb
    rw [get_bang ha.1, get_bang hb.1]
    have hk := hb.2
    unfold Lib.keeps at hk
    have hk := of_decide_eq_true hk
    rcases hk with hk | hk
    · omega
    · rw [get_bang hb.1, get_bang (by omega)] at hk
      have h1 := hle a (b - 1) (by omega) (by omega)
      have h2 := hle (b - 1) b (by omega) hb.1
      omega
  · intro z
    rw [List.mem_map]
    constructor
    · rintro ⟨j, hj, rfl⟩
      rw [List.mem_filter, List.mem_range] at hj
      rw [get_bang hj.1]
      exact hmem j hj.1
    · intro hz
      obtain ⟨j, hj, e⟩ := List.mem_iff_getElem.1 hz
      have key : ∀ j, j < zs.length → ∃ i, i < zs.length ∧ Lib.keeps zs.toArray i = true ∧ zs.getD i 0 = zs.getD j 0 := by
        intro j
        induction j with
        | zero => intro hj; exact ⟨0, hj, by simp [Lib.keeps], rfl⟩
        | succ j ih =>
          intro hj
          by_cases he : zs.getD (j + 1) 0 = zs.getD j 0
          · obtain ⟨i, h1, h2, h3⟩ := ih (by omega)
            exact ⟨i, h1, h2, by rw [h3, he]⟩
          · refine ⟨j + 1, hj, ?_, rfl⟩
            refine Lib.keeps_pos ?_
            rw [get_bang hj, get_bang (by omega)]
            simpa using he
      obtain ⟨i, h1, h2, h3⟩ := key j hj
      refine ⟨i, by rw [List.mem_filter, List.mem_range]; exact ⟨h1, h2⟩, ?_⟩
      rw [get_bang h1, h3, List.getD_eq_getElem?_getD, List.getElem?_eq_getElem hj]
      exact e
theorem holds_ints {w : World} {base g n cap : Nat} {L : List Int} (h : OwnI w base (.slice (some ⟨g, 0, none⟩) n cap) L) {cur : Array Value} (hg : w.heap[g]? = some (.cells cur 3 (0, 0))) : Holds (Value.int .i64) w g 0 L.toArray := by
  intro j hj
  have hj' : j < L.length := by simpa using hj
  have hc := World.ownsRow.cells h (g := g) rfl j _ (flatI_get L j hj')
  have e : (⟨g, 0, none⟩ : Addr).add j = ⟨g, 0 + j, none⟩ := by unfold Addr.add; split <;> simp_all
  rw [e] at hc
  exact ⟨by rw [hc, get_bang hj'], frozen_of_row _ _ _ _ _ hg⟩
theorem put_block {w : World} {g n : Nat} {d : Array Int} {cur : Array Value} (hg : w.heap[g]? = some (.cells cur 3 (0, 0))) : (putRow (Value.int .i64) (Go.Sort.ahead w n) g 0 d).heap[g]? = some (.cells (putCells (Value.int .i64) 0 d cur) 3 (0, 0)) := by
  unfold putRow mapBlock Go.Sort.ahead
  simp only [Array.getElem?_modify, if_true, hg]
  rfl
theorem put_other {w : World} {g n k : Nat} {d : Array Int} (hk : k ≠ g) : (putRow (Value.int .i64) (Go.Sort.ahead w n) g 0 d).heap[k]? = w.heap[k]? := by
  unfold putRow mapBlock Go.Sort.ahead
  simp only [Array.getElem?_modify]
  rw [if_neg (Ne.symm hk)]
theorem put_size {w : World} {g n : Nat} {d : Array Int} : (putRow (Value.int .i64) (Go.Sort.ahead w n) g 0 d).heap.size = w.heap.size := by
  unfold putRow mapBlock Go.Sort.ahead; simp
theorem put_own {w' : World} {base g cap : Nat} {M D : List Int} {cur : Array Value} (hb : base ≤ g) (hput : w'.heap[g]? = some (.cells (putCells (Value.int .i64) 0 D.toArray cur) 3 (0, 0))) (hs : cur.size = cap * 1) (hM : M = D.take M.length) (hMl : M.length ≤ D.length) (hc : M.length ≤ cap) (hm : cap ≤ maxLen) : OwnI w' base (.slice (some ⟨g, 0, none⟩) M.length cap) M := by
  refine ⟨by rw [flatI_length, Nat.mul_one], .inr ⟨g, cap, _, rfl, hb, hput, hc, hm, ?_, ?_⟩⟩
  · unfold putCells
    rw [Array.size_mapIdx, hs]
  · apply List.ext_getElem?
    intro i
    rw [List.getElem?_take, Nat.mul_one]
    by_cases hi : i < M.length
    · have hic : i < cur.size := by rw [hs]; omega
      rw [if_pos hi, Array.getElem?_toList, flatI_get _ _ hi]
      unfold putCells
      rw [Array.getElem?_mapIdx, Array.getElem?_eq_getElem hic, Option.map_some, if_pos ⟨Nat.zero_le _, by simp; omega⟩, Nat.sub_zero, get_bang (by omega)]
      have : M.getD i 0 = D.getD i 0 := by
        rw [List.getD_eq_getElem?_getD, List.getD_eq_getElem?_getD]
        conv => lhs; rw [hM]
        rw [List.getElem?_take, if_pos hi]
      rw [this]
    · rw [if_neg hi, List.getElem?_eq_none (by rw [flatI_length]; omega)]
theorem Sort_ints (base : Nat) (v : Value) (L : List Int) (w : World) (h : OwnI w base v L) (hn : L.length ≤ 1000000) :
    Calls Tryz.prog 82 #[v] w fun e w' => e = .returned (.tuple #[]) ∧ ∃ M, OwnI w' base v M ∧ M.Perm L ∧ M.Pairwise (· ≤ ·) ∧ w.grownBy w' v.ownBlock := by
  rcases h.2 with ⟨rfl, h0⟩ | ⟨g, cap', cur, rfl, hbg, hg, hnc, hm, hs, ht⟩
  · have : L = [] := List.eq_nil_of_length_eq_zero h0
    subst this
    have hcon := Go.Proofs.AnyM.slices_Sort_int_none Tryz.sortI none 0 w
    change Calls Tryz.prog 82 _ _ _ at hcon
    refine hcon.mono ?_
    rintro e w' ⟨rfl, rfl⟩
    exact ⟨rfl, [], h, List.Perm.refl _, List.Pairwise.nil, World.grownBy.refl _ _⟩
  · have hlt : g < w.heap.size := (Array.getElem?_eq_some_iff.1 hg).1
    have hcon := Go.Proofs.AnyM.slices_Sort_int Tryz.sortI g 0 cap' L w (holds_ints h hg) hlt (by omega)
    change Calls Tryz.prog 82 _ _ _ at hcon
    refine hcon.mono ?_
    rintro e w' ⟨rfl, q, os, rfl⟩
    have hl : (L.mergeSort fun x y => decide (x ≤ y)).length = L.length := List.length_mergeSort _
    refine ⟨rfl, L.mergeSort fun x y => decide (x ≤ y), ?_, List.mergeSort_perm _ _, ?_, rfl, rfl, rfl, ?_, fun k hk hne => ?_⟩
    · have := put_own (w' := grow (putRow (Value.int .i64) (Go.Sort.ahead w q) g 0 (L.mergeSort fun x y => decide (x ≤ y)).toArray) os) (base := base) (g := g) (cap := cap') (M := L.mergeSort fun x y => decide (x ≤ y)) (D := L.mergeSort fun x y => decide (x ≤ y)) (cur := cur) hbg ((heap_grow_old _ _ (by rw [put_size]; exact hlt)).trans (put_block hg)) hs (by rw [List.take_length]) (Nat.le_refl _) (by rw [hl]; exact hnc) hm
      rw [hl] at this
      exact this
    · have := List.pairwise_mergeSort (le := fun x y : Int => decide (x ≤ y)) (fun a b c h1 h2 => by simp only [decide_eq_true_eq] at *; omega) (fun a b => by simp only [Bool.or_eq_true, decide_eq_true_eq]; omega) L
      exact this.imp fun h => of_decide_eq_true h
    · show w.heap.size ≤ ((putRow (Value.int .i64) (Go.Sort.ahead w q) g 0 _).heap ++ os).size
      rw [Array.size_append, put_size]; omega
    · rw [heap_grow_old _ _ (by rw [put_size]; exact hk)]
      exact put_other fun e => hne (by rw [e]; rfl)
theorem Compact_ints (base : Nat) (v : Value) (L : List Int) (w : World) (h : OwnI w base v L) (hn : L.length ≤ 1000000) :
    Calls Tryz.prog 83 #[v] w fun e w' => ∃ v', e = .returned v' ∧ OwnI w' base v' (Lib.compact L) ∧ w.grownBy w' v.ownBlock ∧ v'.ownBlock = v.ownBlock := by
  rcases h.2 with ⟨rfl, h0⟩ | ⟨g, cap', cur, rfl, hbg, hg, hnc, hm, hs, ht⟩
  · have : L = [] := List.eq_nil_of_length_eq_zero h0
    subst this
    have hcon := Go.Proofs.AnyG.slices_Compact_int_empty Tryz.compactI none 0 w
    change Calls Tryz.prog 83 _ _ _ at hcon
    refine hcon.mono ?_
    rintro e w' ⟨rfl, rfl⟩
    exact ⟨_, rfl, h, World.grownBy.refl _ _, rfl⟩
  · have hlt : g < w.heap.size := (Array.getElem?_eq_some_iff.1 hg).1
    have hcon := Go.Proofs.AnyG.slices_Compact_int Tryz.compactI g 0 cap' L w (holds_ints h hg) (by omega) hnc
    change Calls Tryz.prog 83 _ _ _ at hcon
    refine hcon.mono ?_
    rintro e w' ⟨rfl, q, rfl⟩
    have hl : (Lib.compact L).length ≤ L.length := by
      unfold Lib.compact Lib.compactUpTo
      rw [List.length_map]
      exact Nat.le_trans (List.length_filter_le _ _) (by simp)
    refine ⟨_, rfl, put_own hbg (put_block hg) hs ?_ ?_ (by omega) hm, ⟨rfl, rfl, rfl, by rw [put_size]; exact Nat.le_refl _, fun k hk hne => put_other fun e => hne (by rw [e]; rfl)⟩, rfl⟩
    · simp
    · simp
theorem Search_ints (ao : Option Addr) (n cap : Nat) (L : List Int) (x : Int) (w : World) (h : IsInts w ao n cap L) (h0 : 0 < n) (hn : n ≤ 1000000) (hs : L.Pairwise (· ≤ ·)) :
    Calls Tryz.prog 86 #[.slice ao n cap, .int .i64 x] w fun e w' => e = .returned (.tuple #[.int .i64 (L.countP (· < x) : Nat), .bool (L.contains x)]) ∧ ∃ q, w' = w.drewN q := by
  obtain ⟨b, off, rfl, hc⟩ := h.2.2.2.1 h0
  have hcon := Go.Proofs.AnyG.slices_BinarySearch_int Tryz.searchI b off n cap L x w (by rw [h.1]; exact Nat.le_refl _) (by omega) (getD_cells h.1 hc) (by rw [List.take_of_length_le (by rw [h.1]; exact Nat.le_refl _)]; exact hs)
  rw [List.take_of_length_le (by rw [h.1]; exact Nat.le_refl _)] at hcon
  exact hcon
end Go.Proofs.YtjiiikeniocmfaaGreat

/- a region in whatever order that only makes memory: values, and facts that growth keeps -/
set_option linter.unusedSimpArgs false
set_option linter.unusedVariables false
namespace Go.Proofs.YtjiiikeniocmfaaGreat
open Go Go.RowKit
structure Fct where
  i : Nat
  P : Value → World → Prop
structure GrowJ (W : World) (val : Nat → Option Value) (fs : List Fct) (L : Nat → Bool) (V : Nat → Value) (w : World) : Prop where
  below : Below W.heap.size W w
  vals : ∀ i v, val i = some v → L i = true → V i = v
  facts : ∀ f ∈ fs, L f.i = true → f.P (V f.i) w
def FctOk (f : Fct) : Prop := ∀ v w w', f.P v w → Below w.heap.size w w' → f.P v w'
theorem GrowJ.start {W w : World} {val : Nat → Option Value} {fs : List Fct} {V : Nat → Value} (h : Below W.heap.size W w) : GrowJ W val fs (fun _ => false) V w :=
  ⟨h, fun _ _ _ h => (by cases h), fun _ _ h => (by cases h)⟩
theorem GrowJ.step {W w w' : World} {val : Nat → Option Value} {fs : List Fct} {L : Nat → Bool} {V : Nat → Value} (h : GrowJ W val fs L V w) (hok : ∀ f ∈ fs, FctOk f) (i : Nat) (v : Value) (hv : (match val i with | some u => u = v | none => True)) (hb : Below w.heap.size w w') (hnew : ∀ f ∈ fs, f.i = i → f.P v w') : GrowJ W val fs (upd L i true) (upd V i v) w' := by
  refine ⟨h.below.trans (hb.mono h.below.size), fun j u hj hl => ?_, fun f hf hl => ?_⟩
  · by_cases hji : j = i
    · subst hji
      rw [upd_at]
      rw [hj] at hv
      exact hv.symm
    · rw [upd_ne _ _ _ _ hji] at hl ⊢
      exact h.vals j u hj hl
  · by_cases hfi : f.i = i
    · rw [hfi, upd_at]
      exact hnew f hf hfi
    · rw [upd_ne _ _ _ _ hfi] at hl ⊢
      exact hok f hf _ _ _ (h.facts f hf hl) hb
theorem GrowJ.val {W w w' : World} {val : Nat → Option Value} {fs : List Fct} {L : Nat → Bool} {V : Nat → Value} (h : GrowJ W val fs L V w) (hok : ∀ f ∈ fs, FctOk f) (i : Nat) (v : Value) (hn : fs.all (fun f => f.i != i) = true) (hv : (match val i with | some u => u = v | none => True)) (hb : Below w.heap.size w w') : GrowJ W val fs (upd L i true) (upd V i v) w' :=
  h.step hok i v hv hb (fun f hf hfi => by
    have := List.all_eq_true.1 hn f hf
    simp [hfi] at this)
end Go.Proofs.YtjiiikeniocmfaaGreat

/- what a *Slabs is; its methods (printed by mkslab1.py) -/
set_option linter.unusedSimpArgs false
set_option linter.unusedVariables false
namespace Go.Proofs.YtjiiikeniocmfaaGreat
open Go.RowKit Go.Geo
attribute [local go_sem] Oper.semAt_some
def offsI (Es : List (List Edg)) : List Int := (List.range (Es.length + 1)).map fun i => ((Es.take i).flatten.length : Int)
theorem offsI_len (Es : List (List Edg)) : (offsI Es).length = Es.length + 1 := by simp [offsI]
theorem offsI_get (Es : List (List Edg)) {i : Nat} (h : i ≤ Es.length) : (offsI Es).getD i 0 = ((Es.take i).flatten.length : Int) := by
  unfold offsI
  rw [List.getD_eq_getElem?_getD, List.getElem?_map, List.getElem?_range (by omega)]; rfl
theorem flat_part (Es : List (List Edg)) {i : Nat} (h : i < Es.length) : (Es.take (i + 1)).flatten.length = (Es.take i).flatten.length + (Es.getD i []).length ∧ (Es.flatten.drop (Es.take i).flatten.length).take (Es.getD i []).length = Es.getD i [] ∧ (Es.take (i + 1)).flatten.length ≤ Es.flatten.length := by
  have h1 : Es.take (i + 1) = Es.take i ++ [Es.getD i []] := take_more h
  have h2 : Es.flatten = (Es.take i).flatten ++ (Es.getD i [] ++ (Es.drop (i + 1)).flatten) := by
    conv => lhs; rw [← List.take_append_drop (i + 1) Es, h1]
    simp
  refine ⟨by rw [h1]; simp, ?_, ?_⟩
  · rw [h2, List.drop_left, List.take_left]
  · rw [h1, h2]; simp <;> omega
theorem IsEdgs.part {w : World} {b off n cap : Nat} {F : List Edg} (h : IsEdgs w (some ⟨b, off, none⟩) n cap F) {lo hi : Nat} (h1 : lo ≤ hi) (h2 : hi ≤ n) : IsEdgs w (some ⟨b, off + lo * 4, none⟩) (hi - lo) (cap - lo) ((F.drop lo).take (hi - lo)) := by
  obtain ⟨e1, e2, e3, e4, e5⟩ := h
  refine ⟨by rw [List.length_take, List.length_drop]; omega, by omega, by omega, (fun h => by cases h), fun hn => ⟨_, _, rfl, fun i hi' => ?_⟩⟩
  obtain ⟨b', off', e6, hc⟩ := e5 (by omega)
  cases e6
  have hg : ((F.drop lo).take (hi - lo)).getD i ed0 = F.getD (lo + i) ed0 := by
    rw [List.getD_eq_getElem?_getD, List.getD_eq_getElem?_getD, List.getElem?_take, if_pos hi', List.getElem?_drop]
  rw [hg]
  have := hc (lo + i) (by omega)
  have e7 : off + (lo + i) * 4 = off + lo * 4 + i * 4 := by omega
  rw [e7] at this
  exact this
structure SlabIs (w : World) (g : Nat) (H : List Int) (Es : List (List Edg)) : Prop where
  ex : ∃ ah ch ao co ae ce, w.heap[g]? = some (.cells #[.bool true, .slice ah H.length ch, .slice ao (Es.length + 1) co, .slice ae Es.flatten.length ce] 134 (0, 0)) ∧ IsInts w ah H.length ch H ∧ IsInts w ao (Es.length + 1) co (offsI Es) ∧ IsEdgs w ae Es.flatten.length ce Es.flatten
  len : H.length = Es.length + 1
  ne : 0 < Es.flatten.length
  small : H.length ≤ 1000000
  small2 : Es.flatten.length ≤ 1000000
theorem SlabIs.later {w w' : World} {g : Nat} {H : List Int} {Es : List (List Edg)} (h : SlabIs w g H Es) (hb : Below w.heap.size w w') : SlabIs w' g H Es := by
  obtain ⟨⟨ah, ch, ao, co, ae, ce, h1, h2, h3, h4⟩, h5, h6, h7, h8⟩ := h
  exact ⟨⟨ah, ch, ao, co, ae, ce, (hb.block g (heap_lt' h1)).trans h1, h2.later hb (Nat.le_refl _), h3.later hb (Nat.le_refl _), h4.later hb (Nat.le_refl _)⟩, h5, h6, h7, h8⟩
set_option maxRecDepth 100000 in
set_option maxHeartbeats 1000000 in
theorem Len_any (g : Nat) (H : List Int) (Es : List (List Edg)) (w : World) (h : SlabIs w g H Es) :
    Calls Tryz.prog 87 #[.pointer (some ⟨g, 0, none⟩)] w fun e w' => e = .returned (.int .i64 (Es.length : Int)) ∧ w' = w := by
  obtain ⟨⟨ah, ch, ao, co, ae, ce, h1, h2, h3, h4⟩, h5, h6, h7, h8⟩ := h
  have k0 : w.cell? ⟨g, 0, none⟩ = some (.bool true) := cell_of_row _ _ _ _ _ _ h1
  have k1 : w.cell? ⟨g, 1, none⟩ = some (.slice ah H.length ch) := cell_of_row _ _ _ _ _ _ h1
  have hi : (H.length : Int) - 1 = (Es.length : Int) := by omega
  have hw : IntKind.i64.wrap ((H.length : Int) - 1) = (H.length : Int) - 1 := IntWalk.i64_in _ (by omega)
  obtain ⟨n, hn⟩ : ∃ n, n = H.length := ⟨_, rfl⟩
  rw [← hn] at k1 hi hw
  have hn1 : n ≤ 1000000 := by omega
  have hn2 : 1 ≤ n := by omega
  clear h1 h2 h3 h4 h5 h7 hn
  go_enter Tryz.func87, Tryz.ntmps87
  go_wp2_with fail
  go_ret
  exact ⟨by rw [← hi]; rfl, rfl⟩
set_option maxRecDepth 100000 in
set_option maxHeartbeats 2000000 in
theorem slab_any (g i : Nat) (H : List Int) (Es : List (List Edg)) (w : World) (h : SlabIs w g H Es) (hi : i < Es.length) :
    Calls Tryz.prog 88 #[.pointer (some ⟨g, 0, none⟩), .int .i64 (i : Int)] w fun e w' => ∃ a n c, e = .returned (.slice a n c) ∧ IsEdgs w' a n c (Es.getD i []) ∧ Below w.heap.size w w' := by
  obtain ⟨⟨ah, ch, ao, co, ae, ce, h1, h2, h3, h4⟩, h5, h6, h7, h8⟩ := h
  obtain ⟨m, hm⟩ : ∃ m, m = Es.length := ⟨_, rfl⟩
  obtain ⟨f, hf⟩ : ∃ f, f = Es.flatten.length := ⟨_, rfl⟩
  obtain ⟨bo, oo, rfl, d0⟩ := h3.at (i := i) (by omega)
  obtain ⟨bo', oo', he, d1⟩ := h3.at (i := i + 1) (by omega)
  cases he
  obtain ⟨be, oe, rfl, _⟩ := h4.at (i := 0) (by omega)
  obtain ⟨p1, p2, p3⟩ := flat_part Es hi
  rw [offsI_get _ (by omega)] at d0 d1
  obtain ⟨lo, hlo⟩ : ∃ x, x = (Es.take i).flatten.length := ⟨_, rfl⟩
  obtain ⟨hi', hhi⟩ : ∃ x, x = (Es.take (i + 1)).flatten.length := ⟨_, rfl⟩
  rw [← hlo] at d0 p1 p2
  rw [← hhi] at d1 p1 p3
  rw [← hm] at h1 h3
  rw [← hf] at h1 h4 p3 h6 h8
  have hce := h4.2.1
  have hce2 := h4.2.2.1
  have hco := h3.2.1
  have hco2 := h3.2.2.1
  unfold maxLen at hce2 hco2
  have HRES : Hid (∀ wX, Below w.heap.size w wX → IsEdgs wX (if ce = lo then some ⟨be, oe, none⟩ else some ⟨be, oe + lo * 4, none⟩) (hi' - lo) (ce - lo) (Es.getD i [])) := Lib.hid (fun wX hX => by
    by_cases hcl : ce = lo
    · rw [if_pos hcl]
      have hz : hi' - lo = 0 := by omega
      have hE : Es.getD i [] = [] := List.eq_nil_of_length_eq_zero (by omega)
      rw [hz, hE]
      exact ⟨rfl, Nat.zero_le _, by unfold maxLen; omega, (fun h => by cases h), fun h => absurd h (by omega)⟩
    rw [if_neg hcl]
    have h := (h4.part (lo := lo) (hi := hi') (by omega) (by omega)).later hX (Nat.le_refl _)
    rw [show hi' - lo = (Es.getD i []).length by omega] at h ⊢
    rw [p2] at h
    exact h)
  have HCELLS : Hid (∀ wX, Below w.heap.size w wX → wX.cell? ⟨g, 0, none⟩ = some (.bool true) ∧ wX.cell? ⟨g, 2, none⟩ = some (.slice (some ⟨bo, oo, none⟩) (m + 1) co) ∧ wX.cell? ⟨g, 3, none⟩ = some (.slice (some ⟨be, oe, none⟩) f ce) ∧ wX.cell? ⟨bo, oo + i, none⟩ = some (.int .i64 (lo : Int)) ∧ wX.cell? ⟨bo, oo + (i + 1), none⟩ = some (.int .i64 (hi' : Int)) ∧ True) := Lib.hid (fun wX hX => by
    have k := (hX.block _ (heap_lt' h1)).trans h1
    exact ⟨cell_of_row _ _ _ _ _ _ k, cell_of_row _ _ _ _ _ _ k, cell_of_row _ _ _ _ _ _ k, (hX.cell (p := ⟨bo, _, none⟩) (block_lt_of_cell d0)).trans d0, (hX.cell (p := ⟨bo, _, none⟩) (block_lt_of_cell d1)).trans d1, trivial⟩)
  have hi0 : (0 : Int) ≤ (i : Int) := by omega
  have him : i < m := by omega
  have hi5 : (i : Int) < ((m + 1 : Nat) : Int) := by omega
  have hi6 : (i : Int) + 1 < ((m + 1 : Nat) : Int) := by omega
  have hi7 : (0 : Int) ≤ (i : Int) + 1 := by omega
  have hi8 : (i : Int) < (m : Int) + 1 := by omega
  have hi9 : (i : Int) + 1 < (m : Int) + 1 := by omega
  have hlo0 : (0 : Int) ≤ (lo : Int) := by omega
  have hhi0 : (0 : Int) ≤ (hi' : Int) := by omega
  have hloi : (lo : Int) ≤ (hi' : Int) := by omega
  have hhic : (hi' : Int) ≤ (ce : Int) := by omega
  have hhin : hi' ≤ ce := by omega
  have hm9 : m ≤ 1000000 := by omega
  have hwi : IntKind.i64.wrap ((i : Int) + 1) = (i : Int) + 1 := IntWalk.i64_in _ (by omega)
  have hlh : lo ≤ hi' := by omega
  have hhf : hi' ≤ f := p3
  clear h1 h2 h3 h4 h5 h6 h7 d0 d1 p1 p2 p3 hlo hhi hi hm hf
  obtain ⟨Ei, hEi⟩ : ∃ E, E = Es.getD i [] := ⟨_, rfl⟩
  rw [← hEi] at HRES ⊢
  clear hEi
  obtain ⟨hi, hhi⟩ : ∃ x, x = hi' := ⟨_, rfl⟩
  subst hhi
  go_enter Tryz.func88, Tryz.ntmps88
  go_wp2_with fail
  refine wp_region_J (s := [(5, 0), (6, 1), (7, 2), (8, 3), (9, 4), (10, 5), (11, 6), (12, 7), (13, 8), (14, 9), (15, 10), (16, 11), (17, 12), (18, 13), (19, 14), (20, 15), (21, 16), (22, 17), (23, 18), (24, 19), (4, 20)]) (by kernel_rfl) (StdJ w (fun iX => match iX with | 0 => some (.pointer (some ⟨g, 0, none⟩)) | 1 => some (.pointer (some ⟨g, 0, none⟩)) | 2 => some (.pointer (some ⟨g, 3, none⟩)) | 3 => some (.slice (some ⟨be, oe, none⟩) f ce) | 4 => some (.pointer (some ⟨g, 0, none⟩)) | 5 => some (.pointer (some ⟨g, 0, none⟩)) | 6 => some (.pointer (some ⟨g, 2, none⟩)) | 7 => some (.slice (some ⟨bo, oo, none⟩) (m + 1) co) | 8 => some (.int .i64 (i : Int)) | 9 => some (.pointer (some ⟨bo, oo + i, none⟩)) | 10 => some (.int .i64 (lo : Int)) | 11 => some (.pointer (some ⟨g, 0, none⟩)) | 12 => some (.pointer (some ⟨g, 0, none⟩)) | 13 => some (.pointer (some ⟨g, 2, none⟩)) | 14 => some (.slice (some ⟨bo, oo, none⟩) (m + 1) co) | 15 => some (.int .i64 (i : Int)) | 16 => some (.int .i64 ((i : Int) + 1)) | 17 => some (.pointer (some ⟨bo, oo + (i + 1), none⟩)) | 18 => some (.int .i64 (hi : Int)) | 19 => some (.slice (if ce = lo then some ⟨be, oe, none⟩ else some ⟨be, oe + lo * 4, none⟩) (hi - lo) (ce - lo)) | 20 => some (.slice (if ce = lo then some ⟨be, oe, none⟩ else some ⟨be, oe + lo * 4, none⟩) (hi - lo) (ce - lo)) | _ => none) []) (by kernel_rfl) (by kernel_rfl) (by kernel_rfl) (by kernel_rfl) (fun _ => undef) ?start1 ?step1 ?done1
  case start1 => exact StdJ.start ((Below.refl _ _).drew)
  case step1 =>
    refine ⟨?o1_0, ?o1_1, ?o1_2, ?o1_3, ?o1_4, ?o1_5, ?o1_6, ?o1_7, ?o1_8, ?o1_9, ?o1_10, ?o1_11, ?o1_12, ?o1_13, ?o1_14, ?o1_15, ?o1_16, ?o1_17, ?o1_18, ?o1_19, ?o1_20, trivial⟩
    case o1_0 =>
      intro LX V aX wX K hl hp hcl hf hJ hK
      have t0 : aX.tmps[0]? = some (.pointer (some ⟨g, 0, none⟩)) := hf.old (by kernel_rfl) rfl
      rw [if_pos (by rfl)]
      go_simp
      exact hK _ _ (hJ.val (Below.refl _ _) 0 _ (by kernel_rfl) rfl)
    case o1_1 =>
      intro LX V aX wX K hl hp hcl hf hJ hK
      have t5 := hf.in (i := 0) (d := 5) (by kernel_rfl) (hp 0 (by kernel_rfl)) (hJ.vals 0 _ rfl (hp 0 (by kernel_rfl)))
      rw [if_pos (by rfl)]
      go_simp
      exact hK _ _ (hJ.val (Below.refl _ _) 1 _ (by kernel_rfl) rfl)
    case o1_2 =>
      intro LX V aX wX K hl hp hcl hf hJ hK
      have t6 := hf.in (i := 1) (d := 6) (by kernel_rfl) (hp 1 (by kernel_rfl)) (hJ.vals 1 _ rfl (hp 1 (by kernel_rfl)))
      rw [if_pos (by rfl)]
      go_simp
      exact hK _ _ (hJ.val (Below.refl _ _) 2 _ (by kernel_rfl) rfl)
    case o1_3 =>
      intro LX V aX wX K hl hp hcl hf hJ hK
      have t7 := hf.in (i := 2) (d := 7) (by kernel_rfl) (hp 2 (by kernel_rfl)) (hJ.vals 2 _ rfl (hp 2 (by kernel_rfl)))
      obtain ⟨c0, c1, c2, c3, c4, c5⟩ := HCELLS.out wX hJ.below
      rw [if_pos (by rfl)]
      go_simp
      exact hK _ _ (hJ.val (Below.refl _ _) 3 _ (by kernel_rfl) rfl)
    case o1_4 =>
      intro LX V aX wX K hl hp hcl hf hJ hK
      have t0 : aX.tmps[0]? = some (.pointer (some ⟨g, 0, none⟩)) := hf.old (by kernel_rfl) rfl
      rw [if_pos (by rfl)]
      go_simp
      exact hK _ _ (hJ.val (Below.refl _ _) 4 _ (by kernel_rfl) rfl)
    case o1_5 =>
      intro LX V aX wX K hl hp hcl hf hJ hK
      have t9 := hf.in (i := 4) (d := 9) (by kernel_rfl) (hp 4 (by kernel_rfl)) (hJ.vals 4 _ rfl (hp 4 (by kernel_rfl)))
      rw [if_pos (by rfl)]
      go_simp
      exact hK _ _ (hJ.val (Below.refl _ _) 5 _ (by kernel_rfl) rfl)
    case o1_6 =>
      intro LX V aX wX K hl hp hcl hf hJ hK
      have t10 := hf.in (i := 5) (d := 10) (by kernel_rfl) (hp 5 (by kernel_rfl)) (hJ.vals 5 _ rfl (hp 5 (by kernel_rfl)))
      rw [if_pos (by rfl)]
      go_simp
      exact hK _ _ (hJ.val (Below.refl _ _) 6 _ (by kernel_rfl) rfl)
    case o1_7 =>
      intro LX V aX wX K hl hp hcl hf hJ hK
      have t11 := hf.in (i := 6) (d := 11) (by kernel_rfl) (hp 6 (by kernel_rfl)) (hJ.vals 6 _ rfl (hp 6 (by kernel_rfl)))
      obtain ⟨c0, c1, c2, c3, c4, c5⟩ := HCELLS.out wX hJ.below
      rw [if_pos (by rfl)]
      go_simp
      exact hK _ _ (hJ.val (Below.refl _ _) 7 _ (by kernel_rfl) rfl)
    case o1_8 =>
      intro LX V aX wX K hl hp hcl hf hJ hK
      have t1 : aX.tmps[1]? = some (.int .i64 (i : Int)) := hf.old (by kernel_rfl) rfl
      rw [if_pos (by rfl)]
      go_simp
      exact hK _ _ (hJ.val (Below.refl _ _) 8 _ (by kernel_rfl) rfl)
    case o1_9 =>
      intro LX V aX wX K hl hp hcl hf hJ hK
      have t12 := hf.in (i := 7) (d := 12) (by kernel_rfl) (hp 7 (by kernel_rfl)) (hJ.vals 7 _ rfl (hp 7 (by kernel_rfl)))
      have t13 := hf.in (i := 8) (d := 13) (by kernel_rfl) (hp 8 (by kernel_rfl)) (hJ.vals 8 _ rfl (hp 8 (by kernel_rfl)))
      rw [if_pos (by rfl)]
      go_simp
      exact hK _ _ (hJ.val (Below.refl _ _) 9 _ (by kernel_rfl) rfl)
    case o1_10 =>
      intro LX V aX wX K hl hp hcl hf hJ hK
      have t14 := hf.in (i := 9) (d := 14) (by kernel_rfl) (hp 9 (by kernel_rfl)) (hJ.vals 9 _ rfl (hp 9 (by kernel_rfl)))
      obtain ⟨c0, c1, c2, c3, c4, c5⟩ := HCELLS.out wX hJ.below
      rw [if_pos (by rfl)]
      go_simp
      exact hK _ _ (hJ.val (Below.refl _ _) 10 _ (by kernel_rfl) rfl)
    case o1_11 =>
      intro LX V aX wX K hl hp hcl hf hJ hK
      have t0 : aX.tmps[0]? = some (.pointer (some ⟨g, 0, none⟩)) := hf.old (by kernel_rfl) rfl
      rw [if_pos (by rfl)]
      go_simp
      exact hK _ _ (hJ.val (Below.refl _ _) 11 _ (by kernel_rfl) rfl)
    case o1_12 =>
      intro LX V aX wX K hl hp hcl hf hJ hK
      have t16 := hf.in (i := 11) (d := 16) (by kernel_rfl) (hp 11 (by kernel_rfl)) (hJ.vals 11 _ rfl (hp 11 (by kernel_rfl)))
      rw [if_pos (by rfl)]
      go_simp
      exact hK _ _ (hJ.val (Below.refl _ _) 12 _ (by kernel_rfl) rfl)
    case o1_13 =>
      intro LX V aX wX K hl hp hcl hf hJ hK
      have t17 := hf.in (i := 12) (d := 17) (by kernel_rfl) (hp 12 (by kernel_rfl)) (hJ.vals 12 _ rfl (hp 12 (by kernel_rfl)))
      rw [if_pos (by rfl)]
      go_simp
      exact hK _ _ (hJ.val (Below.refl _ _) 13 _ (by kernel_rfl) rfl)
    case o1_14 =>
      intro LX V aX wX K hl hp hcl hf hJ hK
      have t18 := hf.in (i := 13) (d := 18) (by kernel_rfl) (hp 13 (by kernel_rfl)) (hJ.vals 13 _ rfl (hp 13 (by kernel_rfl)))
      obtain ⟨c0, c1, c2, c3, c4, c5⟩ := HCELLS.out wX hJ.below
      rw [if_pos (by rfl)]
      go_simp
      exact hK _ _ (hJ.val (Below.refl _ _) 14 _ (by kernel_rfl) rfl)
    case o1_15 =>
      intro LX V aX wX K hl hp hcl hf hJ hK
      have t1 : aX.tmps[1]? = some (.int .i64 (i : Int)) := hf.old (by kernel_rfl) rfl
      rw [if_pos (by rfl)]
      go_simp
      exact hK _ _ (hJ.val (Below.refl _ _) 15 _ (by kernel_rfl) rfl)
    case o1_16 =>
      intro LX V aX wX K hl hp hcl hf hJ hK
      have t20 := hf.in (i := 15) (d := 20) (by kernel_rfl) (hp 15 (by kernel_rfl)) (hJ.vals 15 _ rfl (hp 15 (by kernel_rfl)))
      rw [if_pos (by rfl)]
      go_simp
      exact hK _ _ (hJ.val (Below.refl _ _) 16 _ (by kernel_rfl) rfl)
    case o1_17 =>
      intro LX V aX wX K hl hp hcl hf hJ hK
      have t19 := hf.in (i := 14) (d := 19) (by kernel_rfl) (hp 14 (by kernel_rfl)) (hJ.vals 14 _ rfl (hp 14 (by kernel_rfl)))
      have t21 := hf.in (i := 16) (d := 21) (by kernel_rfl) (hp 16 (by kernel_rfl)) (hJ.vals 16 _ rfl (hp 16 (by kernel_rfl)))
      rw [if_pos (by rfl)]
      go_simp
      exact hK _ _ (hJ.val (Below.refl _ _) 17 _ (by kernel_rfl) rfl)
    case o1_18 =>
      intro LX V aX wX K hl hp hcl hf hJ hK
      have t22 := hf.in (i := 17) (d := 22) (by kernel_rfl) (hp 17 (by kernel_rfl)) (hJ.vals 17 _ rfl (hp 17 (by kernel_rfl)))
      obtain ⟨c0, c1, c2, c3, c4, c5⟩ := HCELLS.out wX hJ.below
      rw [if_pos (by rfl)]
      go_simp
      exact hK _ _ (hJ.val (Below.refl _ _) 18 _ (by kernel_rfl) rfl)
    case o1_19 =>
      intro LX V aX wX K hl hp hcl hf hJ hK
      have t8 := hf.in (i := 3) (d := 8) (by kernel_rfl) (hp 3 (by kernel_rfl)) (hJ.vals 3 _ rfl (hp 3 (by kernel_rfl)))
      have t15 := hf.in (i := 10) (d := 15) (by kernel_rfl) (hp 10 (by kernel_rfl)) (hJ.vals 10 _ rfl (hp 10 (by kernel_rfl)))
      have t23 := hf.in (i := 18) (d := 23) (by kernel_rfl) (hp 18 (by kernel_rfl)) (hJ.vals 18 _ rfl (hp 18 (by kernel_rfl)))
      rw [if_pos (by rfl)]
      go_simp
      exact hK _ _ (hJ.val (Below.refl _ _) 19 _ (by kernel_rfl) rfl)
    case o1_20 =>
      intro LX V aX wX K hl hp hcl hf hJ hK
      have t24 := hf.in (i := 19) (d := 24) (by kernel_rfl) (hp 19 (by kernel_rfl)) (hJ.vals 19 _ rfl (hp 19 (by kernel_rfl)))
      rw [if_pos (by rfl)]
      go_simp
      exact hK _ _ (hJ.val (Below.refl _ _) 20 _ (by kernel_rfl) rfl)
  intro V wZ hJ
  have hv := hJ.vals 20 _ rfl (by kernel_rfl)
  have HBZ := Lib.hid hJ.below
  simp only [puts, Act.put, List.setIfInBounds_toArray, List.set_cons_zero, List.set_cons_succ]
  rw [hv]
  clear hJ hv
  obtain ⟨ax, hax⟩ : ∃ a, a = (if ce = lo then some (⟨be, oe, none⟩ : Addr) else some ⟨be, oe + lo * 4, none⟩) := ⟨_, rfl⟩
  rw [← hax] at HRES ⊢
  clear hax
  go_wp2_with fail
  go_ret
  exact ⟨_, _, _, rfl, HRES.out _ HBZ.out, HBZ.out⟩end Go.Proofs.YtjiiikeniocmfaaGreat

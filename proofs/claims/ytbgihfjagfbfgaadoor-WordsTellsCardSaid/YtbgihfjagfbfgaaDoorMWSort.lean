/- layer 16: the library's Sort and Clone of strings that the call owns; Fields, Cut, ReplaceAll -/
import Derived.Test.YtbgihfjagfbfgaaDoorMWMap
import Derived.Test.YtbgihfjagfbfgaaDoorMWLay
import Derived.Lib.LaidTab
import Derived.Shelf.SortM.SortNone
set_option linter.unusedSimpArgs false
set_option linter.unusedVariables false
namespace Go.Proofs.YtbgihfjagfbfgaaDoor
open Go.RowKit Go.Sort Go.Words
theorem enc_sV (l : Wd) : encStr l = sV l := rfl
theorem get_bangS {d : List Wd} {i : Nat} (h : i < d.length) : d.toArray[i]! = d.getD i [] := by
  rw [getElem!_pos d.toArray i (by simpa using h), List.getD_eq_getElem?_getD, List.getElem?_eq_getElem h]; simp
theorem holds_strs {w : World} {base g n cap : Nat} {L : List Wd} (h : OwnS w base (.slice (some ⟨g, 0, none⟩) n cap) L) {cur : Array Value} (hg : w.heap[g]? = some (.cells cur 9 (0, 0))) : Holds encStr w g 0 L.toArray := by
  intro j hj
  have hj' : j < L.length := by simpa using hj
  have hc := World.ownsRow.cells h (g := g) rfl j _ (flatS_get L j hj')
  have e : (⟨g, 0, none⟩ : Addr).add j = ⟨g, 0 + j, none⟩ := by unfold Addr.add; split <;> simp_all
  rw [e] at hc
  exact ⟨by rw [hc, get_bangS hj']; rfl, frozen_of_row _ _ _ _ _ hg⟩
theorem putS_block {w : World} {g n : Nat} {d : Array Wd} {cur : Array Value} (hg : w.heap[g]? = some (.cells cur 9 (0, 0))) : (putRow encStr (Go.Sort.ahead w n) g 0 d).heap[g]? = some (.cells (putCells encStr 0 d cur) 9 (0, 0)) := by
  unfold putRow mapBlock Go.Sort.ahead
  simp only [Array.getElem?_modify, if_true, hg]
  rfl
theorem putS_other {w : World} {g n k : Nat} {d : Array Wd} (hk : k ≠ g) : (putRow encStr (Go.Sort.ahead w n) g 0 d).heap[k]? = w.heap[k]? := by
  unfold putRow mapBlock Go.Sort.ahead
  simp only [Array.getElem?_modify]
  rw [if_neg (Ne.symm hk)]
theorem putS_size {w : World} {g n : Nat} {d : Array Wd} : (putRow encStr (Go.Sort.ahead w n) g 0 d).heap.size = w.heap.size := by
  unfold putRow mapBlock Go.Sort.ahead; simp
theorem putS_own {w' : World} {base g cap : Nat} {D : List Wd} {cur : Array Value} (hb : base ≤ g) (hput : w'.heap[g]? = some (.cells (putCells encStr 0 D.toArray cur) 9 (0, 0))) (hs : cur.size = cap * 1) (hc : D.length ≤ cap) (hm : cap ≤ maxLen) : OwnS w' base (.slice (some ⟨g, 0, none⟩) D.length cap) D := by
  refine ⟨by rw [flatS_length, Nat.mul_one], .inr ⟨g, cap, _, rfl, hb, hput, hc, hm, ?_, ?_⟩⟩
  · unfold putCells
    rw [Array.size_mapIdx, hs]
  · apply List.ext_getElem?
    intro i
    rw [List.getElem?_take, Nat.mul_one]
    by_cases hi : i < D.length
    · have hic : i < cur.size := by rw [hs]; omega
      rw [if_pos hi, Array.getElem?_toList, flatS_get _ _ hi]
      unfold putCells
      rw [Array.getElem?_mapIdx, Array.getElem?_eq_getElem hic, Option.map_some, if_pos ⟨Nat.zero_le _, by simp; omega⟩, Nat.sub_zero, get_bangS hi]
      rfl
    · rw [if_neg hi, List.getElem?_eq_none (by rw [flatS_length]; omega)]
theorem Sort_strs (base : Nat) (v : Value) (L : List Wd) (w : World) (h : OwnS w base v L) (hn : L.length ≤ 1000000) :
    Calls Tryd.prog 25 #[v] w fun e w' => e = .returned (.tuple #[]) ∧ OwnS w' base v (L.mergeSort fun x y => decide (x ≤ y)) ∧ w.grownBy w' v.ownBlock := by
  rcases h.2 with ⟨rfl, h0⟩ | ⟨g, cap', cur, rfl, hbg, hg, hnc, hm, hs, ht⟩
  · have : L = [] := List.eq_nil_of_length_eq_zero h0
    subst this
    have hcon := Go.Proofs.AnyM.slices_Sort_string_none Tryd.sortS none 0 w
    change Calls Tryd.prog 25 _ _ _ at hcon
    refine hcon.mono ?_
    rintro e w' ⟨rfl, rfl⟩
    exact ⟨rfl, by rw [show ([] : List Wd).mergeSort (fun x y => decide (x ≤ y)) = [] by simp]; exact h, World.grownBy.refl _ _⟩
  · have hlt : g < w.heap.size := (Array.getElem?_eq_some_iff.1 hg).1
    have hcon := Go.Proofs.AnyM.slices_Sort_string Tryd.sortS g 0 cap' L w (holds_strs h hg) hlt (by omega)
    change Calls Tryd.prog 25 _ _ _ at hcon
    refine hcon.mono ?_
    rintro e w' ⟨rfl, q, os, rfl⟩
    have hl : (L.mergeSort fun x y => decide (x ≤ y)).length = L.length := List.length_mergeSort _
    refine ⟨rfl, ?_, rfl, rfl, rfl, ?_, fun k hk hne => ?_⟩
    · have := putS_own (w' := grow (putRow encStr (Go.Sort.ahead w q) g 0 (L.mergeSort fun x y => decide (x ≤ y)).toArray) os) (base := base) (g := g) (cap := cap') (D := L.mergeSort fun x y => decide (x ≤ y)) (cur := cur) hbg ((heap_grow_old _ _ (by rw [putS_size]; exact hlt)).trans (putS_block hg)) hs (by rw [hl]; exact hnc) hm
      rw [hl] at this
      exact this
    · show w.heap.size ≤ ((putRow encStr (Go.Sort.ahead w q) g 0 _).heap ++ os).size
      rw [Array.size_append, putS_size]; omega
    · rw [heap_grow_old _ _ (by rw [putS_size]; exact hk)]
      exact putS_other (fun e => hne (by rw [e]; rfl))
theorem Clone_strs (ao : Option Addr) (n cap : Nat) (L : List Wd) (w : World) (h : IsS w ao n cap L) (hn : n ≤ 100000) :
    Calls Tryd.prog 20 #[.slice ao n cap] w fun e w' => ∃ v, e = .returned v ∧ OwnS w' w.heap.size v L ∧ Below w.heap.size w w' := by
  obtain ⟨hl, hnc, hcm, hat, hno⟩ := h
  cases ao with
  | none =>
    obtain ⟨rfl, rfl⟩ := hno rfl
    obtain rfl : L = [] := List.eq_nil_of_length_eq_zero hl
    have hcon := Go.Proofs.AnyG.slices_Clone_string_nil Tryd.cloneS 0 0 w
    change Calls Tryd.prog 20 _ _ _ at hcon
    refine hcon.mono ?_
    rintro e w' ⟨rfl, rfl⟩
    exact ⟨_, rfl, OwnS.nil _ _, Below.refl _ _⟩
  | some a =>
    by_cases h0 : n = 0
    · subst h0
      obtain rfl : L = [] := List.eq_nil_of_length_eq_zero hl
      have hcon := Go.Proofs.AnyG.slices_Clone_string_zero Tryd.cloneS a cap w
      change Calls Tryd.prog 20 _ _ _ at hcon
      refine hcon.mono ?_
      rintro e w' ⟨v, rfl, ho, _, hb⟩
      exact ⟨v, rfl, ho, hb⟩
    · obtain ⟨b, off, e, hc⟩ := hat (by omega)
      cases e
      have hcon := Go.Proofs.AnyG.slices_Clone_string Tryd.cloneS b off n cap (L.map bs) w (by simp [hl]) (by omega) (fun j hj => by
        have hj' : j < n := by simpa [hl] using hj
        rw [hc j hj']
        simp [List.getD_eq_getElem?_getD, List.getElem?_eq_getElem (show j < L.length by omega)])
      change Calls Tryd.prog 20 _ _ _ at hcon
      refine hcon.mono ?_
      rintro e w' ⟨v, rfl, ho, _, hb⟩
      refine ⟨v, rfl, ?_, hb⟩
      unfold OwnS
      have e2 : ((L.map bs).take n).map Value.string = flatS L := by
        rw [List.take_of_length_le (by simp [hl])]
        simp [flatS, Function.comp_def]
      rw [hl, ← e2]
      exact ho
/-- what the library's own variables hold. -/
structure Tb (w : World) : Prop where
  tab : Lib.TabIs Tryd.prog w "strings.asciiSpace" .u8 Lib.asciiSpaceTab
  max : ∃ m, w.cell? ⟨2, 0, none⟩ = some (.int .i64 m)
theorem tab_later {w w' : World} {zs : List Int} (h : Lib.TabIs Tryd.prog w "strings.asciiSpace" .u8 zs) (hb : Below w.heap.size w w') : Lib.TabIs Tryd.prog w' "strings.asciiSpace" .u8 zs := by
  unfold Lib.TabIs World.var? at h ⊢
  rw [show Tryd.prog.globalNamed "strings.asciiSpace" = some 0 by kernel_rfl] at h ⊢
  simp only [Option.bind_some] at h ⊢
  cases hh : w.heap[0]? with
  | none => rw [hh] at h; cases h
  | some o =>
    rw [hb.block _ (heap_lt2 hh)]
    exact h
theorem Tb.later {w w' : World} (h : Tb w) (hb : Below w.heap.size w w') : Tb w' := by
  obtain ⟨h1, m, h2⟩ := h
  exact ⟨tab_later h1 hb, m, (hb.cell (block_lt_of_cell h2)).trans h2⟩
theorem Fields_any (T : Wd) (w : World) (h : Tb w) (hs : T.length ≤ 1000000) (ha : T.all (fun b => decide (b.toNat < 128)) = true) :
    Calls Tryd.prog 22 #[sV T] w fun e w' => e = .returned (.slice (some ⟨w.heap.size, 0, none⟩) (Lib.fields T).length (Lib.fields T).length) ∧ w' = w.alloc (.cells (flatS (Lib.fields T)).toArray 9) := by
  have hcon := Go.Proofs.Any.strings_Fields Tryd.fieldsS (by kernel_rfl) (by kernel_rfl) (bs T) w (by unfold bs ByteArray.size; simp; omega) (fun j b hj => by
    rw [data_bs] at hj
    have := List.all_eq_true.1 ha b (List.mem_of_getElem? hj)
    exact of_decide_eq_true this) h.tab
  change Calls Tryd.prog 22 _ _ _ at hcon
  rw [data_bs] at hcon
  refine hcon.mono ?_
  rintro e w' ⟨rfl, rfl⟩
  exact ⟨rfl, rfl⟩
theorem Cut_any (s sep : Wd) (w : World) (h : Tb w) (hs : s.length ≤ 1000000) :
    Calls Tryd.prog 23 #[sV s, sV sep] w fun e w' => e = .returned (.tuple #[sV (Lib.cut s sep).1, sV (Lib.cut s sep).2.1, .bool (Lib.cut s sep).2.2]) ∧ Below w.heap.size w w' := by
  obtain ⟨m, hm⟩ := h.max
  have hcon := Go.Proofs.Any.strings_Cut Tryd.cutS (bs s) (bs sep) m w (by unfold bs ByteArray.size; simp; omega) hm
  change Calls Tryd.prog 23 _ _ _ at hcon
  rw [data_bs, data_bs] at hcon
  refine hcon.mono ?_
  rintro e w' ⟨rfl, q, rfl⟩
  exact ⟨rfl, below_drewN (Below.refl _ _) q⟩
theorem Rep_any (s : Wd) (w : World) (h : Tb w) (hs : s.length ≤ 1000000) :
    Calls Tryd.prog 24 #[sV s, sV [95], sV [32]] w fun e w' => e = .returned (sV (Lib.replaceAll s [95] [32])) ∧ Below w.heap.size w w' := by
  obtain ⟨m, hm⟩ := h.max
  have hX : Builder.Extra Tryd.prog Tryd.repS_ren := { sizeBuilder := by kernel_rfl, liesBuilder := by kernel_rfl, t5 := Tryd.underlying5, a5 := Tryd.isAgg5, z5 := Tryd.sizeOf5, v5 := Tryd.zeroValue5, infoByte := by kernel_rfl, cellsByte := by kernel_rfl, sizeByte := by kernel_rfl, neB5 := by decide }
  have hsz : (bs s).size = s.length := by unfold bs ByteArray.size; simp
  have h1 : (bs [95]).size = 1 := rfl
  have h2 : (bs [32]).size = 1 := rfl
  have hmul := Lib.countB_mul_le (bs [95]) (by rw [h1]; exact Nat.le_refl _) (bs s).size (bs s) (Nat.le_refl _)
  have hcon := Go.Proofs.Any.strings_ReplaceAll Tryd.repS hX (bs s) (bs [95]) (bs [32]) m w (by omega) hm (by rw [h1]; exact Nat.le_refl _) (by rw [h1] at hmul; rw [h2]; omega)
  change Calls Tryd.prog 24 _ _ _ at hcon
  rw [data_bs, data_bs, data_bs] at hcon
  refine hcon.mono ?_
  rintro e w' ⟨rfl, hb⟩
  exact ⟨rfl, hb⟩
end Go.Proofs.YtbgihfjagfbfgaaDoor

/- boxtree: a part of the order is sorted -/
import Derived.Test.YtlmmejdcjhbppaaMBCmp
import Derived.Test.YtlmmejdcjhbppaaMSSort
import Derived.Test.YtlmmejdcjhbppaaMBAround
set_option linter.unusedSimpArgs false
set_option linter.unusedVariables false
namespace Go.Proofs.Ytlmmejdcjhbppaa
open Go.RowKit Go.Sort Go.Geo
/-- nothing that was there has turned but one block. -/
structure But (g : Nat) (w w' : World) : Prop where
  os : w'.os = w.os
  tape : w'.tape = w.tape
  output : w'.output = w.output
  size : w.heap.size ≤ w'.heap.size
  block : ∀ k, k < w.heap.size → k ≠ g → w'.heap[k]? = w.heap[k]?
theorem But.below {g B : Nat} {w w' : World} (h : But g w w') (hB : B ≤ g) (hw : B ≤ w.heap.size) : Below B w w' := ⟨h.os, h.tape, h.output, h.size, fun k hk => h.block k (by omega) (by omega)⟩
theorem But.cell {g q o : Nat} {w w' : World} {v : Value} (h : But g w w') (hq : q ≠ g) (hc : w.cell? ⟨q, o, none⟩ = some v) : w'.cell? ⟨q, o, none⟩ = some v := by
  have hb := h.block q (block_lt_of_cell hc) hq
  unfold World.cell? at *
  simp only at *
  rw [hb]; exact hc
theorem IsX.but {g : Nat} {w w' : World} {la : Option Addr} {n lc : Nat} {L : List Bx} (hX : IsX w la n lc L) (h : But g w w') (hq : ∀ b off, la = some ⟨b, off, none⟩ → b ≠ g) : IsX w' la n lc L := by
  obtain ⟨h1, h2, h3, h4, h5⟩ := hX
  refine ⟨h1, h2, h3, h4, fun hn => ?_⟩
  obtain ⟨b, off, e, hc⟩ := h5 hn
  refine ⟨b, off, e, fun i hi k hk => ?_⟩
  have h0 := hc i hi k hk
  have hl : k < (rowX (L.getD i bx0)).length := hk
  rw [List.getElem?_eq_getElem hl] at h0 ⊢
  exact h.cell (hq b off e) h0
theorem TreeRow.but {w w' : World} {g og : Nat} {lv ov nv : Value} (h : TreeRow w g lv ov nv) (hb : But og w w') (hg : g ≠ og) : TreeRow w' g lv ov nv := (hb.block g (heap_lt2 h) hg).trans h
abbrev Idx (n : Nat) := {x : Int // 0 ≤ x ∧ x < n}
def encX (n : Nat) (x : Idx n) : Value := .int .i64 x.1
def cfX (L : List Bx) (ac : Bool) (n : Nat) (x y : Idx n) : Int := ordI L ac x.1 y.1
theorem swoX (L : List Bx) (ac : Bool) (n : Nat) : SWO (Go.Proofs.ltOf (cfX L ac n)) := by
  refine ⟨fun x => ?_, fun x y z h1 h2 => ?_, fun x y z h1 h2 => ?_⟩
  · unfold Go.Proofs.ltOf cfX
    rw [decide_eq_false_iff_not, ordI_lt]; exact ltI_irrefl _ _ _
  · unfold Go.Proofs.ltOf cfX at *
    rw [decide_eq_true_eq, ordI_lt] at *
    exact ltI_trans h1 h2
  · unfold Go.Proofs.ltOf cfX at *
    rw [decide_eq_false_iff_not, ordI_lt] at *
    unfold ltI at *
    omega
theorem oneX (n : Nat) : Go.Proofs.OneCell (encX n) := fun _ => rfl
theorem enters_part : ∀ args w, (callFunc 42 args).run Try.prog w = .ok (.enter 42 args) w := enters_of Try.func42 (by kernel_rfl) rfl
theorem idx_get {n : Nat} [Inhabited (Idx n)] (d : Array (Idx n)) (i : Nat) (h : i < d.size) : (d[i]!).1 = (d.toList.map (·.1)).getD i 0 := by
  rw [getElem!_pos d i h, List.getD_eq_getElem?_getD, List.getElem?_map, Array.getElem?_toList, Array.getElem?_eq_getElem h]
  rfl
theorem sortWorld_but {α : Type} [Inhabited α] (enc : α → Value) (w : World) (g off m : Nat) (dk : Array α) (os : Array Obj) : But g w (Go.Proofs.sortWorld enc w g off m dk os) := by
  refine ⟨rfl, rfl, rfl, ?_, fun k hk hg => ?_⟩
  · unfold Go.Proofs.sortWorld putRow mapBlock Go.Sort.ahead grow
    simp
  · unfold Go.Proofs.sortWorld
    rw [heap_grow_old _ _ (by unfold putRow mapBlock Go.Sort.ahead; simpa using hk)]
    unfold putRow mapBlock Go.Sort.ahead
    simp only [Array.getElem?_modify]
    rw [if_neg (fun e => hg e.symm)]
/-- a list with a part put anew. -/
def putSeg (O : List Int) (f t : Nat) (S : List Int) : List Int := O.take f ++ S ++ O.drop t
theorem putSeg_len {O S : List Int} {f t : Nat} (h : f ≤ t) (ht : t ≤ O.length) (hS : S.length = t - f) : (putSeg O f t S).length = O.length := by
  unfold putSeg
  rw [List.length_append, List.length_append, List.length_take, List.length_drop]
  omega
theorem putSeg_get {O S : List Int} {f t : Nat} (h : f ≤ t) (ht : t ≤ O.length) (hS : S.length = t - f) (k : Nat) : (putSeg O f t S).getD k 0 = if f ≤ k ∧ k < t then S.getD (k - f) 0 else O.getD k 0 := by
  unfold putSeg
  rw [List.getD_eq_getElem?_getD]
  by_cases h1 : k < f
  · rw [if_neg (by omega), List.append_assoc, List.getElem?_append_left (by rw [List.length_take]; omega), List.getElem?_take, if_pos h1, List.getD_eq_getElem?_getD]
  · by_cases h2 : k < t
    · rw [if_pos (by omega), List.getElem?_append_left (by rw [List.length_append, List.length_take]; omega), List.getElem?_append_right (by rw [List.length_take]; omega), List.length_take, List.getD_eq_getElem?_getD]
      congr 2
      omega
    · rw [if_neg (by omega), List.getElem?_append_right (by rw [List.length_append, List.length_take]; omega), List.length_append, List.length_take, List.getElem?_drop, List.getD_eq_getElem?_getD]
      congr 2
      omega
theorem putSeg_seg {O S : List Int} {f t : Nat} (h : f ≤ t) (ht : t ≤ O.length) (hS : S.length = t - f) : seg (putSeg O f t S) f t = S := by
  apply List.ext_getElem?
  intro i
  unfold seg putSeg
  rw [List.getElem?_take]
  by_cases hi : i < t - f
  · rw [if_pos hi, List.getElem?_drop, List.getElem?_append_left (by rw [List.length_append, List.length_take]; omega), List.getElem?_append_right (by rw [List.length_take]; omega), List.length_take]
    congr 1
    omega
  · rw [if_neg hi, List.getElem?_eq_none (by omega)]
theorem putSeg_perm {O S : List Int} {f t : Nat} (h : f ≤ t) (hp : S.Perm (seg O f t)) : (putSeg O f t S).Perm O := by
  have e : O = O.take f ++ seg O f t ++ O.drop t := by
    unfold seg
    rw [List.append_assoc]
    conv => lhs; rw [← List.take_append_drop f O]
    congr 1
    conv => lhs; rw [← List.take_append_drop (t - f) (O.drop f)]
    rw [List.drop_drop, show f + (t - f) = t by omega]
  conv => rhs; rw [e]
  exact (List.Perm.append_left _ hp).append_right _
theorem SortB_any (base og oc : Nat) (O : List Int) (la : Option Addr) (n lc : Nat) (L : List Bx) (ov nv : Value) (g tb ab : Nat) (ac : Bool) (f t : Nat) (w : World)
    (hO : OwnI w base (.slice (some ⟨og, 0, none⟩) O.length oc) O) (hX : IsX w la n lc L) (hin : InB L) (hrow : TreeRow w g (.slice la n lc) ov nv) (htb : w.cell? ⟨tb, 0, none⟩ = some (.pointer (some ⟨g, 0, none⟩))) (hab : w.cell? ⟨ab, 0, none⟩ = some (.bool ac))
    (ng : g ≠ og) (nt : tb ≠ og) (na : ab ≠ og) (nl : ∀ b off, la = some ⟨b, off, none⟩ → b ≠ og) (hft : f + 2 ≤ t) (hto : t ≤ O.length) (hn : O.length ≤ 100000) (hmem : ∀ x ∈ O, 0 ≤ x ∧ x < n) (hnd : O.Nodup) :
    Calls Try.prog 41 #[.slice (some ⟨og, f, none⟩) (t - f) (oc - f), .func (.func 42) #[] #[.pointer (some ⟨tb, 0, none⟩), .pointer (some ⟨ab, 0, none⟩)]] w fun e w' => e = .returned (.tuple #[]) ∧ ∃ S, S.Perm (seg O f t) ∧ S.Pairwise (ltI L ac) ∧ OwnI w' base (.slice (some ⟨og, 0, none⟩) O.length oc) (putSeg O f t S) ∧ But og w w' := by
  have hown := hO
  rcases hO.2 with ⟨h0, _⟩ | ⟨g', cap', cur, e0, hbg, hg, hnc, hm, hs, ht⟩
  · cases h0
  · injection e0 with e1 _ e3
    injection e1 with e1
    injection e1 with e1
    subst e1
    subst e3
    have hlt : og < w.heap.size := heap_lt2 hg
    obtain ⟨M, hMe⟩ : ∃ M, M = seg O f t := ⟨_, rfl⟩
    have hMl : M.length = t - f := by rw [hMe]; exact seg_length hto
    have hMm : ∀ x ∈ M, 0 ≤ x ∧ x < n := fun x hx => hmem x (by rw [hMe] at hx; exact List.mem_of_mem_drop (List.mem_of_mem_take hx))
    have hMnd : M.Nodup := by rw [hMe]; exact (hnd.sublist (List.drop_sublist _ _)).sublist (List.take_sublist _ _)
    obtain ⟨x0, hx0⟩ := List.exists_mem_of_ne_nil M (by intro e; rw [e] at hMl; simp at hMl; omega)
    letI : Inhabited (Idx n) := ⟨⟨x0, hMm x0 hx0⟩⟩
    obtain ⟨D, hD⟩ : ∃ D : List (Idx n), D.map (·.1) = M := ⟨M.pmap Subtype.mk hMm, by simp [List.map_pmap]⟩
    have hDl : D.length = M.length := by rw [← hD, List.length_map]
    have hcmp : Go.Proofs.CmpLays1 Try.prog 42 #[.pointer (some ⟨tb, 0, none⟩), .pointer (some ⟨ab, 0, none⟩)] (encX n) (cfX L ac n) og f D.toArray.size w := by
      intro m dos dk _ x y
      have hbw := sortWorld_but (encX n) w og f m dk dos
      obtain ⟨p, hp⟩ : ∃ p : Nat, x.1 = (p : Int) := ⟨x.1.toNat, by have := x.2; omega⟩
      obtain ⟨q, hq⟩ : ∃ p : Nat, y.1 = (p : Int) := ⟨y.1.toNat, by have := y.2; omega⟩
      have hc := ordB_any la n lc L ov nv g tb ab ac p q _ (hX.but hbw nl) hin (hrow.but hbw ng) (hbw.cell nt htb) (hbw.cell na hab) (by have := x.2; omega) (by have := y.2; omega)
      rw [← hp, ← hq] at hc
      refine hc.mono ?_
      rintro e w' ⟨he, hgr⟩
      exact ⟨he, hgr.grow⟩
    have hH : Holds (encX n) w og f D.toArray := by
      intro j hj
      have hj' : j < D.length := by simpa using hj
      have hc := World.ownsRow.cells hown (g := og) rfl (f + j) _ (flatI_get O (f + j) (by omega))
      have e : (⟨og, 0, none⟩ : Addr).add (f + j) = ⟨og, 0 + (f + j), none⟩ := by unfold Addr.add; split <;> simp_all
      rw [e, Nat.zero_add] at hc
      refine ⟨?_, frozen_of_row _ _ _ _ _ hg⟩
      rw [hc]
      unfold encX
      rw [idx_get _ _ hj, List.toList_toArray, hD, hMe, seg_getD (by omega)]
    have hcon := Go.Proofs.Any.slices_SortFunc Try.sortF (encX n) (oneX n) (cfX L ac n) (swoX L ac n) 42 #[.pointer (some ⟨tb, 0, none⟩), .pointer (some ⟨ab, 0, none⟩)] og f (oc - f) D.toArray w enters_part hcmp hH hlt (by simp; omega)
    change Calls Try.prog 41 _ _ _ at hcon
    rw [List.size_toArray, hDl, hMl] at hcon
    refine hcon.mono ?_
    rintro e w' ⟨rfl, d', q, dos, hp, hso, rfl⟩
    obtain ⟨hsz0, _, hperm⟩ := hp
    have hsz : d'.size = t - f := by rw [hsz0]; simp; omega
    obtain ⟨S, hS⟩ : ∃ S, S = d'.toList.map (·.1) := ⟨_, rfl⟩
    have hSl : S.length = t - f := by rw [hS, List.length_map, Array.length_toList, hsz]
    have hbut := sortWorld_but (encX n) w og f q d' dos
    have hput : (Go.Proofs.sortWorld (encX n) w og f q d' dos).heap[og]? = some (.cells (putCells (encX n) f d' cur) 3 (0, 0)) := by
      unfold Go.Proofs.sortWorld
      rw [heap_grow_old _ _ (by unfold putRow mapBlock Go.Sort.ahead; simpa using hlt)]
      unfold putRow mapBlock Go.Sort.ahead
      simp only [Array.getElem?_modify, if_true, hg]
      rfl
    have hSp : S.Perm M := by
      have hl : D.length = d'.size := by omega
      rw [hS, ← hD]
      have e1 : (d'.extract 0 (t - f)).toList = d'.toList := by
        rw [show t - f = d'.size from hsz.symm]; simp
      have e2 : (D.toArray.extract 0 (t - f)).toList = D := by
        rw [show t - f = D.length by omega]; simp
      rw [e1, e2] at hperm
      exact hperm.map _
    refine ⟨rfl, S, hMe ▸ hSp, ?_, ?_, hbut⟩
    · have hnd' : S.Nodup := hSp.nodup_iff.2 hMnd
      rw [List.pairwise_iff_getElem]
      intro i j hi hj hij
      have := hso i j (Nat.zero_le _) hij (by omega)
      unfold Go.Proofs.ltOf cfX at this
      rw [decide_eq_false_iff_not, ordI_lt, idx_get _ _ (by omega), idx_get _ _ (by omega), ← hS, List.getD_eq_getElem?_getD, List.getD_eq_getElem?_getD, List.getElem?_eq_getElem hi, List.getElem?_eq_getElem hj, Option.getD_some, Option.getD_some] at this
      rcases ltI_total L ac S[i] S[j] with h | h | h
      · exact h
      · exact absurd h ((List.pairwise_iff_getElem.1 hnd') i j hi hj hij)
      · exact absurd h this
    · have hlen := putSeg_len (O := O) (S := S) (f := f) (t := t) (by omega) hto hSl
      refine ⟨by rw [flatI_length, Nat.mul_one], .inr ⟨og, oc, _, by rw [hlen], hbg, hput, by rw [hlen]; exact hnc, hm, ?_, ?_⟩⟩
      · unfold putCells
        rw [Array.size_mapIdx, hs]
      · apply List.ext_getElem?
        intro i
        rw [List.getElem?_take, hlen, Nat.mul_one]
        by_cases hi : i < O.length
        · have hic : i < cur.size := by rw [hs]; omega
          rw [if_pos hi, Array.getElem?_toList, flatI_get _ _ (by rw [hlen]; exact hi), putSeg_get (by omega) hto hSl]
          unfold putCells
          rw [Array.getElem?_mapIdx, Array.getElem?_eq_getElem hic, Option.map_some]
          by_cases hb : f ≤ i ∧ i < t
          · rw [if_pos ⟨hb.1, by omega⟩, if_pos hb]
            unfold encX
            rw [idx_get _ _ (by omega), ← hS]
          · rw [if_neg (by omega), if_neg hb]
            have h1 := flatI_get O i hi
            rw [← ht, List.getElem?_take, if_pos (by omega), Array.getElem?_toList, Array.getElem?_eq_getElem hic] at h1
            exact h1
        · rw [if_neg hi, List.getElem?_eq_none (by rw [flatI_length, hlen]; omega)]
end Go.Proofs.Ytlmmejdcjhbppaa

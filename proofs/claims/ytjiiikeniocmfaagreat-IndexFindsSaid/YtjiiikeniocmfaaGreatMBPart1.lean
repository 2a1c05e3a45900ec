/- boxtree: a part of the order is sorted -/
import Derived.Test.YtjiiikeniocmfaaGreatMBAround
import Derived.Test.YtjiiikeniocmfaaGreatMSlabW
import Derived.Test.YtjiiikeniocmfaaGreatMSBuild0
set_option linter.unusedSimpArgs false
set_option linter.unusedVariables false
namespace Go.Proofs.YtjiiikeniocmfaaGreat
open Go.RowKit Go.Sort Go.Geo
/-- nothing that was there has turned but one block. -/
structure But (g : Nat) (w w' : World) : Prop where
  os : w'.os = w.os
  tape : w'.tape = w.tape
  output : w'.output = w.output
  size : w.heap.size ≤ w'.heap.size
  block : ∀ k, k < w.heap.size → k ≠ g → w'.heap[k]? = w.heap[k]?
theorem But.below {g B : Nat} {w w' : World} (h : But g w w') (hB : B ≤ g) (hw : B ≤ w.heap.size) : Below B w w' := ⟨h.os, h.tape, h.output, h.size, fun k hk => h.block k (by omega) (by omega)⟩
theorem But.cell {g q o : Nat} {w w' : World} {v : Value} (h : But g w w') (hq : q ≠ g) (hc : w.cell? ⟨q, o, none⟩ = some v) : w'.cell? ⟨q, o, none⟩ = some v := by
  have hb := h.block q (block_lt_of_cell hc) hq
  unfold World.cell? at *
  simp only at *
  rw [hb]; exact hc
theorem IsX.but {g : Nat} {w w' : World} {la : Option Addr} {n lc : Nat} {L : List Bx} (hX : IsX w la n lc L) (h : But g w w') (hq : ∀ b off, la = some ⟨b, off, none⟩ → b ≠ g) : IsX w' la n lc L := by
  obtain ⟨h1, h2, h3, h4, h5⟩ := hX
  refine ⟨h1, h2, h3, h4, fun hn => ?_⟩
  obtain ⟨b, off, e, hc⟩ := h5 hn
  refine ⟨b, off, e, fun i hi k hk => ?_⟩
  have h0 := hc i hi k hk
  have hl : k < (rowX (L.getD i bx0)).length := hk
  rw [List.getElem?_eq_getElem hl] at h0 ⊢
  exact h.cell (hq b off e) h0
theorem TreeRow.but {w w' : World} {g og : Nat} {lv ov nv : Value} (h : TreeRow w g lv ov nv) (hb : But og w w') (hg : g ≠ og) : TreeRow w' g lv ov nv := (hb.block g (heap_lt2 h) hg).trans h
abbrev Idx (n : Nat) := {x : Int // 0 ≤ x ∧ x < n}
def encX (n : Nat) (x : Idx n) : Value := .int .i64 x.1
def cfX (L : List Bx) (ac : Bool) (n : Nat) (x y : Idx n) : Int := ordI L ac x.1 y.1
theorem swoX (L : List Bx) (ac : Bool) (n : Nat) : SWO (Go.Proofs.ltOf (cfX L ac n)) := by
  refine ⟨fun x => ?_, fun x y z h1 h2 => ?_, fun x y z h1 h2 => ?_⟩
  · unfold Go.Proofs.ltOf cfX
    rw [decide_eq_false_iff_not, ordI_lt]; exact ltI_irrefl _ _ _
  · unfold Go.Proofs.ltOf cfX at *
    rw [decide_eq_true_eq, ordI_lt] at *
    exact ltI_trans h1 h2
  · unfold Go.Proofs.ltOf cfX at *
    rw [decide_eq_false_iff_not, ordI_lt] at *
    unfold ltI at *
    omega
theorem oneX (n : Nat) : Go.Proofs.OneCell (encX n) := fun _ => rfl
theorem enters_part : ∀ args w, (callFunc 76 args).run Tryz.prog w = .ok (.enter 76 args) w := enters_of Tryz.func76 (by kernel_rfl) rfl
theorem idx_get {n : Nat} [Inhabited (Idx n)] (d : Array (Idx n)) (i : Nat) (h : i < d.size) : (d[i]!).1 = (d.toList.map (·.1)).getD i 0 := by
  rw [getElem!_pos d i h, List.getD_eq_getElem?_getD, List.getElem?_map, Array.getElem?_toList, Array.getElem?_eq_getElem h]
  rfl
theorem sortWorld_but {α : Type} [Inhabited α] (enc : α → Value) (w : World) (g off m : Nat) (dk : Array α) (os : Array Obj) : But g w (Go.Proofs.sortWorld enc w g off m dk os) := by
  refine ⟨rfl, rfl, rfl, ?_, fun k hk hg => ?_⟩
  · unfold Go.Proofs.sortWorld putRow mapBlock Go.Sort.ahead grow
    simp
  · unfold Go.Proofs.sortWorld
    rw [heap_grow_old _ _ (by unfold putRow mapBlock Go.Sort.ahead; simpa using hk)]
    unfold putRow mapBlock Go.Sort.ahead
    simp only [Array.getElem?_modify]
    rw [if_neg (fun e => hg e.symm)]
/-- a list with a part put anew. -/
def putSeg (O : List Int) (f t : Nat) (S : List Int) : List Int := O.take f ++ S ++ O.drop t
theorem putSeg_len {O S : List Int} {f t : Nat} (h : f ≤ t) (ht : t ≤ O.length) (hS : S.length = t - f) : (putSeg O f t S).length = O.length := by
  unfold putSeg
  rw [List.length_append, List.length_append, List.length_take, List.length_drop]
  omega
theorem putSeg_get {O S : List Int} {f t : Nat} (h : f ≤ t) (ht : t ≤ O.length) (hS : S.length = t - f) (k : Nat) : (putSeg O f t S).getD k 0 = if f ≤ k ∧ k < t then S.getD (k - f) 0 else O.getD k 0 := by
  unfold putSeg
  rw [List.getD_eq_getElem?_getD]
  by_cases h1 : k < f
  · rw [if_neg (by omega), List.append_assoc, List.getElem?_append_left (by rw [List.length_take]; omega), List.getElem?_take, if_pos h1, List.getD_eq_getElem?_getD]
  · by_cases h2 : k < t
    · rw [if_pos (by omega), List.getElem?_append_left (by rw [List.length_append, List.length_take]; omega), List.getElem?_append_right (by rw [List.length_take]; omega), List.length_take, List.getD_eq_getElem?_getD]
      congr 2
      omega
    · rw [if_neg (by omega), List.getElem?_append_right (by rw [List.length_append, List.length_take]; omega), List.length_append, List.length_take, List.getElem?_drop, List.getD_eq_getElem?_getD]
      congr 2
      omega
theorem putSeg_seg {O S : List Int} {f t : Nat} (h : f ≤ t) (ht : t ≤ O.length) (hS : S.length = t - f) : seg (putSeg O f t S) f t = S := by
  apply List.ext_getElem?
  intro i
  unfold seg putSeg
  rw [List.getElem?_take]
  by_cases hi : i < t - f
  · rw [if_pos hi, List.getElem?_drop, List.getElem?_append_left (by rw [List.length_append, List.length_take]; omega), List.getElem?_append_right (by rw [List.length_take]; omega), List.length_take]
    congr 1
    omega
  · rw [if_neg hi, List.getElem?_eq_none (by omega)]
theorem putSeg_perm {O S : List Int} {f t : Nat} (h : f ≤ t) (hp : S.Perm (seg O f t)) : (putSeg O f t S).Perm O := by
  have e : O = O.take f ++ seg O f t ++ O.drop t := by
    unfold seg
    rw [List.append_assoc]
    conv => lhs; rw [← List.take_append_drop f O]
    congr 1
    conv => lhs; rw [← List.take_append_drop (t - f) (O.drop f)]
    rw [List.drop_drop, show f + (t - f) = t by omega]
  conv => rhs; rw [e]
  exact (List.Perm.append_left _ hp).append_right _
theorem SortB_any (base og oc : Nat) (O : List Int) (la : Option Addr) (n lc : Nat) (L : List Bx) (ov nv : Value) (g tb ab : Nat) (ac : Bool) (f t : Nat) (w : World)
    (hO : OwnI w base (.slice (some ⟨og, 0, none⟩) O.length oc) O) (hX : IsX w la n lc L) (hin : InB L) (hrow : TreeRow w g (.slice la n lc) ov nv) (htb : w.cell? ⟨tb, 0, none⟩ = some (.pointer (some ⟨g, 0, none⟩))) (hab : w.cell? ⟨ab, 0, none⟩ = some (.bool ac))
    (ng : g ≠ og) (nt : tb ≠ og) (na : ab ≠ og) (nl : ∀ b off, la = some ⟨b, off, none⟩ → b ≠ og) (hft : f + 2 ≤ t) (hto : t ≤ O.length) (hn : O.length ≤ 100000) (hmem : ∀ x ∈ O, 0 ≤ x ∧ x < n) (hnd : O.Nodup) :
    Calls Tryz.prog 75 #[.slice (some ⟨og, f, none⟩) (t - f) (oc - f), .func (.func 76) #[] #[.pointer (some ⟨tb, 0, none⟩), .pointer (some ⟨ab, 0, none⟩)]] w fun e w' => e = .returned (.tuple #[]) ∧ ∃ S, S.Perm (seg O f t) ∧ S.Pairwise (ltI L ac) ∧ OwnI w' base (.slice (some ⟨og, 0, none⟩) O.length oc) (putSeg O f t S) ∧ But og w w' := by
  have hown := hO
  rcases hO.2 with ⟨h0, _⟩ | ⟨g', cap', cur, e0, hbg, hg, hnc, hm, hs, ht⟩
  · cases h0
  · injection e0 with e1 _ e3
    injection e1 with e1
    injection e1 with e1
    subst e1
    subst e3
    have hlt : og < w.heap.size := heap_lt2 hg
    obtain ⟨M, hMe⟩ : ∃ M, M = seg O f t := ⟨_, rfl⟩
    have hMl : M.length = t - f := by rw [hMe]; exact seg_length hto
    have hMm : ∀ x ∈ M, 0 ≤ x ∧ x < n := fun x hx => hmem x (by rw [hMe] at hx; exact List.mem_of_mem_drop (List.mem_of_mem_take hx))
    have hMnd : M.Nodup := by rw [hMe]; exact (hnd.sublist (List.drop_sublist _ _)).sublist (List.take_sublist _ _)
    obtain ⟨x0, hx0⟩ := List.exists_mem_of_ne_nil M (by intro e; rw [e] at hMl; simp at hMl; omega)
    letI : Inhabited (Idx n) := ⟨⟨x0, hMm x0 hx0⟩⟩
    obtain ⟨D, hD⟩ : ∃ D : List (Idx n), D.map (·.1) = M := ⟨M.pmap Subtype.mk hMm, by simp [List.map_pmap]⟩
    have hDl : D.length = M.length := by rw [← hD, List.length_map]
    have hcmp : Go.Proofs.CmpLays1 Tryz.prog 76 #[.pointer (some ⟨tb, 0, none⟩), .pointer (some ⟨ab, 0, none⟩)] (encX n) (cfX L ac n) og f D.toArray.size w := by
      intro m dos dk _ x y
      have hbw := sortWorld_but (encX n) w og f m dk dos
      obtain ⟨p, hp⟩ : ∃ p : Nat, x.1 = (p : Int) := ⟨x.1.toNat, by have := x.2; omega⟩
      obtain ⟨q, hq⟩ : ∃ p : Nat, y.1 = (p : Int) := ⟨y.1.toNat, by have := y.2; omega⟩
      have hc := ordB_any la n lc L ov nv g tb ab ac p q _ (hX.but hbw nl) hin (hrow.but hbw ng) (hbw.cell nt htb) (hbw.cell na hab) (by have := x.2; omega) (by have := y.2; omega)
      rw [← hp, ← hq] at hc
      refine hc.mono ?_
      rintro e w' ⟨he, hgr⟩
      exact ⟨he, hgr.grow⟩
    have hH : Holds (encX n) w og f D.toArray := by
      intro j hj
      have hj' : j < D.length := by simpa using hj
      have hc := World.ownsRow.cells hown (g := og) rfl (f + j) _ (flatI_get O (f + j) (by omega))
      have e : (⟨og, 0, none⟩ : Addr).add (f + j) = ⟨og, 0 + (f + j), none⟩ := by unfold Addr.add; split <;> simp_all
      rw [e, Nat.zero_add] at hc
      refine ⟨?_, frozen_of_row _ _ _ _ _ hg⟩
      rw [hc]
      unfold encX
      rw [idx_get _ _ hj, List.toList_toArray, hD, hMe, seg_getD (by omega)]
    have hcon := Go.Proofs.Any.slices_SortFunc Tryz.sortF (encX n) (oneX n) (cfX L ac n) (swoX L ac n) 76 #[.pointer (some ⟨tb, 0, none⟩), .pointer (some ⟨ab, 0, none⟩)] og f (oc - f) D.toArray w enters_part hcmp hH hlt (by simp; omega)
    change Calls Tryz.prog 75 _ _ _ at hcon
    rw [List.size_toArray, hDl, hMl] at hcon
    refine hcon.mono ?_
    rintro e w' ⟨rfl, d', q, dos, hp, hso, rfl⟩
    obtain ⟨hsz0, _, hperm⟩ := hp
    have hsz : d'.size = t - f := by rw [hsz0]; simp; omega
    obtain ⟨S, hS⟩ : ∃ S, S = d'.toList.map (·.1) := ⟨_, rfl⟩
    have hSl : S.length = t - f := by rw [hS, List.length_map, Array.length_toList, hsz]
    have hbut := sortWorld_but (encX n) w og f q d' dos
    have hput : (Go.Proofs.sortWorld (encX n) w og f q d' dos).heap[og]? = some (.cells (putCells (encX n) f d' cur) 3 (0, 0)) := by
      unfold Go.Proofs.sortWorld
      rw [heap_grow_old _ _ (by unfold putRow mapBlock Go.Sort.ahead; simpa using hlt)]
      unfold putRow mapBlock Go.Sort.ahead
      simp only [Array.getElem?_modify, if_true, hg]
      rfl
    have hSp : S.Perm M := by
      have hl : D.length = d'.size := by omega
      rw [hS, ← hD]
      have e1 : (d'.extract 0 (t - f)).toList = d'.toList := by
        rw [show t - f = d'.size from hsz.symm]; simp
      have e2 : (D.toArray.extract 0 (t - f)).toList = D := by
        rw [show t - f = D.length by omega]; simp
      rw [e1, e2] at hperm
      exact hperm.map _
    refine ⟨rfl, S, hMe ▸ hSp, ?_, ?_, hbut⟩
    · have hnd' : S.Nodup := hSp.nodup_iff.2 hMnd
      rw [List.pairwise_iff_getElem]
      intro i j hi hj hij
      have := hso i j (Nat.zero_le _) hij (by omega)
      unfold Go.Proofs.ltOf cfX at this
      rw [decide_eq_false_iff_not, ordI_lt, idx_get _ _ (by omega), idx_get _ _ (by omega), ← hS, List.getD_eq_getElem?_getD, List.getD_eq_getElem?_getD, List.getElem?_eq_getElem hi, List.getElem?_eq_getElem hj, Option.getD_some, Option.getD_some] at this
      rcases ltI_total L ac S[i] S[j] with h | h | h
      · exact h
      · exact absurd h ((List.pairwise_iff_getElem.1 hnd') i j hi hj hij)
      · exact absurd h this
    · have hlen := putSeg_len (O := O) (S := S) (f := f) (t := t) (by omega) hto hSl
      refine ⟨by rw [flatI_length, Nat.mul_one], .inr ⟨og, oc, _, by rw [hlen], hbg, hput, by rw [hlen]; exact hnc, hm, ?_, ?_⟩⟩
      · unfold putCells
        rw [Array.size_mapIdx, hs]
      · apply List.ext_getElem?
        intro i
        rw [List.getElem?_take, hlen, Nat.mul_one]
        by_cases hi : i < O.length
        · have hic : i < cur.size := by rw [hs]; omega
          rw [if_pos hi, Array.getElem?_toList, flatI_get _ _ (by rw [hlen]; exact hi), putSeg_get (by omega) hto hSl]
          unfold putCells
          rw [Array.getElem?_mapIdx, Array.getElem?_eq_getElem hic, Option.map_some]
          by_cases hb : f ≤ i ∧ i < t
          · rw [if_pos ⟨hb.1, by omega⟩, if_pos hb]
            unfold encX
            rw [idx_get _ _ (by omega), ← hS]
          · rw [if_neg (by omega), if_neg hb]
            have h1 := flatI_get O i hi
            rw [← ht, List.getElem?_take, if_pos (by omega), Array.getElem?_toList, Array.getElem?_eq_getElem hic] at h1
            exact h1
        · rw [if_neg hi, List.getElem?_eq_none (by rw [flatI_length, hlen]; omega)]
end Go.Proofs.YtjiiikeniocmfaaGreat

/- boxtree: a tree that is being made, in memory -/
set_option linter.unusedSimpArgs false
set_option linter.unusedVariables false
namespace Go.Proofs.YtjiiikeniocmfaaGreat
open Go.RowKit Go.Geo
theorem own_ltB {w : World} {base e s n : Nat} {v : Value} {xs : List Value} (h : w.ownsRow base e s v n xs) {k : Nat} (hk : v.ownBlock = some k) : base ≤ k ∧ k < w.heap.size := h.lt k hk
theorem own_typed {w : World} {base e s n : Nat} {v : Value} {xs : List Value} (h : w.ownsRow base e s v n xs) {k t : Nat} {c : Array Value} (hk : w.heap[k]? = some (.cells c t (0, 0))) (ht : t ≠ e) : v.ownBlock ≠ some k := by
  intro hv
  rcases h.2 with ⟨rfl, _⟩ | ⟨g, cap, cur, rfl, _, hg, _⟩
  · simp [Value.ownBlock] at hv
  · simp only [Value.ownBlock, Option.some.injEq] at hv
    subst hv
    rw [hg] at hk
    injection hk with hk
    injection hk with _ h2
    exact ht h2.symm
theorem own_ne {w : World} {base b2 e e' s s' : Nat} {v u : Value} {n m : Nat} {xs ys : List Value} (he : e ≠ e') (hv : w.ownsRow base e s v n xs) (hu : w.ownsRow b2 e' s' u m ys) {k : Nat} (hk : v.ownBlock = some k) : u.ownBlock ≠ some k := by
  rcases hv.2 with ⟨rfl, _⟩ | ⟨g, cap, cur, rfl, _, hg, _⟩
  · simp [Value.ownBlock] at hk
  · simp only [Value.ownBlock, Option.some.injEq] at hk
    subst hk
    exact own_typed hu hg he
/-- the three rows of a tree. -/
structure TOwn (B : Nat) (w : World) (g : Nat) (lv ov nv : Value) (L : List Bx) (O : List Int) (N : List Nd) : Prop where
  l : OwnX w B lv L
  o : OwnI w B ov O
  n : OwnN w B nv N
  low : B ≤ g
structure TMem (B : Nat) (w : World) (g : Nat) (lv ov nv : Value) (L : List Bx) (O : List Int) (N : List Nd) : Prop where
  row : TreeRow w g lv ov nv
  own : TOwn B w g lv ov nv L O N
/-- what stays: all that was there but the struct and the rows of the order and of the parts. -/
structure Kp (g : Nat) (ov nv nv' : Value) (W w : World) : Prop where
  os : w.os = W.os
  tape : w.tape = W.tape
  output : w.output = W.output
  size : W.heap.size ≤ w.heap.size
  keep : ∀ k, k < W.heap.size → k ≠ g → ov.ownBlock ≠ some k → nv.ownBlock ≠ some k → w.heap[k]? = W.heap[k]?
  fresh : ∀ k, nv'.ownBlock = some k → W.heap.size ≤ k ∨ nv.ownBlock = some k
theorem Kp.refl (g : Nat) (ov nv : Value) (W : World) : Kp g ov nv nv W W := ⟨rfl, rfl, rfl, Nat.le_refl _, fun _ _ _ _ _ => rfl, fun _ h => .inr h⟩
theorem Kp.trans {g : Nat} {ov nv n1 n2 : Value} {W w1 w2 : World} (h : Kp g ov nv n1 W w1) (k : Kp g ov n1 n2 w1 w2) : Kp g ov nv n2 W w2 := by
  refine ⟨k.os.trans h.os, k.tape.trans h.tape, k.output.trans h.output, Nat.le_trans h.size k.size, fun j hj hg ho hn => ?_, fun j hj => ?_⟩
  · refine (k.keep j (Nat.lt_of_lt_of_le hj h.size) hg ho fun e => ?_).trans (h.keep j hj hg ho hn)
    rcases h.fresh j e with h1 | h1
    · omega
    · exact hn h1
  · rcases k.fresh j hj with h1 | h1
    · exact .inl (Nat.le_trans h.size h1)
    · exact h.fresh j h1
theorem Kp.grew {g : Nat} {ov nv n1 : Value} {W w1 w2 : World} (h : Kp g ov nv n1 W w1) (k : Below w1.heap.size w1 w2) : Kp g ov nv n1 W w2 :=
  ⟨k.os.trans h.os, k.tape.trans h.tape, k.output.trans h.output, Nat.le_trans h.size k.size, fun j hj hg ho hn => (k.block j (Nat.lt_of_lt_of_le hj h.size)).trans (h.keep j hj hg ho hn), h.fresh⟩
theorem Kp.typed {B g : Nat} {lv ov nv nv' : Value} {W w : World} {L : List Bx} {O : List Int} {N : List Nd} (h : Kp g ov nv nv' W w) (hm : TMem B W g lv ov nv L O N) {k t : Nat} {c : Array Value} (hk : W.heap[k]? = some (.cells c t (0, 0))) (h1 : t ≠ 88) (h2 : t ≠ 3) (h3 : t ≠ 126) : w.heap[k]? = some (.cells c t (0, 0)) := by
  refine (h.keep k (heap_lt2 hk) (fun e => ?_) (own_typed hm.own.o hk h2) (own_typed hm.own.n hk h3)).trans hk
  subst e
  rw [hm.row] at hk
  injection hk with hk
  injection hk with _ e
  exact h1 e.symm
theorem Kp.below {B g : Nat} {lv ov nv nv' : Value} {W w : World} {L : List Bx} {O : List Int} {N : List Nd} (h : Kp g ov nv nv' W w) (hm : TMem B W g lv ov nv L O N) : Below B W w :=
  ⟨h.os, h.tape, h.output, h.size, fun k hk => by
    have hg := heap_lt2 hm.row
    have hl := hm.own.low
    exact h.keep k (by omega) (by omega) (fun e => by have := (own_ltB hm.own.o e).1; omega) (fun e => by have := (own_ltB hm.own.n e).1; omega)⟩
theorem TOwn.later {B g : Nat} {w w' : World} {lv ov nv : Value} {L : List Bx} {O : List Int} {N : List Nd} (h : TOwn B w g lv ov nv L O N) (hb : Below w.heap.size w w') : TOwn B w' g lv ov nv L O N := ⟨h.l.later hb, h.o.later hb, h.n.later hb, h.low⟩
theorem TMem.later {B g : Nat} {w w' : World} {lv ov nv : Value} {L : List Bx} {O : List Int} {N : List Nd} (h : TMem B w g lv ov nv L O N) (hb : Below w.heap.size w w') : TMem B w' g lv ov nv L O N := ⟨h.row.later hb, h.own.later hb⟩
/-- a step that turns the struct's own block. -/
theorem TOwn.set {B g o t : Nat} {w : World} {lv ov nv u : Value} {L : List Bx} {O : List Int} {N : List Nd} {c : Array Value} (h : TOwn B w g lv ov nv L O N) (hg : w.heap[g]? = some (.cells c t (0, 0))) (ht : t = 88) : TOwn B (w.setCell ⟨g, o, none⟩ u) g lv ov nv L O N := by
  subst ht
  have hk : ∀ k, k ≠ g → (w.setCell ⟨g, o, none⟩ u).heap[k]? = w.heap[k]? := fun k hk => Below.heap_setCell _ _ _ _ hk
  refine ⟨ownsRow_move h.l fun k e => hk k fun e2 => ?_, ownsRow_move h.o fun k e => hk k fun e2 => ?_, ownsRow_move h.n fun k e => hk k fun e2 => ?_, h.low⟩
  · subst e2; exact own_typed h.l hg (by decide) e
  · subst e2; exact own_typed h.o hg (by decide) e
  · subst e2; exact own_typed h.n hg (by decide) e
theorem TreeRow.set3 {w : World} {g : Nat} {lv ov nv : Value} (h : TreeRow w g lv ov nv) (u : Value) : TreeRow (w.setCell ⟨g, 3, none⟩ u) g lv ov u := heap_setCell_same _ _ 3 _ _ u h
theorem TreeRow.frozen {w : World} {g : Nat} {lv ov nv : Value} (h : TreeRow w g lv ov nv) (o : Nat) : w.frozen? ⟨g, o, none⟩ = false := frozen_of_row _ _ _ _ _ h
theorem Kp.set {g o : Nat} {ov nv n1 u : Value} {W w : World} (h : Kp g ov nv n1 W w) : Kp g ov nv n1 W (w.setCell ⟨g, o, none⟩ u) := by
  have hs := ((Below.refl 0 w).setCell (p := ⟨g, o, none⟩) (Nat.zero_le _) u)
  exact ⟨hs.os.trans h.os, hs.tape.trans h.tape, hs.output.trans h.output, Nat.le_trans h.size hs.size, fun k hk hg ho hn => (Below.heap_setCell _ _ _ _ hg).trans (h.keep k hk hg ho hn), h.fresh⟩
/-- the row of the parts grows. -/
theorem TOwn.growN {B g : Nat} {w w' : World} {lv ov nv n1 : Value} {L : List Bx} {O : List Int} {N M : List Nd} (h : TOwn B w g lv ov nv L O N) (hn : OwnN w' B n1 M) (hg : w.grownBy w' nv.ownBlock) : TOwn B w' g lv ov n1 L O M := by
  refine ⟨World.ownsRow.kept h.l hg (own_apart (by decide) h.n h.l), World.ownsRow.kept h.o hg (own_apart (by decide) h.n h.o), hn, h.low⟩
theorem TreeRow.grown {B g : Nat} {w w' : World} {lv ov nv : Value} {L : List Bx} {O : List Int} {N : List Nd} (h : TreeRow w g lv ov nv) (ho : TOwn B w g lv ov nv L O N) (hg : w.grownBy w' nv.ownBlock) : TreeRow w' g lv ov nv :=
  (hg.block g (heap_lt2 h) (fun e => own_typed ho.n h (by decide) e.symm)).trans h
theorem Kp.grown {g : Nat} {ov nv n1 n2 : Value} {W w w' : World} (h : Kp g ov nv n1 W w) (hg : w.grownBy w' n1.ownBlock) (hf : ∀ k, n2.ownBlock = some k → w.heap.size ≤ k ∨ n1.ownBlock = some k) : Kp g ov nv n2 W w' := by
  refine ⟨hg.os.trans h.os, hg.tape.trans h.tape, hg.output.trans h.output, Nat.le_trans h.size hg.size, fun k hk hkg ho hn => ?_, fun k hk => ?_⟩
  · refine (hg.block k (Nat.lt_of_lt_of_le hk h.size) fun e => ?_).trans (h.keep k hk hkg ho hn)
    rcases h.fresh k e.symm with h1 | h1
    · omega
    · exact hn h1
  · rcases hf k hk with h1 | h1
    · exact .inl (Nat.le_trans h.size h1)
    · exact h.fresh k h1
/-- the stages of 't.nodes = append(t.nodes, node{})'. -/
def StN (W : World) (B g : Nat) (lv ov nv n0 : Value) (L : List Bx) (O : List Int) (N : List Nd) (C : World → Prop) : List Value → World → Prop
  | [], w => TMem B w g lv ov nv L O N ∧ Kp g ov n0 nv W w ∧ C w
  | [a], w => TMem B w g lv ov nv L O N ∧ Kp g ov n0 nv W w ∧ C w ∧ ∃ k, a = .slice (some ⟨k, 0, none⟩) 1 1 ∧ IsN w (some ⟨k, 0, none⟩) 1 1 [nd0]
  | [_, b], w => TreeRow w g lv ov nv ∧ TOwn B w g lv ov b L O (N ++ [nd0]) ∧ Kp g ov n0 b W w ∧ C w
  | [_, b, _], w => TMem B w g lv ov b L O (N ++ [nd0]) ∧ Kp g ov n0 b W w ∧ C w
  | _, _ => False
end Go.Proofs.YtjiiikeniocmfaaGreat

/- boxtree: a part is laid: its frame, its node; the plain law of a part -/
set_option linter.unusedSimpArgs false
set_option linter.unusedVariables false
namespace Go.Proofs.YtjiiikeniocmfaaGreat
open Go.RowKit Go.Geo
/-- the boxes of a call's own. -/
structure Frm (tb ab g : Nat) (ac : Bool) (w : World) : Prop where
  t : w.heap[tb]? = some (.cells #[.pointer (some ⟨g, 0, none⟩)] 53 (0, 0))
  a : w.heap[ab]? = some (.cells #[.bool ac] 4 (0, 0))
theorem Frm.t0 {tb ab g : Nat} {ac : Bool} {w : World} (h : Frm tb ab g ac w) : w.cell? ⟨tb, 0, none⟩ = some (.pointer (some ⟨g, 0, none⟩)) := cell_of_row _ _ _ _ _ _ h.t
theorem Frm.a0 {tb ab g : Nat} {ac : Bool} {w : World} (h : Frm tb ab g ac w) : w.cell? ⟨ab, 0, none⟩ = some (.bool ac) := cell_of_row _ _ _ _ _ _ h.a
theorem Frm.later {tb ab g : Nat} {ac : Bool} {w w' : World} (h : Frm tb ab g ac w) (hb : Below w.heap.size w w') : Frm tb ab g ac w' := ⟨(hb.block _ (heap_lt2 h.t)).trans h.t, (hb.block _ (heap_lt2 h.a)).trans h.a⟩
theorem Frm.kp {tb ab g : Nat} {ac : Bool} {W w : World} {B : Nat} {lv ov nv nv' : Value} {L : List Bx} {O : List Int} {N : List Nd} (h : Frm tb ab g ac W) (hm : TMem B W g lv ov nv L O N) (hk : Kp g ov nv nv' W w) : Frm tb ab g ac w :=
  ⟨hk.typed hm h.t (by decide) (by decide) (by decide), hk.typed hm h.a (by decide) (by decide) (by decide)⟩
theorem Frm.grown {tb ab g : Nat} {ac : Bool} {w w' : World} {B : Nat} {lv ov nv : Value} {L : List Bx} {O : List Int} {N : List Nd} (h : Frm tb ab g ac w) (ho : TOwn B w g lv ov nv L O N) (hg : w.grownBy w' nv.ownBlock) : Frm tb ab g ac w' :=
  ⟨(hg.block _ (heap_lt2 h.t) (fun e => own_typed ho.n h.t (by decide) e.symm)).trans h.t, (hg.block _ (heap_lt2 h.a) (fun e => own_typed ho.n h.a (by decide) e.symm)).trans h.a⟩
theorem Frm.set {tb ab g o : Nat} {ac : Bool} {w : World} {lv ov nv u : Value} (h : Frm tb ab g ac w) (hr : TreeRow w g lv ov nv) : Frm tb ab g ac (w.setCell ⟨g, o, none⟩ u) := by
  have hk : ∀ k, k ≠ g → (w.setCell ⟨g, o, none⟩ u).heap[k]? = w.heap[k]? := fun k hk => Below.heap_setCell _ _ _ _ hk
  have hne : ∀ {k t : Nat} {c : Array Value}, w.heap[k]? = some (.cells c t (0, 0)) → t ≠ 88 → k ≠ g := fun {k t c} h1 h2 e => by
    subst e
    rw [hr] at h1
    injection h1 with h1
    injection h1 with _ e
    exact h2 e.symm
  exact ⟨(hk _ (hne h.t (by decide))).trans h.t, (hk _ (hne h.a (by decide))).trans h.a⟩
theorem own_cellN {w : World} {B nb n nc i o : Nat} {N : List Nd} (h : OwnN w B (.slice (some ⟨nb, 0, none⟩) n nc) N) (hi : i < N.length) (ho : o < 6) : ∃ v, w.cell? ⟨nb, i * 6 + o, none⟩ = some v ∧ w.frozen? ⟨nb, i * 6 + o, none⟩ = false := by
  rcases h.2 with ⟨e, _⟩ | ⟨g, cap, cur, e, _, hg, hn, hm, hs, _⟩
  · cases e
  · injection e with e _ _
    injection e with e
    injection e with e
    subst e
    have hl : i * 6 + o < cur.size := by rw [hs]; omega
    exact ⟨cur[i * 6 + o], (cell_of_row _ _ _ _ _ _ hg).trans (Array.getElem?_eq_getElem hl), frozen_of_row _ _ _ _ _ hg⟩
/-- a node, cell by cell. -/
def put6 (w : World) (g i : Nat) (e : Nd) : World := (((((w.setCell ⟨g, i * 6, none⟩ (.int .i64 (e.from_ : Int))).setCell ⟨g, i * 6 + 1, none⟩ (.int .i64 (e.to_ : Int))).setCell ⟨g, i * 6 + 2, none⟩ (.int .i64 e.all.1.x)).setCell ⟨g, i * 6 + 3, none⟩ (.int .i64 e.all.1.y)).setCell ⟨g, i * 6 + 4, none⟩ (.int .i64 e.all.2.x)).setCell ⟨g, i * 6 + 5, none⟩ (.int .i64 e.all.2.y)
theorem put6_other (w : World) (g i : Nat) (e : Nd) {k : Nat} (hk : k ≠ g) : (put6 w g i e).heap[k]? = w.heap[k]? := by
  unfold put6
  have h := fun (w : World) (o : Nat) (v : Value) => (Below.heap_setCell w ⟨g, o, none⟩ v k hk : (w.setCell ⟨g, o, none⟩ v).heap[k]? = w.heap[k]?)
  rw [h, h, h, h, h, h]
theorem TMem.putN {B g nb m nc i : Nat} {w : World} {lv ov nv : Value} {L : List Bx} {O : List Int} {N : List Nd} (h : TMem B w g lv ov nv L O N) (hv : nv = .slice (some ⟨nb, 0, none⟩) m nc) (hi : i < N.length) (hm : N.length = m) (e : Nd) : TMem B (put6 w nb i e) g lv ov nv L O (N.set i e) := by
  subst hm
  have hnb : nv.ownBlock = some nb := by rw [hv]; rfl
  obtain ⟨hr, hl, ho, hn, hlow⟩ := h
  have hgn : g ≠ nb := fun e => by subst e; exact own_typed hn hr (by decide) hnb
  refine ⟨(put6_other w nb i e hgn).trans hr, ownsRow_move hl fun k hk => put6_other w nb i e fun e2 => ?_, ownsRow_move ho fun k hk => put6_other w nb i e fun e2 => ?_, ?_, hlow⟩
  · subst e2; exact own_ne (by decide) hl hn hk hnb
  · subst e2; exact own_ne (by decide) ho hn hk hnb
  · rw [hv] at hn ⊢
    exact hn.put hi e
theorem Kp.put {g : Nat} {ov n0 nv : Value} {W w w' : World} {nb m nc : Nat} (h : Kp g ov n0 nv W w) (hv : nv = .slice (some ⟨nb, 0, none⟩) m nc) (hs : w'.os = w.os ∧ w'.tape = w.tape ∧ w'.output = w.output ∧ w.heap.size ≤ w'.heap.size) (ho : ∀ k, k ≠ nb → w'.heap[k]? = w.heap[k]?) : Kp g ov n0 nv W w' := by
  refine ⟨hs.1.trans h.os, hs.2.1.trans h.tape, hs.2.2.1.trans h.output, Nat.le_trans h.size hs.2.2.2, fun k hk hg h1 h2 => (ho k fun e => ?_).trans (h.keep k hk hg h1 h2), h.fresh⟩
  subst e
  rcases h.fresh k (by rw [hv]; rfl) with h3 | h3
  · omega
  · exact h2 h3
theorem put6_keeps (w : World) (g i : Nat) (e : Nd) : (put6 w g i e).os = w.os ∧ (put6 w g i e).tape = w.tape ∧ (put6 w g i e).output = w.output ∧ w.heap.size ≤ (put6 w g i e).heap.size := by
  have hb : Below 0 w (put6 w g i e) := by
    unfold put6
    have h := fun {w1 : World} (hb : Below 0 w w1) (o : Nat) (v : Value) => hb.setCell (p := ⟨g, o, none⟩) (Nat.zero_le _) v
    exact h (h (h (h (h (h (Below.refl _ _) _ _) _ _) _ _) _ _) _ _) _ _
  exact ⟨hb.os, hb.tape, hb.output, hb.size⟩
theorem Frm.putN {tb ab g nb m nc i : Nat} {ac : Bool} {w : World} {B : Nat} {lv ov nv : Value} {L : List Bx} {O : List Int} {N : List Nd} (h : Frm tb ab g ac w) (hm : TMem B w g lv ov nv L O N) (hv : nv = .slice (some ⟨nb, 0, none⟩) m nc) (e : Nd) : Frm tb ab g ac (put6 w nb i e) := by
  have hnb : nv.ownBlock = some nb := by rw [hv]; rfl
  refine ⟨(put6_other w nb i e fun e2 => ?_).trans h.t, (put6_other w nb i e fun e2 => ?_).trans h.a⟩
  · subst e2; exact own_typed hm.own.n h.t (by decide) hnb
  · subst e2; exact own_typed hm.own.n h.a (by decide) hnb
/-- the stages of 't.nodes[i] = node{from, to, t.around(from, to)}'. -/
def StA (W : World) (B g : Nat) (lv ov nv n0 : Value) (L : List Bx) (O : List Int) (N : List Nd) (i f t : Nat) (C : World → Prop) : List Value → World → Prop
  | [], w => TMem B w g lv ov nv L O N ∧ Kp g ov n0 nv W w ∧ C w
  | [a], w => TMem B w g lv ov nv L O N ∧ Kp g ov n0 nv W w ∧ C w ∧ ∃ b : Bx, a = boxV b.1 b.2 ∧ Around L (seg O f t) b ∧ (t = f + 1 → b = bxI L (O.getD f 0))
  | [_, c], w => TMem B w g lv ov nv L O N ∧ Kp g ov n0 nv W w ∧ C w ∧ ∃ b : Bx, c = valN ⟨f, t, b⟩ ∧ Around L (seg O f t) b ∧ (t = f + 1 → b = bxI L (O.getD f 0))
  | [_, _, _], w => ∃ b : Bx, TMem B w g lv ov nv L O (N.set i ⟨f, t, b⟩) ∧ Kp g ov n0 nv W w ∧ C w ∧ Around L (seg O f t) b ∧ (t = f + 1 → b = bxI L (O.getD f 0))
  | _, _ => False
/-- what is asked of a part. -/
structure PPre (B g : Nat) (lv ov : Value) (L : List Bx) (i f t : Nat) (w : World) (O : List Int) (N : List Nd) (nv : Value) : Prop where
  lt : f < t
  le : t ≤ O.length
  mem : TMem B w g lv ov nv L O N
  nodup : O.Nodup
  idx : ∀ x ∈ O, 0 ≤ x ∧ x < L.length
  few : O.length ≤ 1000
  small : N.length ≤ 5000
  at_ : i ≤ 4000
  deep : (i + 2) * (t - f - 1) ≤ 2000
structure PPost (B g : Nat) (lv ov nv : Value) (L : List Bx) (ac : Bool) (i f t : Nat) (O : List Int) (N : List Nd) (w w' : World) (O' : List Int) (N' : List Nd) (nv' : Value) : Prop where
  mem : TMem B w' g lv ov nv' L O' N'
  kp : Kp g ov nv nv' w w'
  perm : O'.Perm O
  out : ∀ k, ¬ (f ≤ k ∧ k < t) → O'.getD k 0 = O.getD k 0
  laid : Laid L ac (seg O f t) (seg O' f t)
  tree : TreeAt L N' O' i f t
  keepN : ∀ j, ¬ Desc i j → j < N.length → N'[j]? = N[j]?
  more : N.length ≤ N'.length
  small : N'.length ≤ 5000
def PartR (B g : Nat) (lv ov nv : Value) (L : List Bx) (ac : Bool) (i f t : Nat) (O : List Int) (N : List Nd) (w : World) (e : Ending) (w' : World) : Prop := ∃ O' N' nv', e = .returned (.tuple #[]) ∧ PPost B g lv ov nv L ac i f t O N w w' O' N' nv'
theorem TMem.but {B g og oc no : Nat} {w w' : World} {lv ov nv : Value} {L : List Bx} {O O1 : List Int} {N : List Nd} (h : TMem B w g lv ov nv L O N) (hov : ov = .slice (some ⟨og, 0, none⟩) no oc) (hb : But og w w') (ho : OwnI w' B ov O1) : TMem B w' g lv ov nv L O1 N := by
  have hob : ov.ownBlock = some og := by rw [hov]; rfl
  obtain ⟨hr, hl, ho0, hn, hlow⟩ := h
  refine ⟨hr.but hb fun e => ?_, ownsRow_move hl fun k hk => hb.block k (own_ltB hl hk).2 fun e => ?_, ho, ownsRow_move hn fun k hk => hb.block k (own_ltB hn hk).2 fun e => ?_, hlow⟩
  · subst e; exact own_typed ho0 hr (by decide) hob
  · subst e; exact own_ne (by decide) hl ho0 hk hob
  · subst e; exact own_ne (by decide) hn ho0 hk hob
theorem Kp.but {g og oc no : Nat} {W w w' : World} {ov nv n1 : Value} (h : Kp g ov nv n1 W w) (hov : ov = .slice (some ⟨og, 0, none⟩) no oc) (hb : But og w w') : Kp g ov nv n1 W w' :=
  ⟨hb.os.trans h.os, hb.tape.trans h.tape, hb.output.trans h.output, Nat.le_trans h.size hb.size, fun k hk hg ho hn => (hb.block k (Nat.lt_of_lt_of_le hk h.size) fun e => ho (by rw [hov, e]; rfl)).trans (h.keep k hk hg ho hn), h.fresh⟩
theorem Frm.but {tb ab g og oc no : Nat} {ac : Bool} {w w' : World} {B : Nat} {lv ov nv : Value} {L : List Bx} {O : List Int} {N : List Nd} (h : Frm tb ab g ac w) (hm : TMem B w g lv ov nv L O N) (hov : ov = .slice (some ⟨og, 0, none⟩) no oc) (hb : But og w w') : Frm tb ab g ac w' := by
  have hob : ov.ownBlock = some og := by rw [hov]; rfl
  refine ⟨(hb.block _ (heap_lt2 h.t) fun e => ?_).trans h.t, (hb.block _ (heap_lt2 h.a) fun e => ?_).trans h.a⟩
  · subst e; exact own_typed hm.own.o h.t (by decide) hob
  · subst e; exact own_typed hm.own.o h.a (by decide) hob
theorem deep_half {i d : Nat} (hd : 2 ≤ d) (h : (i + 2) * (d - 1) ≤ 2000) : i + 2 ≤ 2000 ∧ (2 * i + 1 + 2) * (halfN d - 1) ≤ 2000 ∧ (2 * i + 2 + 2) * (d - halfN d - 1) ≤ 2000 := by
  have hm := halfN_bounds hd
  have hh : 2 * (halfN d - 1) ≤ d - 1 := by unfold halfN; omega
  have hh2 : 2 * (d - halfN d - 1) ≤ d - 1 := by unfold halfN; omega
  have h1 : (i + 2) * 1 ≤ (i + 2) * (d - 1) := Nat.mul_le_mul_left _ (by omega)
  have h2 : (2 * i + 1 + 2) * (halfN d - 1) ≤ (i + 2) * (2 * (halfN d - 1)) := by
    rw [← Nat.mul_assoc]
    exact Nat.mul_le_mul_right _ (by omega)
  have h3 : (2 * i + 2 + 2) * (d - halfN d - 1) ≤ (i + 2) * (2 * (d - halfN d - 1)) := by
    rw [← Nat.mul_assoc]
    exact Nat.mul_le_mul_right _ (by omega)
  have h4 := Nat.mul_le_mul_left (i + 2) hh
  have h5 := Nat.mul_le_mul_left (i + 2) hh2
  omega
/-- how the two parts of a part make the whole. -/
theorem part_join {L : List Bx} {ac : Bool} {O S O2 O3 : List Int} {N1 N2 N3 : List Nd} {i f t : Nat} {b : Bx} (hft : f + 2 ≤ t) (ht : t ≤ O.length) (hp : S.Perm (seg O f t)) (hs : S.Pairwise (ltI L ac))
    (hn : N1[i]? = some ⟨f, t, b⟩) (hb : Around L (seg O f t) b)
    (p2 : O2.Perm (putSeg O f t S)) (out2 : ∀ k, ¬ (f ≤ k ∧ k < f + halfN (t - f)) → O2.getD k 0 = (putSeg O f t S).getD k 0) (l2 : Laid L (!ac) (seg (putSeg O f t S) f (f + halfN (t - f))) (seg O2 f (f + halfN (t - f)))) (t2 : TreeAt L N2 O2 (2 * i + 1) f (f + halfN (t - f))) (k2 : ∀ j, ¬ Desc (2 * i + 1) j → j < N1.length → N2[j]? = N1[j]?) (m2 : N1.length ≤ N2.length)
    (p3 : O3.Perm O2) (out3 : ∀ k, ¬ (f + halfN (t - f) ≤ k ∧ k < t) → O3.getD k 0 = O2.getD k 0) (l3 : Laid L (!ac) (seg O2 (f + halfN (t - f)) t) (seg O3 (f + halfN (t - f)) t)) (t3 : TreeAt L N3 O3 (2 * i + 2) (f + halfN (t - f)) t) (k3 : ∀ j, ¬ Desc (2 * i + 2) j → j < N2.length → N3[j]? = N2[j]?) :
    O3.Perm O ∧ (∀ k, ¬ (f ≤ k ∧ k < t) → O3.getD k 0 = O.getD k 0) ∧ Laid L ac (seg O f t) (seg O3 f t) ∧ TreeAt L N3 O3 i f t ∧ ∀ j, ¬ Desc i j → j < N1.length → N3[j]? = N1[j]? := by
  have hm := halfN_bounds (n := t - f) (by omega)
  have hSl : S.length = t - f := by rw [hp.length_eq, seg_length ht]
  have hmS : halfN (t - f) = halfN S.length := by rw [hSl]
  have hl1 := putSeg_len (O := O) (S := S) (f := f) (t := t) (by omega) ht hSl
  have hl2 := p2.length_eq
  have hl3 := p3.length_eq
  have hg := putSeg_get (O := O) (S := S) (f := f) (t := t) (by omega) ht hSl
  have hsg := putSeg_seg (O := O) (S := S) (f := f) (t := t) (by omega) ht hSl
  have hpO := putSeg_perm (O := O) (S := S) (f := f) (t := t) (by omega) hp
  generalize putSeg O f t S = O1 at *
  obtain ⟨m, hme⟩ : ∃ m, f + halfN (t - f) = m := ⟨_, rfl⟩
  have hmS2 : m - f = halfN S.length := by omega
  rw [hme] at out2 l2 t2 out3 l3 t3
  have e1 : seg O1 f m = S.take (halfN S.length) := by
    rw [← hmS2]
    have h := seg_cut (O := O1) (f := f) (m := m) (t := t) (by omega) (by omega)
    rw [hsg] at h
    conv => rhs; rw [h]
    rw [List.take_left' (by rw [seg_length (by omega)])]
  have e2 : seg O1 m t = S.drop (halfN S.length) := by
    rw [← hmS2]
    have h := seg_cut (O := O1) (f := f) (m := m) (t := t) (by omega) (by omega)
    rw [hsg] at h
    conv => rhs; rw [h]
    rw [List.drop_left' (by rw [seg_length (by omega)])]
  have e3 : seg O2 m t = seg O1 m t := seg_congr (by omega) fun k h1 h2 => out2 k (by omega)
  have e4 : seg O3 f m = seg O2 f m := seg_congr (by omega) fun k h1 h2 => out3 k (by omega)
  have hlaid : Laid L ac (seg O f t) (seg O3 f t) := by
    rw [seg_cut (O := O3) (f := f) (m := m) (t := t) (by omega) (by omega), e4]
    refine .cut (by rw [seg_length ht]; omega) hp hs (by rw [← e1]; exact l2) (by rw [← e2, ← e3]; exact l3)
  refine ⟨(p3.trans p2).trans hpO, fun k hk => ?_, hlaid, ?_, fun j hj hlt => ?_⟩
  · rw [out3 k (by omega), out2 k (by omega), hg, if_neg hk]
  · have hi1 : i < N1.length := (List.getElem?_eq_some_iff.1 hn).1
    have nd1 : ¬ Desc (2 * i + 1) i := fun h => by have := h.ge; omega
    have nd2 : ¬ Desc (2 * i + 2) i := fun h => by have := h.ge; omega
    refine .node (b := b) hft ?_ ?_ ?_ ?_
    · rw [k3 i nd2 (by omega), k2 i nd1 hi1]; exact hn
    · intro x hx
      exact hb x (hlaid.perm.mem_iff.1 hx)
    · rw [hme]
      exact t2.keep (by omega) (fun j hj hl => k3 j (fun h => hj.apart h) hl) fun k h1 h2 => out3 k (by omega)
    · rw [hme]; exact t3
  · have h1 : ¬ Desc (2 * i + 1) j := fun h => hj (.left h)
    have h2 : ¬ Desc (2 * i + 2) j := fun h => hj (.right h)
    rw [k3 j h2 (by omega), k2 j h1 hlt]
end Go.Proofs.YtjiiikeniocmfaaGreat

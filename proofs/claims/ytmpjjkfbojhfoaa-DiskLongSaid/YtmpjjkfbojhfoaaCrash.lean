/- disk: Names -/
import Derived.Test.YtmpjjkfbojhfoaaNIter
import Derived.Test.YtmpjjkfbojhfoaaDUp
import Derived.CallsIn
import Derived.OwnWalkIn
namespace Go.Proofs.Ytmpjjkfbojhfoaa
open Go.RowKit Go.Maps Go.Sort
/-- how a file reads: as nothing. -/
def R0 : Value → Option (DataW Unit × List MemPlace) := fun _ => some (.nil, [])
theorem key_any {nm : ByteArray} (h : nameP nm.data.toList = true) : keyOf Try.prog 9 (.string nm) = some (.string nm.data.toList) := by
  have h64 : nm.size ≤ 64 := by
    unfold nameP at h
    simp only [Bool.and_eq_true, decide_eq_true_eq] at h
    exact h.2
  simp [keyOf, mapKey, Try.underlying9]
  unfold maxLen
  omega
/-- a map's names, as they are told. -/
def sortN (M : List Ent) : List (List UInt8) := (M.map fun x => x.1.data.toList).mergeSort leB
theorem rd_ent {x : Ent} (h : nameP x.1.data.toList = true) : WideElems.rd (H := Unit) Try.prog 9 R0 (ent x) = some (.string x.1.data.toList, .nil) := by
  have := key_any h
  simp [WideElems.rd, ent, this, R0]
theorem rg_ent {x : Ent} (h : nameP x.1.data.toList = true) : WideElems.rg (H := Unit) Try.prog 9 R0 (ent x) = (.string x.1.data.toList, .nil) := by
  rw [WideElems.rg, rd_ent h, Option.getD_some]
theorem bytes_inj {x y : ByteArray} (h : x.data.toList = y.data.toList) : x = y := by
  cases x; cases y
  simp at h
  simp [h]
theorem owns_ents {w : World} {mb c : Nat} {M : List Ent} (hfit : MapFit M c) (h : w.heap[mb]? = some (.map (ents M) c)) :
    w.ownsMap (H := Unit) Try.prog 9 R0 mb 16 (.map ((M.map fun x => ((.string x.1.data.toList, .nil) : Lit × DataW Unit)).foldr DataW.insert [])) := by
  have e : (ents M).toList = M.map ent := by simp [ents]
  have hm : (ents M).toList.map (WideElems.rg (H := Unit) Try.prog 9 R0) = M.map fun x => ((.string x.1.data.toList, .nil) : Lit × DataW Unit) := by
    rw [e, List.map_map]
    apply List.map_congr_left
    intro x hx
    rw [Function.comp_apply, rg_ent (hfit.fit x hx)]
  refine ⟨_, c, h, ⟨?_, ⟨?_, ?_, ?_⟩, fun x hx => ?_⟩, ?_, by rw [hm]⟩
  · have e2 : (ents M).size = M.length := by simp [ents]
    have h1 := hfit.few
    have h2 : (16 : Nat) ≤ maxLen := by unfold maxLen; omega
    rw [e2]
    exact Nat.le_trans h1 h2
  · intro x hx
    rw [e] at hx
    obtain ⟨y, hy, rfl⟩ := List.mem_map.1 hx
    exact hfit.clock y hy
  · rw [e, List.map_map]
    show (M.map fun x => x.2.2).Nodup
    unfold List.Nodup
    rw [List.pairwise_map]
    exact hfit.rise.imp (fun h => Nat.ne_of_lt h)
  · rw [e, List.map_map]
    show (M.map fun x => Value.string x.1).Nodup
    have := hfit.once
    unfold List.Nodup at this ⊢
    rw [List.pairwise_map] at this ⊢
    exact this.imp (fun h e => h (by injection e))
  · rw [e] at hx
    obtain ⟨y, hy, rfl⟩ := List.mem_map.1 hx
    exact ⟨_, rd_ent (hfit.fit y hy)⟩
  · simpa [ents] using hfit.few
theorem strKeys_ents (M : List Ent) : (strKeys (.map ((M.map fun x => ((.string x.1.data.toList, .nil) : Lit × DataW Unit)).foldr DataW.insert []))).Perm (M.map fun x => x.1.data.toList) := by
  unfold strKeys
  refine ((WideShapes.sorted_perm _).map _).trans ?_
  rw [List.map_map]
  exact .refl _
set_option maxRecDepth 100000 in
theorem Names_any (d mb : Nat) (M : List Ent) (st fu : Int) (out : Bool) (w : World) (h : DiskM w st fu out d mb M) :
    Calls Try.prog 17 #[.pointer (some ⟨d, 0, none⟩)] w fun e w' => ∃ v, e = .returned v ∧ w'.ownsRow w.heap.size 9 1 v M.length ((sortN M).map encStr) ∧ (v = .slice none 0 0 ↔ M = []) ∧ Below w.heap.size w w' := by
  obtain ⟨hfu, hmd, hd, c, hfit, hm⟩ := h
  have h0 := hd.cells.1
  have HN := Lib.hid (none_any d mb st fu out w hd)
  have HO := Lib.hid (owns_ents hfit hm)
  have hsz : Go.Maps.size (DataW.map ((M.map fun x => ((.string x.1.data.toList, .nil) : Lit × DataW Unit)).foldr DataW.insert [])) ≤ 16 := by
    have h1 := (WideShapes.sorted_perm (M.map fun x => ((.string x.1.data.toList, .nil) : Lit × DataW Unit))).length_eq
    have h2 := hfit.few
    rw [List.length_map] at h1
    show (_ : List _).length ≤ 16
    omega
  have HSZ := Lib.hid hsz
  clear hfu hmd hfit hsz
  clear hd hm
  have hfK : Fence.wide.fn 47 := trivial
  have hfS : Fence.wide.fn 46 := trivial
  have hfN : Fence.wide.fn 45 := trivial
  refine (callsIn_wide (n := 6)).1 ?_
  refine callsIn_of_wp Try.func17 rfl trivial ?_ rfl
  simp only [Try.ntmps17, List.size_toArray, List.length_cons, List.length_nil, Nat.reduceAdd, Nat.reduceSub, Array.replicate_succ, Array.replicate_zero, List.push_toArray, List.append_toArray, List.nil_append, List.cons_append]
  gi_wp2_with (first
    | (gi_at_call 45; refine (callsIn_wide.2 HN.out).mono ?_; rintro e w' ⟨rfl, rfl⟩)
    | (gi_at_call 47; refine (Try.maps_Keys_47 _ _).mono ?_; rintro e w' ⟨rfl, rfl⟩)
    | (gi_at_call 46; refine (Try.slices_Sorted_keys_46_47 mb 16 _ R0 w HO.out (Nat.le_trans HSZ.out (by unfold maxLen; omega)) (by have := HSZ.out; omega)).mono ?_; rintro e w' ⟨v, ss, rfl, hS, hrow, hnil, hb⟩))
  go_ret
  have hp : ss.Perm (M.map fun x => x.1.data.toList) := hS.trans (strKeys_ents M)
  have hl : ss.length = M.length := by have := hp.length_eq; simpa using this
  rw [hl, show ss.mergeSort (fun x y => decide (x ≤ y)) = sortN M from mergeSort_of_perm hp] at hrow
  refine ⟨v, rfl, ownsRow_base hrow (by simp), ?_, ((Below.refl _ w).alloc (Nat.le_refl _) _).trans (hb.mono (by simp))⟩
  rw [hnil]
  constructor
  · rintro rfl
    exact List.eq_nil_of_length_eq_zero hl.symm
  · rintro rfl
    exact List.eq_nil_of_length_eq_zero hl
end Go.Proofs.Ytmpjjkfbojhfoaa

/- disk: all files of a disk -/
namespace Go.Proofs.Ytmpjjkfbojhfoaa
open Go.RowKit
set_option linter.unusedSectionVars false
variable [Zone]
/-- what files have: safe bytes, what is under way. -/
abbrev Cont := Nat → List UInt8 × List Deed
def setC (C : Cont) (f : Nat) (v : List UInt8 × List Deed) : Cont := fun g => if g = f then v else C g
theorem setC_same (C : Cont) (f : Nat) : setC C f (C f) = C := by
  funext g
  unfold setC
  split
  · rename_i h; rw [h]
  · rfl
theorem setC_at (C : Cont) (f : Nat) (v : List UInt8 × List Deed) : setC C f v f = v := if_pos rfl
theorem setC_ne (C : Cont) {f g : Nat} (v : List UInt8 × List Deed) (h : g ≠ f) : setC C f v g = C g := if_neg h
/-- a disk with all its files, each in memory of its own. -/
structure DiskG (w : World) (st fu : Int) (out : Bool) (d mb base : Nat) (M : List Ent) (C : Cont) : Prop where
  dm : DiskM w st fu out d mb M
  low : base ≤ mb
  own : ∀ x ∈ M, base ≤ x.2.1 ∧ FileOwn w x.2.1 base (C x.2.1).1 (C x.2.1).2
  apart : ∀ x ∈ M, ∀ y ∈ M, x.2.1 = y.2.1 → x.1 = y.1
  rows : ∀ x ∈ M, ∀ y ∈ M, x.2.1 ≠ y.2.1 → ∀ k, rowOf w x.2.1 = some k → rowOf w y.2.1 ≠ some k
  zone : ZW w
/-- what a call of a disk leaves as it was. -/
structure Kept (d mb base : Nat) (w w' : World) : Prop where
  below : Below base w w'
  keep : ∀ j, j < w.heap.size → j ≠ d → j ≠ mb → (∀ c t, w.heap[j]? ≠ some (.cells c 76 t)) → (∀ c t, w.heap[j]? ≠ some (.cells c 101 t)) → w'.heap[j]? = w.heap[j]?
  u8 : ∀ j off v, w.cell? ⟨j, off, none⟩ = some (.int .u8 v) → j ≠ d → j ≠ mb → w'.heap[j]? = w.heap[j]?
theorem Kept.trans {d mb base : Nat} {a b c : World} (h : Kept d mb base a b) (k : Kept d mb base b c) : Kept d mb base a c := by
  refine ⟨h.below.trans k.below, fun j hj h1 h2 h3 h4 => ?_, fun j off v hc h1 h2 => ?_⟩
  · have e := h.keep j hj h1 h2 h3 h4
    exact (k.keep j (Nat.lt_of_lt_of_le hj h.below.size) h1 h2 (by rw [e]; exact h3) (by rw [e]; exact h4)).trans e
  · have e := h.u8 j off v hc h1 h2
    exact (k.u8 j off v ((World.cell?_of_block (a := ⟨j, off, none⟩) e).trans hc) h1 h2).trans e
theorem Kept.refl (d mb base : Nat) (w : World) : Kept d mb base w w := ⟨Below.refl _ _, fun _ _ _ _ _ _ => rfl, fun _ _ _ _ _ _ => rfl⟩
theorem Kept.of_below {d mb base : Nat} {w w' : World} (h : Below w.heap.size w w') (hb : base ≤ w.heap.size) : Kept d mb base w w' := ⟨h.mono hb, fun j hj _ _ _ _ => h.block j hj, fun j _ _ hc _ _ => h.block j (block_lt_of_cell hc)⟩
theorem rowOf_new {w : World} {f : Nat} (h : w.heap.size ≤ f) : rowOf w f = none := by
  unfold rowOf World.cell?
  rw [Array.getElem?_eq_none h]
theorem FileOwn.rowOf {w : World} {f base k : Nat} {S : List UInt8} {D : List Deed} (h : FileOwn w f base S D) (hk : rowOf w f = some k) : base ≤ k ∧ ∃ c t, w.heap[k]? = some (.cells c 101 t) := by
  obtain ⟨⟨ao, n, cap, lv, hr, hs, hds⟩, _, _⟩ := h
  rw [rowOf_row hr] at hk
  exact hds.deed_block hk
theorem FileOwn.row {w : World} {f base : Nat} {S : List UInt8} {D : List Deed} (h : FileOwn w f base S D) : ∃ c t, w.heap[f]? = some (.cells c 76 t) := by
  obtain ⟨⟨ao, n, cap, lv, hr, hs, hds⟩, _, _⟩ := h
  exact ⟨_, _, hr⟩
theorem Kept.of_moved {d mb f base : Nat} {w w' : World} (h : Moved d mb f w w') (hmd : mb < d) (h1 : base ≤ mb) (hb : base ≤ w.heap.size) (hf : (base ≤ f ∧ ∃ S D, FileOwn w f base S D) ∨ w.heap.size ≤ f) : Kept d mb base w w' := by
  have hrow : ∀ k, rowOf w f = some k → base ≤ k ∧ ∃ c t, w.heap[k]? = some (.cells c 101 t) := by
    intro k hk
    rcases hf with ⟨_, S, D, hf⟩ | hf
    · exact hf.rowOf hk
    · rw [rowOf_new hf] at hk; cases hk
  refine ⟨⟨h.os, h.tape, h.output, h.size, fun j hj => h.block j (by omega) (by omega) (by omega) (by rcases hf with ⟨hf, _⟩ | hf <;> omega) (fun e => ?_)⟩, fun j hj h2 h3 h4 h5 => h.block j hj h2 h3 ?_ (fun e => ?_), fun j off v hc h2 h3 => h.block j (block_lt_of_cell hc) h2 h3 ?_ (fun e => ?_)⟩
  · have := (hrow j e).1
    omega
  · rintro rfl
    rcases hf with ⟨_, S, D, hf⟩ | hf
    · obtain ⟨c, t, hc⟩ := hf.row
      exact h4 c t hc
    · omega
  · obtain ⟨c, t, hc⟩ := (hrow j e).2
    exact h5 c t hc
  · rintro rfl
    rcases hf with ⟨_, S, D, hf⟩ | hf
    · obtain ⟨⟨ao, n, cap, lv, hr', _, hds'⟩, _, _⟩ := hf
      obtain ⟨al, capl, rfl, _⟩ := hds'.deeds
      have := hr'.plain _ _ hc; simp [plainV] at this
    · have hl9 : j < w.heap.size := block_lt_of_cell hc
      omega
  · rcases hf with ⟨_, S, D, hf⟩ | hf
    · obtain ⟨⟨ao, n, cap, lv, hr', _, hds'⟩, _, _⟩ := hf
      rw [rowOf_row hr'] at e
      exact hds'.ne_u8 hc e.symm
    · rw [rowOf_new hf] at e; cases e
theorem FileOwn.other {w w' : World} {d mb f g base base' c : Nat} {es : Array MapEntry} {st fu : Int} {out : Bool} {S : List UInt8} {D : List Deed} (hg : FileOwn w g base S D) (hd : DiskRow w d mb st fu out) (hm : w.heap[mb]? = some (.map es c))
    (hf : (∃ S D, FileOwn w f base' S D) ∨ w.heap.size ≤ f) (hne : g ≠ f) (hrow : ∀ k, Go.Proofs.Ytmpjjkfbojhfoaa.rowOf w g = some k → Go.Proofs.Ytmpjjkfbojhfoaa.rowOf w f ≠ some k) (hmv : Moved d mb f w w') : FileOwn w' g base S D ∧ Go.Proofs.Ytmpjjkfbojhfoaa.rowOf w' g = Go.Proofs.Ytmpjjkfbojhfoaa.rowOf w g := by
  have hgl := hg.at.lt
  have hgd := hg.at.ne_disk hd
  have hgm := hg.at.ne_map hm
  have hfrow : ∀ k, Go.Proofs.Ytmpjjkfbojhfoaa.rowOf w f = some k → ∃ c t, w.heap[k]? = some (.cells c 101 t) := by
    intro k hk
    rcases hf with ⟨S, D, hf⟩ | hf
    · exact (hf.rowOf hk).2
    · rw [rowOf_new hf] at hk; cases hk
  obtain ⟨⟨ao, n, cap, lv, hr, hs, hds⟩, q1, q2⟩ := hg
  have hgsame : w'.heap[g]? = w.heap[g]? := by
    refine hmv.block g hgl hgd hgm hne (fun e => ?_)
    obtain ⟨c', t', hc⟩ := hfrow g e
    unfold FileRow at hr
    rw [hr] at hc
    simp at hc
  have hu8 : ∀ j off v, w.cell? ⟨j, off, none⟩ = some (.int .u8 v) → w'.heap[j]? = w.heap[j]? := by
    intro j off v hc
    have hjl : j < w.heap.size := block_lt_of_cell hc
    refine hmv.block j hjl ?_ ?_ ?_ (fun e => ?_)
    · rintro rfl; have := hd.plain _ _ hc; simp [plainV] at this
    · rintro rfl; have := map_plain hm _ _ hc; simp [plainV] at this
    · rintro rfl
      rcases hf with ⟨S, D, hf⟩ | hf
      · obtain ⟨⟨ao, n, cap, lv, hr', _, hds'⟩, _, _⟩ := hf
        obtain ⟨al, capl, rfl, _⟩ := hds'.deeds
        have := hr'.plain _ _ hc; simp [plainV] at this
      · omega
    · rcases hf with ⟨S, D, hf⟩ | hf
      · obtain ⟨⟨ao, n, cap, lv, hr', _, hds'⟩, _, _⟩ := hf
        rw [rowOf_row hr'] at e
        exact hds'.ne_u8 hc e.symm
      · rw [rowOf_new hf] at e; cases e
  refine ⟨⟨⟨ao, n, cap, lv, hgsame.trans hr, hs.moved hu8, hds.moved hu8 (fun k hk => ?_)⟩, q1, q2⟩, rowOf_same hgsame⟩
  obtain ⟨c', t', hc⟩ := (hds.deed_block hk).2
  refine hmv.block k (heap_lt hc) ?_ ?_ ?_ (hrow k (by rw [rowOf_row hr]; exact hk))
  · rintro rfl; unfold DiskRow at hd; rw [hd] at hc; simp at hc
  · rintro rfl; rw [hm] at hc; cases hc
  · rintro rfl
    rcases hf with ⟨S, D, hf⟩ | hf
    · obtain ⟨c2, t2, hc2⟩ := hf.row
      rw [hc2] at hc
      simp at hc
    · exact absurd (heap_lt hc) (by omega)
theorem DiskG.moved {w w' : World} {st fu st' fu' : Int} {out out' : Bool} {d mb base : Nat} {M : List Ent} {C : Cont} {S' : List UInt8} {D' : List Deed} (h : DiskG w st fu out d mb base M C) {x : Ent} (hx : x ∈ M) (hb : base ≤ w.heap.size) (hmv : Moved d mb x.2.1 w w') (hdm : DiskM w' st' fu' out' d mb M) (hf : FileOwn w' x.2.1 base S' D') :
    DiskG w' st' fu' out' d mb base M (setC C x.2.1 (S', D')) ∧ Kept d mb base w w' := by
  obtain ⟨q1, q2, q3, c, q4, q5⟩ := h.dm
  have hfx := (h.own x hx).2
  have hoth : ∀ y ∈ M, y.2.1 ≠ x.2.1 → FileOwn w' y.2.1 base (C y.2.1).1 (C y.2.1).2 ∧ rowOf w' y.2.1 = rowOf w y.2.1 := fun y hy hne =>
    (h.own y hy).2.other q3 q5 (.inl ⟨_, _, hfx⟩) hne (h.rows y hy x hx hne) hmv
  have hlt : ∀ y ∈ M, ∀ k, rowOf w y.2.1 = some k → k < w.heap.size := fun y hy k hk => by
    obtain ⟨_, c, t, hc⟩ := (h.own y hy).2.rowOf hk
    exact heap_lt hc
  refine ⟨⟨hdm, h.low, fun y hy => ⟨(h.own y hy).1, ?_⟩, h.apart, fun y hy z hz hne k hk => ?_, h.zone.mono hmv.size⟩, .of_moved hmv q2 h.low hb (.inl ⟨(h.own x hx).1, _, _, hfx⟩)⟩
  · by_cases e : y.2.1 = x.2.1
    · rw [e, setC_at]
      exact hf
    · rw [setC_ne _ _ e]
      exact (hoth y hy e).1
  · by_cases e1 : y.2.1 = x.2.1
    · have e2 : z.2.1 ≠ x.2.1 := fun e => hne (e1.trans e.symm)
      rw [(hoth z hz e2).2]
      rw [e1] at hk
      rcases hmv.row k hk with r | r
      · exact h.rows x hx z hz (fun e => e2 e.symm) k r
      · exact fun e => absurd (hlt z hz k e) (by omega)
    · rw [(hoth y hy e1).2] at hk
      by_cases e2 : z.2.1 = x.2.1
      · rw [e2]
        intro e
        rcases hmv.row k e with r | r
        · exact h.rows y hy x hx e1 k hk r
        · have := hlt y hy k hk
          omega
      · rw [(hoth z hz e2).2]
        exact h.rows y hy z hz hne k hk
/-- nothing of the files changes. -/
theorem DiskG.stay {w w' : World} {st fu st' fu' : Int} {out out' : Bool} {d mb base f : Nat} {M : List Ent} {C : Cont} (h : DiskG w st fu out d mb base M C) (hb : base ≤ w.heap.size) (hmv : Moved d mb f w w') (hnew : w.heap.size ≤ f) (hdm : DiskM w' st' fu' out' d mb M) :
    DiskG w' st' fu' out' d mb base M C ∧ Kept d mb base w w' := by
  obtain ⟨q1, q2, q3, c, q4, q5⟩ := h.dm
  have hoth : ∀ y ∈ M, FileOwn w' y.2.1 base (C y.2.1).1 (C y.2.1).2 ∧ rowOf w' y.2.1 = rowOf w y.2.1 := fun y hy =>
    (h.own y hy).2.other (base' := base) q3 q5 (.inr hnew) (by have := (h.own y hy).2.at.lt; omega) (fun k _ => by rw [rowOf_new hnew]; exact fun e => by cases e) hmv
  refine ⟨⟨hdm, h.low, fun y hy => ⟨(h.own y hy).1, (hoth y hy).1⟩, h.apart, fun y hy z hz hne k hk => ?_, h.zone.mono hmv.size⟩, .of_moved hmv q2 h.low hb (.inr hnew)⟩
  rw [(hoth y hy).2] at hk
  rw [(hoth z hz).2]
  exact h.rows y hy z hz hne k hk
/-- a file more. -/
theorem DiskG.push {w w' : World} {st fu st' fu' : Int} {out out' : Bool} {d mb base f c : Nat} {nm : ByteArray} {M : List Ent} {C : Cont} {S' : List UInt8} {D' : List Deed} (h : DiskG w st fu out d mb base M C) (hb : base ≤ w.heap.size) (hmv : Moved d mb f w w') (hnew : w.heap.size ≤ f)
    (hdm : DiskM w' st' fu' out' d mb (M ++ [(nm, f, c)])) (hf : FileOwn w' f base S' D') :
    DiskG w' st' fu' out' d mb base (M ++ [(nm, f, c)]) (setC C f (S', D')) ∧ Kept d mb base w w' := by
  obtain ⟨q1, q2, q3, cc, q4, q5⟩ := h.dm
  have hne : ∀ y ∈ M, y.2.1 ≠ f := fun y hy => by have := (h.own y hy).2.at.lt; omega
  have hoth : ∀ y ∈ M, FileOwn w' y.2.1 base (C y.2.1).1 (C y.2.1).2 ∧ rowOf w' y.2.1 = rowOf w y.2.1 := fun y hy =>
    (h.own y hy).2.other (base' := base) q3 q5 (.inr hnew) (hne y hy) (fun k _ => by rw [rowOf_new hnew]; exact fun e => by cases e) hmv
  have hlt : ∀ y ∈ M, ∀ k, rowOf w y.2.1 = some k → k < w.heap.size := fun y hy k hk => by
    obtain ⟨_, c, t, hc⟩ := (h.own y hy).2.rowOf hk
    exact heap_lt hc
  have hfr : ∀ k, rowOf w' f = some k → w.heap.size ≤ k := fun k hk => by
    rcases hmv.row k hk with r | r
    · rw [rowOf_new hnew] at r; cases r
    · exact r
  refine ⟨⟨hdm, h.low, fun y hy => ?_, ?_, fun y hy z hz hyz k hk => ?_, h.zone.mono hmv.size⟩, .of_moved hmv q2 h.low hb (.inr hnew)⟩
  · rcases List.mem_append.1 hy with hy | hy
    · rw [setC_ne _ _ (hne y hy)]
      exact ⟨(h.own y hy).1, (hoth y hy).1⟩
    · simp only [List.mem_singleton] at hy
      subst hy
      refine ⟨by dsimp only; omega, ?_⟩
      dsimp only
      rw [setC_at]
      exact hf
  · intro y hy z hz e
    rcases List.mem_append.1 hy with hy | hy <;> rcases List.mem_append.1 hz with hz | hz
    · exact h.apart y hy z hz e
    · simp only [List.mem_singleton] at hz
      subst hz
      exact absurd e (hne y hy)
    · simp only [List.mem_singleton] at hy
      subst hy
      exact absurd e.symm (hne z hz)
    · simp only [List.mem_singleton] at hy hz
      rw [hy, hz]
  · rcases List.mem_append.1 hy with hy | hy <;> rcases List.mem_append.1 hz with hz | hz
    · rw [(hoth y hy).2] at hk
      rw [(hoth z hz).2]
      exact h.rows y hy z hz hyz k hk
    · simp only [List.mem_singleton] at hz
      subst hz
      rw [(hoth y hy).2] at hk
      have := hlt y hy k hk
      exact fun e => absurd (hfr k e) (by omega)
    · simp only [List.mem_singleton] at hy
      subst hy
      rw [(hoth z hz).2]
      have := hfr k hk
      exact fun e => absurd (hlt z hz k e) (by omega)
    · simp only [List.mem_singleton] at hy hz
      subst hy; subst hz
      exact absurd rfl hyz
theorem DiskG.later {w w' : World} {st fu : Int} {out : Bool} {d mb base : Nat} {M : List Ent} {C : Cont} (h : DiskG w st fu out d mb base M C) (hb : Below w.heap.size w w') : DiskG w' st fu out d mb base M C := by
  have hr : ∀ y ∈ M, rowOf w' y.2.1 = rowOf w y.2.1 := fun y hy => rowOf_same (hb.block _ (h.own y hy).2.at.lt)
  refine ⟨h.dm.later hb, h.low, fun y hy => ⟨(h.own y hy).1, (h.own y hy).2.later hb⟩, h.apart, fun y hy z hz hne k hk => ?_, h.zone.mono hb.size⟩
  rw [hr y hy] at hk
  rw [hr z hz]
  exact h.rows y hy z hz hne k hk
theorem fileOf_mem {nm : ByteArray} {f : Nat} {M : List Ent} (h : fileOf nm M = some f) : ∃ b, (nm, f, b) ∈ M := by
  unfold fileOf at h
  cases hq : fnd nm M 0 with
  | none => rw [hq] at h; cases h
  | some p =>
    rw [hq] at h
    injection h with h
    obtain ⟨j, b, _, hj⟩ := fnd_spec nm M 0 p.1 p.2 hq
    exact ⟨b, by rw [← h]; exact List.mem_of_getElem? hj⟩
theorem DiskG.file {w : World} {st fu : Int} {out : Bool} {d mb base f : Nat} {M : List Ent} {C : Cont} {nm : ByteArray} (h : DiskG w st fu out d mb base M C) (hf : fileOf nm M = some f) : base ≤ f ∧ FileOwn w f base (C f).1 (C f).2 := by
  obtain ⟨b, hb⟩ := fileOf_mem hf
  exact h.own _ hb
end Go.Proofs.Ytmpjjkfbojhfoaa

/- disk: Rename, Remove -/
namespace Go.Proofs.Ytmpjjkfbojhfoaa
open Go.RowKit
set_option linter.unusedSectionVars false
variable [Zone]
theorem erase_filter {nm : ByteArray} : ∀ (M : List Ent) (i k g : Nat), (M.map (·.1)).Nodup → fnd nm M i = some (k, g) → i ≤ k ∧ M.eraseIdx (k - i) = M.filter (fun x => decide (x.1 ≠ nm))
  | [], _, _, _, _, h => by cases h
  | x :: M, i, k, g, hn, h => by
    rw [List.map_cons, List.nodup_cons] at hn
    unfold fnd at h
    rw [bytes_beq] at h
    by_cases hx : nm = x.1
    · rw [if_pos (by simp [hx])] at h
      injection h with h
      injection h with h1 h2
      subst h1
      refine ⟨Nat.le_refl _, ?_⟩
      rw [Nat.sub_self, List.eraseIdx_cons_zero, List.filter_cons_of_neg (by simp [hx])]
      refine (List.filter_eq_self.2 fun y hy => ?_).symm
      refine decide_eq_true fun e => hn.1 ?_
      rw [← hx, ← e]
      exact List.mem_map.2 ⟨y, hy, rfl⟩
    · rw [if_neg (by simp [hx])] at h
      obtain ⟨h1, h2⟩ := erase_filter M (i + 1) k g hn.2 h
      refine ⟨by omega, ?_⟩
      rw [List.filter_cons_of_pos (by simp; exact fun e => hx e.symm), show k - i = (k - (i + 1)) + 1 by omega, List.eraseIdx_cons_succ, h2]
theorem modify_map {nm : ByteArray} (f : Nat) : ∀ (M : List Ent) (i k g : Nat), (M.map (·.1)).Nodup → fnd nm M i = some (k, g) → i ≤ k ∧ M.modify (k - i) (fun x => (x.1, f, x.2.2)) = M.map (fun x => if x.1 = nm then (x.1, f, x.2.2) else x)
  | [], _, _, _, _, h => by cases h
  | x :: M, i, k, g, hn, h => by
    rw [List.map_cons, List.nodup_cons] at hn
    unfold fnd at h
    rw [bytes_beq] at h
    by_cases hx : nm = x.1
    · rw [if_pos (by simp [hx])] at h
      injection h with h
      injection h with h1 h2
      subst h1
      refine ⟨Nat.le_refl _, ?_⟩
      rw [Nat.sub_self, List.modify_zero_cons, List.map_cons, if_pos hx.symm]
      congr 1
      refine (List.map_congr_left (g := id) fun y hy => ?_).trans (List.map_id _) |>.symm
      refine if_neg fun e => hn.1 ?_
      rw [← hx, ← e]
      exact List.mem_map.2 ⟨y, hy, rfl⟩
    · rw [if_neg (by simp [hx])] at h
      obtain ⟨h1, h2⟩ := modify_map f M (i + 1) k g hn.2 h
      refine ⟨by omega, ?_⟩
      rw [List.map_cons, if_neg (fun e => hx e.symm), show k - i = (k - (i + 1)) + 1 by omega, List.modify_succ_cons, h2]
theorem fnd_some {nm : ByteArray} {f : Nat} {M : List Ent} (h : fileOf nm M = some f) : ∃ k, fnd nm M 0 = some (k, f) := by
  unfold fileOf at h
  cases hq : fnd nm M 0 with
  | none => rw [hq] at h; cases h
  | some p => rw [hq] at h; injection h with h; exact ⟨p.1, by rw [← h]⟩
theorem fnd_no {nm : ByteArray} {M : List Ent} (h : fileOf nm M = none) : fnd nm M 0 = none := by
  unfold fileOf at h
  cases hq : fnd nm M 0 with
  | none => rfl
  | some p => rw [hq] at h; cases h
theorem fileOf_none {nm : ByteArray} {M : List Ent} (h : fileOf nm M = none) : ∀ x ∈ M, x.1 ≠ nm := fun x hx e => fnd_none (fnd_no h) (by rw [← e]; exact List.mem_map.2 ⟨x, hx, rfl⟩)
theorem delE_filter {nm : ByteArray} {M : List Ent} (hn : (M.map (·.1)).Nodup) : delE nm M = M.filter (fun x => decide (x.1 ≠ nm)) := by
  cases hf : fileOf nm M with
  | none =>
    unfold delE
    rw [fnd_no hf]
    exact (List.filter_eq_self.2 fun y hy => decide_eq_true (fileOf_none hf y hy)).symm
  | some g =>
    obtain ⟨k, hk⟩ := fnd_some hf
    unfold delE
    rw [hk]
    exact (erase_filter M 0 k g hn hk).2
theorem putE_old {nm : ByteArray} {f g c : Nat} {M : List Ent} (hn : (M.map (·.1)).Nodup) (hf : fileOf nm M = some g) : putE nm f c M = M.map (fun x => if x.1 = nm then (x.1, f, x.2.2) else x) := by
  obtain ⟨k, hk⟩ := fnd_some hf
  unfold putE
  rw [hk]
  exact (modify_map f M 0 k g hn hk).2
theorem putE_new {nm : ByteArray} {f c : Nat} {M : List Ent} (hf : fileOf nm M = none) : putE nm f c M = M ++ [(nm, f, c)] := by
  unfold putE
  rw [fnd_no hf]
theorem MapFit.sub {M M' : List Ent} {c : Nat} (h : MapFit M c) (hs : M'.Sublist M) : MapFit M' c :=
  ⟨fun x hx => h.clock x (hs.subset hx), h.rise.sublist hs, h.once.sublist (hs.map _), fun x hx => h.fit x (hs.subset hx), Nat.le_trans hs.length_le h.few⟩
theorem MapFit.del {nm : ByteArray} {M : List Ent} {c : Nat} (h : MapFit M c) : MapFit (delE nm M) c := by
  rw [delE_filter h.once]
  exact h.sub List.filter_sublist
theorem MapFit.put {nm : ByteArray} {f c : Nat} {M : List Ent} (h : MapFit M c) (hn : nameP nm.data.toList = true) (hml : M.length < 16) : MapFit (putE nm f c M) (clockE nm c M) := by
  cases hf : fileOf nm M with
  | none =>
    rw [putE_new hf]
    have : clockE nm c M = c + 1 := by
      unfold clockE
      rw [fnd_no hf]
    rw [this]
    exact h.push hf hn hml
  | some g =>
    have : clockE nm c M = c := by
      obtain ⟨k, hk⟩ := fnd_some hf
      unfold clockE
      rw [hk]
    rw [putE_old h.once hf, this]
    have e1 : ∀ x : Ent, (if x.1 = nm then ((x.1, f, x.2.2) : Ent) else x).1 = x.1 := fun x => by split <;> rfl
    have e2 : ∀ x : Ent, (if x.1 = nm then ((x.1, f, x.2.2) : Ent) else x).2.2 = x.2.2 := fun x => by split <;> rfl
    refine ⟨fun x hx => ?_, ?_, ?_, fun x hx => ?_, by rw [List.length_map]; exact h.few⟩
    · obtain ⟨y, hy, rfl⟩ := List.mem_map.1 hx
      rw [e2]
      exact h.clock y hy
    · rw [List.pairwise_map]
      exact h.rise.imp (fun {a b} hab => by rw [e2, e2]; exact hab)
    · rw [List.map_map]
      rw [show ((fun x : Ent => x.1) ∘ fun x : Ent => if x.1 = nm then ((x.1, f, x.2.2) : Ent) else x) = fun x => x.1 from funext fun x => e1 x]
      exact h.once
    · obtain ⟨y, hy, rfl⟩ := List.mem_map.1 hx
      rw [e1]
      exact h.fit y hy
theorem delE_mem {nm : ByteArray} {M : List Ent} (hn : (M.map (·.1)).Nodup) {x : Ent} : x ∈ delE nm M ↔ x ∈ M ∧ x.1 ≠ nm := by
  rw [delE_filter hn, List.mem_filter, decide_eq_true_eq]
theorem putE_mem {nm : ByteArray} {f c : Nat} {M : List Ent} (hn : (M.map (·.1)).Nodup) {x : Ent} (hx : x ∈ putE nm f c M) : (x.1 = nm ∧ x.2.1 = f) ∨ (x ∈ M ∧ x.1 ≠ nm) := by
  cases hf : fileOf nm M with
  | none =>
    rw [putE_new hf] at hx
    rcases List.mem_append.1 hx with hx | hx
    · exact .inr ⟨hx, fileOf_none hf x hx⟩
    · simp only [List.mem_singleton] at hx
      subst hx
      exact .inl ⟨rfl, rfl⟩
  | some g =>
    rw [putE_old hn hf] at hx
    obtain ⟨y, hy, rfl⟩ := List.mem_map.1 hx
    by_cases e : y.1 = nm
    · rw [if_pos e]
      exact .inl ⟨e, rfl⟩
    · rw [if_neg e]
      exact .inr ⟨hy, e⟩
theorem delE_short {nm : ByteArray} {f : Nat} {M : List Ent} (hf : fileOf nm M = some f) : (delE nm M).length < M.length := by
  obtain ⟨k, hk⟩ := fnd_some hf
  obtain ⟨j, b, e, hj⟩ := fnd_spec nm M 0 k f hk
  have hlt : k < M.length := by
    have := (List.getElem?_eq_some_iff.1 hj).1
    omega
  unfold delE
  rw [hk]
  dsimp only
  rw [List.length_eraseIdx_of_lt hlt]
  omega
/-- only the map's block changes. -/
theorem DiskG.remap {w w' : World} {st fu st' fu' : Int} {out out' : Bool} {d mb base : Nat} {M M' : List Ent} {C : Cont} (h : DiskG w st fu out d mb base M C) (hb : base ≤ w.heap.size) (hos : w'.os = w.os ∧ w'.tape = w.tape ∧ w'.output = w.output) (hsz : w.heap.size ≤ w'.heap.size) (hbl : ∀ j, j < w.heap.size → j ≠ d → j ≠ mb → w'.heap[j]? = w.heap[j]?)
    (hdm : DiskM w' st' fu' out' d mb M') (hsub : ∀ x ∈ M', ∃ y ∈ M, y.2.1 = x.2.1) (hap : ∀ x ∈ M', ∀ y ∈ M', x.2.1 = y.2.1 → x.1 = y.1) :
    DiskG w' st' fu' out' d mb base M' C ∧ Kept d mb base w w' := by
  obtain ⟨q1, q2, q3, c, q4, q5⟩ := h.dm
  have hoth : ∀ y ∈ M, FileOwn w' y.2.1 base (C y.2.1).1 (C y.2.1).2 ∧ rowOf w' y.2.1 = rowOf w y.2.1 := fun y hy => by
    have hf := (h.own y hy).2
    refine ⟨hf.moved (fun j => j = d ∨ j = mb) (fun j e => ?_) (fun e => ?_) (fun c t j e => ?_) (fun j hj hn => hbl j hj (fun e => hn (.inl e)) (fun e => hn (.inr e))), rowOf_same (hbl _ hf.at.lt (hf.at.ne_disk q3) (hf.at.ne_map q5))⟩
    · rcases e with rfl | rfl
      · exact q3.plain
      · exact map_plain q5
    · rcases e with e | e
      · exact hf.at.ne_disk q3 e
      · exact hf.at.ne_map q5 e
    · rcases e with rfl | rfl
      · unfold DiskRow at q3; rw [q3]; simp
      · rw [q5]; intro e; cases e
  have hlow := h.low
  refine ⟨⟨hdm, h.low, fun x hx => ?_, hap, fun x hx y hy hne k hk => ?_, h.zone.mono hsz⟩, ⟨⟨hos.1, hos.2.1, hos.2.2, hsz, fun j hj => hbl j (by omega) (by omega) (by omega)⟩, fun j hj h1 h2 _ _ => hbl j hj h1 h2, fun j _ _ hc h1 h2 => hbl j (block_lt_of_cell hc) h1 h2⟩⟩
  · obtain ⟨y, hy, e⟩ := hsub x hx
    rw [← e]
    exact ⟨(h.own y hy).1, (hoth y hy).1⟩
  · obtain ⟨x', hx', e1⟩ := hsub x hx
    obtain ⟨y', hy', e2⟩ := hsub y hy
    rw [← e1] at hne hk
    rw [← e2] at hne ⊢
    rw [(hoth x' hx').2] at hk
    rw [(hoth y' hy').2]
    exact h.rows x' hx' y' hy' hne k hk
end Go.Proofs.Ytmpjjkfbojhfoaa

/- disk: what Rename and Remove do behind the step -/
namespace Go.Proofs.Ytmpjjkfbojhfoaa
open Go.RowKit
set_option linter.unusedSectionVars false
variable [Zone]
theorem setObjAt_self (w : World) (mb : Nat) (o : Obj) (h : mb < w.heap.size) : (setObjAt w mb o).heap[mb]? = some o := by
  unfold setObjAt
  simp [h]
theorem setObjAt_size (w : World) (mb : Nat) (o : Obj) : (setObjAt w mb o).heap.size = w.heap.size := by
  unfold setObjAt
  simp
set_option maxRecDepth 100000 in
theorem RemDo_any (nm : ByteArray) (bd bn d mb : Nat) (M : List Ent) (st fu : Int) (w : World)
    (hbd : w.heap[bd]? = some (.cells #[.pointer (some ⟨d, 0, none⟩)] 27 (0, 0))) (hbn : w.heap[bn]? = some (.cells #[.string nm] 9 (0, 0))) (hdm : DiskM w st fu false d mb M) :
    Calls Try.prog 48 #[.pointer (some ⟨bd, 0, none⟩), .pointer (some ⟨bn, 0, none⟩)] w
      fun e w' => e = .returned (.tuple #[]) ∧ DiskM w' st fu false d mb (delE nm M) ∧ ∃ o, w' = setObjAt w.drew mb o := by
  obtain ⟨hfu, hmd, hd, c, hfit, hm⟩ := hdm
  have p1 : w.cell? ⟨bd, 0, none⟩ = some (.pointer (some ⟨d, 0, none⟩)) := cell_of_row _ _ _ _ _ _ hbd
  have p2 : w.cell? ⟨bn, 0, none⟩ = some (.string nm) := cell_of_row _ _ _ _ _ _ hbn
  have h0 := hd.cells.1
  have hdel := fun ty => del_ents nm c mb M w.drew ty hm
  have HRES : Hid (DiskM (setObjAt w.drew mb (.map (ents (delE nm M)) c)) st fu false d mb (delE nm M)) := Lib.hid ⟨hfu, hmd, (heap_setObjAt w.drew mb d _ (by omega)).trans hd, c, hfit.del, setObjAt_self _ _ _ (heap_lt hm)⟩
  clear hfu hmd hd hfit hm hbd hbn
  generalize hW : setObjAt w.drew mb (.map (ents (delE nm M)) c) = W at hdel HRES
  have HW := Lib.hid hW
  clear hW
  go_enter Try.func48, Try.ntmps48
  go_wp2
  go_region
  go_wp2
  go_end0
  exact ⟨rfl, HRES.out, _, HW.out.symm⟩
set_option maxRecDepth 100000 in
theorem RenDo_any (nm to : ByteArray) (bd bn p bt d mb f : Nat) (M : List Ent) (st fu : Int) (w : World) (hnt : nameP to.data.toList = true) (hfo : fileOf nm M = some f)
    (hp : w.heap[p]? = some (.cells #[.pointer (some ⟨f, 0, none⟩)] 72 (0, 0))) (hbt : w.heap[bt]? = some (.cells #[.string to] 9 (0, 0)))
    (hbd : w.heap[bd]? = some (.cells #[.pointer (some ⟨d, 0, none⟩)] 27 (0, 0))) (hbn : w.heap[bn]? = some (.cells #[.string nm] 9 (0, 0))) (hdm : DiskM w st fu false d mb M) :
    Calls Try.prog 54 #[.pointer (some ⟨bd, 0, none⟩), .pointer (some ⟨bn, 0, none⟩), .pointer (some ⟨p, 0, none⟩), .pointer (some ⟨bt, 0, none⟩)] w
      fun e w' => e = .returned (.tuple #[]) ∧ ∃ c, DiskM w' st fu false d mb (putE to f c (delE nm M)) ∧ ∃ o o', w' = setObjAt (setObjAt w.drew mb o').drew mb o := by
  obtain ⟨hfu, hmd, hd, c, hfit, hm⟩ := hdm
  have p1 : w.cell? ⟨bd, 0, none⟩ = some (.pointer (some ⟨d, 0, none⟩)) := cell_of_row _ _ _ _ _ _ hbd
  have p2 : w.cell? ⟨bn, 0, none⟩ = some (.string nm) := cell_of_row _ _ _ _ _ _ hbn
  have h0 := hd.cells.1
  have hdel := fun ty => del_ents nm c mb M w.drew ty hm
  have hne : ∀ {j : Nat} {cs : Array Value} {t : TypeId} {fr : Nat × Nat}, w.heap[j]? = some (.cells cs t fr) → j ≠ mb := by
    rintro j cs t fr h rfl
    rw [hm] at h
    cases h
  obtain ⟨W, hW⟩ : ∃ W, W = setObjAt w.drew mb (.map (ents (delE nm M)) c) := ⟨_, rfl⟩
  have hmW : W.heap[mb]? = some (.map (ents (delE nm M)) c) := by rw [hW]; exact setObjAt_self _ _ _ (heap_lt hm)
  have hjW : ∀ j, j ≠ mb → W.heap[j]? = w.heap[j]? := fun j hj => by rw [hW]; exact heap_setObjAt w.drew mb j _ hj
  have hdW : DiskRow W d mb st fu false := (hjW d (by omega)).trans hd
  have hput := put_ents to f c mb (delE nm M) W.drew hmW
  have q1 : W.cell? ⟨bd, 0, none⟩ = some (.pointer (some ⟨d, 0, none⟩)) := cell_of_row _ _ _ _ _ _ ((hjW bd (hne hbd)).trans hbd)
  have q2 : W.cell? ⟨bt, 0, none⟩ = some (.string to) := cell_of_row _ _ _ _ _ _ ((hjW bt (hne hbt)).trans hbt)
  have q3 : W.cell? ⟨p, 0, none⟩ = some (.pointer (some ⟨f, 0, none⟩)) := cell_of_row _ _ _ _ _ _ ((hjW p (hne hp)).trans hp)
  have q0 := hdW.cells.1
  obtain ⟨X, hX⟩ : ∃ X, X = setObjAt W.drew mb (.map (ents (putE to f c (delE nm M))) (clockE to c (delE nm M))) := ⟨_, rfl⟩
  have HRES : Hid (DiskM X st fu false d mb (putE to f c (delE nm M))) := Lib.hid (by
    rw [hX]
    exact ⟨hfu, hmd, (heap_setObjAt W.drew mb d _ (by omega)).trans hdW, _, hfit.del.put hnt (by have := delE_short hfo; have := hfit.few; omega), setObjAt_self _ _ _ (heap_lt hmW)⟩)
  rw [← hX] at hput
  rw [← hW] at hdel
  have HX : Hid (∃ o o', X = setObjAt (setObjAt w.drew mb o').drew mb o) := Lib.hid ⟨_, _, by rw [hX, hW]⟩
  clear hfu hmd hd hfit hm hbd hbn hbt hp hne hjW hdW hW hX hmW hfo hnt
  go_enter Try.func54, Try.ntmps54
  go_wp2
  go_region
  go_wp2
  go_region
  go_wp2
  go_end0
  exact ⟨rfl, c, HRES.out, HX.out⟩
end Go.Proofs.Ytmpjjkfbojhfoaa

/- disk: Rename, Remove, whole -/
namespace Go.Proofs.Ytmpjjkfbojhfoaa
open Go.RowKit
set_option linter.unusedSectionVars false
variable [Zone]
theorem DiskG.same {w w' : World} {st fu st' fu' : Int} {out out' : Bool} {d mb base : Nat} {M : List Ent} {C : Cont} (h : DiskG w st fu out d mb base M C) (hb : base ≤ w.heap.size) (hos : w'.os = w.os ∧ w'.tape = w.tape ∧ w'.output = w.output) (hsz : w.heap.size ≤ w'.heap.size) (hbl : ∀ j, j < w.heap.size → j ≠ d → w'.heap[j]? = w.heap[j]?)
    (hd : DiskRow w' d mb st' fu' out') (hfu : fu' ≤ 9223372036854775807) : DiskG w' st' fu' out' d mb base M C ∧ Kept d mb base w w' := by
  obtain ⟨q1, q2, q3, c, q4, q5⟩ := h.dm
  exact h.remap hb hos hsz (fun j hj h1 _ => hbl j hj h1) ⟨hfu, q2, hd, c, q4, (hbl mb (heap_lt q5) (by omega)).trans q5⟩ (fun x hx => ⟨x, hx, rfl⟩) h.apart
theorem DiskG.outed {w : World} {st fu : Int} {d mb base : Nat} {M : List Ent} {C : Cont} (h : DiskG w st fu false d mb base M C) (hb : base ≤ w.heap.size) : DiskG (w.setCell ⟨d, 3, none⟩ (.bool true)) st fu true d mb base M C ∧ Kept d mb base w (w.setCell ⟨d, 3, none⟩ (.bool true)) :=
  h.same hb ⟨rfl, rfl, rfl⟩ (by simp) (fun j _ hj => Below.heap_setCell _ _ _ _ hj) h.dm.outed.2.2.1 h.dm.1
theorem DiskG.stepped {w : World} {st fu : Int} {d mb base : Nat} {M : List Ent} {C : Cont} (h : DiskG w st fu false d mb base M C) (hb : base ≤ w.heap.size) : DiskG (stepW w d st fu) (wrap64 (st + 1)) (dec fu) false d mb base M C ∧ Kept d mb base w (stepW w d st fu) :=
  h.same hb (stepW_os w d st fu) (by rw [stepW_size]; exact Nat.le_refl _) (fun j _ hj => stepW_heap hj) h.dm.stepped.2.2.1 h.dm.stepped.1
/-- a step of a disk with all its files. -/
theorem step_G (d mb base : Nat) (M : List Ent) (C : Cont) (st fu : Int) (g : Nat) (binds : Array Value) (w : World) (h : DiskG w st fu false d mb base M C) (hb : base ≤ w.heap.size) (eg : ∀ args w, (callFunc g args).run Try.prog w = .ok (.enter g args) w) (Q : World → Prop)
    (hdo : ∀ W, Kept d mb base w W → (∀ (j : Nat), j ≠ d → W.heap[j]? = w.heap[j]?) → DiskG W (wrap64 (st + 1)) (dec fu) false d mb base M C → Calls Try.prog g binds W fun e w' => e = .returned (.tuple #[]) ∧ Q w' ∧ Kept d mb base W w') :
    Calls Try.prog 37 #[.pointer (some ⟨d, 0, none⟩), .func (.func g) #[] binds] w fun e w' => ∃ z, e = .returned (.int .i64 z) ∧ Stepped fu z (DiskG w' st fu true d mb base M C) (Q w') ∧ Kept d mb base w w' := by
  refine (step_all d mb st fu g binds M w h.dm eg (fun w' => Q w' ∧ Kept d mb base w w') (fun _ => ?_)).mono ?_
  · obtain ⟨h1, h2⟩ := h.stepped hb
    refine (hdo _ h2 (fun j hj => stepW_heap hj) h1).mono ?_
    rintro e w' ⟨rfl, q1, q2⟩
    exact ⟨rfl, q1, h2.trans q2⟩
  · rintro e w' ⟨z, rfl, ⟨h1, h2, rfl⟩ | ⟨h1, h2, q1, q2⟩⟩
    · exact ⟨z, rfl, .inl ⟨h1, h2, (h.outed hb).1⟩, (h.outed hb).2⟩
    · exact ⟨z, rfl, .inr ⟨h1, h2, q1⟩, q2⟩
theorem enters_rem : ∀ args w, (callFunc 48 args).run Try.prog w = .ok (.enter 48 args) w := enters_of (hf := Try.func48) (hname := by kernel_rfl) (hb := rfl)
theorem enters_ren : ∀ args w, (callFunc 54 args).run Try.prog w = .ok (.enter 54 args) w := enters_of (hf := Try.func54) (hname := by kernel_rfl) (hb := rfl)
theorem row1_ne {w : World} {d mb : Nat} {st fu : Int} {out : Bool} (hd : DiskRow w d mb st fu out) {j : Nat} {v : Value} {t : TypeId} {fr : Nat × Nat} (h : w.heap[j]? = some (.cells #[v] t fr)) : j ≠ d := by
  rintro rfl
  unfold DiskRow at hd
  rw [hd] at h
  cases h
theorem rem_step (nm : ByteArray) (bd bn d mb base : Nat) (M : List Ent) (C : Cont) (st fu : Int) (w : World) (hb : base ≤ w.heap.size)
    (hbd : w.heap[bd]? = some (.cells #[.pointer (some ⟨d, 0, none⟩)] 27 (0, 0))) (hbn : w.heap[bn]? = some (.cells #[.string nm] 9 (0, 0))) (h : DiskG w st fu false d mb base M C) :
    Calls Try.prog 37 #[.pointer (some ⟨d, 0, none⟩), .func (.func 48) #[] #[.pointer (some ⟨bd, 0, none⟩), .pointer (some ⟨bn, 0, none⟩)]] w
      fun e w' => ∃ z, e = .returned (.int .i64 z) ∧ Stepped fu z (DiskG w' st fu true d mb base M C) (DiskG w' (wrap64 (st + 1)) (dec fu) false d mb base (delE nm M) C) ∧ Kept d mb base w w' := by
  refine step_G d mb base M C st fu _ _ w h hb enters_rem _ (fun W hk hW hg => ?_)
  have hd := h.dm.2.2.1
  refine (RemDo_any nm bd bn d mb M _ _ W ((hW _ (row1_ne hd hbd)).trans hbd) ((hW _ (row1_ne hd hbn)).trans hbn) hg.dm).mono ?_
  rintro e w' ⟨rfl, hdm, o, rfl⟩
  obtain ⟨_, _, _, c, hfit, hm⟩ := hg.dm
  have hmem : ∀ x, x ∈ delE nm M → x ∈ M := fun x hx => ((delE_mem hfit.once).1 hx).1
  obtain ⟨r1, r2⟩ := hg.remap (w' := setObjAt W.drew mb o) (Nat.le_trans hb hk.below.size) ⟨rfl, rfl, rfl⟩ (by rw [setObjAt_size]; exact Nat.le_refl _) (fun j hj h1 h2 => heap_setObjAt W.drew mb j o h2) hdm (fun x hx => ⟨x, hmem x hx, rfl⟩) (fun x hx y hy => hg.apart x (hmem x hx) y (hmem y hy))
  exact ⟨rfl, r1, r2⟩
theorem ren_step (nm to : ByteArray) (bd bn p bt d mb base f : Nat) (M : List Ent) (C : Cont) (st fu : Int) (w : World) (hb : base ≤ w.heap.size) (hnt : nameP to.data.toList = true) (hfo : fileOf nm M = some f)
    (hp : w.heap[p]? = some (.cells #[.pointer (some ⟨f, 0, none⟩)] 72 (0, 0))) (hbt : w.heap[bt]? = some (.cells #[.string to] 9 (0, 0)))
    (hbd : w.heap[bd]? = some (.cells #[.pointer (some ⟨d, 0, none⟩)] 27 (0, 0))) (hbn : w.heap[bn]? = some (.cells #[.string nm] 9 (0, 0))) (h : DiskG w st fu false d mb base M C) :
    Calls Try.prog 37 #[.pointer (some ⟨d, 0, none⟩), .func (.func 54) #[] #[.pointer (some ⟨bd, 0, none⟩), .pointer (some ⟨bn, 0, none⟩), .pointer (some ⟨p, 0, none⟩), .pointer (some ⟨bt, 0, none⟩)]] w
      fun e w' => ∃ z, e = .returned (.int .i64 z) ∧ Stepped fu z (DiskG w' st fu true d mb base M C) (∃ c, DiskG w' (wrap64 (st + 1)) (dec fu) false d mb base (putE to f c (delE nm M)) C) ∧ Kept d mb base w w' := by
  refine step_G d mb base M C st fu _ _ w h hb enters_ren (fun w' => ∃ c, DiskG w' (wrap64 (st + 1)) (dec fu) false d mb base (putE to f c (delE nm M)) C) (fun W hk hW hg => ?_)
  have hd := h.dm.2.2.1
  refine (RenDo_any nm to bd bn p bt d mb f M _ _ W hnt hfo ((hW _ (row1_ne hd hp)).trans hp) ((hW _ (row1_ne hd hbt)).trans hbt) ((hW _ (row1_ne hd hbd)).trans hbd) ((hW _ (row1_ne hd hbn)).trans hbn) hg.dm).mono ?_
  rintro e w' ⟨rfl, c', hdm, o, o', rfl⟩
  obtain ⟨_, _, _, c, hfit, hm⟩ := hg.dm
  obtain ⟨b, hfm⟩ := fileOf_mem hfo
  have hmem : ∀ x, x ∈ putE to f c' (delE nm M) → (x.1 = to ∧ x.2.1 = f) ∨ (x ∈ M ∧ x.1 ≠ nm ∧ x.1 ≠ to) := fun x hx => by
    rcases putE_mem hfit.del.once hx with q | ⟨q1, q2⟩
    · exact .inl q
    · have := (delE_mem hfit.once).1 q1
      exact .inr ⟨this.1, this.2, q2⟩
  obtain ⟨r1, r2⟩ := hg.remap (w' := setObjAt (setObjAt W.drew mb o').drew mb o) (Nat.le_trans hb hk.below.size) ⟨rfl, rfl, rfl⟩ (by rw [setObjAt_size]; show _ ≤ (setObjAt W.drew mb o').heap.size; rw [setObjAt_size]; exact Nat.le_refl _)
    (fun j hj h1 h2 => (heap_setObjAt (setObjAt W.drew mb o').drew mb j o h2).trans (heap_setObjAt W.drew mb j o' h2)) hdm
    (fun x hx => by
      rcases hmem x hx with q | q
      · exact ⟨_, hfm, q.2.symm⟩
      · exact ⟨x, q.1, rfl⟩)
    (fun x hx y hy e => by
      rcases hmem x hx with q | q <;> rcases hmem y hy with r | r
      · rw [q.1, r.1]
      · exact absurd (hg.apart y r.1 _ hfm (e.symm.trans q.2)) r.2.1
      · exact absurd (hg.apart x q.1 _ hfm (e.trans r.2)) q.2.1
      · exact hg.apart x q.1 y r.1 e)
  exact ⟨rfl, ⟨c', r1⟩, r2⟩
set_option maxRecDepth 100000 in
theorem Remove_any (nm : ByteArray) (d mb base f : Nat) (M : List Ent) (C : Cont) (st fu : Int) (w : World) (hb : base ≤ w.heap.size) (h : DiskG w st fu false d mb base M C) (hfo : fileOf nm M = some f) :
    Calls Try.prog 18 #[.pointer (some ⟨d, 0, none⟩), .string nm] w fun e w' => ∃ z, e = .returned (.int .i64 z) ∧ Stepped fu z (DiskG w' st fu true d mb base M C) (DiskG w' (wrap64 (st + 1)) (dec fu) false d mb base (delE nm M) C) ∧ Kept d mb base w w' := by
  have HB := Lib.hid hb
  have HG := Lib.hid h
  have HFO := Lib.hid hfo
  clear hb h hfo
  go_enter Try.func18, Try.ntmps18
  go_wp2_with fail
  generalize hX : (w.alloc (.cells #[.pointer (some ⟨d, 0, none⟩)] 27)).alloc (.cells #[.string nm] 9) = X
  have hx0 : X.heap[w.heap.size]? = some (.cells #[.pointer (some ⟨d, 0, none⟩)] 27 (0, 0)) := by
    rw [← hX, Below.heap_alloc _ _ _ (by simp)]
    exact heap_alloc_new _ _
  have hx1 : X.heap[w.heap.size + 1]? = some (.cells #[.string nm] 9 (0, 0)) := by
    rw [← hX]
    have := heap_alloc_new (w.alloc (.cells #[.pointer (some ⟨d, 0, none⟩)] 27)) (.cells #[.string nm] 9)
    simpa using this
  have hbX : Below w.heap.size w X := by
    rw [← hX]
    exact ((Below.refl _ _).alloc (Nat.le_refl _) _).alloc (by simp) _
  clear hX
  have c0 : X.cell? ⟨w.heap.size, 0, none⟩ = some (.pointer (some ⟨d, 0, none⟩)) := cell_of_row _ _ _ _ _ _ hx0
  have c1 : X.cell? ⟨w.heap.size + 1, 0, none⟩ = some (.string nm) := cell_of_row _ _ _ _ _ _ hx1
  have HGX := Lib.hid (HG.out.later hbX)
  have hbb : base ≤ X.heap.size := Nat.le_trans HB.out hbX.size
  have HST := Lib.hid (rem_step nm w.heap.size (w.heap.size + 1) d mb base M C st fu X hbb hx0 hx1 HGX.out)
  obtain ⟨c, hm⟩ : ∃ c, X.heap[mb]? = some (.map (ents M) c) := ⟨_, HGX.out.dm.2.2.2.choose_spec.2⟩
  have HO := Lib.hid (open_log d mb c f M st fu X HGX.out.dm.2.2.1 hm HFO.out)
  have HK : Hid (Kept d mb base w X) := Lib.hid (.of_below hbX HB.out)
  clear hx0 hx1 hbX hbb hm
  refine HO.out.mono ?_
  rintro e w' ⟨rfl, rfl⟩
  go_wp2_with fail
  refine HST.out.mono ?_
  rintro e w' ⟨z, rfl, hs, hk⟩
  have HR := Lib.hid (And.intro hs (HK.out.trans hk))
  clear hs hk
  go_wp2_with fail
  go_ret
  exact ⟨z, rfl, HR.out.1, HR.out.2⟩
end Go.Proofs.Ytmpjjkfbojhfoaa

/- disk: Rename; Steps -/
namespace Go.Proofs.Ytmpjjkfbojhfoaa
open Go.RowKit
set_option linter.unusedSectionVars false
variable [Zone]
set_option maxRecDepth 100000 in
theorem Rename_any (nm to : ByteArray) (d mb base f : Nat) (M : List Ent) (C : Cont) (st fu : Int) (w : World) (hb : base ≤ w.heap.size) (hnt : nameP to.data.toList = true) (h : DiskG w st fu false d mb base M C) (hfo : fileOf nm M = some f) :
    Calls Try.prog 27 #[.pointer (some ⟨d, 0, none⟩), .string nm, .string to] w fun e w' => ∃ z, e = .returned (.int .i64 z) ∧ (((C f).2 ≠ [] ∧ z = 9 ∧ DiskG w' st fu false d mb base M C) ∨ ((C f).2 = [] ∧ Stepped fu z (DiskG w' st fu true d mb base M C) (∃ c, DiskG w' (wrap64 (st + 1)) (dec fu) false d mb base (putE to f c (delE nm M)) C))) ∧ Kept d mb base w w' := by
  have HB := Lib.hid hb
  have HG := Lib.hid h
  have HFO := Lib.hid hfo
  have HNT := Lib.hid hnt
  clear hb h hfo hnt
  go_enter Try.func27, Try.ntmps27
  go_wp2_with fail
  generalize hX : ((w.alloc (.cells #[.pointer (some ⟨d, 0, none⟩)] 27)).alloc (.cells #[.string nm] 9)).alloc (.cells #[.string to] 9) = X
  have hx0 : X.heap[w.heap.size]? = some (.cells #[.pointer (some ⟨d, 0, none⟩)] 27 (0, 0)) := by
    rw [← hX, Below.heap_alloc _ _ _ (by simp; omega), Below.heap_alloc _ _ _ (by simp)]
    exact heap_alloc_new _ _
  have hx1 : X.heap[w.heap.size + 1]? = some (.cells #[.string nm] 9 (0, 0)) := by
    rw [← hX, Below.heap_alloc _ _ _ (by simp)]
    have := heap_alloc_new (w.alloc (.cells #[.pointer (some ⟨d, 0, none⟩)] 27)) (.cells #[.string nm] 9)
    simpa using this
  have hx2 : X.heap[w.heap.size + 1 + 1]? = some (.cells #[.string to] 9 (0, 0)) := by
    rw [← hX]
    have := heap_alloc_new ((w.alloc (.cells #[.pointer (some ⟨d, 0, none⟩)] 27)).alloc (.cells #[.string nm] 9)) (.cells #[.string to] 9)
    simpa using this
  have hbX : Below w.heap.size w X := by
    rw [← hX]
    exact (((Below.refl _ _).alloc (Nat.le_refl _) _).alloc (by simp) _).alloc (by simp; omega) _
  have hsX : X.heap.size = w.heap.size + 3 := by rw [← hX]; simp
  clear hX
  obtain ⟨N, hN⟩ : ∃ N, N = w.heap.size := ⟨_, rfl⟩
  rw [← hN] at hx0 hx1 hx2 hsX ⊢
  have HN := Lib.hid hN
  have c0 : X.cell? ⟨N, 0, none⟩ = some (.pointer (some ⟨d, 0, none⟩)) := cell_of_row _ _ _ _ _ _ hx0
  have c1 : X.cell? ⟨N + 1, 0, none⟩ = some (.string nm) := cell_of_row _ _ _ _ _ _ hx1
  have c2 : X.cell? ⟨N + 1 + 1, 0, none⟩ = some (.string to) := cell_of_row _ _ _ _ _ _ hx2
  have HGX := Lib.hid (HG.out.later hbX)
  have hbb : base ≤ X.heap.size := Nat.le_trans HB.out hbX.size
  have HK : Hid (Kept d mb base w X) := Lib.hid (.of_below hbX HB.out)
  have HXX := Lib.hid (And.intro hx0 (And.intro hx1 (And.intro hx2 (And.intro hsX hbb))))
  clear hx0 hx1 hx2 hbX hbb hsX hN
  refine (down_any d mb st fu X HGX.out.dm.2.2.1).mono ?_
  rintro e w' ⟨rfl, rfl⟩
  go_wp2_with fail
  refine (named_log _ HNT.out).mono ?_
  rintro e w' ⟨rfl, rfl⟩
  go_wp2_with fail
  obtain ⟨c, hm⟩ : ∃ c, X.heap[mb]? = some (.map (ents M) c) := ⟨_, HGX.out.dm.2.2.2.choose_spec.2⟩
  refine (open_log d mb c f M st fu X HGX.out.dm.2.2.1 hm HFO.out).mono ?_
  rintro e w' ⟨rfl, rfl⟩
  clear hm
  have hbY : Below X.heap.size X (X.alloc (.cells #[.pointer (some ⟨f, 0, none⟩)] 72)) := (Below.refl _ _).alloc (Nat.le_refl _) _
  have hy3 : (X.alloc (.cells #[.pointer (some ⟨f, 0, none⟩)] 72)).heap[X.heap.size]? = some (.cells #[.pointer (some ⟨f, 0, none⟩)] 72 (0, 0)) := heap_alloc_new _ _
  rw [HXX.out.2.2.2.1] at hy3
  have hgY : DiskG (X.alloc (.cells #[.pointer (some ⟨f, 0, none⟩)] 72)) st fu false d mb base M C := HGX.out.later hbY
  obtain ⟨⟨ao, n, cap, lv, hr, hs, hds⟩, q1, q2⟩ := (hgY.file HFO.out).2
  obtain ⟨al, capl, hlv, hdl⟩ := hds.deeds
  subst hlv
  have hdm := hdl.2.1
  have hdc := hdl.2.2.1
  unfold maxLen at hdc
  obtain ⟨m, hm⟩ : ∃ m, m = (C f).2.length := ⟨_, rfl⟩
  rw [← hm] at hr hdm
  have y4 : (X.alloc (.cells #[.pointer (some ⟨f, 0, none⟩)] 72)).cell? ⟨f, 1, none⟩ = some (.slice al m capl) := cell_of_row _ _ _ _ _ _ hr
  have HKY : Hid (Kept d mb base w (X.alloc (.cells #[.pointer (some ⟨f, 0, none⟩)] 72))) := Lib.hid (HK.out.trans (.of_below hbY HXX.out.2.2.2.2))
  have HY := Lib.hid (And.intro hgY (Nat.le_trans HXX.out.2.2.2.2 hbY.size))
  have HST := Lib.hid (ren_step nm to N (N + 1) (N + 3) (N + 1 + 1) d mb base f M C st fu _ HY.out.2 HNT.out HFO.out hy3 ((hbY.block _ (heap_lt HXX.out.2.2.1)).trans HXX.out.2.2.1) ((hbY.block _ (heap_lt HXX.out.1)).trans HXX.out.1) ((hbY.block _ (heap_lt HXX.out.2.1)).trans HXX.out.2.1) hgY)
  have HM := Lib.hid hm
  have hsX := HXX.out.2.2.2.1
  clear hbY hy3 hgY hr hs hds q1 q2 hdl hm
  by_cases h0 : (0 : Int) < (m : Int)
  · go_wp2_with fail
    go_ret
    exact ⟨9, rfl, .inl ⟨by have := HM.out; intro e; rw [e] at this; simp at this; omega, rfl, HY.out.1⟩, HKY.out⟩
  · go_wp2_with fail
    refine HST.out.mono ?_
    rintro e w' ⟨z, rfl, hs, hk⟩
    have HR := Lib.hid (And.intro hs (HKY.out.trans hk))
    clear hs hk
    go_wp2_with fail
    go_ret
    exact ⟨z, rfl, .inr ⟨List.eq_nil_of_length_eq_zero (by have := HM.out; omega), HR.out.1⟩, HR.out.2⟩
end Go.Proofs.Ytmpjjkfbojhfoaa

/- disk: Crash, of all files -/
namespace Go.Proofs.Ytmpjjkfbojhfoaa
open Go.RowKit Go.Sort
set_option linter.unusedSectionVars false
variable [Zone]
theorem mod_mod (k : Int) (U : Nat) : (k.tmod ((U : Int) + 1) + ((U : Int) + 1)).tmod ((U : Int) + 1) = k % ((U : Int) + 1) := by
  have h1 := Int.tmod_lt_of_pos (-k) (b := (U : Int) + 1) (by omega)
  rw [Int.neg_tmod] at h1
  rw [Int.tmod_eq_emod_of_nonneg (by omega)]
  have h2 : k.tmod ((U : Int) + 1) + ((U : Int) + 1) = k + ((U : Int) + 1) * (1 - k.tdiv ((U : Int) + 1)) := by
    have h3 := Int.tmod_def k ((U : Int) + 1)
    rw [Int.mul_sub, Int.mul_one]
    omega
  rw [h2, Int.add_mul_emod_self_left]
theorem FileOwn.kept {w : World} {f base base' : Nat} {v : Value} {S : List UInt8} {D : List Deed} {z : Int} (h : FileRow w f v (.slice none 0 0)) (ho : OwnB w base v (afterZ S D z)) (hs : S.length + (D.map Deed.units).sum ≤ 4294967296) (hz : ∀ k, Zone.g = some k → k < base) : FileOwn w f base' (afterZ S D z) [] := by
  obtain ⟨ao, cap, rfl, hb, _⟩ := ho.bytes
  refine ⟨⟨_, _, _, _, h, ⟨hb, ZS.of_own ho hz⟩, OwnD.nil _ _⟩, trivial, ?_⟩
  have := afterZ_length D S z
  simp only [List.map_nil, List.sum_nil]
  omega
/-- a slice of whole numbers, in no memory of a disk. -/
def IsKeeps (w : World) (ao : Option Addr) (n cap : Nat) (K : List Int) : Prop :=
  K.length = n ∧ n ≤ cap ∧ cap ≤ maxLen ∧ (ao = none → n = 0) ∧ ∀ i, i < n → ∃ b off c t fr v, ao = some ⟨b, off, none⟩ ∧ w.heap[b]? = some (.cells c t fr) ∧ (t ≠ 68 ∧ t ≠ 76 ∧ t ≠ 101) ∧ c[off + i]? = some (.int .i64 v) ∧ K[i]? = some v ∧ -9223372036854775808 ≤ v ∧ v ≤ 9223372036854775807
theorem IsKeeps.nil (w : World) : IsKeeps w none 0 0 [] := ⟨rfl, Nat.le_refl _, by unfold maxLen; omega, fun _ => rfl, fun i h => absurd h (by omega)⟩
theorem Kept.cells {d mb base : Nat} {w w' : World} {st fu : Int} {out : Bool} {es : Array MapEntry} {cl b : Nat} {c : Array Value} {t : TypeId} {fr : Nat × Nat} (h : Kept d mb base w w') (hd : DiskRow w d mb st fu out) (hm : w.heap[mb]? = some (.map es cl)) (hc : w.heap[b]? = some (.cells c t fr)) (ht : t ≠ 68 ∧ t ≠ 76 ∧ t ≠ 101) : w'.heap[b]? = w.heap[b]? := by
  refine h.keep b (heap_lt hc) ?_ ?_ ?_ ?_
  · rintro rfl
    unfold DiskRow at hd
    rw [hd] at hc
    injection hc with hc
    injection hc with h1 h2
    exact ht.1 h2.symm
  · rintro rfl
    rw [hm] at hc
    cases hc
  · intro c' t' e
    rw [hc] at e
    injection e with e
    injection e with h1 h2
    exact ht.2.1 h2
  · intro c' t' e
    rw [hc] at e
    injection e with e
    injection e with h1 h2
    exact ht.2.2 h2
theorem IsKeeps.kept {d mb base : Nat} {w w' : World} {st fu : Int} {out : Bool} {es : Array MapEntry} {cl : Nat} {ao : Option Addr} {n cap : Nat} {K : List Int} (hk : IsKeeps w ao n cap K) (h : Kept d mb base w w') (hd : DiskRow w d mb st fu out) (hm : w.heap[mb]? = some (.map es cl)) : IsKeeps w' ao n cap K := by
  obtain ⟨h1, h2, h3, h4, h5⟩ := hk
  refine ⟨h1, h2, h3, h4, fun i hi => ?_⟩
  obtain ⟨b, off, c, t, fr, v, e, hc, ht, q⟩ := h5 i hi
  exact ⟨b, off, c, t, fr, v, e, (h.cells hd hm hc ht).trans hc, ht, q⟩
/-- how many units of the file at a place stay. -/
def unitK (K : List Int) (i : Nat) (D : List Deed) : Int := if i < K.length then K.getD i 0 % ((unitsD D : Nat) + 1 : Int) else 0
/-- a crash, file by file. -/
def crashN (M : List Ent) (K : List Int) : List (List UInt8) → Nat → Cont → Cont
  | [], _, C => C
  | s :: ns, i, C => crashN M K ns (i + 1) (match fileOf ⟨s.toArray⟩ M with
    | some f => setC C f (afterZ (C f).1 (C f).2 (unitK K i (C f).2), [])
    | none => C)
theorem unitK_le (K : List Int) (i : Nat) (D : List Deed) : 0 ≤ unitK K i D ∧ unitK K i D ≤ unitsD D := by
  unfold unitK
  split
  · exact ⟨Int.emod_nonneg _ (by omega), by have := Int.emod_lt_of_pos (K.getD i 0) (b := ((unitsD D : Nat) : Int) + 1) (by omega); omega⟩
  · omega
theorem fileOf_some {x : Ent} {M : List Ent} (hx : x ∈ M) : ∃ f, fileOf x.1 M = some f := by
  cases h : fileOf x.1 M with
  | none => exact absurd rfl (fileOf_none h x hx)
  | some f => exact ⟨f, rfl⟩
theorem sortN_file {M : List Ent} {k : Nat} {s : List UInt8} (h : (sortN M)[k]? = some s) : ∃ f, fileOf ⟨s.toArray⟩ M = some f := by
  have h1 : s ∈ sortN M := List.mem_of_getElem? h
  unfold sortN at h1
  have h2 := (List.mergeSort_perm _ _).mem_iff.1 h1
  obtain ⟨x, hx, rfl⟩ := List.mem_map.1 h2
  exact fileOf_some hx
theorem sortN_length (M : List Ent) : (sortN M).length = M.length := by simp [sortN]
theorem DiskG.settled {w w' : World} {st fu : Int} {out : Bool} {d mb base f : Nat} {M : List Ent} {C : Cont} {v : Value} {nm : ByteArray} {z : Int} (h : DiskG w st fu out d mb base M C) (hb : base ≤ w.heap.size) (hfo : fileOf nm M = some f) (hr : FileRow w' f v (.slice none 0 0)) (ho : OwnB w' w.heap.size v (afterZ (C f).1 (C f).2 z)) (hg : w.grownBy w' (some f)) :
    DiskG w' st fu out d mb base M (setC C f (afterZ (C f).1 (C f).2 z, [])) ∧ Kept d mb base w w' := by
  obtain ⟨b, hfm⟩ := fileOf_mem hfo
  have hf := (h.file hfo).2
  obtain ⟨q1, q2, q3, c, q4, q5⟩ := h.dm
  have hnd := hf.at.ne_disk q3
  have hnm := hf.at.ne_map q5
  exact h.moved hfm hb ((Moved.refl _ _ _ _).settled hg (rowOf_row hr)) ⟨q1, q2, (hg.block d q3.lt (by intro e; injection e with e; exact hnd e.symm)).trans q3, c, q4, (hg.block mb (heap_lt q5) (by intro e; injection e with e; exact hnm e.symm)).trans q5⟩ (FileOwn.kept hr ho hf.at.small h.zone)
set_option maxRecDepth 100000 in
set_option maxHeartbeats 2000000 in
theorem Crash_G (d mb base : Nat) (M : List Ent) (C : Cont) (st fu : Int) (out : Bool) (ao : Option Addr) (n cap : Nat) (K : List Int) (w : World) (hb : base ≤ w.heap.size) (h : DiskG w st fu out d mb base M C) (hK : IsKeeps w ao n cap K) :
    Calls Try.prog 16 #[.pointer (some ⟨d, 0, none⟩), .slice ao n cap] w fun e w' => e = .returned (.int .i64 0) ∧ DiskG w' st (-1) false d mb base M (crashN M K (sortN M) 0 C) ∧ Kept d mb base w w' := by
  have HN := Lib.hid (none_any d mb st fu out w h.dm.2.2.1)
  have HNM := Lib.hid (Names_any d mb M st fu out w h.dm)
  have HG := Lib.hid h
  have HK := Lib.hid hK
  have HB := Lib.hid hb
  have hkn := hK.2.1
  have hkc := hK.2.2.1
  unfold maxLen at hkc
  clear h hK hb
  go_enter Try.func16, Try.ntmps16
  go_wp2_with fail
  refine HN.out.mono ?_
  rintro e w' ⟨rfl, rfl⟩
  go_wp2_with fail
  refine HNM.out.mono ?_
  rintro e w1 ⟨v, rfl, hrow, hnil, hb1⟩
  obtain ⟨av, cv, hv⟩ := ownsRow_shape hrow
  subst hv
  have hml := HG.out.dm.2.2.2.choose_spec.1.few
  obtain ⟨m, hm⟩ : ∃ m, m = M.length := ⟨_, rfl⟩
  rw [← hm] at hrow hml ⊢
  have hcells : ∃ gv o0, o0 = 0 ∧ (0 < m → av = some ⟨gv, o0, none⟩ ∧ ∃ c fr, w1.heap[gv]? = some (.cells c 9 fr) ∧ ∀ k s, (sortN M)[k]? = some s → c[o0 + k]? = some (encStr s)) := by
    rcases hrow.2 with ⟨h1, h2⟩ | ⟨gv, cap', cur, h1, hbg, hgg, rest⟩
    · exact ⟨0, 0, rfl, fun h => absurd h (by omega)⟩
    · injection h1 with h1 h2 h3
      refine ⟨gv, 0, rfl, fun _ => ⟨h1, _, _, hgg, fun k s hs => ?_⟩⟩
      have hc := hrow.cells (g := gv) (by rw [h1]; rfl) k (encStr s) (by rw [List.getElem?_map, hs]; rfl)
      have he : (⟨gv, 0, none⟩ : Addr).add k = ⟨gv, 0 + k, none⟩ := by unfold Addr.add; split <;> simp_all
      rw [he] at hc
      simp only [World.cell?, hgg] at hc
      exact hc
  obtain ⟨gv, o0, ho0, hcells⟩ := hcells
  have HC := Lib.hid (And.intro ho0 hcells)
  have HM := Lib.hid hm
  have hg1 : DiskG w1 st fu out d mb base M C := HG.out.later hb1
  have hk1 : Kept d mb base w w1 := .of_below hb1 HB.out
  have H1 := Lib.hid (And.intro hg1 (And.intro hk1 (Nat.le_trans HB.out hb1.size)))
  have HK1 : Hid (IsKeeps w1 ao n cap K) := Lib.hid (HK.out.kept hk1 HG.out.dm.2.2.1 HG.out.dm.2.2.2.choose_spec.2)
  clear hrow hnil hb1 hg1 hk1 hcells ho0 hm
  go_wp2_with fail
  go_loopw [15] (fun i wr => ∃ k Ck, k ≤ m ∧ i = .int .i64 ((k : Nat) : Int) ∧ Hid (DiskG wr st fu out d mb base M Ck) ∧ Hid (crashN M K ((sortN M).drop k) k Ck = crashN M K (sortN M) 0 C) ∧ Hid (Kept d mb base w1 wr)) (fun i _ => m - (intOf i).toNat)
  case atStart => exact ⟨0, C, by omega, rfl, Lib.hid H1.out.1, Lib.hid rfl, Lib.hid (Kept.refl _ _ _ _)⟩
  case round =>
    obtain ⟨k, Ck, hk, rfl, hgr, heq, hkr⟩ := hrel
    by_cases hlt : k < m
    · have hk0 : (0 : Int) ≤ (k : Int) := by omega
      have hk1 : (k : Int) < (m : Int) := by omega
      obtain ⟨s, hs⟩ : ∃ s, (sortN M)[k]? = some s := ⟨_, List.getElem?_eq_getElem (by rw [sortN_length, ← HM.out]; exact hlt)⟩
      obtain ⟨hav, cs, fr, hcs, hcc⟩ := HC.out.2 (by omega)
      subst hav
      have hcs2 : wr.heap[gv]? = some (.cells cs 9 fr) := (hkr.out.cells H1.out.1.dm.2.2.1 H1.out.1.dm.2.2.2.choose_spec.2 hcs (by decide)).trans hcs
      have hcell : wr.cell? ⟨gv, o0 + k, none⟩ = some (encStr s) := by
        simp only [World.cell?, hcs2]
        exact hcc k s hs
      obtain ⟨f, hf⟩ := sortN_file hs
      obtain ⟨nm, hnm⟩ : ∃ nm : ByteArray, nm = ⟨s.toArray⟩ := ⟨_, rfl⟩
      rw [← hnm] at hf
      replace hcell : wr.cell? ⟨gv, o0 + k, none⟩ = some (.string nm) := by rw [hcell, hnm]
      have hr0 := hgr.out.dm.2.2.1.cells.1
      obtain ⟨cl, hmr⟩ : ∃ cl, wr.heap[mb]? = some (.map (ents M) cl) := ⟨_, hgr.out.dm.2.2.2.choose_spec.2⟩
      have hlk := look_log wr mb cl M hmr hf
      have hfo := (hgr.out.file hf).2
      have HLO := Lib.hid (loose_at f (Ck f).1 (Ck f).2 wr hfo.at)
      have hsm := hfo.2.2
      have hz := unitK_le K k (Ck f).2
      have hU : unitsD (Ck f).2 ≤ 4294967296 := by unfold unitsD; omega
      have HST := Lib.hid (settle_any f (Ck f).1 (Ck f).2 wr (unitK K k (Ck f).2) hz.1 (by omega) hfo.at)
      obtain ⟨U, hUe⟩ : ∃ U, U = unitsD (Ck f).2 := ⟨_, rfl⟩
      rw [← hUe] at hU HLO
      have HNX : Hid (∀ C', C' = setC Ck f (afterZ (Ck f).1 (Ck f).2 (unitK K k (Ck f).2), []) → crashN M K ((sortN M).drop (k + 1)) (k + 1) C' = crashN M K (sortN M) 0 C) := Lib.hid (by
        rintro _ rfl
        rw [← heq.out]
        have hkl : k < (sortN M).length := by rw [sortN_length, ← HM.out]; exact hlt
        rw [List.drop_eq_getElem_cons hkl]
        have hse : (sortN M)[k] = s := by
          rw [List.getElem?_eq_getElem hkl] at hs
          injection hs
        rw [hse, crashN, ← hnm, hf])
      have HF := Lib.hid hf
      have hwb : base ≤ wr.heap.size := Nat.le_trans H1.out.2.2 hkr.out.below.size
      have HWB := Lib.hid hwb
      by_cases hin : k < n
      · have hin' : (k : Int) < (n : Int) := by omega
        obtain ⟨b, off, c, t, fr', x, hao, hbc, hbt, hcx, hKx, hx0, hx1⟩ := HK1.out.2.2.2.2 k hin
        subst hao
        have hbc2 : wr.heap[b]? = some (.cells c t fr') := (hkr.out.cells H1.out.1.dm.2.2.1 H1.out.1.dm.2.2.2.choose_spec.2 hbc hbt).trans hbc
        have hcx2 : wr.cell? ⟨b, off + k, none⟩ = some (.int .i64 x) := by
          simp only [World.cell?, hbc2]
          exact hcx
        have huk : unitK K k (Ck f).2 = (x.tmod ((U : Int) + 1) + ((U : Int) + 1)).tmod ((U : Int) + 1) := by
          rw [mod_mod, hUe]
          unfold unitK
          rw [if_pos (by rw [HK1.out.1]; exact hin), List.getD_eq_getElem?_getD, hKx]
          rfl
        rw [huk] at HST
        have hw1 : IntKind.i64.wrap ((U : Int) + 1) = (U : Int) + 1 := IntWalk.i64_in _ (by omega)
        have hw2 : IntKind.i64.wrap (x.tmod ((U : Int) + 1) + ((U : Int) + 1)) = x.tmod ((U : Int) + 1) + ((U : Int) + 1) := IntWalk.i64_in _ (by
          have h1 := Int.tmod_lt_of_pos x (b := (U : Int) + 1) (by omega)
          have h2 : -((U : Int) + 1) < x.tmod ((U : Int) + 1) := by
            have := Int.tmod_lt_of_pos (-x) (b := (U : Int) + 1) (by omega)
            rw [Int.neg_tmod] at this
            omega
          omega)
        have hn0 : ¬ ((U : Int) + 1 = 0) := by omega
        have hn1 : (((U : Int) + 1) == 0) = false := by simp; omega
        have HUK := Lib.hid huk
        clear hmr hfo hsm hz hUe hcc hcs hcs2 hs hnm hf hwb hbc hbc2 hcx hKx hx0 hx1 huk hbt
        go_wp2_with fail
        refine HLO.out.mono ?_
        rintro e w' ⟨rfl, rfl⟩
        go_wp2_with fail
        refine HST.out.mono ?_
        rintro e w2 ⟨rfl, ⟨v2, hr2, ho2⟩, hg2⟩
        rw [← HUK.out] at ho2
        obtain ⟨hgn, hkn2⟩ := hgr.out.settled HWB.out HF.out hr2 ho2 hg2
        have HGN := Lib.hid (And.intro hgn (hkr.out.trans hkn2))
        clear hr2 ho2 hg2 hgn hkn2
        go_wp2_with fail
        go_roundw
        case rel => exact ⟨k + 1, _, by omega, by go_num, Lib.hid HGN.out.1, Lib.hid (HNX.out _ rfl), Lib.hid HGN.out.2⟩
        case measure => simp [intOf]; omega
      · have hin' : ¬ (k : Int) < (n : Int) := by omega
        have huk : unitK K k (Ck f).2 = 0 := by
          unfold unitK
          rw [if_neg (by rw [HK1.out.1]; exact hin)]
        rw [huk] at HST
        have HUK := Lib.hid huk
        clear hmr hfo hsm hz hUe hcc hcs hcs2 hs hnm hf hwb huk
        go_wp2_with fail
        refine HST.out.mono ?_
        rintro e w2 ⟨rfl, ⟨v2, hr2, ho2⟩, hg2⟩
        rw [← HUK.out] at ho2
        obtain ⟨hgn, hkn2⟩ := hgr.out.settled HWB.out HF.out hr2 ho2 hg2
        have HGN := Lib.hid (And.intro hgn (hkr.out.trans hkn2))
        clear hr2 ho2 hg2 hgn hkn2
        go_wp2_with fail
        go_roundw
        case rel => exact ⟨k + 1, _, by omega, by go_num, Lib.hid HGN.out.1, Lib.hid (HNX.out _ rfl), Lib.hid HGN.out.2⟩
        case measure => simp [intOf]; omega
    · obtain rfl : k = m := by omega
      have hck : Ck = crashN M K (sortN M) 0 C := by
        have := heq.out
        rw [List.drop_of_length_le (by rw [sortN_length, ← HM.out]; exact Nat.le_refl _)] at this
        exact this
      have hd2 := hgr.out.dm.2.2.1
      obtain ⟨_, _, c2, c3⟩ := hd2.cells
      have z2 : wr.frozen? ⟨d, 2, none⟩ = false := frozen_of_row _ _ _ _ _ hd2
      have z3 : wr.frozen? ⟨d, 3, none⟩ = false := frozen_of_row _ _ _ _ _ hd2
      have hr3 := heap_setCell_same wr d 2 _ _ (.int .i64 (-1)) hd2
      have hr4 := heap_setCell_same _ d 3 _ _ (.bool false) hr3
      have hres := hgr.out.same (w' := (wr.setCell ⟨d, 2, none⟩ (.int .i64 (-1))).setCell ⟨d, 3, none⟩ (.bool false)) (Nat.le_trans H1.out.2.2 hkr.out.below.size) ⟨rfl, rfl, rfl⟩ (by simp) (fun j _ hj => by rw [Below.heap_setCell _ _ _ _ hj, Below.heap_setCell _ _ _ _ hj]) hr4 (by omega)
      have HRES := Lib.hid (And.intro hres.1 ((H1.out.2.1.trans hkr.out).trans hres.2))
      have HCK := Lib.hid hck
      clear hd2 hr3 hr4 hres hck
      go_wp2_with fail
      go_ret
      rw [← HCK.out]
      exact ⟨rfl, HRES.out.1, HRES.out.2⟩
end Go.Proofs.Ytmpjjkfbojhfoaa

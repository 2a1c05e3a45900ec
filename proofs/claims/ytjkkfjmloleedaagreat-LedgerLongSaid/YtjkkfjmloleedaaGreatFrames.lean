/- a disk and the reference's: the same files -/
import Derived.Test.YtjkkfjmloleedaaGreatRName
import Derived.Test.YtjkkfjmloleedaaGreatRKeepW
import Derived.Test.YtjkkfjmloleedaaGreatRCrash
import Derived.RangeFuncNested
import Derived.RangeFuncBound
import Derived.RangeFuncCalls
import Derived.RangeFuncLeaves
import Derived.Shelf.Abstract
import Derived.Shelf.RegionOpen
import Derived.OwnWalkIn
import Derived.TacticsInMore
import Derived.LoopNIn
import Derived.LoopIn
import Derived.Deep.RegionWith
import Derived.Test.YtjkkfjmloleedaaGreatKit
namespace Go.Proofs.YtjkkfjmloleedaaGreat
open Go.RowKit
set_option linter.unusedSectionVars false
abbrev nmL (x : ByteArray) : List UInt8 := x.data.toList
theorem less_iff (x y : ByteArray) : Op.bytesLess x.toList y.toList = true ↔ nmL x < nmL y := by
  rw [bytesLess_eq, Lib.toList_data, Lib.toList_data]
  simp
theorem less_not (x y : ByteArray) : Op.bytesLess x.toList y.toList = false ↔ nmL y ≤ nmL x := by
  rw [bytesLess_eq, Lib.toList_data, Lib.toList_data]
  simp
/-- the reference's files R are a disk's files M, C: by rising names. -/
structure Mir (M : List Ent) (C : Cont) (R : List FileV) : Prop where
  rise : R.Pairwise fun x y => nmL x.1 < nmL y.1
  has : ∀ x ∈ R, ∃ f b, (x.1, f, b) ∈ M ∧ C f = x.2
  all : ∀ y ∈ M, ∃ x ∈ R, x.1 = y.1
theorem getD_mem' {R : List FileV} {k : Nat} (hk : k < R.length) : R.getD k f0 ∈ R := by
  rw [List.getD_eq_getElem?_getD, List.getElem?_eq_getElem hk]
  exact List.getElem_mem hk
theorem mem_getD' {R : List FileV} {x : FileV} (h : x ∈ R) : ∃ k, k < R.length ∧ R.getD k f0 = x := by
  obtain ⟨k, hk, e⟩ := List.getElem_of_mem h
  exact ⟨k, hk, by rw [List.getD_eq_getElem?_getD, List.getElem?_eq_getElem hk]; exact e⟩
theorem nm_one {M : List Ent} (hn : (M.map (·.1)).Nodup) {x y : Ent} (hx : x ∈ M) (hy : y ∈ M) (e : x.1 = y.1) : x = y := by
  induction M with
  | nil => cases hx
  | cons z M ih =>
    rw [List.map_cons, List.nodup_cons] at hn
    rcases List.mem_cons.1 hx with rfl | hx
    · rcases List.mem_cons.1 hy with rfl | hy
      · rfl
      · exact absurd (List.mem_map.2 ⟨y, hy, e.symm⟩) hn.1
    · rcases List.mem_cons.1 hy with h9 | hy
      · exact absurd (List.mem_map.2 ⟨x, hx, by rw [e, h9]⟩) hn.1
      · exact ih hn.2 hx hy
theorem fileOf_of {M : List Ent} (hn : (M.map (·.1)).Nodup) {nm : ByteArray} {f b : Nat} (h : (nm, f, b) ∈ M) : fileOf nm M = some f := by
  obtain ⟨f', hf⟩ := fileOf_some h
  obtain ⟨b', hb⟩ := fileOf_mem hf
  have e := nm_one hn h hb rfl
  injection e with _ e
  injection e with e _
  rw [e]
  exact hf
theorem rise_inj {R : List FileV} (h : R.Pairwise fun x y => nmL x.1 < nmL y.1) {i j : Nat} (hi : i < R.length) (hj : j < R.length) (e : (R.getD i f0).1 = (R.getD j f0).1) : i = j := by
  rw [List.pairwise_iff_getElem] at h
  rw [List.getD_eq_getElem?_getD, List.getD_eq_getElem?_getD, List.getElem?_eq_getElem hi, List.getElem?_eq_getElem hj] at e
  rcases Nat.lt_trichotomy i j with q | q | q
  · have := h i j hi hj q
    rw [show R[i].1 = R[j].1 from e] at this
    exact absurd this (List.lt_irrefl _)
  · exact q
  · have := h j i hj hi q
    rw [show R[i].1 = R[j].1 from e] at this
    exact absurd this (List.lt_irrefl _)
variable {M : List Ent} {C : Cont} {R : List FileV}
theorem Mir.at (h : Mir M C R) (hn : (M.map (·.1)).Nodup) {nm : ByteArray} {z : Int} (hz : AtR nm R z) (h0 : 0 ≤ z) : ∃ f b, (nm, f, b) ∈ M ∧ fileOf nm M = some f ∧ C f = (R.getD z.toNat f0).2 ∧ z.toNat < R.length ∧ (R.getD z.toNat f0).1 = nm := by
  rcases hz with ⟨k, rfl, hk, e, _⟩ | ⟨rfl, _⟩
  · obtain ⟨f, b, h1, h2⟩ := h.has _ (getD_mem' hk)
    rw [e] at h1
    exact ⟨f, b, h1, fileOf_of hn h1, h2, hk, e⟩
  · omega
theorem Mir.no (h : Mir M C R) {nm : ByteArray} {z : Int} (hz : AtR nm R z) (h0 : z < 0) : fileOf nm M = none ∧ ∀ x ∈ R, x.1 ≠ nm := by
  rcases hz with ⟨k, rfl, hk, e, _⟩ | ⟨rfl, hno⟩
  · omega
  · have hR : ∀ x ∈ R, x.1 ≠ nm := fun x hx e => by
      obtain ⟨k, hk, rfl⟩ := mem_getD' hx
      exact hno k hk e
    refine ⟨?_, hR⟩
    cases hf : fileOf nm M with
    | none => rfl
    | some f =>
      obtain ⟨b, hb⟩ := fileOf_mem hf
      obtain ⟨x, hx, e⟩ := h.all _ hb
      exact absurd e (hR x hx)
theorem Mir.names (h : Mir M C R) (hn : (M.map (·.1)).Nodup) : sortN M = R.map fun x => nmL x.1 := by
  have hrise : (R.map fun x => nmL x.1).Pairwise (· < ·) := List.pairwise_map.2 h.rise
  have hnd : (R.map fun x => nmL x.1).Nodup := hrise.imp (fun {a b} hab e => by rw [e] at hab; exact List.lt_irrefl _ hab)
  have hnM : (M.map fun x => nmL x.1).Nodup := by
    have e : (M.map fun x => nmL x.1) = (M.map (·.1)).map nmL := by simp
    rw [e]
    exact List.pairwise_map.2 (hn.imp (fun {a b} hab e => hab (bytes_inj e)))
  have hp : (M.map fun x => nmL x.1).Perm (R.map fun x => nmL x.1) := by
    refine (List.perm_ext_iff_of_nodup hnM hnd).2 (fun a => ⟨fun ha => ?_, fun ha => ?_⟩)
    · obtain ⟨y, hy, rfl⟩ := List.mem_map.1 ha
      obtain ⟨x, hx, e⟩ := h.all y hy
      exact List.mem_map.2 ⟨x, hx, by rw [e]⟩
    · obtain ⟨x, hx, rfl⟩ := List.mem_map.1 ha
      obtain ⟨f, b, h1, _⟩ := h.has x hx
      exact List.mem_map.2 ⟨_, h1, rfl⟩
  unfold sortN
  rw [mergeSort_of_perm hp]
  exact List.mergeSort_of_pairwise (hrise.imp (fun {a b} hab => by simp only [leB, decide_eq_true_eq]; exact List.le_of_lt hab))
theorem Mir.length (h : Mir M C R) (hn : (M.map (·.1)).Nodup) : R.length = M.length := by
  rw [← sortN_length M, h.names hn, List.length_map]
theorem Mir.set (h : Mir M C R) (hn : (M.map (·.1)).Nodup) (hap : ∀ x ∈ M, ∀ y ∈ M, x.2.1 = y.2.1 → x.1 = y.1) {k f b : Nat} {nm : ByteArray} (hk : k < R.length) (hf : (nm, f, b) ∈ M) (he : (R.getD k f0).1 = nm) (v : List UInt8 × List Deed) : Mir M (setC C f v) (R.set k ((R.getD k f0).1, v)) := by
  refine ⟨?_, fun x hx => ?_, fun y hy => ?_⟩
  · have h1 := List.pairwise_map.2 h.rise
    have e : (R.set k ((R.getD k f0).1, v)).map (fun x => nmL x.1) = R.map (fun x => nmL x.1) := by
      rw [List.map_set]
      apply List.ext_getElem?
      intro i
      rw [List.getElem?_set]
      split
      · rename_i e
        subst e
        rw [if_pos (by simpa using hk), List.getElem?_map, List.getElem?_eq_getElem hk, List.getD_eq_getElem?_getD, List.getElem?_eq_getElem hk]
        rfl
      · rfl
    rw [← e] at h1
    exact List.pairwise_map.1 h1
  · obtain ⟨j, hj, rfl⟩ := mem_getD' hx
    rw [List.length_set] at hj
    by_cases e : j = k
    · subst e
      rw [getD_set_at hj]
      exact ⟨f, b, by rw [he]; exact hf, setC_at _ _ _⟩
    · rw [getD_set_ne e]
      obtain ⟨f', b', h1, h2⟩ := h.has _ (getD_mem' hj)
      refine ⟨f', b', h1, ?_⟩
      rw [setC_ne _ _ (fun e2 => ?_)]
      · exact h2
      · have := hap _ h1 _ hf e2
        exact e (rise_inj h.rise hj hk (this.trans he.symm))
  · obtain ⟨x, hx, e⟩ := h.all y hy
    obtain ⟨j, hj, rfl⟩ := mem_getD' hx
    by_cases ek : j = k
    · subst ek
      exact ⟨_, List.mem_set hj _, e⟩
    · exact ⟨R.getD j f0, by rw [← getD_set_ne ek (x := ((R.getD k f0).1, v))]; exact getD_mem' (by rw [List.length_set]; exact hj), e⟩
theorem insF_rise {nm : ByteArray} {k : Nat} {v : List UInt8 × List Deed} (h : R.Pairwise fun x y => nmL x.1 < nmL y.1) (hno : ∀ x ∈ R, x.1 ≠ nm) (hk : InsAt nm R k) : (insF R k (nm, v)).Pairwise fun x y => nmL x.1 < nmL y.1 := by
  obtain ⟨h1, h2, h3⟩ := hk
  have hlo : ∀ x ∈ R.take k, nmL x.1 < nmL nm := fun x hx => by
    obtain ⟨j, hj, rfl⟩ := mem_getD' hx
    rw [List.length_take] at hj
    have e1 : (R.take k).getD j f0 = R.getD j f0 := by rw [List.getD_eq_getElem?_getD, List.getElem?_take, if_pos (by omega), ← List.getD_eq_getElem?_getD]
    rw [e1]
    exact (less_iff _ _).1 (h2 j (by omega))
  have hhi : ∀ x ∈ R.drop k, nmL nm < nmL x.1 := fun x hx => by
    by_cases hl : k < R.length
    · have hkk : nmL nm < nmL (R.getD k f0).1 := Std.lt_of_le_of_ne ((less_not _ _).1 (h3 hl)) (fun e => hno _ (getD_mem' hl) (bytes_inj e).symm)
      rw [List.drop_eq_getElem_cons hl] at hx
      have e1 : R.getD k f0 = R[k] := by rw [List.getD_eq_getElem?_getD, List.getElem?_eq_getElem hl]; rfl
      rcases List.mem_cons.1 hx with rfl | hx
      · rw [e1] at hkk; exact hkk
      · rw [e1] at hkk
        have hp := (List.pairwise_append.1 (by rw [List.take_append_drop k R]; exact h : (R.take k ++ R.drop k).Pairwise fun x y => nmL x.1 < nmL y.1)).2.1
        rw [List.drop_eq_getElem_cons hl] at hp
        exact List.lt_trans hkk ((List.pairwise_cons.1 hp).1 x hx)
    · rw [List.drop_of_length_le (by omega)] at hx
      cases hx
  have hp := List.pairwise_append.1 (by rw [List.take_append_drop k R]; exact h : (R.take k ++ R.drop k).Pairwise fun x y => nmL x.1 < nmL y.1)
  unfold insF
  rw [List.append_assoc]
  refine List.pairwise_append.2 ⟨hp.1, List.pairwise_append.2 ⟨by simp, hp.2.1, fun x hx y hy => ?_⟩, fun x hx y hy => ?_⟩
  · rw [List.mem_singleton.1 hx]
    exact hhi y hy
  · rcases List.mem_append.1 hy with hy | hy
    · rw [List.mem_singleton.1 hy]
      exact hlo x hx
    · exact hp.2.2 x hx y hy
theorem mem_insF {k : Nat} {x y : FileV} : y ∈ insF R k x ↔ y = x ∨ y ∈ R := by
  unfold insF
  rw [List.mem_append, List.mem_append, List.mem_singleton]
  constructor
  · rintro ((h | h) | h)
    · exact .inr (List.mem_of_mem_take h)
    · exact .inl h
    · exact .inr (List.mem_of_mem_drop h)
  · rintro (h | h)
    · exact .inl (.inr h)
    · rw [← List.take_append_drop k R] at h
      rcases List.mem_append.1 h with h | h
      · exact .inl (.inl h)
      · exact .inr h
theorem Mir.new (h : Mir M C R) {k f c : Nat} {nm : ByteArray} {v : List UInt8 × List Deed} (hno : ∀ x ∈ R, x.1 ≠ nm) (hff : ∀ y ∈ M, y.2.1 ≠ f) (hk : InsAt nm R k) : Mir (M ++ [(nm, f, c)]) (setC C f v) (insF R k (nm, v)) := by
  refine ⟨insF_rise h.rise hno hk, fun x hx => ?_, fun y hy => ?_⟩
  · rcases mem_insF.1 hx with rfl | hx
    · exact ⟨f, c, by simp, setC_at _ _ _⟩
    · obtain ⟨f', b', h1, h2⟩ := h.has x hx
      exact ⟨f', b', List.mem_append_left _ h1, by rw [setC_ne _ _ (hff _ h1)]; exact h2⟩
  · rcases List.mem_append.1 hy with hy | hy
    · obtain ⟨x, hx, e⟩ := h.all y hy
      exact ⟨x, mem_insF.2 (.inr hx), e⟩
    · rw [List.mem_singleton.1 hy]
      exact ⟨_, mem_insF.2 (.inl rfl), rfl⟩
theorem mem_cut {k : Nat} (h : R.Pairwise fun x y => nmL x.1 < nmL y.1) (hk : k < R.length) {x : FileV} : x ∈ R.take k ++ R.drop (k + 1) ↔ x ∈ R ∧ x.1 ≠ (R.getD k f0).1 := by
  have hR : R = R.take k ++ R.getD k f0 :: R.drop (k + 1) := by
    have e1 : R.getD k f0 = R[k] := by rw [List.getD_eq_getElem?_getD, List.getElem?_eq_getElem hk]; rfl
    rw [e1, ← List.drop_eq_getElem_cons hk, List.take_append_drop]
  have hp : (R.take k ++ R.getD k f0 :: R.drop (k + 1)).Pairwise fun x y => nmL x.1 < nmL y.1 := by rw [← hR]; exact h
  obtain ⟨_, p2, p3⟩ := List.pairwise_append.1 hp
  constructor
  · intro hx
    rcases List.mem_append.1 hx with hx | hx
    · refine ⟨List.mem_of_mem_take hx, fun e => ?_⟩
      have := p3 x hx _ (List.mem_cons_self ..)
      rw [e] at this
      exact List.lt_irrefl _ this
    · refine ⟨List.mem_of_mem_drop hx, fun e => ?_⟩
      have := (List.pairwise_cons.1 p2).1 x hx
      rw [e] at this
      exact List.lt_irrefl _ this
  · rintro ⟨hx, hne⟩
    rw [hR] at hx
    rcases List.mem_append.1 hx with hx | hx
    · exact List.mem_append_left _ hx
    · rcases List.mem_cons.1 hx with rfl | hx
      · exact absurd rfl hne
      · exact List.mem_append_right _ hx
theorem rise_cut {k : Nat} (h : R.Pairwise fun x y => nmL x.1 < nmL y.1) : (R.take k ++ R.drop (k + 1)).Pairwise fun x y => nmL x.1 < nmL y.1 := by
  refine h.sublist ?_
  have e : (R.take k ++ R.drop k).Sublist R := by rw [List.take_append_drop]; exact List.Sublist.refl _
  refine List.Sublist.trans (List.Sublist.append (List.Sublist.refl _) ?_) e
  rw [← List.drop_drop]
  exact List.drop_sublist _ _
/-- of a list of files of which a name is taken away. -/
theorem Mir.del (h : Mir M C R) (hn : (M.map (·.1)).Nodup) {k : Nat} {nm : ByteArray} (hk : k < R.length) (he : (R.getD k f0).1 = nm) : Mir (delE nm M) C (R.take k ++ R.drop (k + 1)) := by
  refine ⟨rise_cut h.rise, fun x hx => ?_, fun y hy => ?_⟩
  · obtain ⟨h1, h2⟩ := (mem_cut h.rise hk).1 hx
    obtain ⟨f, b, q1, q2⟩ := h.has x h1
    exact ⟨f, b, (delE_mem hn).2 ⟨q1, by rw [he] at h2; exact h2⟩, q2⟩
  · obtain ⟨h1, h2⟩ := (delE_mem hn).1 hy
    obtain ⟨x, hx, e⟩ := h.all y h1
    exact ⟨x, (mem_cut h.rise hk).2 ⟨hx, by rw [he, e]; exact h2⟩, e⟩
theorem delE_once {nm : ByteArray} (hn : (M.map (·.1)).Nodup) : ((delE nm M).map (·.1)).Nodup := by
  rw [delE_filter hn]
  exact hn.sublist (List.Sublist.map _ List.filter_sublist)
theorem putE_has {nm : ByteArray} {f c : Nat} (hn : (M.map (·.1)).Nodup) : (∃ b, (nm, f, b) ∈ putE nm f c M) ∧ ∀ x ∈ M, x.1 ≠ nm → x ∈ putE nm f c M := by
  cases hf : fileOf nm M with
  | none =>
    rw [putE_new hf]
    exact ⟨⟨c, by simp⟩, fun x hx _ => List.mem_append_left _ hx⟩
  | some g =>
    rw [putE_old hn hf]
    obtain ⟨b, hb⟩ := fileOf_mem hf
    exact ⟨⟨b, List.mem_map.2 ⟨_, hb, by rw [if_pos rfl]⟩⟩, fun x hx hne => List.mem_map.2 ⟨x, hx, by rw [if_neg hne]⟩⟩
end Go.Proofs.YtjkkfjmloleedaaGreat

/- both disks: what they hold, what the calls make of it -/
namespace Go.Proofs.YtjkkfjmloleedaaGreat
open Go.RowKit
set_option linter.unusedSectionVars false
/-- what a disk holds, and the reference's. -/
structure Sig where
  R : List FileV
  N : Int
  fz : Bool
  lf : Int
  out : Bool
noncomputable def atZ (s : ByteArray) (R : List FileV) : Int := Classical.choose (atR_ex s R)
theorem atZ_is (s : ByteArray) (R : List FileV) : AtR s R (atZ s R) := Classical.choose_spec (atR_ex s R)
theorem AtR.uniq {s : ByteArray} {R : List FileV} {y z : Int} (h : AtR s R y) (k : AtR s R z) : y = z := by
  rcases h with ⟨i, rfl, hi, e1, h1⟩ | ⟨rfl, h1⟩ <;> rcases k with ⟨j, rfl, hj, e2, h2⟩ | ⟨rfl, h2⟩
  · rcases Nat.lt_trichotomy i j with q | q | q
    · exact absurd e1 (h2 i q)
    · rw [q]
    · exact absurd e2 (h1 j q)
  · exact absurd e1 (h2 i hi)
  · exact absurd e2 (h1 j hj)
  · rfl
theorem AtR.eq {s : ByteArray} {R : List FileV} {z : Int} (h : AtR s R z) : z = atZ s R := h.uniq (atZ_is s R)
theorem InsAt.uniq {s : ByteArray} {R : List FileV} {i j : Nat} (h : InsAt s R i) (k : InsAt s R j) : i = j := by
  obtain ⟨a1, a2, a3⟩ := h
  obtain ⟨b1, b2, b3⟩ := k
  rcases Nat.lt_trichotomy i j with q | q | q
  · have e1 := b2 i q
    rw [a3 (by omega)] at e1
    cases e1
  · exact q
  · have e1 := a2 j q
    rw [b3 (by omega)] at e1
    cases e1
noncomputable def insK (s : ByteArray) (R : List FileV) : Nat := Classical.choose (insAt_ex s R)
theorem insK_is (s : ByteArray) (R : List FileV) : InsAt s R (insK s R) := Classical.choose_spec (insAt_ex s R)
theorem InsAt.eq {s : ByteArray} {R : List FileV} {k : Nat} (h : InsAt s R k) : k = insK s R := h.uniq (insK_is s R)
/-- a step, or the fuse is out. -/
def doneG (g : Sig) (R' : List FileV) : Int × Sig := if g.fz = true ∧ g.lf = 0 then (10, ⟨g.R, g.N, g.fz, g.lf, true⟩) else (0, ⟨R', g.N + 1, g.fz, if g.fz = true then g.lf - 1 else g.lf, false⟩)
noncomputable def appG (s : ByteArray) (B : List UInt8) (g : Sig) : Int × Sig :=
  if g.out = true then (10, g) else if nameP s.data.toList = false then (2, g) else
  if atZ s g.R < 0 then (if 16 ≤ g.R.length then (8, g) else if 1048576 < B.length then (3, g) else doneG g (insF g.R (insK s g.R) (s, [], addB B)))
  else if 1048576 < (runD (g.R.getD (atZ s g.R).toNat f0).2.1 (g.R.getD (atZ s g.R).toNat f0).2.2).length + B.length then (3, g)
  else doneG g (g.R.set (atZ s g.R).toNat ((g.R.getD (atZ s g.R).toNat f0).1, (g.R.getD (atZ s g.R).toNat f0).2.1, (g.R.getD (atZ s g.R).toNat f0).2.2 ++ addB B))
noncomputable def cutG (s : ByteArray) (sz : Int) (g : Sig) : Int × Sig :=
  if g.out = true then (10, g) else if atZ s g.R < 0 then (6, g) else
  if sz < 0 ∨ ((runD (g.R.getD (atZ s g.R).toNat f0).2.1 (g.R.getD (atZ s g.R).toNat f0).2.2).length : Int) < sz then (2, g)
  else doneG g (g.R.set (atZ s g.R).toNat ((g.R.getD (atZ s g.R).toNat f0).1, (g.R.getD (atZ s g.R).toNat f0).2.1, (g.R.getD (atZ s g.R).toNat f0).2.2 ++ [.cut sz.toNat]))
noncomputable def syncG (s : ByteArray) (g : Sig) : Int × Sig :=
  if g.out = true then (10, g) else if atZ s g.R < 0 then (6, g) else
  doneG g (g.R.set (atZ s g.R).toNat ((g.R.getD (atZ s g.R).toNat f0).1, runD (g.R.getD (atZ s g.R).toNat f0).2.1 (g.R.getD (atZ s g.R).toNat f0).2.2, []))
noncomputable def remG (s : ByteArray) (g : Sig) : Int × Sig :=
  if g.out = true then (10, g) else if atZ s g.R < 0 then (6, g) else doneG g (g.R.take (atZ s g.R).toNat ++ g.R.drop ((atZ s g.R).toNat + 1))
def fuseG (n : Int) (g : Sig) : Int × Sig := if n < 0 then (2, g) else (0, ⟨g.R, g.N, true, n, g.out⟩)
def crashL (K : List Int) (R : List FileV) : List FileV := R.mapIdx (crashAt K)
def crashG (K : List Int) (g : Sig) : Int × Sig := (0, ⟨crashL K g.R, g.N, false, 0, false⟩)
theorem CrashedR.eq {K : List Int} {R L : List FileV} (h : CrashedR K R L) : L = crashL K R := by
  obtain ⟨h1, h2⟩ := h
  unfold crashL
  apply List.ext_getElem?
  intro i
  rw [List.getElem?_mapIdx]
  by_cases hi : i < R.length
  · have := h2 i hi
    rw [List.getD_eq_getElem?_getD, List.getD_eq_getElem?_getD, List.getElem?_eq_getElem hi, List.getElem?_eq_getElem (by omega)] at this
    rw [List.getElem?_eq_getElem (by omega), List.getElem?_eq_getElem hi]
    simpa using this
  · rw [List.getElem?_eq_none (by omega), List.getElem?_eq_none (by omega)]
    rfl
noncomputable def readG (s : ByteArray) (g : Sig) : Int × List UInt8 :=
  if g.out = true then (10, []) else if atZ s g.R < 0 then (6, []) else (0, runD (g.R.getD (atZ s g.R).toNat f0).2.1 (g.R.getD (atZ s g.R).toNat f0).2.2)
noncomputable def looseG (s : ByteArray) (g : Sig) : Int := if 0 ≤ atZ s g.R then ((unitsD (g.R.getD (atZ s g.R).toNat f0).2.2 : Nat) : Int) else 0
/-- how much there is at most. -/
structure Lim (q k : Nat) (g : Sig) : Prop where
  file : ∀ x ∈ g.R, x.2.1.length + unitsD x.2.2 ≤ q ∧ x.2.2.length ≤ k
  n0 : 0 ≤ g.N
  n1 : g.N ≤ k
  l0 : 0 ≤ g.lf
  l1 : g.lf ≤ 9223372036854775807
theorem Lim.mono {q k q' k' : Nat} {g : Sig} (h : Lim q k g) (hq : q ≤ q') (hk : k ≤ k') : Lim q' k' g := ⟨fun x hx => by have := h.file x hx; omega, h.n0, by have := h.n1; omega, h.l0, h.l1⟩
theorem Lim.done {q k q' k' : Nat} {g : Sig} {R' : List FileV} (h : Lim q k g) (hq : q ≤ q') (hk : k + 1 ≤ k') (hR : ∀ x ∈ R', x.2.1.length + unitsD x.2.2 ≤ q' ∧ x.2.2.length ≤ k') : Lim q' k' (doneG g R').2 := by
  have h0 := h.n0
  have h1 := h.n1
  have h2 := h.l0
  have h3 := h.l1
  unfold doneG
  split
  · exact ⟨fun x hx => by have := h.file x hx; omega, h0, by show g.N ≤ _; omega, h2, h3⟩
  · rename_i hn
    refine ⟨hR, by show 0 ≤ g.N + 1; omega, by show g.N + 1 ≤ _; omega, ?_, ?_⟩
    · show 0 ≤ (if g.fz = true then g.lf - 1 else g.lf)
      split
      · rename_i hf
        have : g.lf ≠ 0 := fun e => hn ⟨hf, e⟩
        omega
      · exact h2
    · show (if g.fz = true then g.lf - 1 else g.lf) ≤ _
      split <;> omega
theorem addB_lim (B : List UInt8) : (addB B).length ≤ 1 ∧ unitsD (addB B) = B.length := by
  unfold addB
  split
  · rename_i h; subst h; simp [unitsD]
  · simp [unitsD, Deed.units]
theorem unitsD_app (D E : List Deed) : unitsD (D ++ E) = unitsD D + unitsD E := by simp [unitsD]
theorem Lim.set {q k q' k' : Nat} {g : Sig} (h : Lim q k g) (hq : q ≤ q') (hk : k ≤ k') {i : Nat} {x : FileV} (hx : x.2.1.length + unitsD x.2.2 ≤ q' ∧ x.2.2.length ≤ k') : ∀ y ∈ g.R.set i x, y.2.1.length + unitsD y.2.2 ≤ q' ∧ y.2.2.length ≤ k' := by
  intro y hy
  rcases List.mem_or_eq_of_mem_set hy with r | r
  · have := h.file y r; omega
  · rw [r]; exact hx
theorem Lim.get {q k : Nat} {g : Sig} (h : Lim q k g) (i : Nat) : (g.R.getD i f0).2.1.length + unitsD (g.R.getD i f0).2.2 ≤ q ∧ (g.R.getD i f0).2.2.length ≤ k := by
  by_cases hi : i < g.R.length
  · exact h.file _ (getD_mem' hi)
  · rw [List.getD_eq_getElem?_getD, List.getElem?_eq_none (by omega)]
    simp [f0, unitsD]
theorem Lim.app {q k q' k' : Nat} {g : Sig} {s : ByteArray} {B : List UInt8} (h : Lim q k g) (hq : q + B.length ≤ q') (hk : k + 1 ≤ k') : Lim q' k' (appG s B g).2 := by
  have h0 := addB_lim B
  unfold appG
  repeat' split
  all_goals first
    | exact h.mono (by omega) (by omega)
    | skip
  · refine h.done (by omega) hk (fun x hx => ?_)
    rcases mem_insF.1 hx with rfl | hx
    · simp; omega
    · have := h.file x hx; omega
  · refine h.done (by omega) hk (h.set (by omega) (by omega) ?_)
    have := h.get (atZ s g.R).toNat
    simp only [unitsD_app, List.length_append]
    omega
theorem Lim.cut {q k q' k' : Nat} {g : Sig} {s : ByteArray} {z : Int} (h : Lim q k g) (hq : q + 1 ≤ q') (hk : k + 1 ≤ k') : Lim q' k' (cutG s z g).2 := by
  unfold cutG
  repeat' split
  all_goals first
    | exact h.mono (by omega) (by omega)
    | skip
  refine h.done (by omega) hk (h.set (by omega) (by omega) ?_)
  have := h.get (atZ s g.R).toNat
  have e : unitsD [Deed.cut z.toNat] = 1 := by simp [unitsD, Deed.units]
  simp only [unitsD_app, List.length_append, List.length_cons, List.length_nil, e]
  omega
theorem Lim.sync {q k q' k' : Nat} {g : Sig} {s : ByteArray} (h : Lim q k g) (hq : q ≤ q') (hk : k + 1 ≤ k') : Lim q' k' (syncG s g).2 := by
  unfold syncG
  repeat' split
  all_goals first
    | exact h.mono (by omega) (by omega)
    | skip
  refine h.done (by omega) hk (h.set (by omega) (by omega) ?_)
  have := h.get (atZ s g.R).toNat
  have h2 := runD_length_le (g.R.getD (atZ s g.R).toNat f0).2.1 (g.R.getD (atZ s g.R).toNat f0).2.2
  refine ⟨?_, by simp⟩
  show (runD _ _).length + unitsD [] ≤ q'
  have e : unitsD [] = 0 := rfl
  omega
theorem mem_taken {R : List FileV} {i : Nat} {x : FileV} (h : x ∈ R.take i ++ R.drop (i + 1)) : x ∈ R := by
  rcases List.mem_append.1 h with r | r
  · exact List.mem_of_mem_take r
  · exact List.mem_of_mem_drop r
theorem Lim.rem {q k q' k' : Nat} {g : Sig} {s : ByteArray} (h : Lim q k g) (hq : q ≤ q') (hk : k + 1 ≤ k') : Lim q' k' (remG s g).2 := by
  unfold remG
  repeat' split
  all_goals first
    | exact h.mono (by omega) (by omega)
    | skip
  exact h.done (by omega) hk (fun x hx => by have := h.file x (mem_taken hx); omega)
theorem Lim.fuse {q k : Nat} {g : Sig} {n : Int} (h : Lim q k g) (hn : n ≤ 9223372036854775807) : Lim q k (fuseG n g).2 := by
  unfold fuseG
  split
  · exact h
  · exact ⟨h.file, h.n0, h.n1, by show 0 ≤ n; omega, hn⟩
theorem crashAt_lim (K : List Int) (j : Nat) (x : FileV) : (crashAt K j x).2.1.length + unitsD (crashAt K j x).2.2 ≤ x.2.1.length + unitsD x.2.2 ∧ (crashAt K j x).2.2.length = 0 := by
  unfold crashAt
  refine ⟨?_, rfl⟩
  have h1 := runD_length_le x.2.1 (keepsD (unitK K j x.2.2).toNat x.2.2)
  have h2 := units_keeps x.2.2 (unitK K j x.2.2).toNat
  show (runD _ _).length + unitsD [] ≤ _
  have e : unitsD [] = 0 := rfl
  omega
theorem Lim.crash {q k : Nat} {g : Sig} {K : List Int} (h : Lim q k g) : Lim q k (crashG K g).2 := by
  refine ⟨fun x hx => ?_, h.n0, h.n1, by show (0 : Int) ≤ 0; omega, by show (0 : Int) ≤ _; omega⟩
  have hx : x ∈ crashL K g.R := hx
  unfold crashL at hx
  obtain ⟨j, hj, rfl⟩ := List.mem_mapIdx.1 hx
  have h1 := crashAt_lim K j g.R[j]
  have h2 := h.file _ (List.getElem_mem hj)
  omega
end Go.Proofs.YtjkkfjmloleedaaGreat

/- the iterator of frame.frames, walked: for every loop body that keeps its word -/
namespace Go.Proofs.YtjkkfjmloleedaaGreat
open Go.RowKit Go.Shelf
attribute [local go_sem] Oper.semAt_some
/-- what the iterator asks of the world between two rounds. -/
structure FramesMem (ao : Option Addr) (n cap : Nat) (bs : List UInt8) (Bb Br Rb : Nat) (W : World) : Prop where
  b : W.cell? ⟨Bb, 0, none⟩ = some (.slice ao n cap)
  r : W.cell? ⟨Br, 0, none⟩ = some (.pointer (some ⟨Rb, 0, none⟩))
  c : ∃ v, W.cell? ⟨Rb, 0, none⟩ = some v
  f : W.frozen? ⟨Rb, 0, none⟩ = false
  bytes : IsBytes W ao n cap bs
theorem FramesMem.later {ao : Option Addr} {n cap : Nat} {bs : List UInt8} {Bb Br Rb : Nat} {W W' : World} (h : FramesMem ao n cap bs Bb Br Rb W) (hb : Below W.heap.size W W') : FramesMem ao n cap bs Bb Br Rb W' := by
  have h1 := block_lt_of_cell h.b
  have h2 := block_lt_of_cell h.r
  obtain ⟨v, hv⟩ := h.c
  have h3 := block_lt_of_cell hv
  exact ⟨(hb.cell (p := ⟨Bb, 0, none⟩) h1).trans h.b, (hb.cell (p := ⟨Br, 0, none⟩) h2).trans h.r, ⟨v, (hb.cell (p := ⟨Rb, 0, none⟩) h3).trans hv⟩, (hb.frozen (p := ⟨Rb, 0, none⟩) h3).trans h.f, h.bytes.later hb⟩
theorem setCell_twice (w : World) (a : Addr) (u v : Value) : (w.setCell a u).setCell a v = w.setCell a v := by
  unfold World.setCell
  congr 1
  apply Array.ext_getElem?
  intro i
  simp only [Array.getElem?_modify]
  by_cases h : a.block = i
  · simp only [h, if_true]
    cases w.heap[i]? with
    | none => rfl
    | some o =>
      cases o <;> simp
      split <;> simp
  · simp [h]
set_option maxRecDepth 100000 in
set_option maxHeartbeats 1000000 in
theorem frames1_in (m : Nat) (l Bb Br Rb : Nat) (ao : Option Addr) (n cap : Nat) (bs : List UInt8) (J : List (List UInt8) → Nat → World → Prop)
    (hJb : ∀ pre k A B, J pre k A → Below A.heap.size A B → J pre k B)
    (hJm : ∀ pre k A, J pre k A → FramesMem ao n cap bs Bb Br Rb A)
    (hY : ∀ pre k r ao' n' cap' A, J pre k A → IsBytes A ao' n' cap' r → ao'.map (·.block) = ao.map (·.block) → k + r.length + 12 ≤ n → r.length ≤ 65536 → YieldAt Fence.wide (m - 1) Tryz.prog l #[.slice ao' n' cap', .int .i64 ((k + (r.length + 12) : Nat) : Int)] A fun e A' =>
      e = .returned (.bool true) ∧ J (pre ++ [r]) (k + (r.length + 12)) A')
    (hne : ¬ Br = Rb) (W : World) (h0 : J [] 0 W) :
    CallsIn Fence.wide m Tryz.prog 97 #[.func (.yield l) #[] #[], .pointer (some ⟨Bb, 0, none⟩), .pointer (some ⟨Br, 0, none⟩)] W fun e W' => (∃ v, e = .returned v) ∧
      ∃ W2, J (Fr.scanF bs).1 (Fr.scanF bs).2.1 W2 ∧ W' = W2.setCell ⟨Rb, 0, none⟩ (.int .i64 ((Fr.scanF bs).2.2 : Int)) := by
  refine callsIn_of_wp Tryz.func97 rfl trivial ?_ rfl
  simp only [Tryz.ntmps97, List.size_toArray, List.length_cons, List.length_nil, Nat.reduceAdd, Nat.reduceSub, Array.replicate_succ, Array.replicate_zero, List.push_toArray, List.append_toArray, List.nil_append, List.cons_append]
  have hnn : n ≤ 9223372036854775807 := by have := (hJm _ _ _ h0).bytes; have h1 := this.2.1; have h2 := this.2.2.1; unfold maxLen at h2; omega
  have hlen : bs.length = n := (hJm _ _ _ h0).bytes.1
  have HL := Lib.hid hlen
  clear hlen
  gi_wp2
  gi_loopw [4] (fun a wr => ∃ (pre : List (List UInt8)) (k : Nat), a = .int .i64 k ∧ k ≤ n ∧ J pre k wr ∧
      Fr.scanF bs = (pre ++ (Fr.scanF (bs.drop k)).1, k + (Fr.scanF (bs.drop k)).2.1, (Fr.scanF (bs.drop k)).2.2)) (fun a _ => n - (intOf a).toNat)
  case atStart => exact ⟨[], 0, rfl, by omega, h0, by simp⟩
  case round =>
    obtain ⟨pre, k, rfl, hk, hJ, hscan⟩ := hrel
    have hm := hJm _ _ _ hJ
    have hcb := hm.b
    have hcr := hm.r
    obtain ⟨vr, hcc⟩ := hm.c
    have hcf := hm.f
    obtain ⟨ao1, hsl1, hb1, hk1⟩ := slice_from hm.bytes k hk
    have hsl1 := hsl1 wr
    have hl1 : (bs.drop k).length = n - k := by have := HL.out; simp; omega
    have hne2 : ¬ Rb = Br := fun h => hne h.symm
    have hfin : ∀ c, Fr.headF (bs.drop k) = .inl c → Fr.scanF bs = (pre, k, c) := by
      intro c hc
      rw [hscan, Fr.scanF_eq, hc]; simp
    have HB1 := Lib.hid hb1
    have HM := Lib.hid hm
    have HS := Lib.hid hscan
    have HJ := Lib.hid hJ
    have HL1 := Lib.hid hl1
    have HF := Lib.hid hfin
    have HK1 := Lib.hid hk1
    clear hb1 hm hscan hJ hl1 hfin hk1
    by_cases h8 : n - k < 8
    · by_cases h0 : n - k = 0
      · have e := HF.out 0 (by unfold Fr.headF; rw [HL1.out, h0]; rfl)
        have HE := Lib.hid e
        clear e
        gi_wp2
        refine bodyPost_ret (results_none rfl _ _ _) rfl ?_
        rw [HE.out]
        exact ⟨⟨_, rfl⟩, wr, HJ.out, setCell_twice _ _ _ _⟩
      · have e := HF.out 1 (by unfold Fr.headF; rw [HL1.out, if_pos h8, if_neg h0])
        have HE := Lib.hid e
        have hz : (((n - k : Nat) : Int) == 0) = false := by simp; omega
        clear e
        gi_wp2
        refine bodyPost_ret (results_none rfl _ _ _) rfl ?_
        rw [HE.out]
        exact ⟨⟨_, rfl⟩, wr, HJ.out, rfl⟩
    · obtain ⟨d, hd⟩ : ∃ d, d = bs.drop k := ⟨_, rfl⟩
      rw [← hd] at HB1 HL1 HF
      have HD := Lib.hid hd
      clear hd
      obtain ⟨ao2, hsl2, hb2, _⟩ := slice_from HB1.out 4 (by omega)
      have hsl2 : (Instr.slice 36 (.slice ao1 (n - k) (cap - k)) (some (.int .i64 4)) none none).run Tryz.prog wr = .ok (.slice ao2 (n - k - 4) (cap - k - 4)) wr := hsl2 wr
      have HB2 := Lib.hid hb2
      clear hb2
      obtain ⟨x, hx⟩ : ∃ x, x = Fr.num4 d := ⟨_, rfl⟩
      have hxlt := Fr.num4_lt d
      rw [← hx] at hxlt
      have HN := Lib.hid (Fr.not_nat x hxlt)
      have HX := Lib.hid hx
      clear hx
      gi_wp2_with fail
      refine ⟨trivial, fun h => by simp [Fence.wide] at h, ?_⟩
      refine (callsIn_wide.2 (number_any _ _ _ d _ HB1.out (by omega))).mono ?_
      rintro e w' ⟨rfl, rfl⟩
      rw [← HX.out]
      gi_wp2_with fail
      refine ⟨trivial, fun h => by simp [Fence.wide] at h, ?_⟩
      refine (callsIn_wide.2 (number_any _ _ _ (d.drop 4) _ HB2.out (by omega))).mono ?_
      rintro e w' ⟨rfl, rfl⟩
      obtain ⟨y, hy⟩ : ∃ y, y = Fr.num4 (d.drop 4) := ⟨_, rfl⟩
      rw [← hy]
      have HY := Lib.hid hy
      clear hy
      by_cases hA : y = 4294967295 - x
      · have hAb : ((y : Int) != bits .xor .u32 IntKind.u32.max (x : Int)) = false := by rw [HN.out, hA]; simp
        have hA1 : (y : Int) ≤ bits .xor .u32 IntKind.u32.max (x : Int) := by rw [HN.out, hA]; omega
        have hA2 : bits .xor .u32 IntKind.u32.max (x : Int) ≤ (y : Int) := by rw [HN.out, hA]; omega
        have HA := Lib.hid hA
        clear hA
        by_cases hB : x ≤ 65536
        · by_cases hC : n - k < x + 12
          · have e := HF.out 1 (by unfold Fr.headF; rw [HL1.out, ← HX.out, ← HY.out, HA.out, if_neg h8, if_neg (by omega), if_pos hC])
            have HE := Lib.hid e
            clear e
            gi_wp2_with fail
            refine bodyPost_ret (results_none rfl _ _ _) rfl ?_
            rw [HE.out]
            exact ⟨⟨_, rfl⟩, wr, HJ.out, rfl⟩
          · obtain ⟨ao3, hsl3, hb3, _⟩ := slice_from HB1.out (8 + x) (by omega)
            obtain ⟨ao4, hsl4, hb4, hk4⟩ := slice_both HB1.out 8 (8 + x) (by omega) (by omega)
            have e8 : ((8 + x : Nat) : Int) = 8 + (x : Int) := by omega
            rw [e8] at hsl3 hsl4
            rw [show 8 + x - 8 = x by omega] at hsl4 hb4
            have HB3 := Lib.hid hb3
            have HB4 := Lib.hid hb4
            have HK4 := Lib.hid (hk4.trans HK1.out)
            clear hk4
            have E8 := Lib.hid e8
            clear hb3 hb4 e8
            have hsl4 : ∀ w', (Instr.slice 36 (.slice ao1 (n - k) (cap - k)) (some (.int .i64 8)) (some (.int .i64 (8 + (x : Int)))) none).run Tryz.prog w' = .ok (.slice ao4 x (cap - k - 8)) w' := hsl4
            gi_wp2_with fail
            gi_region_with (first | (refine ⟨trivial, fun h => by simp [Fence.wide] at h, ?_⟩; gi_at_call 98; refine (callsIn_wide.2 (number_any _ _ _ (d.drop (8 + x)) _ (by exact HB3.out) (by omega))).mono ?_; rintro e w' ⟨rfl, rfl⟩) | (refine ⟨trivial, fun h => by simp [Fence.wide] at h, ?_⟩; gi_at_call 81; refine (callsIn_wide.2 (Sum_any _ _ _ ((d.take (8 + x)).drop 8) _ (by exact HB4.out))).mono ?_; rintro e w5 ⟨rfl, hb5⟩))
            have hb5 : Below wr.heap.size wr w5 := ⟨hb5.os, hb5.tape, hb5.output, hb5.size, hb5.block⟩
            have hJ5 := hJb _ _ _ _ HJ.out hb5
            have hm5 := hJm _ _ _ hJ5
            have hcb5 := hm5.b
            have hcr5 := hm5.r
            obtain ⟨vr5, hcc5⟩ := hm5.c
            have hcf5 := hm5.f
            have hr4 : (d.take (8 + x)).drop 8 = (d.drop 8).take x := by rw [List.drop_take]; congr 1; omega
            rw [hr4] at HB4
            obtain ⟨r, hr⟩ : ∃ r, r = (d.drop 8).take x := ⟨_, rfl⟩
            rw [hr4, ← hr]
            rw [← hr] at HB4
            have hrl : r.length = x := HB4.out.1
            obtain ⟨z, hz⟩ : ∃ z, z = Fr.num4 (d.drop (8 + x)) := ⟨_, rfl⟩
            rw [← hz]
            obtain ⟨s, hs⟩ : ∃ s, s = (Fr.sumB r).toNat := ⟨_, rfl⟩
            rw [← hs]
            by_cases hD : z = s
            · have e := HS.out
              have hhead : Fr.headF d = .inr r := by
                unfold Fr.headF
                rw [HL1.out, ← HX.out, ← HY.out, HA.out, if_neg h8, if_neg (by omega), if_neg hC, ← hz, ← hr, ← hs, hD, if_neg (by simp)]
              rw [← HD.out, Fr.scanF_eq d, hhead] at e
              simp only at e
              have hY5 := hY pre k r ao4 x (cap - k - 8) w5 hJ5 (HB4.out.later hb5) HK4.out (by rw [hrl]; omega) (by rw [hrl]; omega)
              rw [hrl] at hY5 e
              have eat : ((k + (x + 12) : Nat) : Int) = (k : Int) + (8 + (x : Int) + 4) := by omega
              rw [eat] at hY5
              obtain ⟨fn, tmps, assign, body, hyy, hR⟩ := hY5
              have hD1 : (z : Int) ≤ (s : Int) := by omega
              have hD2 : (s : Int) ≤ (z : Int) := by omega
              have HE := Lib.hid e
              have HRL := Lib.hid hrl
              clear e hrl hhead eat hr4 hz hs hr hD hm5
              gi_wp2
              refine ⟨fun h => by simp [Fence.wide] at h, ?_⟩
              refine hR.mono ?_
              rintro e W' ⟨rfl, hJ'⟩
              gi_wp2
              go_roundw
              case rel =>
                refine ⟨pre ++ [r], k + (x + 12), by congr 1; omega, by omega, hJ', ?_⟩
                rw [HE.out, HD.out, List.drop_drop]
                simp [Nat.add_assoc]
              case measure => simp [intOf]; omega
            · have e := HF.out 2 (by unfold Fr.headF; rw [HL1.out, ← HX.out, ← HY.out, HA.out, if_neg h8, if_neg (by omega), if_neg hC, ← hz, ← hr, ← hs, if_pos hD])
              have HE := Lib.hid e
              have hD1 : ¬ (z : Int) = (s : Int) := by omega
              clear e hr4 hz hs hr hD
              gi_wp2
              refine bodyPost_ret (results_none rfl _ _ _) rfl ?_
              rw [HE.out]
              exact ⟨⟨_, rfl⟩, w5, hJ5, rfl⟩
        · have e := HF.out 2 (by unfold Fr.headF; rw [HL1.out, ← HX.out, ← HY.out, if_neg h8, if_pos (by omega)])
          have HE := Lib.hid e
          clear e
          gi_wp2_with fail
          refine bodyPost_ret (results_none rfl _ _ _) rfl ?_
          rw [HE.out]
          exact ⟨⟨_, rfl⟩, wr, HJ.out, rfl⟩
      · have hAb : ((y : Int) != bits .xor .u32 IntKind.u32.max (x : Int)) = true := by rw [HN.out, bne_iff_ne]; omega
        have hA1 : ¬ (y : Int) = bits .xor .u32 IntKind.u32.max (x : Int) := by rw [HN.out]; omega
        have e := HF.out 2 (by unfold Fr.headF; rw [HL1.out, ← HX.out, ← HY.out, if_neg h8, if_pos (by omega)])
        have HE := Lib.hid e
        clear e hA
        gi_wp2_with fail
        refine bodyPost_ret (results_none rfl _ _ _) rfl ?_
        rw [HE.out]
        exact ⟨⟨_, rfl⟩, wr, HJ.out, rfl⟩
end Go.Proofs.YtjkkfjmloleedaaGreat

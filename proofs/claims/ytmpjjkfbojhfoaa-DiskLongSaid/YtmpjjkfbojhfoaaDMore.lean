/- disk: what the calls do to a disk with all its files -/
import Derived.Test.YtmpjjkfbojhfoaaCrash
namespace Go.Proofs.Ytmpjjkfbojhfoaa
open Go.RowKit
set_option linter.unusedSectionVars false
variable [Zone]
variable {nm : ByteArray}
theorem New_G (w : World) (C : Cont) (hz : ZW w) : Calls Try.prog 11 #[] w fun e w' => ∃ d mb, e = .returned (.pointer (some ⟨d, 0, none⟩)) ∧ w.heap.size ≤ mb ∧ mb < d ∧ DiskG w' 0 (-1) false d mb w.heap.size [] C ∧ Below w.heap.size w w' := by
  refine (New_any w).mono ?_
  rintro e w' ⟨d, mb, rfl, h1, h2, h3, h4, h5⟩
  exact ⟨d, mb, rfl, h1, h2, ⟨⟨by omega, h2, h3, 0, ⟨by simp, List.Pairwise.nil, List.Pairwise.nil, by simp, by simp⟩, h4⟩, h1, by simp, by simp, by simp, hz.mono h5.size⟩, h5⟩
theorem Append_G_old (d mb base f : Nat) (M : List Ent) (C : Cont) (st fu : Int) (ao : Option Addr) (n cap : Nat) (B : List UInt8) (w : World) (hb : base ≤ w.heap.size) (hnf : nameP nm.data.toList = true) (h : DiskG w st fu false d mb base M C) (hfo : fileOf nm M = some f) (hB : IsBytes w ao n cap B)
    (hn : n + (runD (C f).1 (C f).2).length ≤ 1048576) (hDl : (C f).2.length ≤ 1000000) (hsm : (C f).1.length + unitsD (C f).2 + n ≤ 4294967296) :
    Calls Try.prog 12 #[.pointer (some ⟨d, 0, none⟩), .string nm, .slice ao n cap] w fun e w' => ∃ z, e = .returned (.int .i64 z) ∧ Stepped fu z (DiskG w' st fu true d mb base M C) (DiskG w' (wrap64 (st + 1)) (dec fu) false d mb base M (setC C f ((C f).1, laid (C f).2 n B))) ∧ Kept d mb base w w' := by
  obtain ⟨b, hfm⟩ := fileOf_mem hfo
  refine (Append_log base d mb f M st fu (C f).1 (C f).2 ao n cap B w hb hnf h.dm hfo (h.file hfo).2 hB h.zone (by rw [allB_run]; exact hn) hDl (by rw [List.map_append, List.sum_append]; have := hB.1; simp only [List.map_cons, List.map_nil, List.sum_cons, List.sum_nil, Deed.units, sum_units]; omega)).mono ?_
  rintro e w' ⟨z, rfl, hs, hm⟩
  refine ⟨z, rfl, ?_⟩
  rcases hs with ⟨q1, q2, q3, q4⟩ | ⟨q1, q2, q3, q4⟩
  · obtain ⟨r1, r2⟩ := h.moved hfm hb hm q3 q4
    rw [show setC C f ((C f).1, (C f).2) = C from setC_same C f] at r1
    exact ⟨.inl ⟨q1, q2, r1⟩, r2⟩
  · obtain ⟨r1, r2⟩ := h.moved hfm hb hm q3 q4
    exact ⟨.inr ⟨q1, q2, r1⟩, r2⟩
theorem Append_G_new (d mb base : Nat) (M : List Ent) (C : Cont) (st fu : Int) (ao : Option Addr) (n cap : Nat) (B : List UInt8) (w : World) (hb : base ≤ w.heap.size) (hnf : nameP nm.data.toList = true) (h : DiskG w st fu false d mb base M C) (hfo : fileOf nm M = none) (hml : M.length < 16) (hB : IsBytes w ao n cap B)
    (hn : n ≤ 1048576) :
    Calls Try.prog 12 #[.pointer (some ⟨d, 0, none⟩), .string nm, .slice ao n cap] w fun e w' => ∃ z, e = .returned (.int .i64 z) ∧ Stepped fu z (DiskG w' st fu true d mb base M C) (∃ f c, w.heap.size ≤ f ∧ DiskG w' (wrap64 (st + 1)) (dec fu) false d mb base (M ++ [(nm, f, c)]) (setC C f ([], laid [] n B))) ∧ Kept d mb base w w' := by
  refine (Append_new base d mb M st fu ao n cap B w hb hnf h.dm hfo hml hB h.zone hn).mono ?_
  rintro e w' ⟨z, rfl, f, hf, hs, hm⟩
  refine ⟨z, rfl, ?_⟩
  rcases hs with ⟨q1, q2, q3⟩ | ⟨q1, q2, c, q3, q4⟩
  · obtain ⟨r1, r2⟩ := h.stay hb hm hf q3
    exact ⟨.inl ⟨q1, q2, r1⟩, r2⟩
  · obtain ⟨r1, r2⟩ := h.push hb hm hf q3 q4
    exact ⟨.inr ⟨q1, q2, f, c, hf, r1⟩, r2⟩
theorem Sync_G (d mb base f : Nat) (M : List Ent) (C : Cont) (st fu : Int) (w : World) (hb : base ≤ w.heap.size) (h : DiskG w st fu false d mb base M C) (hfo : fileOf nm M = some f) :
    Calls Try.prog 13 #[.pointer (some ⟨d, 0, none⟩), .string nm] w fun e w' => ∃ z, e = .returned (.int .i64 z) ∧ Stepped fu z (DiskG w' st fu true d mb base M C) (DiskG w' (wrap64 (st + 1)) (dec fu) false d mb base M (setC C f (runD (C f).1 (C f).2, []))) ∧ Kept d mb base w w' := by
  obtain ⟨b, hfm⟩ := fileOf_mem hfo
  refine (Sync_any base d mb f M st fu (C f).1 (C f).2 w h.dm hfo (h.file hfo).2 h.zone).mono ?_
  rintro e w' ⟨z, rfl, hs, hm⟩
  refine ⟨z, rfl, ?_⟩
  rcases hs with ⟨q1, q2, q3, q4⟩ | ⟨q1, q2, q3, q4⟩
  · obtain ⟨r1, r2⟩ := h.moved hfm hb hm q3 q4
    rw [show setC C f ((C f).1, (C f).2) = C from setC_same C f] at r1
    exact ⟨.inl ⟨q1, q2, r1⟩, r2⟩
  · obtain ⟨r1, r2⟩ := h.moved hfm hb hm q3 q4
    rw [allB_run] at r1
    exact ⟨.inr ⟨q1, q2, r1⟩, r2⟩
theorem Cut_G (d mb base f z : Nat) (M : List Ent) (C : Cont) (st fu : Int) (w : World) (hb : base ≤ w.heap.size) (h : DiskG w st fu false d mb base M C) (hfo : fileOf nm M = some f)
    (hz : z ≤ (runD (C f).1 (C f).2).length) (hDl : (C f).2.length ≤ 1000000) (hsm : (C f).1.length + unitsD (C f).2 + 1 ≤ 4294967296) :
    Calls Try.prog 29 #[.pointer (some ⟨d, 0, none⟩), .string nm, .int .i64 (z : Int)] w fun e w' => ∃ y, e = .returned (.int .i64 y) ∧ Stepped fu y (DiskG w' st fu true d mb base M C) (DiskG w' (wrap64 (st + 1)) (dec fu) false d mb base M (setC C f ((C f).1, (C f).2 ++ [.cut z]))) ∧ Kept d mb base w w' := by
  obtain ⟨b, hfm⟩ := fileOf_mem hfo
  have hf := (h.file hfo).2
  refine (Cut_any base d mb f z M st fu (C f).1 (C f).2 w hb h.dm hfo hf (by rw [allB_run]; exact hz) hDl (fits_cut _ _ _ hf.2.1 hz) (by rw [List.map_append, List.sum_append]; simp only [List.map_cons, List.map_nil, List.sum_cons, List.sum_nil, Deed.units, sum_units]; omega)).mono ?_
  rintro e w' ⟨y, rfl, hs, hm⟩
  refine ⟨y, rfl, ?_⟩
  rcases hs with ⟨q1, q2, q3, q4⟩ | ⟨q1, q2, q3, q4⟩
  · obtain ⟨r1, r2⟩ := h.moved hfm hb hm q3 q4
    rw [show setC C f ((C f).1, (C f).2) = C from setC_same C f] at r1
    exact ⟨.inl ⟨q1, q2, r1⟩, r2⟩
  · obtain ⟨r1, r2⟩ := h.moved hfm hb hm q3 q4
    exact ⟨.inr ⟨q1, q2, r1⟩, r2⟩
theorem DiskM.map {w : World} {st fu : Int} {out : Bool} {d mb : Nat} {M : List Ent} (h : DiskM w st fu out d mb M) : ∃ c, w.heap[mb]? = some (.map (ents M) c) := ⟨_, h.2.2.2.choose_spec.2⟩
theorem Read_G (d mb base f : Nat) (M : List Ent) (C : Cont) (st fu : Int) (w : World) (h : DiskG w st fu false d mb base M C) (hfo : fileOf nm M = some f) :
    Calls Try.prog 28 #[.pointer (some ⟨d, 0, none⟩), .string nm] w fun e w' => ∃ v, e = .returned (.tuple #[v, .int .i64 0]) ∧ OwnB w' w.heap.size v (runD (C f).1 (C f).2) ∧ Below w.heap.size w w' := by
  obtain ⟨c, hm⟩ := h.dm.map
  refine (Read_log d mb c f M st fu (C f).1 (C f).2 w h.dm.2.2.1 hm hfo (h.file hfo).2.at).mono ?_
  rintro e w' ⟨v, rfl, h1, h2⟩
  rw [allB_run] at h1
  exact ⟨v, rfl, h1, h2⟩
theorem Loose_G (d mb base f : Nat) (M : List Ent) (C : Cont) (st fu : Int) (out : Bool) (w : World) (h : DiskG w st fu out d mb base M C) (hfo : fileOf nm M = some f) :
    Calls Try.prog 15 #[.pointer (some ⟨d, 0, none⟩), .string nm] w fun e w' => e = .returned (.int .i64 (unitsD (C f).2 : Nat)) ∧ w = w' :=
  Loose_any d mb f M st fu out (C f).1 (C f).2 w h.dm hfo (h.file hfo).2.at
theorem Fuse_G (d mb base : Nat) (M : List Ent) (C : Cont) (z st fu : Int) (out : Bool) (w : World) (hb : base ≤ w.heap.size) (hz1 : z ≤ 9223372036854775807) (h : DiskG w st fu out d mb base M C) :
    Calls Try.prog 24 #[.pointer (some ⟨d, 0, none⟩), .int .i64 z] w fun e w' => ((z < 0 ∧ e = .returned (.int .i64 2) ∧ DiskG w' st fu out d mb base M C) ∨ (0 ≤ z ∧ e = .returned (.int .i64 0) ∧ DiskG w' st z out d mb base M C)) ∧ Kept d mb base w w' := by
  refine (Fuse_any d mb M z st fu out w hz1 h.dm).mono ?_
  rintro e w' (⟨h1, rfl, rfl⟩ | ⟨h1, rfl, h2, rfl⟩)
  · exact ⟨.inl ⟨h1, rfl, h⟩, .refl _ _ _ _⟩
  · obtain ⟨r1, r2⟩ := h.same (w' := w.setCell ⟨d, 2, none⟩ (.int .i64 z)) hb ⟨rfl, rfl, rfl⟩ (by simp) (fun j _ hj => Below.heap_setCell _ _ _ _ hj) h2.2.2.1 h2.1
    exact ⟨.inr ⟨h1, rfl, r1⟩, r2⟩
/-- bytes that stand in the text. -/
theorem IsBytes.lit (w : World) (l : List UInt8) (t : TypeId) (hl : l.length ≤ 1000000) : IsBytes (w.alloc (.cells (u8s l).toArray t)) (some ⟨w.heap.size, 0, none⟩) l.length l.length l := by
  refine ⟨rfl, Nat.le_refl _, by unfold maxLen; omega, fun _ => ⟨w.heap.size, 0, rfl, fun i hi => ?_⟩, fun e => by cases e⟩
  simp only [World.cell?, heap_alloc_new]
  rw [List.getElem?_toArray]
  simp only [u8s, Nat.zero_add, List.getElem?_map, List.getElem?_eq_getElem hi]
  simp [u8, List.getD_eq_getElem?_getD, List.getElem?_eq_getElem hi]
end Go.Proofs.Ytmpjjkfbojhfoaa

/- layer 27's statements: reads -/
namespace Go.Proofs.Ytmpjjkfbojhfoaa
open Go.RowKit
set_option linter.unusedSectionVars false
variable [Zone]
variable {nm : ByteArray}
set_option maxRecDepth 100000 in
theorem reads_G (d mb base f : Nat) (M : List Ent) (C : Cont) (st fu : Int) (ao : Option Addr) (n cap : Nat) (l : List UInt8) (w : World) (h : DiskG w st fu false d mb base M C) (hfo : fileOf nm M = some f) (hl : IsBytes w ao n cap l) :
    Calls Try.prog 14 #[.pointer (some ⟨d, 0, none⟩), .string nm, .slice ao n cap] w fun e w' => e = .returned (.bool (runD (C f).1 (C f).2 == l)) ∧ Below w.heap.size w w' := by
  have HR := Lib.hid (Read_G (nm := nm) d mb base f M C st fu w h hfo)
  have HL := Lib.hid hl
  clear h hfo hl
  go_enter Try.func14, Try.ntmps14
  go_wp2_with fail
  refine HR.out.mono ?_
  rintro e w1 ⟨v, rfl, hown, hb⟩
  obtain ⟨av, cv, rfl, hbs, _⟩ := hown.bytes
  have HB := Lib.hid (And.intro hb hbs)
  clear hb hown hbs
  go_wp2_with fail
  refine (SameBytes_any _ _ _ _ _ _ _ _ w1 HB.out.2 (HL.out.later HB.out.1)).mono ?_
  rintro e w2 ⟨rfl, rfl⟩
  go_wp2_with fail
  go_ret
  exact ⟨rfl, HB.out.1⟩
end Go.Proofs.Ytmpjjkfbojhfoaa

/- disk: of one file -/
namespace Go.Proofs.Ytmpjjkfbojhfoaa
open Go.RowKit
set_option linter.unusedSectionVars false
variable [Zone]
/-- the name "a". -/
def nA : ByteArray := { data := #[97] }
theorem nA_fit : nameP nA.data.toList = true := by decide
theorem Stepped.done {fu z : Int} {O P : Prop} (h : Stepped fu z O P) (hf : fu ≠ 0) : z = 0 ∧ P := by
  rcases h with ⟨h1, _⟩ | ⟨_, h2, h3⟩
  · exact absurd h1 hf
  · exact ⟨h2, h3⟩
theorem Stepped.out {z : Int} {O P : Prop} (h : Stepped 0 z O P) : z = 10 ∧ O := by
  rcases h with ⟨_, h2, h3⟩ | ⟨h1, _⟩
  · exact ⟨h2, h3⟩
  · exact absurd rfl h1
theorem fileOf_head (nm : ByteArray) (f c : Nat) (M : List Ent) : fileOf nm ((nm, f, c) :: M) = some f := by
  unfold fileOf fnd
  rw [bytes_same, if_pos rfl]
  rfl
theorem fileOf_next {nm x : ByteArray} (f c : Nat) (M : List Ent) (h : nm ≠ x) : fileOf nm ((x, f, c) :: M) = fileOf nm M := by
  have key : ∀ (M : List Ent) (i : Nat), (fnd nm M (i + 1)).map (·.2) = (fnd nm M i).map (·.2) := by
    intro M
    induction M with
    | nil => intro i; rfl
    | cons y M ih =>
      intro i
      unfold fnd
      split
      · rfl
      · exact ih (i + 1)
  unfold fileOf
  conv => lhs; rw [fnd]
  rw [bytes_beq, decide_eq_false h, if_neg (by simp)]
  exact key M 0
theorem fileOf_nil (nm : ByteArray) : fileOf nm [] = none := rfl
/-- one whole number that stands in the text. -/
theorem IsKeeps.lit (w : World) (k : Int) (hk0 : -9223372036854775808 ≤ k) (hk1 : k ≤ 9223372036854775807) (t : TypeId) (ht : t ≠ 68 ∧ t ≠ 76 ∧ t ≠ 101) : IsKeeps (w.alloc (.cells #[.int .i64 k] t)) (some ⟨w.heap.size, 0, none⟩) 1 1 [k] := by
  refine ⟨rfl, Nat.le_refl _, by unfold maxLen; omega, (fun e => by cases e), fun i hi => ?_⟩
  obtain rfl : i = 0 := by omega
  exact ⟨_, _, _, _, _, k, rfl, heap_alloc_new _ _, ht, rfl, rfl, hk0, hk1⟩
/-- the names of one file. -/
theorem sortN_one (nm : ByteArray) (f c : Nat) : sortN [(nm, f, c)] = [nm.data.toList] := by
  unfold sortN
  rw [List.map_cons, List.map_nil, List.mergeSort_singleton]
theorem crashN_one (nm : ByteArray) (f c : Nat) (K : List Int) (C : Cont) : crashN [(nm, f, c)] K (sortN [(nm, f, c)]) 0 C = setC C f (afterZ (C f).1 (C f).2 (unitK K 0 (C f).2), []) := by
  rw [sortN_one, crashN, crashN]
  rw [show (⟨nm.data.toList.toArray⟩ : ByteArray) = nm by simp, fileOf_head]
/-- a disk with one file. -/
def One (w : World) (st fu : Int) (out : Bool) (d mb base : Nat) (nm : ByteArray) (f : Nat) (S : List UInt8) (D : List Deed) : Prop := ∃ c C, DiskG w st fu out d mb base [(nm, f, c)] C ∧ C f = (S, D)
variable {nm : ByteArray}
theorem One.later {w w' : World} {st fu : Int} {out : Bool} {d mb base f : Nat} {S : List UInt8} {D : List Deed} (h : One w st fu out d mb base nm f S D) (hb : Below w.heap.size w w') : One w' st fu out d mb base nm f S D := by
  obtain ⟨c, C, h1, h2⟩ := h
  exact ⟨c, C, h1.later hb, h2⟩
theorem Append_one_new (d mb base : Nat) (C : Cont) (st fu : Int) (ao : Option Addr) (n cap : Nat) (B : List UInt8) (w : World) (hb : base ≤ w.heap.size) (hnf : nameP nm.data.toList = true) (h : DiskG w st fu false d mb base [] C) (hB : IsBytes w ao n cap B) (hn : n ≤ 1048576) :
    Calls Try.prog 12 #[.pointer (some ⟨d, 0, none⟩), .string nm, .slice ao n cap] w fun e w' => ∃ z, e = .returned (.int .i64 z) ∧ Stepped fu z (DiskG w' st fu true d mb base [] C) (∃ f, w.heap.size ≤ f ∧ One w' (wrap64 (st + 1)) (dec fu) false d mb base nm f [] (laid [] n B)) ∧ Kept d mb base w w' := by
  refine (Append_G_new d mb base [] C st fu ao n cap B w hb hnf h rfl (by simp) hB hn).mono ?_
  rintro e w' ⟨z, rfl, hs, hk⟩
  refine ⟨z, rfl, ?_, hk⟩
  rcases hs with ⟨q1, q2, q3⟩ | ⟨q1, q2, f, c, hf, q3⟩
  · exact .inl ⟨q1, q2, q3⟩
  · exact .inr ⟨q1, q2, f, hf, c, _, q3, setC_at _ _ _⟩
theorem Append_one (d mb base f : Nat) (st fu : Int) (S : List UInt8) (D : List Deed) (ao : Option Addr) (n cap : Nat) (B : List UInt8) (w : World) (hb : base ≤ w.heap.size) (hnf : nameP nm.data.toList = true) (h : One w st fu false d mb base nm f S D) (hB : IsBytes w ao n cap B)
    (hn : n + (runD S D).length ≤ 1048576) (hDl : D.length ≤ 1000000) (hsm : S.length + unitsD D + n ≤ 4294967296) :
    Calls Try.prog 12 #[.pointer (some ⟨d, 0, none⟩), .string nm, .slice ao n cap] w fun e w' => ∃ z, e = .returned (.int .i64 z) ∧ Stepped fu z (One w' st fu true d mb base nm f S D) (One w' (wrap64 (st + 1)) (dec fu) false d mb base nm f S (laid D n B)) ∧ Kept d mb base w w' := by
  obtain ⟨c, C, hg, hC⟩ := h
  refine (Append_G_old d mb base f _ C st fu ao n cap B w hb hnf hg (fileOf_head nm f c []) hB (by rw [hC]; exact hn) (by rw [hC]; exact hDl) (by rw [hC]; exact hsm)).mono ?_
  rintro e w' ⟨z, rfl, hs, hk⟩
  refine ⟨z, rfl, ?_, hk⟩
  rcases hs with ⟨q1, q2, q3⟩ | ⟨q1, q2, q3⟩
  · exact .inl ⟨q1, q2, c, C, q3, hC⟩
  · exact .inr ⟨q1, q2, c, _, q3, by rw [setC_at, hC]⟩
theorem Sync_one (d mb base f : Nat) (st fu : Int) (S : List UInt8) (D : List Deed) (w : World) (hb : base ≤ w.heap.size) (h : One w st fu false d mb base nm f S D) :
    Calls Try.prog 13 #[.pointer (some ⟨d, 0, none⟩), .string nm] w fun e w' => ∃ z, e = .returned (.int .i64 z) ∧ Stepped fu z (One w' st fu true d mb base nm f S D) (One w' (wrap64 (st + 1)) (dec fu) false d mb base nm f (runD S D) []) ∧ Kept d mb base w w' := by
  obtain ⟨c, C, hg, hC⟩ := h
  refine (Sync_G d mb base f _ C st fu w hb hg (fileOf_head nm f c [])).mono ?_
  rintro e w' ⟨z, rfl, hs, hk⟩
  refine ⟨z, rfl, ?_, hk⟩
  rcases hs with ⟨q1, q2, q3⟩ | ⟨q1, q2, q3⟩
  · exact .inl ⟨q1, q2, c, C, q3, hC⟩
  · exact .inr ⟨q1, q2, c, _, q3, by rw [setC_at, hC]⟩
theorem Cut_one (d mb base f z : Nat) (st fu : Int) (S : List UInt8) (D : List Deed) (w : World) (hb : base ≤ w.heap.size) (h : One w st fu false d mb base nm f S D) (hz : z ≤ (runD S D).length) (hDl : D.length ≤ 1000000) (hsm : S.length + unitsD D + 1 ≤ 4294967296) :
    Calls Try.prog 29 #[.pointer (some ⟨d, 0, none⟩), .string nm, .int .i64 (z : Int)] w fun e w' => ∃ y, e = .returned (.int .i64 y) ∧ Stepped fu y (One w' st fu true d mb base nm f S D) (One w' (wrap64 (st + 1)) (dec fu) false d mb base nm f S (D ++ [.cut z])) ∧ Kept d mb base w w' := by
  obtain ⟨c, C, hg, hC⟩ := h
  refine (Cut_G d mb base f z _ C st fu w hb hg (fileOf_head nm f c []) (by rw [hC]; exact hz) (by rw [hC]; exact hDl) (by rw [hC]; exact hsm)).mono ?_
  rintro e w' ⟨y, rfl, hs, hk⟩
  refine ⟨y, rfl, ?_, hk⟩
  rcases hs with ⟨q1, q2, q3⟩ | ⟨q1, q2, q3⟩
  · exact .inl ⟨q1, q2, c, C, q3, hC⟩
  · exact .inr ⟨q1, q2, c, _, q3, by rw [setC_at, hC]⟩
theorem Loose_one (d mb base f : Nat) (st fu : Int) (out : Bool) (S : List UInt8) (D : List Deed) (w : World) (h : One w st fu out d mb base nm f S D) :
    Calls Try.prog 15 #[.pointer (some ⟨d, 0, none⟩), .string nm] w fun e w' => e = .returned (.int .i64 (unitsD D : Nat)) ∧ w = w' := by
  obtain ⟨c, C, hg, hC⟩ := h
  refine (Loose_G d mb base f _ C st fu out w hg (fileOf_head nm f c [])).mono ?_
  rintro e w' ⟨rfl, rfl⟩
  exact ⟨by rw [hC], rfl⟩
theorem reads_one (d mb base f : Nat) (st fu : Int) (S : List UInt8) (D : List Deed) (ao : Option Addr) (n cap : Nat) (l : List UInt8) (w : World) (h : One w st fu false d mb base nm f S D) (hl : IsBytes w ao n cap l) :
    Calls Try.prog 14 #[.pointer (some ⟨d, 0, none⟩), .string nm, .slice ao n cap] w fun e w' => e = .returned (.bool (runD S D == l)) ∧ Below w.heap.size w w' := by
  obtain ⟨c, C, hg, hC⟩ := h
  refine (reads_G d mb base f _ C st fu ao n cap l w hg (fileOf_head nm f c []) hl).mono ?_
  rintro e w' ⟨rfl, h1⟩
  exact ⟨by rw [hC], h1⟩
theorem Crash_one (d mb base f : Nat) (st fu : Int) (out : Bool) (S : List UInt8) (D : List Deed) (ao : Option Addr) (n cap : Nat) (K : List Int) (w : World) (hb : base ≤ w.heap.size) (h : One w st fu out d mb base nm f S D) (hK : IsKeeps w ao n cap K) :
    Calls Try.prog 16 #[.pointer (some ⟨d, 0, none⟩), .slice ao n cap] w fun e w' => e = .returned (.int .i64 0) ∧ One w' st (-1) false d mb base nm f (afterZ S D (unitK K 0 D)) [] ∧ Kept d mb base w w' := by
  obtain ⟨c, C, hg, hC⟩ := h
  refine (Crash_G d mb base _ C st fu out ao n cap K w hb hg hK).mono ?_
  rintro e w' ⟨rfl, h1, h2⟩
  rw [crashN_one] at h1
  exact ⟨rfl, ⟨c, _, h1, by rw [setC_at, hC]⟩, h2⟩
theorem Fuse_one (d mb base f : Nat) (z st fu : Int) (out : Bool) (S : List UInt8) (D : List Deed) (w : World) (hb : base ≤ w.heap.size) (hz1 : z ≤ 9223372036854775807) (h : One w st fu out d mb base nm f S D) :
    Calls Try.prog 24 #[.pointer (some ⟨d, 0, none⟩), .int .i64 z] w fun e w' => ((z < 0 ∧ e = .returned (.int .i64 2) ∧ One w' st fu out d mb base nm f S D) ∨ (0 ≤ z ∧ e = .returned (.int .i64 0) ∧ One w' st z out d mb base nm f S D)) ∧ Kept d mb base w w' := by
  obtain ⟨c, C, hg, hC⟩ := h
  refine (Fuse_G d mb base _ C z st fu out w hb hz1 hg).mono ?_
  rintro e w' ⟨h1 | h1, h2⟩
  · exact ⟨.inl ⟨h1.1, h1.2.1, c, C, h1.2.2, hC⟩, h2⟩
  · exact ⟨.inr ⟨h1.1, h1.2.1, c, C, h1.2.2, hC⟩, h2⟩
theorem dec_none : dec (-1) = -1 := by unfold dec; rfl
end Go.Proofs.Ytmpjjkfbojhfoaa

/- layer 27's statements: awake -/
namespace Go.Proofs.Ytmpjjkfbojhfoaa
open Go.RowKit
/-- no such block. -/
instance zone0 : Zone := ⟨none⟩
theorem ZW0 (w : World) : ZW w := fun _ h => by cases h
set_option maxRecDepth 100000 in
set_option maxHeartbeats 1000000 in
theorem awake_any (w : World) : Calls Try.prog 10 #[] w fun e w' => e = .returned (.bool true) ∧ Below w.heap.size w w' := by
  go_enter Try.func10, Try.ntmps10
  go_wp2_with fail
  refine (New_G w (fun _ => ([], [])) (ZW0 w)).mono ?_
  rintro e w1 ⟨d, mb, rfl, hmb, hmd, hg, hb⟩
  have HG := Lib.hid hg
  have HB := Lib.hid hb
  clear hg hb
  go_wp2_with fail
  have h1 : DiskG (w1.alloc (.cells (u8s [1, 2, 3]).toArray 5)) 0 (-1) false d mb w.heap.size [] (fun _ => ([], [])) := HG.out.later ((Below.refl _ _).alloc (Nat.le_refl _) _)
  have hk1 : Kept d mb w.heap.size w1 (w1.alloc (.cells (u8s [1, 2, 3]).toArray 5)) := .of_below ((Below.refl _ _).alloc (Nat.le_refl _) _) HB.out.size
  refine (Append_one_new (nm := nA) d mb w.heap.size _ 0 (-1) _ 3 3 [1, 2, 3] _ (Nat.le_trans HB.out.size (by simp)) nA_fit h1 (IsBytes.lit w1 [1, 2, 3] _ (by decide)) (by omega)).mono ?_
  rintro e w2 ⟨z, rfl, hs, hk⟩
  obtain ⟨rfl, f, hf, ho⟩ := hs.done (by omega)
  rw [dec_none] at ho
  have H2 := Lib.hid (And.intro ho (hk1.trans hk))
  have HS2 := Lib.hid (Nat.le_trans HB.out.size (hk1.trans hk).below.size)
  clear ho hk hk1 hs h1
  go_wp2_with fail
  refine (Sync_one (nm := nA) d mb w.heap.size f _ _ _ _ w2 HS2.out H2.out.1).mono ?_
  rintro e w3 ⟨z, rfl, hs, hk⟩
  obtain ⟨rfl, ho⟩ := hs.done (by omega)
  rw [dec_none] at ho
  have H3 := Lib.hid (And.intro ho (H2.out.2.trans hk))
  have HS3 := Lib.hid (Nat.le_trans HS2.out hk.below.size)
  clear ho hk hs
  go_wp2_with fail
  have h4 := H3.out.1.later (w' := w3.alloc (.cells (u8s [4, 5]).toArray 5)) ((Below.refl _ _).alloc (Nat.le_refl _) _)
  have hk4 : Kept d mb w.heap.size w3 (w3.alloc (.cells (u8s [4, 5]).toArray 5)) := .of_below ((Below.refl _ _).alloc (Nat.le_refl _) _) HS3.out
  refine (Append_one (nm := nA) d mb w.heap.size f _ _ _ _ _ 2 2 [4, 5] _ (Nat.le_trans HS3.out (by simp)) nA_fit h4 (IsBytes.lit w3 [4, 5] _ (by decide)) (by decide) (by decide) (by decide)).mono ?_
  rintro e w4 ⟨z, rfl, hs, hk⟩
  obtain ⟨rfl, ho⟩ := hs.done (by omega)
  rw [dec_none] at ho
  have H4 := Lib.hid (And.intro ho ((H3.out.2.trans hk4).trans hk))
  have HS4 := Lib.hid (Nat.le_trans HS3.out (hk4.trans hk).below.size)
  clear ho hk hs h4 hk4
  go_wp2_with fail
  refine (Loose_one (nm := nA) d mb w.heap.size f _ _ _ _ _ w4 H4.out.1).mono ?_
  rintro e w' ⟨rfl, rfl⟩
  go_wp2_with fail
  have h5 := H4.out.1.later (w' := w4.alloc (.cells #[.int .i64 1] 3)) ((Below.refl _ _).alloc (Nat.le_refl _) _)
  have hk5 : Kept d mb w.heap.size w4 (w4.alloc (.cells #[.int .i64 1] 3)) := .of_below ((Below.refl _ _).alloc (Nat.le_refl _) _) HS4.out
  refine (Crash_one (nm := nA) d mb w.heap.size f _ _ _ _ _ _ 1 1 [1] _ (Nat.le_trans HS4.out (by simp)) h5 (IsKeeps.lit w4 1 (by omega) (by omega) _ (by decide))).mono ?_
  rintro e w5 ⟨rfl, ho, hk⟩
  have H5 := Lib.hid (And.intro ho ((H4.out.2.trans hk5).trans hk))
  have HS5 := Lib.hid (Nat.le_trans HS4.out (hk5.trans hk).below.size)
  clear ho hk h5 hk5
  go_wp2_with fail
  have h6 := H5.out.1.later (w' := w5.alloc (.cells (u8s [1, 2, 3, 4]).toArray 5)) ((Below.refl _ _).alloc (Nat.le_refl _) _)
  refine (reads_one (nm := nA) d mb w.heap.size f _ _ _ _ _ 4 4 [1, 2, 3, 4] _ h6 (IsBytes.lit w5 [1, 2, 3, 4] _ (by decide))).mono ?_
  rintro e w6 ⟨rfl, hb6⟩
  have hb6 : Below w5.heap.size w5 w6 := ((Below.refl _ _).alloc (Nat.le_refl _) _).trans (hb6.mono (by simp))
  have H6 := Lib.hid (And.intro (H5.out.1.later hb6) hb6)
  clear h6 hb6
  go_wp2_with fail
  refine (Loose_one (nm := nA) d mb w.heap.size f _ _ _ _ _ w6 H6.out.1).mono ?_
  rintro e w' ⟨rfl, rfl⟩
  go_wp2_with fail
  go_ret
  exact ⟨rfl, (HB.out.trans (H5.out.2.below)).trans (H6.out.2.mono HS5.out)⟩
end Go.Proofs.Ytmpjjkfbojhfoaa

/- apportionkit.SameTexts; disk: what is refused; Steps -/
namespace Go.Proofs.Ytmpjjkfbojhfoaa
open Go.RowKit Go.Sort
/-- a slice of strings. -/
def IsTexts (w : World) (ao : Option Addr) (n cap : Nat) (L : List ByteArray) : Prop :=
  L.length = n ∧ n ≤ cap ∧ cap ≤ maxLen ∧ (0 < n → ∃ b off, ao = some ⟨b, off, none⟩ ∧ ∀ i, i < n → w.cell? ⟨b, off + i, none⟩ = some (.string (L.getD i ByteArray.empty)))
theorem IsTexts.drew {w : World} {ao : Option Addr} {n cap : Nat} {L : List ByteArray} (h : IsTexts w ao n cap L) : IsTexts w.drew ao n cap L := h
theorem IsTexts.later {w w' : World} {ao : Option Addr} {n cap : Nat} {L : List ByteArray} (h : IsTexts w ao n cap L) (hb : Below w.heap.size w w') : IsTexts w' ao n cap L := by
  obtain ⟨h1, h2, h3, h4⟩ := h
  refine ⟨h1, h2, h3, fun hn => ?_⟩
  obtain ⟨b, off, e, hc⟩ := h4 hn
  exact ⟨b, off, e, fun i hi => (hb.cell (block_lt_of_cell (hc i hi))).trans (hc i hi)⟩
theorem texts_eq {L M : List ByteArray} (h : L.length = M.length) (hi : ∀ i, i < L.length → L.getD i ByteArray.empty = M.getD i ByteArray.empty) : L = M := by
  apply List.ext_getElem?
  intro i
  by_cases h1 : i < L.length
  · have := hi i h1
    rw [List.getD_eq_getElem?_getD, List.getD_eq_getElem?_getD, List.getElem?_eq_getElem h1, List.getElem?_eq_getElem (by omega)] at this
    rw [List.getElem?_eq_getElem h1, List.getElem?_eq_getElem (by omega)]
    simpa using this
  · rw [List.getElem?_eq_none (by omega), List.getElem?_eq_none (by omega)]
set_option maxRecDepth 100000 in
theorem SameTexts_any (ao bo : Option Addr) (n m cap cap2 : Nat) (L M : List ByteArray) (w : World) (h1 : IsTexts w ao n cap L) (h2 : IsTexts w bo m cap2 M) :
    Calls Try.prog 19 #[.slice ao n cap, .slice bo m cap2] w fun e w' => ∃ r, e = .returned (.bool r) ∧ (r = true ↔ L = M) ∧ Below w.heap.size w w' := by
  have HI1 := Lib.hid h1
  have HI2 := Lib.hid h2
  have hnc := h1.2.1
  have hmc := h2.2.1
  have hcm := h1.2.2.1
  have hcm2 := h2.2.2.1
  unfold maxLen at hcm hcm2
  by_cases hnm : n = m
  · subst hnm
    clear h1 h2
    go_enter Try.func19, Try.ntmps19
    go_wp2
    go_loopw [5] (fun i wr => ∃ k : Nat, k ≤ n ∧ i = .int .i64 k ∧ Hid (∀ j, j < k → L.getD j ByteArray.empty = M.getD j ByteArray.empty) ∧ Hid (Below w.heap.size w wr)) (fun i _ => n - (intOf i).toNat)
    case atStart => exact ⟨0, by omega, rfl, Lib.hid (fun j hj => absurd hj (by omega)), Lib.hid (Below.refl _ _)⟩
    case round =>
      obtain ⟨k, hk, rfl, hall, hgr⟩ := hrel
      by_cases hlt : k < n
      · have hi0 : (0 : Int) ≤ (k : Int) := by omega
        have hi1 : (k : Int) < (n : Int) := by omega
        obtain ⟨b, off, rfl, hcs⟩ := (HI1.out.later hgr.out).2.2.2 (by omega)
        obtain ⟨b2, off2, rfl, hcs2⟩ := (HI2.out.later hgr.out).2.2.2 (by omega)
        have hc := hcs k hlt
        have hc2 := hcs2 k hlt
        obtain ⟨x, hx⟩ : ∃ x, x = L.getD k ByteArray.empty := ⟨_, rfl⟩
        obtain ⟨y, hy⟩ : ∃ y, y = M.getD k ByteArray.empty := ⟨_, rfl⟩
        rw [← hx] at hc
        rw [← hy] at hc2
        have HX := Lib.hid hx
        have HY := Lib.hid hy
        clear hcs hcs2 hx hy
        by_cases hxy : x = y
        · subst hxy
          have hbx : (x.toList == x.toList) = true := by simp
          go_wp2_with fail
          go_region
          go_wp2_with fail
          go_roundw
          case rel =>
            refine ⟨k + 1, by omega, by go_num, Lib.hid (fun j hj => ?_), Lib.hid hgr.out.drew⟩
            rcases Nat.lt_succ_iff_lt_or_eq.1 hj with hj | rfl
            · exact hall.out j hj
            · rw [← HX.out, ← HY.out]
          case measure => simp [intOf]; omega
        · have hbx : (x.toList == y.toList) = false := by
            rw [Lib.toList_data, Lib.toList_data]
            exact beq_false_of_ne (fun e => hxy (bytes_inj e))
          go_wp2_with fail
          go_region
          go_wp2_with fail
          go_ret
          refine ⟨_, rfl, ?_, hgr.out.drew⟩
          have hne : L ≠ M := by
            intro e
            apply hxy
            rw [HX.out, HY.out, e]
          simp [hne]
      · obtain rfl : k = n := by omega
        go_wp2_with fail
        go_ret
        refine ⟨_, rfl, ?_, hgr.out⟩
        have : L = M := texts_eq (by rw [HI1.out.1, HI2.out.1]) (fun i hi => hall.out i (by rw [HI1.out.1] at hi; exact hi))
        simp [this]
  · have hnm2 : ¬ (n : Int) = (m : Int) := by omega
    have hne : L ≠ M := by
      intro e
      exact hnm (by rw [← h1.1, ← h2.1, e])
    have HNE := Lib.hid hne
    clear h1 h2 hne
    go_enter Try.func19, Try.ntmps19
    go_wp2
    go_ret
    exact ⟨_, rfl, by simp [HNE.out], Below.refl _ _⟩
variable {nm : ByteArray}
set_option maxRecDepth 100000 in
theorem Steps_any (d mb : Nat) (M : List Ent) (st fu : Int) (out : Bool) (w : World) (h : DiskM w st fu out d mb M) :
    Calls Try.prog 30 #[.pointer (some ⟨d, 0, none⟩)] w fun e w' => e = .returned (.int .i64 st) ∧ w = w' := by
  obtain ⟨hfu, hmd, hd, _⟩ := h
  obtain ⟨h0, h1, h2, h3⟩ := hd.cells
  have HN := Lib.hid (none_any d mb st fu out w hd)
  have hld := run_call_load (P := Try.prog) Try.func75 (by kernel_rfl) (by kernel_rfl) (by kernel_rfl) .i64 (by kernel_rfl) h1
  have HL : Hid (Calls Try.prog 56 #[.pointer (some ⟨d, 1, none⟩)] w fun e w' => e = .returned (.int .i64 st) ∧ w = w') := Lib.hid (by
    clear HN hd h0 h2 h3 hmd hfu
    go_enter Try.func56, Try.ntmps56
    go_wp2
    go_ret
    exact ⟨rfl, rfl⟩)
  clear hd h0 h1 h2 h3 hfu hmd hld
  go_enter Try.func30, Try.ntmps30
  go_wp2_with fail
  refine HN.out.mono ?_
  rintro e w' ⟨rfl, rfl⟩
  go_wp2_with fail
  refine HL.out.mono ?_
  rintro e w' ⟨rfl, rfl⟩
  go_wp2_with fail
  go_ret
  exact ⟨rfl, rfl⟩
set_option maxRecDepth 100000 in
theorem Cut_none (d mb : Nat) (M : List Ent) (z st fu : Int) (w : World) (h : DiskM w st fu false d mb M) (hfo : fileOf nm M = none) :
    Calls Try.prog 29 #[.pointer (some ⟨d, 0, none⟩), .string nm, .int .i64 z] w fun e w' => e = .returned (.int .i64 6) ∧ Below w.heap.size w w' := by
  obtain ⟨c, hm⟩ := h.map
  have HO := Lib.hid (fun (w' : World) (hb : Below w.heap.size w w') => open_none d mb c M st fu w' ((hb.block _ h.2.2.1.lt).trans h.2.2.1) ((hb.block _ (heap_lt hm)).trans hm) hfo)
  clear h hm hfo
  go_enter Try.func29, Try.ntmps29
  go_wp2_with fail
  have hb1 : Below w.heap.size w (w.alloc (.cells #[.int .i64 z] 3)) := (Below.refl _ _).alloc (Nat.le_refl _) _
  have hs : w.heap.size ≤ (w.alloc (.cells #[.int .i64 z] 3)).heap.size := by simp
  have HB := Lib.hid (And.intro hb1 hs)
  clear hb1 hs
  refine (HO.out _ HB.out.1).mono ?_
  rintro e w' ⟨rfl, rfl⟩
  go_wp2_with fail
  go_ret
  exact ⟨rfl, by first | exact HB.out.1 | exact HB.out.1.alloc HB.out.2 _⟩
set_option maxRecDepth 100000 in
/-- a name that may not be. -/
theorem Append_bad (d mb : Nat) (M : List Ent) (st fu : Int) (ao : Option Addr) (n cap : Nat) (w : World) (hnm : nm.size ≤ 1099511627776) (hnf : nameP nm.data.toList = false) (h : DiskM w st fu false d mb M) :
    Calls Try.prog 12 #[.pointer (some ⟨d, 0, none⟩), .string nm, .slice ao n cap] w fun e w' => e = .returned (.int .i64 2) ∧ Below w.heap.size w w' := by
  obtain ⟨p, hp⟩ : ∃ p, fileOf nm M = p := ⟨_, rfl⟩
  obtain ⟨c, hm⟩ := h.map
  have hd := h.2.2.1
  have HNM := Lib.hid (fun w' => named_any nm w' hnm)
  have HNF := Lib.hid hnf
  have HD := Lib.hid hd
  have HM := Lib.hid hm
  have HP := Lib.hid hp
  clear h hd hm hnf hnm hp
  go_enter Try.func12, Try.ntmps12
  go_wp2_with fail
  generalize hw1 : ((w.alloc (.cells #[.pointer (some ⟨d, 0, none⟩)] 27)).alloc (.cells #[.string nm] 9)).alloc (.cells #[.slice ao n cap] 23) = w1
  obtain ⟨b0, b1, b2, hB1, hS1⟩ := app_boxes d nm _ w w1 hw1
  clear hw1
  obtain ⟨N, hN⟩ : ∃ N, N = w.heap.size := ⟨_, rfl⟩
  rw [← hN] at b0 b1 b2 hS1 ⊢
  have HN := Lib.hid hN
  have HD1 : Hid (DiskRow w1 d mb st fu false) := Lib.hid ((hB1.block _ HD.out.lt).trans HD.out)
  have HM1 : Hid (w1.heap[mb]? = some (.map (ents M) c)) := Lib.hid ((hB1.block _ (heap_lt HM.out)).trans HM.out)
  have h1 := HD1.out.cells.1
  have c0 : w1.cell? ⟨N, 0, none⟩ = some (.pointer (some ⟨d, 0, none⟩)) := cell_of_row _ _ _ _ _ _ b0
  have c1 : w1.cell? ⟨N + 1, 0, none⟩ = some (.string nm) := cell_of_row _ _ _ _ _ _ b1
  have hlk0 : (Instr.lookup 61 (.map (some mb)) (.string nm) false).run Try.prog (w1.alloc (.cells #[.pointer none] 72)).drew = .ok (.pointer (p.map fun f => ⟨f, 0, none⟩)) (w1.alloc (.cells #[.pointer none] 72)).drew := by
    rw [← HP.out]
    exact look_ents nm M _ mb c ((Below.heap_alloc w1 (.cells #[.pointer none] 72) mb (heap_lt HM1.out)).trans HM1.out)
  have hlk1 : (Instr.lookup 61 (.map (some mb)) (.string nm) false).run Try.prog w1.drew = .ok (.pointer (p.map fun f => ⟨f, 0, none⟩)) w1.drew := by
    rw [← HP.out]
    exact look_ents nm M w1.drew mb c HM1.out
  have h1a : (w1.alloc (.cells #[.pointer none] 72)).cell? ⟨d, 0, none⟩ = some (.map (some mb)) := (World.cell?_of_block (w := w1) (Below.heap_alloc w1 _ d HD1.out.lt)).trans h1
  generalize (p.map fun f => (⟨f, 0, none⟩ : Addr)) = pv at hlk0 hlk1
  have HBL := Lib.hid (And.intro hB1 (show w.heap.size ≤ w1.heap.size by omega))
  clear b0 b1 b2 hB1 hN
  refine (down_any d mb st fu w1 HD1.out).mono ?_
  rintro e w' ⟨rfl, rfl⟩
  go_wp2_with fail
  go_region
  all_goals
    go_wp2_with fail
    refine (HNM.out _).mono ?_
    rintro e w' ⟨rfl, rfl⟩
    rw [HNF.out]
    go_wp2_with fail
    go_ret
    exact ⟨rfl, HN.out.symm ▸ (HBL.out.1.alloc HBL.out.2 _).drew⟩
end Go.Proofs.Ytmpjjkfbojhfoaa

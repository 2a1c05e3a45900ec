/- disk: of one file -/
import Derived.Test.YtmpjjkfbojhfoaaDReads
namespace Go.Proofs.Ytmpjjkfbojhfoaa
open Go.RowKit
set_option linter.unusedSectionVars false
variable [Zone]
/-- the name "a". -/
def nA : ByteArray := { data := #[97] }
theorem nA_fit : nameP nA.data.toList = true := by decide
theorem Stepped.done {fu z : Int} {O P : Prop} (h : Stepped fu z O P) (hf : fu ≠ 0) : z = 0 ∧ P := by
  rcases h with ⟨h1, _⟩ | ⟨_, h2, h3⟩
  · exact absurd h1 hf
  · exact ⟨h2, h3⟩
theorem Stepped.out {z : Int} {O P : Prop} (h : Stepped 0 z O P) : z = 10 ∧ O := by
  rcases h with ⟨_, h2, h3⟩ | ⟨h1, _⟩
  · exact ⟨h2, h3⟩
  · exact absurd rfl h1
theorem fileOf_head (nm : ByteArray) (f c : Nat) (M : List Ent) : fileOf nm ((nm, f, c) :: M) = some f := by
  unfold fileOf fnd
  rw [bytes_same, if_pos rfl]
  rfl
theorem fileOf_next {nm x : ByteArray} (f c : Nat) (M : List Ent) (h : nm ≠ x) : fileOf nm ((x, f, c) :: M) = fileOf nm M := by
  have key : ∀ (M : List Ent) (i : Nat), (fnd nm M (i + 1)).map (·.2) = (fnd nm M i).map (·.2) := by
    intro M
    induction M with
    | nil => intro i; rfl
    | cons y M ih =>
      intro i
      unfold fnd
      split
      · rfl
      · exact ih (i + 1)
  unfold fileOf
  conv => lhs; rw [fnd]
  rw [bytes_beq, decide_eq_false h, if_neg (by simp)]
  exact key M 0
theorem fileOf_nil (nm : ByteArray) : fileOf nm [] = none := rfl
/-- one whole number that stands in the text. -/
theorem IsKeeps.lit (w : World) (k : Int) (hk0 : -9223372036854775808 ≤ k) (hk1 : k ≤ 9223372036854775807) (t : TypeId) (ht : t ≠ 68 ∧ t ≠ 76 ∧ t ≠ 101) : IsKeeps (w.alloc (.cells #[.int .i64 k] t)) (some ⟨w.heap.size, 0, none⟩) 1 1 [k] := by
  refine ⟨rfl, Nat.le_refl _, by unfold maxLen; omega, (fun e => by cases e), fun i hi => ?_⟩
  obtain rfl : i = 0 := by omega
  exact ⟨_, _, _, _, _, k, rfl, heap_alloc_new _ _, ht, rfl, rfl, hk0, hk1⟩
/-- the names of one file. -/
theorem sortN_one (nm : ByteArray) (f c : Nat) : sortN [(nm, f, c)] = [nm.data.toList] := by
  unfold sortN
  rw [List.map_cons, List.map_nil, List.mergeSort_singleton]
theorem crashN_one (nm : ByteArray) (f c : Nat) (K : List Int) (C : Cont) : crashN [(nm, f, c)] K (sortN [(nm, f, c)]) 0 C = setC C f (afterZ (C f).1 (C f).2 (unitK K 0 (C f).2), []) := by
  rw [sortN_one, crashN, crashN]
  rw [show (⟨nm.data.toList.toArray⟩ : ByteArray) = nm by simp, fileOf_head]
/-- a disk with one file. -/
def One (w : World) (st fu : Int) (out : Bool) (d mb base : Nat) (nm : ByteArray) (f : Nat) (S : List UInt8) (D : List Deed) : Prop := ∃ c C, DiskG w st fu out d mb base [(nm, f, c)] C ∧ C f = (S, D)
variable {nm : ByteArray}
theorem One.later {w w' : World} {st fu : Int} {out : Bool} {d mb base f : Nat} {S : List UInt8} {D : List Deed} (h : One w st fu out d mb base nm f S D) (hb : Below w.heap.size w w') : One w' st fu out d mb base nm f S D := by
  obtain ⟨c, C, h1, h2⟩ := h
  exact ⟨c, C, h1.later hb, h2⟩
theorem Append_one_new (d mb base : Nat) (C : Cont) (st fu : Int) (ao : Option Addr) (n cap : Nat) (B : List UInt8) (w : World) (hb : base ≤ w.heap.size) (hnf : nameP nm.data.toList = true) (h : DiskG w st fu false d mb base [] C) (hB : IsBytes w ao n cap B) (hn : n ≤ 1048576) :
    Calls Try.prog 12 #[.pointer (some ⟨d, 0, none⟩), .string nm, .slice ao n cap] w fun e w' => ∃ z, e = .returned (.int .i64 z) ∧ Stepped fu z (DiskG w' st fu true d mb base [] C) (∃ f, w.heap.size ≤ f ∧ One w' (wrap64 (st + 1)) (dec fu) false d mb base nm f [] (laid [] n B)) ∧ Kept d mb base w w' := by
  refine (Append_G_new d mb base [] C st fu ao n cap B w hb hnf h rfl (by simp) hB hn).mono ?_
  rintro e w' ⟨z, rfl, hs, hk⟩
  refine ⟨z, rfl, ?_, hk⟩
  rcases hs with ⟨q1, q2, q3⟩ | ⟨q1, q2, f, c, hf, q3⟩
  · exact .inl ⟨q1, q2, q3⟩
  · exact .inr ⟨q1, q2, f, hf, c, _, q3, setC_at _ _ _⟩
theorem Append_one (d mb base f : Nat) (st fu : Int) (S : List UInt8) (D : List Deed) (ao : Option Addr) (n cap : Nat) (B : List UInt8) (w : World) (hb : base ≤ w.heap.size) (hnf : nameP nm.data.toList = true) (h : One w st fu false d mb base nm f S D) (hB : IsBytes w ao n cap B)
    (hn : n + (runD S D).length ≤ 1048576) (hDl : D.length ≤ 1000000) (hsm : S.length + unitsD D + n ≤ 4294967296) :
    Calls Try.prog 12 #[.pointer (some ⟨d, 0, none⟩), .string nm, .slice ao n cap] w fun e w' => ∃ z, e = .returned (.int .i64 z) ∧ Stepped fu z (One w' st fu true d mb base nm f S D) (One w' (wrap64 (st + 1)) (dec fu) false d mb base nm f S (laid D n B)) ∧ Kept d mb base w w' := by
  obtain ⟨c, C, hg, hC⟩ := h
  refine (Append_G_old d mb base f _ C st fu ao n cap B w hb hnf hg (fileOf_head nm f c []) hB (by rw [hC]; exact hn) (by rw [hC]; exact hDl) (by rw [hC]; exact hsm)).mono ?_
  rintro e w' ⟨z, rfl, hs, hk⟩
  refine ⟨z, rfl, ?_, hk⟩
  rcases hs with ⟨q1, q2, q3⟩ | ⟨q1, q2, q3⟩
  · exact .inl ⟨q1, q2, c, C, q3, hC⟩
  · exact .inr ⟨q1, q2, c, _, q3, by rw [setC_at, hC]⟩
theorem Sync_one (d mb base f : Nat) (st fu : Int) (S : List UInt8) (D : List Deed) (w : World) (hb : base ≤ w.heap.size) (h : One w st fu false d mb base nm f S D) :
    Calls Try.prog 13 #[.pointer (some ⟨d, 0, none⟩), .string nm] w fun e w' => ∃ z, e = .returned (.int .i64 z) ∧ Stepped fu z (One w' st fu true d mb base nm f S D) (One w' (wrap64 (st + 1)) (dec fu) false d mb base nm f (runD S D) []) ∧ Kept d mb base w w' := by
  obtain ⟨c, C, hg, hC⟩ := h
  refine (Sync_G d mb base f _ C st fu w hb hg (fileOf_head nm f c [])).mono ?_
  rintro e w' ⟨z, rfl, hs, hk⟩
  refine ⟨z, rfl, ?_, hk⟩
  rcases hs with ⟨q1, q2, q3⟩ | ⟨q1, q2, q3⟩
  · exact .inl ⟨q1, q2, c, C, q3, hC⟩
  · exact .inr ⟨q1, q2, c, _, q3, by rw [setC_at, hC]⟩
theorem Cut_one (d mb base f z : Nat) (st fu : Int) (S : List UInt8) (D : List Deed) (w : World) (hb : base ≤ w.heap.size) (h : One w st fu false d mb base nm f S D) (hz : z ≤ (runD S D).length) (hDl : D.length ≤ 1000000) (hsm : S.length + unitsD D + 1 ≤ 4294967296) :
    Calls Try.prog 29 #[.pointer (some ⟨d, 0, none⟩), .string nm, .int .i64 (z : Int)] w fun e w' => ∃ y, e = .returned (.int .i64 y) ∧ Stepped fu y (One w' st fu true d mb base nm f S D) (One w' (wrap64 (st + 1)) (dec fu) false d mb base nm f S (D ++ [.cut z])) ∧ Kept d mb base w w' := by
  obtain ⟨c, C, hg, hC⟩ := h
  refine (Cut_G d mb base f z _ C st fu w hb hg (fileOf_head nm f c []) (by rw [hC]; exact hz) (by rw [hC]; exact hDl) (by rw [hC]; exact hsm)).mono ?_
  rintro e w' ⟨y, rfl, hs, hk⟩
  refine ⟨y, rfl, ?_, hk⟩
  rcases hs with ⟨q1, q2, q3⟩ | ⟨q1, q2, q3⟩
  · exact .inl ⟨q1, q2, c, C, q3, hC⟩
  · exact .inr ⟨q1, q2, c, _, q3, by rw [setC_at, hC]⟩
theorem Loose_one (d mb base f : Nat) (st fu : Int) (out : Bool) (S : List UInt8) (D : List Deed) (w : World) (h : One w st fu out d mb base nm f S D) :
    Calls Try.prog 15 #[.pointer (some ⟨d, 0, none⟩), .string nm] w fun e w' => e = .returned (.int .i64 (unitsD D : Nat)) ∧ w = w' := by
  obtain ⟨c, C, hg, hC⟩ := h
  refine (Loose_G d mb base f _ C st fu out w hg (fileOf_head nm f c [])).mono ?_
  rintro e w' ⟨rfl, rfl⟩
  exact ⟨by rw [hC], rfl⟩
theorem reads_one (d mb base f : Nat) (st fu : Int) (S : List UInt8) (D : List Deed) (ao : Option Addr) (n cap : Nat) (l : List UInt8) (w : World) (h : One w st fu false d mb base nm f S D) (hl : IsBytes w ao n cap l) :
    Calls Try.prog 14 #[.pointer (some ⟨d, 0, none⟩), .string nm, .slice ao n cap] w fun e w' => e = .returned (.bool (runD S D == l)) ∧ Below w.heap.size w w' := by
  obtain ⟨c, C, hg, hC⟩ := h
  refine (reads_G d mb base f _ C st fu ao n cap l w hg (fileOf_head nm f c []) hl).mono ?_
  rintro e w' ⟨rfl, h1⟩
  exact ⟨by rw [hC], h1⟩
theorem Crash_one (d mb base f : Nat) (st fu : Int) (out : Bool) (S : List UInt8) (D : List Deed) (ao : Option Addr) (n cap : Nat) (K : List Int) (w : World) (hb : base ≤ w.heap.size) (h : One w st fu out d mb base nm f S D) (hK : IsKeeps w ao n cap K) :
    Calls Try.prog 16 #[.pointer (some ⟨d, 0, none⟩), .slice ao n cap] w fun e w' => e = .returned (.int .i64 0) ∧ One w' st (-1) false d mb base nm f (afterZ S D (unitK K 0 D)) [] ∧ Kept d mb base w w' := by
  obtain ⟨c, C, hg, hC⟩ := h
  refine (Crash_G d mb base _ C st fu out ao n cap K w hb hg hK).mono ?_
  rintro e w' ⟨rfl, h1, h2⟩
  rw [crashN_one] at h1
  exact ⟨rfl, ⟨c, _, h1, by rw [setC_at, hC]⟩, h2⟩
theorem Fuse_one (d mb base f : Nat) (z st fu : Int) (out : Bool) (S : List UInt8) (D : List Deed) (w : World) (hb : base ≤ w.heap.size) (hz1 : z ≤ 9223372036854775807) (h : One w st fu out d mb base nm f S D) :
    Calls Try.prog 24 #[.pointer (some ⟨d, 0, none⟩), .int .i64 z] w fun e w' => ((z < 0 ∧ e = .returned (.int .i64 2) ∧ One w' st fu out d mb base nm f S D) ∨ (0 ≤ z ∧ e = .returned (.int .i64 0) ∧ One w' st z out d mb base nm f S D)) ∧ Kept d mb base w w' := by
  obtain ⟨c, C, hg, hC⟩ := h
  refine (Fuse_G d mb base _ C z st fu out w hb hz1 hg).mono ?_
  rintro e w' ⟨h1 | h1, h2⟩
  · exact ⟨.inl ⟨h1.1, h1.2.1, c, C, h1.2.2, hC⟩, h2⟩
  · exact ⟨.inr ⟨h1.1, h1.2.1, c, C, h1.2.2, hC⟩, h2⟩
theorem dec_none : dec (-1) = -1 := by unfold dec; rfl
end Go.Proofs.Ytmpjjkfbojhfoaa

/- disk: of two files -/
import Derived.Test.YtmpjjkfbojhfoaaDKnown
namespace Go.Proofs.Ytmpjjkfbojhfoaa
open Go.RowKit Go.Sort
/-- a disk with two files. -/
def Two (w : World) (st fu : Int) (out : Bool) (d mb base : Nat) (n1 : ByteArray) (f1 : Nat) (S1 : List UInt8) (D1 : List Deed) (n2 : ByteArray) (f2 : Nat) (S2 : List UInt8) (D2 : List Deed) : Prop :=
  ∃ c1 c2 C, DiskG w st fu out d mb base [(n1, f1, c1), (n2, f2, c2)] C ∧ C f1 = (S1, D1) ∧ C f2 = (S2, D2) ∧ f1 ≠ f2 ∧ n1 ≠ n2
variable {n1 n2 : ByteArray}
theorem Two.later {w w' : World} {st fu : Int} {out : Bool} {d mb base f1 f2 : Nat} {S1 S2 : List UInt8} {D1 D2 : List Deed} (h : Two w st fu out d mb base n1 f1 S1 D1 n2 f2 S2 D2) (hb : Below w.heap.size w w') : Two w' st fu out d mb base n1 f1 S1 D1 n2 f2 S2 D2 := by
  obtain ⟨c1, c2, C, h1, h2⟩ := h
  exact ⟨c1, c2, C, h1.later hb, h2⟩
theorem fileOf_snd {n1 n2 : ByteArray} (f1 c1 f2 c2 : Nat) (h : n1 ≠ n2) : fileOf n2 [(n1, f1, c1), (n2, f2, c2)] = some f2 := by
  rw [fileOf_next _ _ _ (Ne.symm h), fileOf_head]
theorem Append_two_new (d mb base f1 : Nat) (st fu : Int) (S1 : List UInt8) (D1 : List Deed) (ao : Option Addr) (n cap : Nat) (B : List UInt8) (w : World) (hb : base ≤ w.heap.size) (hne : n1 ≠ n2) (hnf : nameP n2.data.toList = true) (h : One w st fu false d mb base n1 f1 S1 D1) (hB : IsBytes w ao n cap B) (hn : n ≤ 1048576) :
    Calls Try.prog 12 #[.pointer (some ⟨d, 0, none⟩), .string n2, .slice ao n cap] w fun e w' => ∃ z, e = .returned (.int .i64 z) ∧ Stepped fu z (One w' st fu true d mb base n1 f1 S1 D1) (∃ f2, Two w' (wrap64 (st + 1)) (dec fu) false d mb base n1 f1 S1 D1 n2 f2 [] (laid [] n B)) ∧ Kept d mb base w w' := by
  obtain ⟨c, C, hg, hC⟩ := h
  have hlt := (hg.file (fileOf_head n1 f1 c [])).2.at.lt
  refine (Append_G_new (nm := n2) d mb base _ C st fu ao n cap B w hb hnf hg (by rw [fileOf_next _ _ _ (Ne.symm hne)]; rfl) (by simp) hB hn).mono ?_
  rintro e w' ⟨z, rfl, hs, hk⟩
  refine ⟨z, rfl, ?_, hk⟩
  rcases hs with ⟨q1, q2, q3⟩ | ⟨q1, q2, f, c', hf, q3⟩
  · exact .inl ⟨q1, q2, c, C, q3, hC⟩
  · have hff : f1 ≠ f := by omega
    exact .inr ⟨q1, q2, f, c, c', _, q3, by rw [setC_ne _ _ hff, hC], setC_at _ _ _, hff, hne⟩
theorem Append_two (d mb base f1 f2 : Nat) (st fu : Int) (S1 S2 : List UInt8) (D1 D2 : List Deed) (ao : Option Addr) (n cap : Nat) (B : List UInt8) (w : World) (hb : base ≤ w.heap.size) (hnf : nameP n2.data.toList = true) (h : Two w st fu false d mb base n1 f1 S1 D1 n2 f2 S2 D2) (hB : IsBytes w ao n cap B)
    (hn : n + (runD S2 D2).length ≤ 1048576) (hDl : D2.length ≤ 1000000) (hsm : S2.length + unitsD D2 + n ≤ 4294967296) :
    Calls Try.prog 12 #[.pointer (some ⟨d, 0, none⟩), .string n2, .slice ao n cap] w fun e w' => ∃ z, e = .returned (.int .i64 z) ∧ Stepped fu z (Two w' st fu true d mb base n1 f1 S1 D1 n2 f2 S2 D2) (Two w' (wrap64 (st + 1)) (dec fu) false d mb base n1 f1 S1 D1 n2 f2 S2 (laid D2 n B)) ∧ Kept d mb base w w' := by
  obtain ⟨c1, c2, C, hg, hC1, hC2, hff, hne⟩ := h
  refine (Append_G_old d mb base f2 _ C st fu ao n cap B w hb hnf hg (fileOf_snd f1 c1 f2 c2 hne) hB (by rw [hC2]; exact hn) (by rw [hC2]; exact hDl) (by rw [hC2]; exact hsm)).mono ?_
  rintro e w' ⟨z, rfl, hs, hk⟩
  refine ⟨z, rfl, ?_, hk⟩
  rcases hs with ⟨q1, q2, q3⟩ | ⟨q1, q2, q3⟩
  · exact .inl ⟨q1, q2, c1, c2, C, q3, hC1, hC2, hff, hne⟩
  · exact .inr ⟨q1, q2, c1, c2, _, q3, by rw [setC_ne _ _ hff, hC1], by rw [setC_at, hC2], hff, hne⟩
theorem Sync_two1 (d mb base f1 f2 : Nat) (st fu : Int) (S1 S2 : List UInt8) (D1 D2 : List Deed) (w : World) (hb : base ≤ w.heap.size) (h : Two w st fu false d mb base n1 f1 S1 D1 n2 f2 S2 D2) :
    Calls Try.prog 13 #[.pointer (some ⟨d, 0, none⟩), .string n1] w fun e w' => ∃ z, e = .returned (.int .i64 z) ∧ Stepped fu z (Two w' st fu true d mb base n1 f1 S1 D1 n2 f2 S2 D2) (Two w' (wrap64 (st + 1)) (dec fu) false d mb base n1 f1 (runD S1 D1) [] n2 f2 S2 D2) ∧ Kept d mb base w w' := by
  obtain ⟨c1, c2, C, hg, hC1, hC2, hff, hne⟩ := h
  refine (Sync_G d mb base f1 _ C st fu w hb hg (fileOf_head n1 f1 c1 _)).mono ?_
  rintro e w' ⟨z, rfl, hs, hk⟩
  refine ⟨z, rfl, ?_, hk⟩
  rcases hs with ⟨q1, q2, q3⟩ | ⟨q1, q2, q3⟩
  · exact .inl ⟨q1, q2, c1, c2, C, q3, hC1, hC2, hff, hne⟩
  · exact .inr ⟨q1, q2, c1, c2, _, q3, by rw [setC_at, hC1], by rw [setC_ne _ _ (Ne.symm hff), hC2], hff, hne⟩
theorem Sync_two2 (d mb base f1 f2 : Nat) (st fu : Int) (S1 S2 : List UInt8) (D1 D2 : List Deed) (w : World) (hb : base ≤ w.heap.size) (h : Two w st fu false d mb base n1 f1 S1 D1 n2 f2 S2 D2) :
    Calls Try.prog 13 #[.pointer (some ⟨d, 0, none⟩), .string n2] w fun e w' => ∃ z, e = .returned (.int .i64 z) ∧ Stepped fu z (Two w' st fu true d mb base n1 f1 S1 D1 n2 f2 S2 D2) (Two w' (wrap64 (st + 1)) (dec fu) false d mb base n1 f1 S1 D1 n2 f2 (runD S2 D2) []) ∧ Kept d mb base w w' := by
  obtain ⟨c1, c2, C, hg, hC1, hC2, hff, hne⟩ := h
  refine (Sync_G d mb base f2 _ C st fu w hb hg (fileOf_snd f1 c1 f2 c2 hne)).mono ?_
  rintro e w' ⟨z, rfl, hs, hk⟩
  refine ⟨z, rfl, ?_, hk⟩
  rcases hs with ⟨q1, q2, q3⟩ | ⟨q1, q2, q3⟩
  · exact .inl ⟨q1, q2, c1, c2, C, q3, hC1, hC2, hff, hne⟩
  · exact .inr ⟨q1, q2, c1, c2, _, q3, by rw [setC_ne _ _ hff, hC1], by rw [setC_at, hC2], hff, hne⟩
theorem Loose_two1 (d mb base f1 f2 : Nat) (st fu : Int) (out : Bool) (S1 S2 : List UInt8) (D1 D2 : List Deed) (w : World) (h : Two w st fu out d mb base n1 f1 S1 D1 n2 f2 S2 D2) :
    Calls Try.prog 15 #[.pointer (some ⟨d, 0, none⟩), .string n1] w fun e w' => e = .returned (.int .i64 (unitsD D1 : Nat)) ∧ w = w' := by
  obtain ⟨c1, c2, C, hg, hC1, hC2, hff, hne⟩ := h
  refine (Loose_G d mb base f1 _ C st fu out w hg (fileOf_head n1 f1 c1 _)).mono ?_
  rintro e w' ⟨rfl, rfl⟩
  exact ⟨by rw [hC1], rfl⟩
theorem reads_two1 (d mb base f1 f2 : Nat) (st fu : Int) (S1 S2 : List UInt8) (D1 D2 : List Deed) (ao : Option Addr) (n cap : Nat) (l : List UInt8) (w : World) (h : Two w st fu false d mb base n1 f1 S1 D1 n2 f2 S2 D2) (hl : IsBytes w ao n cap l) :
    Calls Try.prog 14 #[.pointer (some ⟨d, 0, none⟩), .string n1, .slice ao n cap] w fun e w' => e = .returned (.bool (runD S1 D1 == l)) ∧ Below w.heap.size w w' := by
  obtain ⟨c1, c2, C, hg, hC1, hC2, hff, hne⟩ := h
  refine (reads_G d mb base f1 _ C st fu ao n cap l w hg (fileOf_head n1 f1 c1 _) hl).mono ?_
  rintro e w' ⟨rfl, h1⟩
  exact ⟨by rw [hC1], h1⟩
theorem Rename_two (d mb base f1 f2 : Nat) (st fu : Int) (S1 S2 : List UInt8) (D1 D2 : List Deed) (w : World) (hb : base ≤ w.heap.size) (hnt : nameP n2.data.toList = true) (h : Two w st fu false d mb base n1 f1 S1 D1 n2 f2 S2 D2) :
    Calls Try.prog 27 #[.pointer (some ⟨d, 0, none⟩), .string n1, .string n2] w fun e w' => ∃ z, e = .returned (.int .i64 z) ∧ ((D1 ≠ [] ∧ z = 9 ∧ Two w' st fu false d mb base n1 f1 S1 D1 n2 f2 S2 D2) ∨ (D1 = [] ∧ Stepped fu z (Two w' st fu true d mb base n1 f1 S1 D1 n2 f2 S2 D2) (One w' (wrap64 (st + 1)) (dec fu) false d mb base n2 f1 S1 D1))) ∧ Kept d mb base w w' := by
  obtain ⟨c1, c2, C, hg, hC1, hC2, hff, hne⟩ := h
  refine (Rename_any n1 n2 d mb base f1 _ C st fu w hb hnt hg (fileOf_head n1 f1 c1 _)).mono ?_
  rintro e w' ⟨z, rfl, hs, hk⟩
  refine ⟨z, rfl, ?_, hk⟩
  rw [hC1] at hs
  rcases hs with ⟨q1, q2, q3⟩ | ⟨q1, ⟨q2, q3, q4⟩ | ⟨q2, q3, c', q4⟩⟩
  · exact .inl ⟨q1, q2, c1, c2, C, q3, hC1, hC2, hff, hne⟩
  · exact .inr ⟨q1, .inl ⟨q2, q3, c1, c2, C, q4, hC1, hC2, hff, hne⟩⟩
  · have hnd : ([(n1, f1, c1), (n2, f2, c2)].map (·.1)).Nodup := hg.dm.2.2.2.choose_spec.1.once
    have e1 : delE n1 [(n1, f1, c1), (n2, f2, c2)] = [(n2, f2, c2)] := by
      rw [delE_filter hnd, List.filter_cons_of_neg (by simp), List.filter_cons_of_pos (by simp; exact Ne.symm hne)]
      rfl
    have e2 : putE n2 f1 c' [(n2, f2, c2)] = [(n2, f1, c2)] := by
      rw [putE_old (by simp) (fileOf_head n2 f2 c2 [])]
      simp
    rw [e1, e2] at q4
    exact .inr ⟨q1, .inr ⟨q2, q3, c2, C, q4, hC1⟩⟩
theorem Remove_two2 (d mb base f1 f2 : Nat) (st fu : Int) (S1 S2 : List UInt8) (D1 D2 : List Deed) (w : World) (hb : base ≤ w.heap.size) (h : Two w st fu false d mb base n1 f1 S1 D1 n2 f2 S2 D2) :
    Calls Try.prog 18 #[.pointer (some ⟨d, 0, none⟩), .string n2] w fun e w' => ∃ z, e = .returned (.int .i64 z) ∧ Stepped fu z (Two w' st fu true d mb base n1 f1 S1 D1 n2 f2 S2 D2) (One w' (wrap64 (st + 1)) (dec fu) false d mb base n1 f1 S1 D1) ∧ Kept d mb base w w' := by
  obtain ⟨c1, c2, C, hg, hC1, hC2, hff, hne⟩ := h
  refine (Remove_any n2 d mb base f2 _ C st fu w hb hg (fileOf_snd f1 c1 f2 c2 hne)).mono ?_
  rintro e w' ⟨z, rfl, hs, hk⟩
  refine ⟨z, rfl, ?_, hk⟩
  rcases hs with ⟨q1, q2, q3⟩ | ⟨q1, q2, q3⟩
  · exact .inl ⟨q1, q2, c1, c2, C, q3, hC1, hC2, hff, hne⟩
  · have hnd : ([(n1, f1, c1), (n2, f2, c2)].map (·.1)).Nodup := hg.dm.2.2.2.choose_spec.1.once
    have e1 : delE n2 [(n1, f1, c1), (n2, f2, c2)] = [(n1, f1, c1)] := by
      rw [delE_filter hnd, List.filter_cons_of_pos (by simp; exact hne), List.filter_cons_of_neg (by simp)]
      rfl
    rw [e1] at q3
    exact .inr ⟨q1, q2, c1, C, q3, hC1⟩
theorem sortN_two (n1 n2 : ByteArray) (f1 c1 f2 c2 : Nat) : sortN [(n1, f1, c1), (n2, f2, c2)] = [n1.data.toList, n2.data.toList] ∨ sortN [(n1, f1, c1), (n2, f2, c2)] = [n2.data.toList, n1.data.toList] := by
  have tr : ∀ a b c : List UInt8, leB a b = true → leB b c = true → leB a c = true := fun a b c h1 h2 => by simp only [leB, decide_eq_true_eq] at *; exact List.le_trans h1 h2
  unfold sortN
  simp only [List.map_cons, List.map_nil]
  rcases List.le_total n1.data.toList n2.data.toList with h | h
  · exact .inl (List.mergeSort_of_pairwise (by simp [leB, h]))
  · right
    rw [mergeSort_of_perm (List.Perm.swap n2.data.toList n1.data.toList [])]
    exact List.mergeSort_of_pairwise (by simp [leB, h])
theorem afterZ_nil (S : List UInt8) (z : Int) : afterZ S [] z = S := by unfold afterZ; rfl
theorem Crash_two (d mb base f1 f2 : Nat) (st fu : Int) (out : Bool) (S1 S2 : List UInt8) (D1 D2 : List Deed) (ao : Option Addr) (n cap : Nat) (K : List Int) (w : World) (hb : base ≤ w.heap.size) (h : Two w st fu out d mb base n1 f1 S1 D1 n2 f2 S2 D2) (hK : IsKeeps w ao n cap K) :
    Calls Try.prog 16 #[.pointer (some ⟨d, 0, none⟩), .slice ao n cap] w fun e w' => e = .returned (.int .i64 0) ∧ (∃ z1 z2, Two w' st (-1) false d mb base n1 f1 (afterZ S1 D1 z1) [] n2 f2 (afterZ S2 D2 z2) []) ∧ Kept d mb base w w' := by
  obtain ⟨c1, c2, C, hg, hC1, hC2, hff, hne⟩ := h
  refine (Crash_G d mb base _ C st fu out ao n cap K w hb hg hK).mono ?_
  rintro e w' ⟨rfl, h1, h2⟩
  refine ⟨rfl, ?_, h2⟩
  have e1 : (⟨n1.data.toList.toArray⟩ : ByteArray) = n1 := by simp
  have e2 : (⟨n2.data.toList.toArray⟩ : ByteArray) = n2 := by simp
  rcases sortN_two n1 n2 f1 c1 f2 c2 with hs | hs
  · rw [hs, crashN, crashN, crashN, e1, e2, fileOf_head, fileOf_snd f1 c1 f2 c2 hne] at h1
    dsimp only at h1
    refine ⟨unitK K 0 (C f1).2, unitK K (0 + 1) (C f2).2, c1, c2, _, h1, ?_, ?_, hff, hne⟩
    · rw [setC_ne _ _ hff, setC_at, hC1]
    · rw [setC_at, setC_ne _ _ (Ne.symm hff), hC2]
  · rw [hs, crashN, crashN, crashN, e1, e2, fileOf_head, fileOf_snd f1 c1 f2 c2 hne] at h1
    dsimp only at h1
    refine ⟨unitK K (0 + 1) (C f1).2, unitK K 0 (C f2).2, c1, c2, _, h1, ?_, ?_, hff, hne⟩
    · rw [setC_at, setC_ne _ _ hff, hC1]
    · rw [setC_ne _ _ (Ne.symm hff), setC_at, hC2]
end Go.Proofs.Ytmpjjkfbojhfoaa

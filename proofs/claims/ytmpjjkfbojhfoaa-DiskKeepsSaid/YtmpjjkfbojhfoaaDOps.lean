/- disk: what the calls do to a disk with all its files -/
import Derived.Test.YtmpjjkfbojhfoaaCrash
namespace Go.Proofs.Ytmpjjkfbojhfoaa
open Go.RowKit
set_option linter.unusedSectionVars false
variable [Zone]
variable {nm : ByteArray}
theorem New_G (w : World) (C : Cont) (hz : ZW w) : Calls Try.prog 11 #[] w fun e w' => ∃ d mb, e = .returned (.pointer (some ⟨d, 0, none⟩)) ∧ w.heap.size ≤ mb ∧ mb < d ∧ DiskG w' 0 (-1) false d mb w.heap.size [] C ∧ Below w.heap.size w w' := by
  refine (New_any w).mono ?_
  rintro e w' ⟨d, mb, rfl, h1, h2, h3, h4, h5⟩
  exact ⟨d, mb, rfl, h1, h2, ⟨⟨by omega, h2, h3, 0, ⟨by simp, List.Pairwise.nil, List.Pairwise.nil, by simp, by simp⟩, h4⟩, h1, by simp, by simp, by simp, hz.mono h5.size⟩, h5⟩
theorem Append_G_old (d mb base f : Nat) (M : List Ent) (C : Cont) (st fu : Int) (ao : Option Addr) (n cap : Nat) (B : List UInt8) (w : World) (hb : base ≤ w.heap.size) (hnf : nameP nm.data.toList = true) (h : DiskG w st fu false d mb base M C) (hfo : fileOf nm M = some f) (hB : IsBytes w ao n cap B)
    (hn : n + (runD (C f).1 (C f).2).length ≤ 1048576) (hDl : (C f).2.length ≤ 1000000) (hsm : (C f).1.length + unitsD (C f).2 + n ≤ 4294967296) :
    Calls Try.prog 12 #[.pointer (some ⟨d, 0, none⟩), .string nm, .slice ao n cap] w fun e w' => ∃ z, e = .returned (.int .i64 z) ∧ Stepped fu z (DiskG w' st fu true d mb base M C) (DiskG w' (wrap64 (st + 1)) (dec fu) false d mb base M (setC C f ((C f).1, laid (C f).2 n B))) ∧ Kept d mb base w w' := by
  obtain ⟨b, hfm⟩ := fileOf_mem hfo
  refine (Append_log base d mb f M st fu (C f).1 (C f).2 ao n cap B w hb hnf h.dm hfo (h.file hfo).2 hB h.zone (by rw [allB_run]; exact hn) hDl (by rw [List.map_append, List.sum_append]; have := hB.1; simp only [List.map_cons, List.map_nil, List.sum_cons, List.sum_nil, Deed.units, sum_units]; omega)).mono ?_
  rintro e w' ⟨z, rfl, hs, hm⟩
  refine ⟨z, rfl, ?_⟩
  rcases hs with ⟨q1, q2, q3, q4⟩ | ⟨q1, q2, q3, q4⟩
  · obtain ⟨r1, r2⟩ := h.moved hfm hb hm q3 q4
    rw [show setC C f ((C f).1, (C f).2) = C from setC_same C f] at r1
    exact ⟨.inl ⟨q1, q2, r1⟩, r2⟩
  · obtain ⟨r1, r2⟩ := h.moved hfm hb hm q3 q4
    exact ⟨.inr ⟨q1, q2, r1⟩, r2⟩
theorem Append_G_new (d mb base : Nat) (M : List Ent) (C : Cont) (st fu : Int) (ao : Option Addr) (n cap : Nat) (B : List UInt8) (w : World) (hb : base ≤ w.heap.size) (hnf : nameP nm.data.toList = true) (h : DiskG w st fu false d mb base M C) (hfo : fileOf nm M = none) (hml : M.length < 16) (hB : IsBytes w ao n cap B)
    (hn : n ≤ 1048576) :
    Calls Try.prog 12 #[.pointer (some ⟨d, 0, none⟩), .string nm, .slice ao n cap] w fun e w' => ∃ z, e = .returned (.int .i64 z) ∧ Stepped fu z (DiskG w' st fu true d mb base M C) (∃ f c, w.heap.size ≤ f ∧ DiskG w' (wrap64 (st + 1)) (dec fu) false d mb base (M ++ [(nm, f, c)]) (setC C f ([], laid [] n B))) ∧ Kept d mb base w w' := by
  refine (Append_new base d mb M st fu ao n cap B w hb hnf h.dm hfo hml hB h.zone hn).mono ?_
  rintro e w' ⟨z, rfl, f, hf, hs, hm⟩
  refine ⟨z, rfl, ?_⟩
  rcases hs with ⟨q1, q2, q3⟩ | ⟨q1, q2, c, q3, q4⟩
  · obtain ⟨r1, r2⟩ := h.stay hb hm hf q3
    exact ⟨.inl ⟨q1, q2, r1⟩, r2⟩
  · obtain ⟨r1, r2⟩ := h.push hb hm hf q3 q4
    exact ⟨.inr ⟨q1, q2, f, c, hf, r1⟩, r2⟩
theorem Sync_G (d mb base f : Nat) (M : List Ent) (C : Cont) (st fu : Int) (w : World) (hb : base ≤ w.heap.size) (h : DiskG w st fu false d mb base M C) (hfo : fileOf nm M = some f) :
    Calls Try.prog 13 #[.pointer (some ⟨d, 0, none⟩), .string nm] w fun e w' => ∃ z, e = .returned (.int .i64 z) ∧ Stepped fu z (DiskG w' st fu true d mb base M C) (DiskG w' (wrap64 (st + 1)) (dec fu) false d mb base M (setC C f (runD (C f).1 (C f).2, []))) ∧ Kept d mb base w w' := by
  obtain ⟨b, hfm⟩ := fileOf_mem hfo
  refine (Sync_any base d mb f M st fu (C f).1 (C f).2 w h.dm hfo (h.file hfo).2 h.zone).mono ?_
  rintro e w' ⟨z, rfl, hs, hm⟩
  refine ⟨z, rfl, ?_⟩
  rcases hs with ⟨q1, q2, q3, q4⟩ | ⟨q1, q2, q3, q4⟩
  · obtain ⟨r1, r2⟩ := h.moved hfm hb hm q3 q4
    rw [show setC C f ((C f).1, (C f).2) = C from setC_same C f] at r1
    exact ⟨.inl ⟨q1, q2, r1⟩, r2⟩
  · obtain ⟨r1, r2⟩ := h.moved hfm hb hm q3 q4
    rw [allB_run] at r1
    exact ⟨.inr ⟨q1, q2, r1⟩, r2⟩
theorem Cut_G (d mb base f z : Nat) (M : List Ent) (C : Cont) (st fu : Int) (w : World) (hb : base ≤ w.heap.size) (h : DiskG w st fu false d mb base M C) (hfo : fileOf nm M = some f)
    (hz : z ≤ (runD (C f).1 (C f).2).length) (hDl : (C f).2.length ≤ 1000000) (hsm : (C f).1.length + unitsD (C f).2 + 1 ≤ 4294967296) :
    Calls Try.prog 29 #[.pointer (some ⟨d, 0, none⟩), .string nm, .int .i64 (z : Int)] w fun e w' => ∃ y, e = .returned (.int .i64 y) ∧ Stepped fu y (DiskG w' st fu true d mb base M C) (DiskG w' (wrap64 (st + 1)) (dec fu) false d mb base M (setC C f ((C f).1, (C f).2 ++ [.cut z]))) ∧ Kept d mb base w w' := by
  obtain ⟨b, hfm⟩ := fileOf_mem hfo
  have hf := (h.file hfo).2
  refine (Cut_any base d mb f z M st fu (C f).1 (C f).2 w hb h.dm hfo hf (by rw [allB_run]; exact hz) hDl (fits_cut _ _ _ hf.2.1 hz) (by rw [List.map_append, List.sum_append]; simp only [List.map_cons, List.map_nil, List.sum_cons, List.sum_nil, Deed.units, sum_units]; omega)).mono ?_
  rintro e w' ⟨y, rfl, hs, hm⟩
  refine ⟨y, rfl, ?_⟩
  rcases hs with ⟨q1, q2, q3, q4⟩ | ⟨q1, q2, q3, q4⟩
  · obtain ⟨r1, r2⟩ := h.moved hfm hb hm q3 q4
    rw [show setC C f ((C f).1, (C f).2) = C from setC_same C f] at r1
    exact ⟨.inl ⟨q1, q2, r1⟩, r2⟩
  · obtain ⟨r1, r2⟩ := h.moved hfm hb hm q3 q4
    exact ⟨.inr ⟨q1, q2, r1⟩, r2⟩
theorem DiskM.map {w : World} {st fu : Int} {out : Bool} {d mb : Nat} {M : List Ent} (h : DiskM w st fu out d mb M) : ∃ c, w.heap[mb]? = some (.map (ents M) c) := ⟨_, h.2.2.2.choose_spec.2⟩
theorem Read_G (d mb base f : Nat) (M : List Ent) (C : Cont) (st fu : Int) (w : World) (h : DiskG w st fu false d mb base M C) (hfo : fileOf nm M = some f) :
    Calls Try.prog 28 #[.pointer (some ⟨d, 0, none⟩), .string nm] w fun e w' => ∃ v, e = .returned (.tuple #[v, .int .i64 0]) ∧ OwnB w' w.heap.size v (runD (C f).1 (C f).2) ∧ Below w.heap.size w w' := by
  obtain ⟨c, hm⟩ := h.dm.map
  refine (Read_log d mb c f M st fu (C f).1 (C f).2 w h.dm.2.2.1 hm hfo (h.file hfo).2.at).mono ?_
  rintro e w' ⟨v, rfl, h1, h2⟩
  rw [allB_run] at h1
  exact ⟨v, rfl, h1, h2⟩
theorem Loose_G (d mb base f : Nat) (M : List Ent) (C : Cont) (st fu : Int) (out : Bool) (w : World) (h : DiskG w st fu out d mb base M C) (hfo : fileOf nm M = some f) :
    Calls Try.prog 15 #[.pointer (some ⟨d, 0, none⟩), .string nm] w fun e w' => e = .returned (.int .i64 (unitsD (C f).2 : Nat)) ∧ w = w' :=
  Loose_any d mb f M st fu out (C f).1 (C f).2 w h.dm hfo (h.file hfo).2.at
theorem Fuse_G (d mb base : Nat) (M : List Ent) (C : Cont) (z st fu : Int) (out : Bool) (w : World) (hb : base ≤ w.heap.size) (hz1 : z ≤ 9223372036854775807) (h : DiskG w st fu out d mb base M C) :
    Calls Try.prog 24 #[.pointer (some ⟨d, 0, none⟩), .int .i64 z] w fun e w' => ((z < 0 ∧ e = .returned (.int .i64 2) ∧ DiskG w' st fu out d mb base M C) ∨ (0 ≤ z ∧ e = .returned (.int .i64 0) ∧ DiskG w' st z out d mb base M C)) ∧ Kept d mb base w w' := by
  refine (Fuse_any d mb M z st fu out w hz1 h.dm).mono ?_
  rintro e w' (⟨h1, rfl, rfl⟩ | ⟨h1, rfl, h2, rfl⟩)
  · exact ⟨.inl ⟨h1, rfl, h⟩, .refl _ _ _ _⟩
  · obtain ⟨r1, r2⟩ := h.same (w' := w.setCell ⟨d, 2, none⟩ (.int .i64 z)) hb ⟨rfl, rfl, rfl⟩ (by simp) (fun j _ hj => Below.heap_setCell _ _ _ _ hj) h2.2.2.1 h2.1
    exact ⟨.inr ⟨h1, rfl, r1⟩, r2⟩
/-- bytes that stand in the text. -/
theorem IsBytes.lit (w : World) (l : List UInt8) (t : TypeId) (hl : l.length ≤ 1000000) : IsBytes (w.alloc (.cells (u8s l).toArray t)) (some ⟨w.heap.size, 0, none⟩) l.length l.length l := by
  refine ⟨rfl, Nat.le_refl _, by unfold maxLen; omega, fun _ => ⟨w.heap.size, 0, rfl, fun i hi => ?_⟩, fun e => by cases e⟩
  simp only [World.cell?, heap_alloc_new]
  rw [List.getElem?_toArray]
  simp only [u8s, Nat.zero_add, List.getElem?_map, List.getElem?_eq_getElem hi]
  simp [u8, List.getD_eq_getElem?_getD, List.getElem?_eq_getElem hi]
end Go.Proofs.Ytmpjjkfbojhfoaa

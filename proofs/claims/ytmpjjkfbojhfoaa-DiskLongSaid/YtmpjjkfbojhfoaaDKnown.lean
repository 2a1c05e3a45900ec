/- layer 27's statements: DiskKnown -/
import Derived.Test.YtmpjjkfbojhfoaaDMore
namespace Go.Proofs.Ytmpjjkfbojhfoaa
open Go.RowKit Go.Sort
theorem texts_of_row {w : World} {base n : Nat} {v : Value} {ns : List (List UInt8)} (h : w.ownsRow base 9 1 v n (ns.map encStr)) : ∃ a cap, v = .slice a n cap ∧ IsTexts w a n cap (ns.map fun s => ⟨s.toArray⟩) := by
  have hl : ns.length = n := by have := h.1; simpa using this
  rcases h.2 with ⟨rfl, h0⟩ | ⟨g, cap, cur, rfl, hb, hg, hn, hm, hs, ht⟩
  · refine ⟨none, 0, by rw [h0], by simpa using hl, by omega, by unfold maxLen; omega, fun hp => absurd hp (by omega)⟩
  · refine ⟨_, cap, rfl, by simpa using hl, hn, hm, fun _ => ⟨g, 0, rfl, fun i hi => ?_⟩⟩
    have hs1 : ns[i]? = some ns[i] := List.getElem?_eq_getElem (by omega)
    have hc := h.cells (g := g) rfl i (encStr ns[i]) (by rw [List.getElem?_map, hs1]; rfl)
    have he : (⟨g, 0, none⟩ : Addr).add i = ⟨g, 0 + i, none⟩ := by unfold Addr.add; split <;> simp_all
    rw [he] at hc
    rw [hc, List.getD_eq_getElem?_getD, List.getElem?_map, hs1]
    rfl
/-- one string that stands in the text. -/
theorem IsTexts.lit (w : World) (x : ByteArray) (t : TypeId) : IsTexts (w.alloc (.cells #[.string x] t)) (some ⟨w.heap.size, 0, none⟩) 1 1 [x] := by
  refine ⟨rfl, Nat.le_refl _, by unfold maxLen; omega, fun _ => ⟨w.heap.size, 0, rfl, fun i hi => ?_⟩⟩
  obtain rfl : i = 0 := by omega
  simp only [World.cell?, heap_alloc_new]
  rfl
theorem Names_one (d mb base f : Nat) (nm : ByteArray) (st fu : Int) (out : Bool) (S : List UInt8) (D : List Deed) (w : World) (h : One w st fu out d mb base nm f S D) :
    Calls Try.prog 17 #[.pointer (some ⟨d, 0, none⟩)] w fun e w' => ∃ a cap, e = .returned (.slice a 1 cap) ∧ IsTexts w' a 1 cap [nm] ∧ Below w.heap.size w w' := by
  obtain ⟨c, C, hg, hC⟩ := h
  refine (Names_any d mb _ st fu out w hg.dm).mono ?_
  rintro e w' ⟨v, rfl, hrow, _, hb⟩
  obtain ⟨a, cap, hv, ht⟩ := texts_of_row hrow
  subst hv
  rw [sortN_one, List.map_cons, List.map_nil, show (⟨nm.data.toList.toArray⟩ : ByteArray) = nm by simp] at ht
  exact ⟨a, cap, rfl, ht, hb⟩
theorem Rename_one (d mb base f : Nat) (nm to : ByteArray) (st fu : Int) (S : List UInt8) (D : List Deed) (w : World) (hb : base ≤ w.heap.size) (hnt : nameP to.data.toList = true) (h : One w st fu false d mb base nm f S D) :
    Calls Try.prog 27 #[.pointer (some ⟨d, 0, none⟩), .string nm, .string to] w fun e w' => ∃ z, e = .returned (.int .i64 z) ∧ ((D ≠ [] ∧ z = 9 ∧ One w' st fu false d mb base nm f S D) ∨ (D = [] ∧ Stepped fu z (One w' st fu true d mb base nm f S D) (One w' (wrap64 (st + 1)) (dec fu) false d mb base to f S D))) ∧ Kept d mb base w w' := by
  obtain ⟨c, C, hg, hC⟩ := h
  refine (Rename_any nm to d mb base f _ C st fu w hb hnt hg (fileOf_head nm f c [])).mono ?_
  rintro e w' ⟨z, rfl, hs, hk⟩
  refine ⟨z, rfl, ?_, hk⟩
  rw [hC] at hs
  rcases hs with ⟨q1, q2, q3⟩ | ⟨q1, ⟨q2, q3, q4⟩ | ⟨q2, q3, c', q4⟩⟩
  · exact .inl ⟨q1, q2, c, C, q3, hC⟩
  · exact .inr ⟨q1, .inl ⟨q2, q3, c, C, q4, hC⟩⟩
  · have e1 : delE nm [(nm, f, c)] = [] := by
      rw [delE_filter (by simp)]
      simp
    rw [e1] at q4
    exact .inr ⟨q1, .inr ⟨q2, q3, c', C, q4, hC⟩⟩
/-- another disk, without a file, stays. -/
theorem DiskG.beside {w w' : World} {st fu : Int} {out : Bool} {d mb base fd fmb fb : Nat} {C : Cont} (h : DiskG w st fu out fd fmb fb [] C) (k : Kept d mb base w w') (h1 : fd ≠ d) (h2 : fd ≠ mb) (h3 : fmb ≠ d) (h4 : fmb ≠ mb) : DiskG w' st fu out fd fmb fb [] C := by
  obtain ⟨⟨q1, q2, q3, c, q4, q5⟩, low, _, _, _, hz⟩ := h
  refine ⟨⟨q1, q2, (k.keep fd q3.lt h1 h2 ?_ ?_).trans q3, c, q4, (k.keep fmb (heap_lt q5) h3 h4 ?_ ?_).trans q5⟩, low, by simp, by simp, by simp, hz.mono k.below.size⟩
  · intro c t e; unfold DiskRow at q3; rw [q3] at e; simp at e
  · intro c t e; unfold DiskRow at q3; rw [q3] at e; simp at e
  · intro c t e; rw [q5] at e; cases e
  · intro c t e; rw [q5] at e; cases e
/-- the name "b". -/
def nB : ByteArray := { data := #[98] }
theorem nB_fit : nameP nB.data.toList = true := by decide
def nX : ByteArray := { data := #[120] }
theorem nX_no (f c : Nat) : fileOf nX [(nA, f, c)] = none := by
  rw [fileOf_next _ _ _ (by decide)]
  rfl
set_option maxRecDepth 100000 in
set_option maxHeartbeats 4000000 in
theorem DiskKnown_any (w : World) : Calls Try.prog 7 #[] w fun e w' => e = .returned (.bool true) ∧ Below w.heap.size w w' := by
  go_enter Try.func7, Try.ntmps7
  go_wp2_with fail
  refine (New_G w (fun _ => ([], [])) (ZW0 w)).mono ?_
  rintro e w0 ⟨d, mb, rfl, hmb, hmd, hg, hb⟩
  have HG0 := Lib.hid hg
  have HB0 := Lib.hid hb
  have HN0 := Lib.hid (And.intro hmb hmd)
  clear hg hb hmb hmd
  go_wp2_with fail
  refine (New_G w0 (fun _ => ([], [])) (ZW0 w0)).mono ?_
  rintro e w1 ⟨fd, fmb, rfl, hmb, hmd, hg, hb⟩
  have hdl := HG0.out.dm.2.2.1.lt
  have hml := heap_lt HG0.out.dm.map.choose_spec
  have HG := Lib.hid (HG0.out.later hb)
  have HF := Lib.hid hg
  have HB := Lib.hid (HB0.out.trans (hb.mono HB0.out.size))
  have HS0 := Lib.hid hb.size
  have HNE : Hid (fd ≠ d ∧ fd ≠ mb ∧ fmb ≠ d ∧ fmb ≠ mb) := Lib.hid (by have := HN0.out; omega)
  clear hg hb hdl hml
  obtain ⟨base, hbase⟩ : ∃ b, b = w.heap.size := ⟨_, rfl⟩
  rw [← hbase] at HG HB
  have HBASE := Lib.hid hbase
  obtain ⟨fb, hfb⟩ : ∃ b, b = w0.heap.size := ⟨_, rfl⟩
  rw [← hfb] at HF
  have HFB := Lib.hid hfb
  clear hbase hfb HG0 hmb hmd
  have HS1 : Hid (base ≤ w1.heap.size) := Lib.hid (by have := HB.out.size; rw [HBASE.out]; exact this)
  have HFB0 : Hid (base ≤ fb) := Lib.hid (by rw [HBASE.out, HFB.out]; exact HB0.out.size)
  have HFB1 : Hid (fb ≤ w1.heap.size) := Lib.hid (by rw [HFB.out]; exact HS0.out)
  have H1 := Lib.hid (And.intro HG.out (Kept.refl d mb base w1))
  go_wp2_with fail
  have h' := H1.out.1.later (w' := w1.alloc (.cells (u8s [1, 2, 3]).toArray 5)) ((Below.refl _ _).alloc (Nat.le_refl _) _)
  have hk' : Kept d mb base w1 (w1.alloc (.cells (u8s [1, 2, 3]).toArray 5)) := .of_below ((Below.refl _ _).alloc (Nat.le_refl _) _) HS1.out
  refine (Append_one_new (nm := nA) d mb base _ _ _ _ 3 3 [1, 2, 3] _ (Nat.le_trans HS1.out (by simp)) nA_fit h' (IsBytes.lit w1 [1, 2, 3] _ (by decide)) (by decide)).mono ?_
  rintro e w2 ⟨z, rfl, hs, hk⟩
  obtain ⟨rfl, f, hf, ho⟩ := hs.done (by omega)
  rw [dec_none] at ho
  have Hd2 := Lib.hid (And.intro ho ((H1.out.2.trans hk').trans hk))
  have HSd2 := Lib.hid (Nat.le_trans HS1.out (hk'.trans hk).below.size)
  clear ho hk h' hk' hs hf
  go_wp2_with fail
  refine (Cut_one (nm := nA) d mb base f 1 _ _ _ _ w2 HSd2.out Hd2.out.1 (by decide) (by decide) (by decide)).mono ?_
  rintro e w3 ⟨z, rfl, hs, hk⟩
  obtain ⟨rfl, ho⟩ := hs.done (by omega)
  rw [dec_none] at ho
  have Hd3 := Lib.hid (And.intro ho (Hd2.out.2.trans hk))
  have HSd3 := Lib.hid (Nat.le_trans HSd2.out hk.below.size)
  clear ho hk hs
  go_wp2_with fail
  have h' := Hd3.out.1.later (w' := w3.alloc (.cells (u8s [9]).toArray 5)) ((Below.refl _ _).alloc (Nat.le_refl _) _)
  have hk' : Kept d mb base w3 (w3.alloc (.cells (u8s [9]).toArray 5)) := .of_below ((Below.refl _ _).alloc (Nat.le_refl _) _) HSd3.out
  refine (Append_one (nm := nA) d mb base f _ _ _ _ _ 1 1 [9] _ (Nat.le_trans HSd3.out (by simp)) nA_fit h' (IsBytes.lit w3 [9] _ (by decide)) (by decide) (by decide) (by decide)).mono ?_
  rintro e w4 ⟨z, rfl, hs, hk⟩
  obtain ⟨rfl, ho⟩ := hs.done (by omega)
  rw [dec_none] at ho
  have Hd4 := Lib.hid (And.intro ho ((Hd3.out.2.trans hk').trans hk))
  have HSd4 := Lib.hid (Nat.le_trans HSd3.out (hk'.trans hk).below.size)
  clear ho hk h' hk' hs
  go_wp2_with fail
  refine (Loose_one (nm := nA) d mb base f _ _ _ _ _ w4 Hd4.out.1).mono ?_
  rintro e w' ⟨he, rfl⟩
  obtain rfl : e = .returned (.int .i64 5) := he.trans (by rfl)
  clear he
  go_wp2_with fail
  have h' := Hd4.out.1.later (w' := w4.alloc (.cells #[.int .i64 4] 3)) ((Below.refl _ _).alloc (Nat.le_refl _) _)
  have hk' : Kept d mb base w4 (w4.alloc (.cells #[.int .i64 4] 3)) := .of_below ((Below.refl _ _).alloc (Nat.le_refl _) _) HSd4.out
  refine (Crash_one (nm := nA) d mb base f _ _ _ _ _ _ 1 1 [4] _ (Nat.le_trans HSd4.out (by simp)) h' (IsKeeps.lit w4 4 (by omega) (by omega) _ (by decide))).mono ?_
  rintro e w5 ⟨rfl, ho, hk⟩
  have Hd5 := Lib.hid (And.intro ho ((Hd4.out.2.trans hk').trans hk))
  have HSd5 := Lib.hid (Nat.le_trans HSd4.out (hk'.trans hk).below.size)
  clear ho hk h' hk'
  go_wp2_with fail
  have h' := Hd5.out.1.later (w' := w5.alloc (.cells (u8s [1]).toArray 5)) ((Below.refl _ _).alloc (Nat.le_refl _) _)
  have hk' : Kept d mb base w5 (w5.alloc (.cells (u8s [1]).toArray 5)) := .of_below ((Below.refl _ _).alloc (Nat.le_refl _) _) HSd5.out
  refine (reads_one (nm := nA) d mb base f _ _ _ _ _ 1 1 [1] _ h' (IsBytes.lit w5 [1] _ (by decide))).mono ?_
  rintro e w6 ⟨he, hb⟩
  obtain rfl : e = .returned (.bool true) := he.trans (by rfl)
  clear h' hk' he
  have hb : Below w5.heap.size w5 w6 := ((Below.refl _ _).alloc (Nat.le_refl _) _).trans (hb.mono (by simp))
  have ho := Hd5.out.1.later hb
  have hk : Kept d mb base w5 w6 := .of_below hb HSd5.out
  have Hd6 := Lib.hid (And.intro ho (Hd5.out.2.trans hk))
  have HSd6 := Lib.hid (Nat.le_trans HSd5.out hk.below.size)
  clear ho hk hb
  go_wp2_with fail
  have h' := Hd6.out.1.later (w' := w6.alloc (.cells (u8s [1]).toArray 5)) ((Below.refl _ _).alloc (Nat.le_refl _) _)
  have hk' : Kept d mb base w6 (w6.alloc (.cells (u8s [1]).toArray 5)) := .of_below ((Below.refl _ _).alloc (Nat.le_refl _) _) HSd6.out
  refine (Append_one (nm := nA) d mb base f _ _ _ _ _ 1 1 [1] _ (Nat.le_trans HSd6.out (by simp)) nA_fit h' (IsBytes.lit w6 [1] _ (by decide)) (by decide) (by decide) (by decide)).mono ?_
  rintro e w7 ⟨z, rfl, hs, hk⟩
  obtain ⟨rfl, ho⟩ := hs.done (by omega)
  rw [dec_none] at ho
  have Hd7 := Lib.hid (And.intro ho ((Hd6.out.2.trans hk').trans hk))
  have HSd7 := Lib.hid (Nat.le_trans HSd6.out (hk'.trans hk).below.size)
  clear ho hk h' hk' hs
  go_wp2_with fail
  refine (Rename_one d mb base f nA nB _ _ _ _ w7 HSd7.out nB_fit Hd7.out.1).mono ?_
  rintro e w8 ⟨z, rfl, hs, hk⟩
  obtain ⟨rfl, ho⟩ : z = 9 ∧ _ := by
    rcases hs with ⟨_, q1, q2⟩ | ⟨q1, _⟩
    · exact ⟨q1, q2⟩
    · exact absurd q1 (by decide)
  have Hd8 := Lib.hid (And.intro ho (Hd7.out.2.trans hk))
  have HSd8 := Lib.hid (Nat.le_trans HSd7.out hk.below.size)
  clear ho hk hs
  go_wp2_with fail
  refine (Sync_one (nm := nA) d mb base f _ _ _ _ w8 HSd8.out Hd8.out.1).mono ?_
  rintro e w9 ⟨z, rfl, hs, hk⟩
  obtain ⟨rfl, ho⟩ := hs.done (by omega)
  rw [dec_none] at ho
  have Hd9 := Lib.hid (And.intro ho (Hd8.out.2.trans hk))
  have HSd9 := Lib.hid (Nat.le_trans HSd8.out hk.below.size)
  clear ho hk hs
  go_wp2_with fail
  refine (Rename_one d mb base f nA nB _ _ _ _ w9 HSd9.out nB_fit Hd9.out.1).mono ?_
  rintro e w10 ⟨z, rfl, hs, hk⟩
  obtain ⟨rfl, ho⟩ : z = 0 ∧ _ := by
    rcases hs with ⟨q1, _⟩ | ⟨_, q2⟩
    · exact absurd rfl q1
    · exact q2.done (by omega)
  rw [dec_none] at ho
  have Hd10 := Lib.hid (And.intro ho (Hd9.out.2.trans hk))
  have HSd10 := Lib.hid (Nat.le_trans HSd9.out hk.below.size)
  clear ho hk hs
  go_wp2_with fail
  refine (Names_one d mb base f nB _ _ _ _ _ w10 Hd10.out.1).mono ?_
  rintro e w11 ⟨na, ncap, rfl, ht, hb⟩
  have HT := Lib.hid ht
  clear ht
  have ho := Hd10.out.1.later hb
  have hk : Kept d mb base w10 w11 := .of_below hb HSd10.out
  have Hd11 := Lib.hid (And.intro ho (Hd10.out.2.trans hk))
  have HSd11 := Lib.hid (Nat.le_trans HSd10.out hk.below.size)
  clear ho hk hb
  go_wp2_with fail
  refine (SameTexts_any _ _ 1 1 _ _ [nB] [nB] _ (HT.out.later ((Below.refl _ _).alloc (Nat.le_refl _) _)) (IsTexts.lit w11 nB _)).mono ?_
  rintro e w12 ⟨r, rfl, hr, hb⟩
  obtain rfl : r = true := hr.2 rfl
  clear hr
  have hb : Below w11.heap.size w11 w12 := ((Below.refl _ _).alloc (Nat.le_refl _) _).trans (hb.mono (by simp))
  have ho := Hd11.out.1.later hb
  have hk : Kept d mb base w11 w12 := .of_below hb HSd11.out
  have Hd12 := Lib.hid (And.intro ho (Hd11.out.2.trans hk))
  have HSd12 := Lib.hid (Nat.le_trans HSd11.out hk.below.size)
  clear ho hk hb
  go_wp2_with fail
  obtain ⟨c, C, hg, hC⟩ := Hd12.out.1
  refine (Steps_any _ _ _ _ _ _ w12 hg.dm).mono ?_
  clear hg hC
  rintro e w' ⟨he, rfl⟩
  obtain rfl : e = .returned (.int .i64 6) := he.trans (by simp [wrap64])
  clear c C he
  go_wp2_with fail
  have HF1 : Hid (DiskG w12 0 (-1) false fd fmb fb [] (fun _ => ([], [])) ∧ Below base w w12) := Lib.hid ⟨HF.out.beside Hd12.out.2 HNE.out.1 HNE.out.2.1 HNE.out.2.2.1 HNE.out.2.2.2, HB.out.trans Hd12.out.2.below⟩
  have HFS : Hid (fb ≤ w12.heap.size) := Lib.hid (Nat.le_trans HFB1.out Hd12.out.2.below.size)
  refine (Fuse_G fd fmb fb [] _ 1 _ _ _ w12 HFS.out (by omega) HF1.out.1).mono ?_
  rintro e w13 ⟨hs, hk⟩
  obtain ⟨rfl, ho⟩ : e = .returned (.int .i64 0) ∧ DiskG w13 0 1 false fd fmb fb [] (fun _ => ([], [])) := by
    rcases hs with ⟨q1, _⟩ | ⟨_, q1, q2⟩
    · exact absurd q1 (by omega)
    · exact ⟨q1, q2⟩
  have HF2 := Lib.hid (And.intro ho (Kept.refl fd fmb fb w13))
  have HFS2 := Lib.hid (Nat.le_trans HFS.out hk.below.size)
  have HFB2 := Lib.hid (HF1.out.2.trans (hk.below.mono HFB0.out))
  clear ho hk hs
  go_wp2_with fail
  have h' := HF2.out.1.later (w' := w13.alloc (.cells (u8s [1]).toArray 5)) ((Below.refl _ _).alloc (Nat.le_refl _) _)
  have hk' : Kept fd fmb fb w13 (w13.alloc (.cells (u8s [1]).toArray 5)) := .of_below ((Below.refl _ _).alloc (Nat.le_refl _) _) HFS2.out
  refine (Append_one_new (nm := nA) fd fmb fb _ _ _ _ 1 1 [1] _ (Nat.le_trans HFS2.out (by simp)) nA_fit h' (IsBytes.lit w13 [1] _ (by decide)) (by decide)).mono ?_
  rintro e w14 ⟨z, rfl, hs, hk⟩
  obtain ⟨rfl, ff, hf, ho⟩ := hs.done (by omega)
  rw [show dec 1 = 0 by decide] at ho
  have Hfd14 := Lib.hid (And.intro ho ((HF2.out.2.trans hk').trans hk))
  have HSfd14 := Lib.hid (Nat.le_trans HFS2.out (hk'.trans hk).below.size)
  clear ho hk h' hk' hs hf
  go_wp2_with fail
  have h' := Hfd14.out.1.later (w' := w14.alloc (.cells (u8s [2]).toArray 5)) ((Below.refl _ _).alloc (Nat.le_refl _) _)
  have hk' : Kept fd fmb fb w14 (w14.alloc (.cells (u8s [2]).toArray 5)) := .of_below ((Below.refl _ _).alloc (Nat.le_refl _) _) HSfd14.out
  refine (Append_one (nm := nA) fd fmb fb ff _ _ _ _ _ 1 1 [2] _ (Nat.le_trans HSfd14.out (by simp)) nA_fit h' (IsBytes.lit w14 [2] _ (by decide)) (by decide) (by decide) (by decide)).mono ?_
  rintro e w15 ⟨z, rfl, hs, hk⟩
  obtain ⟨rfl, ho⟩ := hs.out
  have Hfd15 := Lib.hid (And.intro ho ((Hfd14.out.2.trans hk').trans hk))
  have HSfd15 := Lib.hid (Nat.le_trans HSfd14.out (hk'.trans hk).below.size)
  clear ho hk h' hk' hs
  go_wp2_with fail
  obtain ⟨c, C, hg, hC⟩ := Hfd15.out.1
  refine (Up_any _ _ _ _ _ w15 hg.dm.2.2.1).mono ?_
  clear hg hC
  rintro e w' ⟨rfl, rfl⟩
  clear c C
  go_wp2_with fail
  refine (Crash_one (nm := nA) fd fmb fb ff _ _ _ _ _ _ 0 0 [] _ HSfd15.out Hfd15.out.1 (IsKeeps.nil _)).mono ?_
  rintro e w16 ⟨rfl, ho, hk⟩
  have Hfd16 := Lib.hid (And.intro ho (Hfd15.out.2.trans hk))
  have HSfd16 := Lib.hid (Nat.le_trans HSfd15.out hk.below.size)
  clear ho hk
  go_wp2_with fail
  obtain ⟨c, C, hg, hC⟩ := Hfd16.out.1
  refine (Up_any _ _ _ _ _ w16 hg.dm.2.2.1).mono ?_
  clear hg hC
  rintro e w' ⟨rfl, rfl⟩
  clear c C
  go_wp2_with fail
  refine (reads_one (nm := nA) fd fmb fb ff _ _ _ _ _ 0 0 [] _ Hfd16.out.1 (IsBytes.nil _)).mono ?_
  rintro e w17 ⟨he, hb⟩
  obtain rfl : e = .returned (.bool true) := he.trans (by rfl)
  clear he
  have ho := Hfd16.out.1.later hb
  have hk : Kept fd fmb fb w16 w17 := .of_below hb HSfd16.out
  have Hfd17 := Lib.hid (And.intro ho (Hfd16.out.2.trans hk))
  have HSfd17 := Lib.hid (Nat.le_trans HSfd16.out hk.below.size)
  clear ho hk hb
  go_wp2_with fail
  obtain ⟨c, C, hg, hC⟩ := Hfd17.out.1
  obtain ⟨cc, hm⟩ := hg.dm.map
  refine (Read_none (nm := nX) fd fmb cc _ _ _ w17 hg.dm.2.2.1 hm (nX_no _ _)).mono ?_
  clear hg hC hm
  rintro e w' ⟨rfl, rfl⟩
  clear c C cc
  go_wp2_with fail
  refine (awake_any w17).mono ?_
  rintro e w18 ⟨rfl, hb⟩
  have ho := Hfd17.out.1.later hb
  have hk : Kept fd fmb fb w17 w18 := .of_below hb HSfd17.out
  have Hfd18 := Lib.hid (And.intro ho (Hfd17.out.2.trans hk))
  have HSfd18 := Lib.hid (Nat.le_trans HSfd17.out hk.below.size)
  clear ho hk hb
  go_wp2_with fail
  obtain ⟨c, C, hg, hC⟩ := Hfd18.out.1
  refine (Append_bad (nm := { data := #[97, 32, 98] }) fd fmb _ _ _ none 0 0 w18 (by decide) (by decide) hg.dm).mono ?_
  rintro e w19 ⟨rfl, hb⟩
  clear hg hC c C
  have ho := Hfd18.out.1.later hb
  have hk : Kept fd fmb fb w18 w19 := .of_below hb HSfd18.out
  have Hfd19 := Lib.hid (And.intro ho (Hfd18.out.2.trans hk))
  have HSfd19 := Lib.hid (Nat.le_trans HSfd18.out hk.below.size)
  clear ho hk hb
  go_wp2_with fail
  obtain ⟨c, C, hg, hC⟩ := Hfd19.out.1
  refine (Cut_none (nm := nX) fd fmb _ 9 _ _ w19 hg.dm (nX_no _ _)).mono ?_
  rintro e w20 ⟨rfl, hb⟩
  clear hg hC c C
  have ho := Hfd19.out.1.later hb
  have hk : Kept fd fmb fb w19 w20 := .of_below hb HSfd19.out
  have Hfd20 := Lib.hid (And.intro ho (Hfd19.out.2.trans hk))
  have HSfd20 := Lib.hid (Nat.le_trans HSfd19.out hk.below.size)
  clear ho hk hb
  go_wp2_with fail
  obtain ⟨c, C, hg, hC⟩ := Hfd20.out.1
  refine (Fuse_G fd fmb fb _ _ (-1) _ _ _ w20 HSfd20.out (by omega) hg).mono ?_
  rintro e w21 ⟨hs, hk⟩
  obtain rfl : e = .returned (.int .i64 2) := by
    rcases hs with ⟨_, q1, _⟩ | ⟨q1, _⟩
    · exact q1
    · exact absurd q1 (by omega)
  have HKL := Lib.hid (Hfd20.out.2.trans hk)
  clear hg hC hs hk c C
  go_wp2_with fail
  go_ret
  exact ⟨rfl, HBASE.out ▸ (HFB2.out.trans (HKL.out.below.mono HFB0.out))⟩
end Go.Proofs.Ytmpjjkfbojhfoaa

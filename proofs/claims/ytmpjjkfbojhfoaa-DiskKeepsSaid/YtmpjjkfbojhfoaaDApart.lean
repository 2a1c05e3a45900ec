/- layer 27's statements: DiskApart -/
import Derived.Test.YtmpjjkfbojhfoaaDNames
import Derived.Test.YtmpjjkfbojhfoaaDIns
import Derived.Deep.DeepCutAuto
import Derived.Deep.CutBlock
namespace Go.Proofs.Ytmpjjkfbojhfoaa
open Go.RowKit Go.Sort
def nZ : ByteArray := { data := #[122] }
theorem nZ_fit : nameP nZ.data.toList = true := by decide
theorem z_a : nZ ≠ nA := by decide
/-- how many bytes the first pieces have. -/
def sumL (X : List PieceV) (k : Nat) : Nat := ((X.take k).map (·.1.length)).sum
theorem sumL_succ {X : List PieceV} {k : Nat} (h : k < X.length) : sumL X (k + 1) = sumL X k + (X.getD k ([], false)).1.length := by
  unfold sumL
  rw [List.take_succ_eq_append_getElem h, List.map_append, List.sum_append, List.getD_eq_getElem?_getD, List.getElem?_eq_getElem h]
  simp
theorem sumL_mono (X : List PieceV) {k j : Nat} (h : k ≤ j) : sumL X k ≤ sumL X j := by
  unfold sumL
  have : X.take k = (X.take j).take k := by rw [List.take_take, Nat.min_eq_left h]
  rw [this]
  conv => rhs; rw [← List.take_append_drop k (X.take j), List.map_append, List.sum_append]
  omega
theorem runD_le : ∀ (D : List Deed) (S : List UInt8), (runD S D).length ≤ S.length + unitsD D := by
  intro D S
  have := afterZ_length D S (unitsD D : Nat)
  rw [← allB_run]
  exact this
/-- two whole numbers that stand in the text. -/
theorem IsKeeps.lit2 (w : World) (j k : Int) (hj0 : -9223372036854775808 ≤ j) (hj1 : j ≤ 9223372036854775807) (hk0 : -9223372036854775808 ≤ k) (hk1 : k ≤ 9223372036854775807) (t : TypeId) (ht : t ≠ 68 ∧ t ≠ 76 ∧ t ≠ 101) : IsKeeps (w.alloc (.cells #[.int .i64 j, .int .i64 k] t)) (some ⟨w.heap.size, 0, none⟩) 2 2 [j, k] := by
  refine ⟨rfl, Nat.le_refl _, by unfold maxLen; omega, (fun e => by cases e), fun i hi => ?_⟩
  have : i = 0 ∨ i = 1 := by omega
  rcases this with rfl | rfl
  · exact ⟨_, _, _, _, _, j, rfl, heap_alloc_new _ _, ht, rfl, rfl, hj0, hj1⟩
  · exact ⟨_, _, _, _, _, k, rfl, heap_alloc_new _ _, ht, rfl, rfl, hk0, hk1⟩
theorem Names_two (d mb base f1 f2 : Nat) (n1 n2 : ByteArray) (st fu : Int) (out : Bool) (S1 S2 : List UInt8) (D1 D2 : List Deed) (w : World) (h : Two w st fu out d mb base n1 f1 S1 D1 n2 f2 S2 D2) :
    Calls Try.prog 17 #[.pointer (some ⟨d, 0, none⟩)] w fun e w' => ∃ a cap, e = .returned (.slice a 2 cap) ∧ Below w.heap.size w w' := by
  obtain ⟨c1, c2, C, hg, _⟩ := h
  refine (Names_any d mb _ st fu out w hg.dm).mono ?_
  rintro e w' ⟨v, rfl, hrow, _, hb⟩
  obtain ⟨a, cap, hv, _⟩ := texts_of_row hrow
  exact ⟨a, cap, by rw [hv]; rfl, hb⟩
set_option maxRecDepth 100000 in
theorem Sync_none (nm : ByteArray) (d mb : Nat) (M : List Ent) (st fu : Int) (w : World) (h : DiskM w st fu false d mb M) (hfo : fileOf nm M = none) :
    Calls Try.prog 13 #[.pointer (some ⟨d, 0, none⟩), .string nm] w fun e w' => e = .returned (.int .i64 6) ∧ Below w.heap.size w w' := by
  obtain ⟨c, hm⟩ := h.map
  have HO := Lib.hid (open_none d mb c M st fu w h.2.2.1 hm hfo)
  clear h hm hfo
  go_enter Try.func13, Try.ntmps13
  go_wp2_with fail
  refine HO.out.mono ?_
  rintro e w' ⟨rfl, rfl⟩
  go_wp2_with fail
  go_ret
  exact ⟨rfl, by first | exact Below.refl _ _ | exact (Below.refl _ _).alloc (Nat.le_refl _) _⟩
/-- the disk with the file "z", synced, and perhaps the file "a". -/
def StA (w : World) (d mb base f : Nat) (L : List UInt8) (k m : Nat) : Prop :=
  ∃ st, One w st (-1) false d mb base nZ f L [] ∨ ∃ fa S D, Two w st (-1) false d mb base nZ f L [] nA fa S D ∧ D.length ≤ k ∧ S.length + unitsD D ≤ m
theorem StA.later {w w' : World} {d mb base f k m : Nat} {L : List UInt8} (h : StA w d mb base f L k m) (hb : Below w.heap.size w w') : StA w' d mb base f L k m := by
  obtain ⟨st, h | ⟨fa, S, D, h, h2⟩⟩ := h
  · exact ⟨st, .inl (h.later hb)⟩
  · exact ⟨st, .inr ⟨fa, S, D, h.later hb, h2⟩⟩
theorem StA_append (d mb base f k m : Nat) (L : List UInt8) (ao : Option Addr) (n cap : Nat) (B : List UInt8) (w : World) (hb : base ≤ w.heap.size) (h : StA w d mb base f L k m) (hB : IsBytes w ao n cap B) (hk : k ≤ 1000) (hm : m + n ≤ 100000) :
    Calls Try.prog 12 #[.pointer (some ⟨d, 0, none⟩), .string nA, .slice ao n cap] w fun e w' => ∃ z, e = .returned (.int .i64 z) ∧ StA w' d mb base f L (k + 1) (m + n) ∧ Kept d mb base w w' := by
  obtain ⟨st, h | ⟨fa, S, D, h, h2, h3⟩⟩ := h
  · refine (Append_two_new d mb base f st (-1) L [] ao n cap B w hb z_a nA_fit h hB (by omega)).mono ?_
    rintro e w' ⟨z, rfl, hs, hk⟩
    obtain ⟨rfl, f2, ho⟩ := hs.done (by omega)
    rw [dec_none] at ho
    refine ⟨0, rfl, ⟨_, .inr ⟨f2, _, _, ho, ?_, ?_⟩⟩, hk⟩
    · have := laid_length [] n B
      simp only [List.length_nil] at this
      omega
    · rw [units_one _ _ hB.1]
      simp
  · refine (Append_two d mb base f fa st (-1) L S [] D ao n cap B w hb nA_fit h hB (by have := runD_le D S; omega) (by omega) (by omega)).mono ?_
    rintro e w' ⟨z, rfl, hs, hk⟩
    obtain ⟨rfl, ho⟩ := hs.done (by omega)
    rw [dec_none] at ho
    refine ⟨0, rfl, ⟨_, .inr ⟨fa, _, _, ho, ?_, ?_⟩⟩, hk⟩
    · have := laid_length D n B
      omega
    · rw [unitsD_laid _ _ _ hB.1]
      omega
theorem StA_sync (d mb base f k m : Nat) (L : List UInt8) (w : World) (hb : base ≤ w.heap.size) (h : StA w d mb base f L k m) :
    Calls Try.prog 13 #[.pointer (some ⟨d, 0, none⟩), .string nA] w fun e w' => ∃ z, e = .returned (.int .i64 z) ∧ StA w' d mb base f L k m ∧ Kept d mb base w w' := by
  obtain ⟨st, h | ⟨fa, S, D, h, h2, h3⟩⟩ := h
  · obtain ⟨c, C, hg, hC⟩ := h
    refine (Sync_none nA d mb _ st (-1) w hg.dm (by rw [fileOf_next _ _ _ (Ne.symm z_a)]; rfl)).mono ?_
    rintro e w' ⟨rfl, hbl⟩
    exact ⟨6, rfl, ⟨st, .inl ⟨c, C, hg.later hbl, hC⟩⟩, .of_below hbl hb⟩
  · refine (Sync_two2 d mb base f fa st (-1) L S [] D w hb h).mono ?_
    rintro e w' ⟨z, rfl, hs, hk⟩
    obtain ⟨rfl, ho⟩ := hs.done (by omega)
    rw [dec_none] at ho
    refine ⟨0, rfl, ⟨_, .inr ⟨fa, _, _, ho, by simp, ?_⟩⟩, hk⟩
    have := runD_le D S
    simp only [unitsD, List.map_nil, List.sum_nil, Nat.add_zero]
    omega
theorem StA_reads (d mb base f k m : Nat) (L : List UInt8) (ao : Option Addr) (n cap : Nat) (w : World) (h : StA w d mb base f L k m) (hl : IsBytes w ao n cap L) :
    Calls Try.prog 14 #[.pointer (some ⟨d, 0, none⟩), .string nZ, .slice ao n cap] w fun e w' => e = .returned (.bool true) ∧ Below w.heap.size w w' := by
  obtain ⟨st, h | ⟨fa, S, D, h, h2, h3⟩⟩ := h
  · refine (reads_one d mb base f st (-1) L [] ao n cap L w h hl).mono ?_
    rintro e w' ⟨rfl, hb⟩
    exact ⟨by rw [show runD L [] = L from rfl]; simp, hb⟩
  · refine (reads_two1 d mb base f fa st (-1) L S [] D ao n cap L w h hl).mono ?_
    rintro e w' ⟨rfl, hb⟩
    exact ⟨by rw [show runD L [] = L from rfl]; simp, hb⟩
theorem StA_loose (d mb base f k m : Nat) (L : List UInt8) (w : World) (h : StA w d mb base f L k m) :
    Calls Try.prog 15 #[.pointer (some ⟨d, 0, none⟩), .string nZ] w fun e w' => e = .returned (.int .i64 0) ∧ w = w' := by
  obtain ⟨st, h | ⟨fa, S, D, h, h2, h3⟩⟩ := h
  · exact Loose_one d mb base f st (-1) false L [] w h
  · exact Loose_two1 d mb base f fa st (-1) false L S [] D w h
theorem StA_crash (d mb base f k m : Nat) (L : List UInt8) (ao : Option Addr) (n cap : Nat) (K : List Int) (w : World) (hb : base ≤ w.heap.size) (h : StA w d mb base f L k m) (hK : IsKeeps w ao n cap K) :
    Calls Try.prog 16 #[.pointer (some ⟨d, 0, none⟩), .slice ao n cap] w fun e w' => e = .returned (.int .i64 0) ∧ StA w' d mb base f L k m ∧ Kept d mb base w w' := by
  obtain ⟨st, h | ⟨fa, S, D, h, h2, h3⟩⟩ := h
  · refine (Crash_one d mb base f st (-1) false L [] ao n cap K w hb h hK).mono ?_
    rintro e w' ⟨rfl, ho, hk⟩
    rw [afterZ_nil] at ho
    exact ⟨rfl, ⟨st, .inl ho⟩, hk⟩
  · refine (Crash_two d mb base f fa st (-1) false L S [] D ao n cap K w hb h hK).mono ?_
    rintro e w' ⟨rfl, ⟨z1, z2, ho⟩, hk⟩
    rw [afterZ_nil] at ho
    refine ⟨rfl, ⟨st, .inr ⟨fa, _, _, ho, by simp, ?_⟩⟩, hk⟩
    have := afterZ_length D S z2
    rw [sum_units] at this
    simp only [unitsD, List.map_nil, List.sum_nil, Nat.add_zero]
    unfold unitsD at *
    omega
set_option maxRecDepth 100000 in
set_option maxHeartbeats 4000000 in
theorem DiskApart_any (ao : Option Addr) (n cap : Nat) (X : List PieceV) (bo : Option Addr) (m cap2 : Nat) (L : List UInt8) (keep : Int) (w : World) (hX : IsPieces w ao n cap X) (hL : IsBytes w bo m cap2 L) (hkeep : (Lit.int .i64 keep).wf = true) :
    Calls Try.prog 3 #[.slice ao n cap, .slice bo m cap2, .int .i64 keep] w fun e w' => e = .returned (.bool true) ∧ Below w.heap.size w w' := by
  obtain ⟨hk0, hk1⟩ := wf_i64 hkeep
  have hn1 := hX.2.1
  have hc1 := hX.2.2.1
  have hn2 := hL.2.1
  have hc2 := hL.2.2.1
  unfold maxLen at hc1 hc2
  have HX := Lib.hid hX
  have HL := Lib.hid hL
  have HXL : Hid (X.length = n) := Lib.hid hX.1
  clear hX hL hkeep
  go_enter Try.func3, Try.ntmps3
  go_wp2_with fail
  refine (awake_any w).mono ?_
  rintro e wa ⟨rfl, hba⟩
  have HBA := Lib.hid hba
  have HXA := Lib.hid (HX.out.later hba)
  clear hba
  go_upto_block 0 with fail
  go_cut [8] (fun s wc => ∃ k : Nat, s = .int .i64 ((sumL X k : Nat) : Int) ∧ Hid (k = min n 31) ∧ wa = wc)
  case first =>
    go_wp2_with fail
    go_loopw [8, 9] (fun s i wr => ∃ k : Nat, k ≤ n ∧ k ≤ 31 ∧ i = .int .i64 k ∧ s = .int .i64 ((sumL X k : Nat) : Int) ∧ Hid (sumL X k ≤ k * 140737488355328) ∧ wa = wr) (fun _ i _ => 31 - (intOf i).toNat)
    case atStart => exact ⟨0, by omega, by omega, rfl, rfl, Lib.hid (by simp [sumL]), rfl⟩
    case round =>
      obtain ⟨k, hk, hk31, rfl, rfl, hsl, rfl⟩ := hrel
      by_cases hlt : k < n
      · have hi0 : (0 : Int) ≤ (k : Int) := by omega
        have hi1 : (k : Int) < (n : Int) := by omega
        by_cases h31 : (k : Int) < 31
        · obtain ⟨b, off, c0, c1, rfl, g0, g1, ⟨pa, pn, pc, rfl, hpb, hpn⟩, rfl⟩ := HXA.out.2.2.2 k hlt
          have hstep := sumL_succ (X := X) (k := k) (by rw [HXL.out]; exact hlt)
          have hsl2 := hsl.out
          have hpl := hpb.1
          have hw : IntKind.i64.wrap (((sumL X k : Nat) : Int) + (pn : Int)) = ((sumL X k : Nat) : Int) + (pn : Int) := IntWalk.i64_in _ (by omega)
          have HST := Lib.hid (And.intro hstep hpl)
          clear hpb hstep hsl2 hpl
          go_wp2_with fail
          go_roundw
          case rel =>
            obtain ⟨q1, q2⟩ := HST.out
            refine ⟨k + 1, by omega, by omega, by go_num, ?_, Lib.hid ?_, trivial⟩
            · rw [q1, q2]; push_cast; rfl
            · have := hsl.out
              rw [q1, q2]; omega
          case measure => simp [intOf]; omega
        · go_wp2_with fail
          go_meet
          exact ⟨k, rfl, Lib.hid (by omega), rfl⟩
      · have hi1 : ¬ (k : Int) < (n : Int) := by omega
        go_wp2_with fail
        go_meet
        exact ⟨k, rfl, Lib.hid (by omega), rfl⟩
  case rest =>
    obtain ⟨kk, rfl, hkk, rfl⟩ := hcut
    go_wp2_with fail
    refine (New_G wa (fun _ => ([], [])) (ZW0 wa)).mono ?_
    rintro e w1 ⟨d, mb, rfl, hmb, hmd, hg, hb⟩
    have HB := Lib.hid (HBA.out.trans (hb.mono HBA.out.size))
    obtain ⟨base, hbase⟩ : ∃ b, b = wa.heap.size := ⟨_, rfl⟩
    rw [← hbase] at hg
    have H1 := Lib.hid (And.intro hg (Kept.refl d mb base w1))
    have HS1 : Hid (base ≤ w1.heap.size) := Lib.hid (by rw [hbase]; exact hb.size)
    have HBW : Hid (w.heap.size ≤ base) := Lib.hid (by rw [hbase]; exact HBA.out.size)
    clear hg hb hmb hmd hbase
    obtain ⟨sm, hsm⟩ : ∃ sm, sm = sumL X kk := ⟨_, rfl⟩
    rw [← hsm]
    have HSM := Lib.hid hsm
    clear hsm
    by_cases hbig : n ≤ 30 ∧ sm ≤ 3000 ∧ m ≤ 500
    · obtain ⟨hb1, hb2, hb3⟩ := hbig
      have hi1 : ¬ (30 : Int) < (n : Int) := by omega
      have hi2 : ¬ (3000 : Int) < (sm : Int) := by omega
      have hi3 : ¬ (500 : Int) < (m : Int) := by omega
      have HSN : Hid (sumL X n ≤ 3000) := Lib.hid (by
        have e := hkk.out
        have q := HSM.out
        rw [e, Nat.min_eq_left (by omega)] at q
        omega)
      go_wp2_with fail
      refine (Append_one_new (nm := nZ) d mb base _ _ _ _ m cap2 L _ HS1.out nZ_fit H1.out.1 (HL.out.later HB.out) (by omega)).mono ?_
      rintro e w2 ⟨z, rfl, hs, hk⟩
      obtain ⟨rfl, f, hf, ho⟩ := hs.done (by omega)
      rw [dec_none] at ho
      have H2 := Lib.hid (And.intro ho hk)
      have HS2 := Lib.hid (Nat.le_trans HS1.out hk.below.size)
      clear ho hk hs hf
      go_wp2_with fail
      refine (Sync_one (nm := nZ) d mb base f _ _ _ _ w2 HS2.out H2.out.1).mono ?_
      rintro e w3 ⟨z, rfl, hs, hk⟩
      obtain ⟨rfl, ho⟩ := hs.done (by omega)
      rw [dec_none, runD_one _ _ _ HL.out.1, List.nil_append] at ho
      have H3 : Hid (StA w3 d mb base f L 0 0 ∧ Kept d mb base w1 w3) := Lib.hid ⟨⟨_, .inl ho⟩, H2.out.2.trans hk⟩
      have HS3 := Lib.hid (Nat.le_trans HS2.out hk.below.size)
      clear ho hk hs
      go_wp2_with fail
      go_loopw [11] (fun i wr => ∃ k : Nat, k ≤ n ∧ i = .int .i64 k ∧ Hid (StA wr d mb base f L k (sumL X k)) ∧ Hid (Kept d mb base w1 wr)) (fun i _ => n - (intOf i).toNat)
      case atStart => exact ⟨0, by omega, rfl, Lib.hid H3.out.1, Lib.hid H3.out.2⟩
      case round =>
        obtain ⟨k, hk, rfl, hst, hkp⟩ := hrel
        by_cases hlt : k < n
        · have hi0 : (0 : Int) ≤ (k : Int) := by omega
          have hi4 : (k : Int) < (n : Int) := by omega
          have hbw : Below w.heap.size w wr := HB.out.trans (hkp.out.below.mono HBW.out)
          have HBR := Lib.hid hbw
          have hsz : base ≤ wr.heap.size := Nat.le_trans HS1.out hkp.out.below.size
          have HSZ := Lib.hid hsz
          obtain ⟨b, off, c0, c1, rfl, g0, g1, ⟨pa, pn, pc, rfl, hpb, hpn⟩, rfl⟩ := (HX.out.later hbw).2.2.2 k hlt
          have hstep := sumL_succ (X := X) (k := k) (by rw [HXL.out]; exact hlt)
          rw [hpb.1] at hstep
          have HST := Lib.hid (And.intro hstep (And.intro hpb (Nat.le_trans (sumL_mono X (show k + 1 ≤ n by omega)) HSN.out)))
          clear hbw hsz hpb hstep
          obtain ⟨sy, hsy⟩ : ∃ sy, sy = (X.getD k ([], false)).2 := ⟨_, rfl⟩
          rw [← hsy] at g1
          clear hsy
          cases sy with
          | true =>
            go_wp2_with fail
            refine (StA_sync d mb base f k _ L wr HSZ.out hst.out).mono ?_
            rintro e w4 ⟨z, rfl, hst4, hk4⟩
            have H4 : Hid (StA w4 d mb base f L (k + 1) (sumL X (k + 1)) ∧ Kept d mb base w1 w4) := Lib.hid ⟨by
              obtain ⟨st, q | ⟨fa, S, D, q, q1, q2⟩⟩ := hst4
              · exact ⟨st, .inl q⟩
              · exact ⟨st, .inr ⟨fa, S, D, q, by omega, Nat.le_trans q2 (sumL_mono X (by omega))⟩⟩, hkp.out.trans hk4⟩
            clear hst4 hk4
            go_wp2_with fail
            refine (StA_reads d mb base f _ _ L _ _ _ w4 H4.out.1 (HL.out.later (HB.out.trans (H4.out.2.below.mono HBW.out)))).mono ?_
            rintro e w5 ⟨rfl, hb5⟩
            have H5 := Lib.hid (And.intro (H4.out.1.later hb5) (H4.out.2.trans (.of_below hb5 (Nat.le_trans HS1.out H4.out.2.below.size))))
            clear hb5
            go_wp2_with fail
            refine (StA_loose d mb base f _ _ L w5 H5.out.1).mono ?_
            rintro e w' ⟨rfl, rfl⟩
            go_wp2_with fail
            go_roundw
            case rel => exact ⟨k + 1, by omega, by go_num, Lib.hid H5.out.1, Lib.hid H5.out.2⟩
            case measure => simp [intOf]; omega
          | false =>
            go_wp2_with fail
            refine (StA_append d mb base f k _ L pa pn pc _ wr HSZ.out hst.out HST.out.2.1 (by omega) (by have := HST.out; omega)).mono ?_
            rintro e w4 ⟨z, rfl, hst4, hk4⟩
            have H4 : Hid (StA w4 d mb base f L (k + 1) (sumL X (k + 1)) ∧ Kept d mb base w1 w4) := Lib.hid ⟨by
              rw [HST.out.1]
              exact hst4, hkp.out.trans hk4⟩
            clear hst4 hk4
            go_wp2_with fail
            refine (StA_reads d mb base f _ _ L _ _ _ w4 H4.out.1 (HL.out.later (HB.out.trans (H4.out.2.below.mono HBW.out)))).mono ?_
            rintro e w5 ⟨rfl, hb5⟩
            have H5 := Lib.hid (And.intro (H4.out.1.later hb5) (H4.out.2.trans (.of_below hb5 (Nat.le_trans HS1.out H4.out.2.below.size))))
            clear hb5
            go_wp2_with fail
            refine (StA_loose d mb base f _ _ L w5 H5.out.1).mono ?_
            rintro e w' ⟨rfl, rfl⟩
            go_wp2_with fail
            go_roundw
            case rel => exact ⟨k + 1, by omega, by go_num, Lib.hid H5.out.1, Lib.hid H5.out.2⟩
            case measure => simp [intOf]; omega
        · have hi4 : ¬ (k : Int) < (n : Int) := by omega
          have HSZ : Hid (base ≤ wr.heap.size) := Lib.hid (Nat.le_trans HS1.out hkp.out.below.size)
          go_wp2_with fail
          have hbl : Below wr.heap.size wr (wr.alloc (.cells #[.int .i64 keep, .int .i64 keep] 3)) := (Below.refl _ _).alloc (Nat.le_refl _) _
          refine (StA_crash d mb base f _ _ L _ 2 2 [keep, keep] _ (Nat.le_trans HSZ.out hbl.size) (hst.out.later hbl) (IsKeeps.lit2 wr keep keep hk0 hk1 hk0 hk1 _ (by decide))).mono ?_
          rintro e w4 ⟨rfl, hst4, hk4⟩
          have H4 := Lib.hid (And.intro hst4 ((hkp.out.trans (.of_below hbl HSZ.out)).trans hk4))
          clear hst4 hk4 hbl
          go_wp2_with fail
          refine (StA_reads d mb base f _ _ L _ _ _ w4 H4.out.1 (HL.out.later (HB.out.trans (H4.out.2.below.mono HBW.out)))).mono ?_
          rintro e w5 ⟨rfl, hb5⟩
          have HS4 : Hid (base ≤ w4.heap.size) := Lib.hid (Nat.le_trans HS1.out H4.out.2.below.size)
          have H5 := Lib.hid (And.intro (H4.out.1.later hb5) (H4.out.2.trans (.of_below hb5 HS4.out)))
          have HS5 : Hid (base ≤ w5.heap.size) := Lib.hid (Nat.le_trans HS4.out hb5.size)
          clear hb5
          go_wp2_with fail
          obtain ⟨⟨st, ho | ⟨fa, S, D, ho, _, _⟩⟩, hk5⟩ := H5.out
          · have HO := Lib.hid ho
            clear ho hk5
            refine (Names_one d mb base f nZ _ _ _ _ _ w5 HO.out).mono ?_
            rintro e w6 ⟨na, ncap, rfl, _, hb6⟩
            have H6 := Lib.hid (And.intro (HO.out.later hb6) (H5.out.2.trans (.of_below hb6 HS5.out)))
            clear hb6
            go_wp2_with fail
            refine (reads_one d mb base f _ _ L [] _ _ _ L w6 H6.out.1 (HL.out.later (HB.out.trans (H6.out.2.below.mono HBW.out)))).mono ?_
            rintro e w7 ⟨he, hb7⟩
            obtain rfl : e = .returned (.bool true) := he.trans (by rw [show runD L [] = L from rfl]; simp)
            have H7 := Lib.hid ((HB.out.trans (H6.out.2.below.mono HBW.out)).trans (hb7.mono (by
              have := H6.out.2.below.size
              have := HB.out.size
              omega)))
            clear he hb7
            go_wp2_with fail
            go_ret
            exact ⟨rfl, H7.out⟩
          · have HO := Lib.hid ho
            clear ho hk5
            refine (Names_two d mb base f fa nZ nA _ _ _ _ _ _ _ w5 HO.out).mono ?_
            rintro e w6 ⟨na, ncap, rfl, hb6⟩
            have H6 := Lib.hid (And.intro (HO.out.later hb6) (H5.out.2.trans (.of_below hb6 HS5.out)))
            have HS6 : Hid (base ≤ w6.heap.size) := Lib.hid (Nat.le_trans HS5.out hb6.size)
            clear hb6
            go_wp2_with fail
            refine (Remove_two2 d mb base f fa _ _ _ _ _ _ w6 HS6.out H6.out.1).mono ?_
            rintro e w7 ⟨z, rfl, hs, hk⟩
            obtain ⟨rfl, ho⟩ := hs.done (by omega)
            have H7 := Lib.hid (And.intro ho (H6.out.2.trans hk))
            have HS7 : Hid (base ≤ w7.heap.size) := Lib.hid (Nat.le_trans HS6.out hk.below.size)
            clear ho hk hs
            go_wp2_with fail
            refine (Names_one d mb base f nZ _ _ _ _ _ w7 H7.out.1).mono ?_
            rintro e w8 ⟨na2, ncap2, rfl, ht, hb8⟩
            have HT := Lib.hid ht
            have H8 := Lib.hid (And.intro (H7.out.1.later hb8) (H7.out.2.trans (.of_below hb8 HS7.out)))
            have HS8 : Hid (base ≤ w8.heap.size) := Lib.hid (Nat.le_trans HS7.out hb8.size)
            clear ht hb8
            go_wp2_with fail
            refine (SameTexts_any _ _ 1 1 _ _ [nZ] [nZ] _ (HT.out.later ((Below.refl _ _).alloc (Nat.le_refl _) _)) (IsTexts.lit w8 nZ _)).mono ?_
            rintro e w9 ⟨r, rfl, hr, hb9⟩
            obtain rfl : r = true := hr.2 rfl
            have hb9' : Below w8.heap.size w8 w9 := ((Below.refl _ _).alloc (Nat.le_refl _) _).trans (hb9.mono (by simp))
            have H9 := Lib.hid (And.intro (H8.out.1.later hb9') (H8.out.2.trans (.of_below hb9' HS8.out)))
            clear hr hb9 hb9'
            go_wp2_with fail
            refine (reads_one d mb base f _ _ L [] _ _ _ L w9 H9.out.1 (HL.out.later (HB.out.trans (H9.out.2.below.mono HBW.out)))).mono ?_
            rintro e w10 ⟨he, hb10⟩
            obtain rfl : e = .returned (.bool true) := he.trans (by rw [show runD L [] = L from rfl]; simp)
            have H10 := Lib.hid ((HB.out.trans (H9.out.2.below.mono HBW.out)).trans (hb10.mono (by
              have := H9.out.2.below.size
              have := HB.out.size
              omega)))
            clear he hb10
            go_wp2_with fail
            go_ret
            exact ⟨rfl, H10.out⟩
    · by_cases hb1 : (30 : Int) < (n : Int)
      · go_wp2_with fail
        go_ret
        exact ⟨rfl, HB.out⟩
      · by_cases hb2 : (3000 : Int) < (sm : Int)
        · go_wp2_with fail
          go_ret
          exact ⟨rfl, HB.out⟩
        · have hb3 : (500 : Int) < (m : Int) := by omega
          go_wp2_with fail
          go_ret
          exact ⟨rfl, HB.out⟩
end Go.Proofs.Ytmpjjkfbojhfoaa

/- layer 27's statements: DiskKeeps, walked -/
import Derived.Test.YtmpjjkfbojhfoaaDKeepC
import Derived.Deep.DeepCutAuto
import Derived.Deep.CutBlock
namespace Go.Proofs.Ytmpjjkfbojhfoaa
open Go.RowKit
theorem wrap_in64 (z : Int) : -9223372036854775808 ≤ wrap64 z ∧ wrap64 z ≤ 9223372036854775807 := by
  unfold wrap64
  omega
theorem Below.grownD {w w1 w2 : World} {base : Nat} {v : Value} {l : List UInt8} (h : Below base w w1) (hs : base ≤ w1.heap.size) (hv : OwnB w1 base v l) (hg : w1.grownBy w2 v.ownBlock) : Below base w w2 :=
  h.trans ((Below.refl _ _).grown hg (by omega) (fun k hk => (hv.1.lt k hk).1))
set_option maxRecDepth 100000 in
set_option maxHeartbeats 8000000 in
theorem DiskKeeps_any (ao : Option Addr) (n cap : Nat) (X : List PieceV) (fuse keep : Int) (w : World) (hX : IsPieces w ao n cap X) (hfuse : (Lit.int .i64 fuse).wf = true) (hkeep : (Lit.int .i64 keep).wf = true) :
    Calls Try.prog 5 #[.slice ao n cap, .int .i64 fuse, .int .i64 keep] w fun e w' => e = .returned (.bool true) ∧ Below w.heap.size w w' := by
  obtain ⟨hk0, hk1⟩ := wf_i64 hkeep
  obtain ⟨hfu0, hfu1⟩ := wf_i64 hfuse
  have hn1 := hX.2.1
  have hc1 := hX.2.2.1
  unfold maxLen at hc1
  have HX := Lib.hid hX
  have HXL : Hid (X.length = n) := Lib.hid hX.1
  clear hX hkeep hfuse
  go_enter Try.func5, Try.ntmps5
  go_wp2_with fail
  refine (awake_any w).mono ?_
  rintro e wa ⟨rfl, hba⟩
  have HBA := Lib.hid hba
  have HXA := Lib.hid (HX.out.later hba)
  clear hba
  go_upto_block 0 with fail
  go_cut [8] (fun s wc => ∃ k : Nat, s = .int .i64 ((sumL X k : Nat) : Int) ∧ Hid (k = min n 61) ∧ wa = wc)
  case first =>
    go_wp2_with fail
    go_loopw [8, 9] (fun s i wr => ∃ k : Nat, k ≤ n ∧ k ≤ 61 ∧ i = .int .i64 k ∧ s = .int .i64 ((sumL X k : Nat) : Int) ∧ Hid (sumL X k ≤ k * 140737488355328) ∧ wa = wr) (fun _ i _ => 61 - (intOf i).toNat)
    case atStart => exact ⟨0, by omega, by omega, rfl, rfl, Lib.hid (by simp [sumL]), rfl⟩
    case round =>
      obtain ⟨k, hk, hk31, rfl, rfl, hsl, rfl⟩ := hrel
      by_cases hlt : k < n
      · have hi0 : (0 : Int) ≤ (k : Int) := by omega
        have hi1 : (k : Int) < (n : Int) := by omega
        by_cases h31 : (k : Int) < 61
        · obtain ⟨b, off, c0, c1, rfl, g0, g1, ⟨pa, pn, pc, rfl, hpb, hpn⟩, rfl⟩ := HXA.out.2.2.2 k hlt
          have hstep := sumL_succ (X := X) (k := k) (by rw [HXL.out]; exact hlt)
          have hsl2 := hsl.out
          have hpl := hpb.1
          have hw : IntKind.i64.wrap (((sumL X k : Nat) : Int) + (pn : Int)) = ((sumL X k : Nat) : Int) + (pn : Int) := IntWalk.i64_in _ (by omega)
          have HST := Lib.hid (And.intro hstep hpl)
          clear hpb hstep hsl2 hpl
          go_wp2_with fail
          go_roundw
          case rel =>
            obtain ⟨q1, q2⟩ := HST.out
            refine ⟨k + 1, by omega, by omega, by go_num, ?_, Lib.hid ?_, trivial⟩
            · rw [q1, q2]; push_cast; rfl
            · have := hsl.out
              rw [q1, q2]; omega
          case measure => simp [intOf]; omega
        · go_wp2_with fail
          go_meet
          exact ⟨k, rfl, Lib.hid (by omega), rfl⟩
      · have hi1 : ¬ (k : Int) < (n : Int) := by omega
        go_wp2_with fail
        go_meet
        exact ⟨k, rfl, Lib.hid (by omega), rfl⟩
  case rest =>
    obtain ⟨kk, rfl, hkk, rfl⟩ := hcut
    go_wp2_with fail
    refine (New_G wa (fun _ => ([], [])) (ZW0 wa)).mono ?_
    rintro e w1 ⟨d, mb, rfl, hmb, hmd, hg, hb⟩
    have HB := Lib.hid (HBA.out.trans (hb.mono HBA.out.size))
    obtain ⟨base, hbase⟩ : ∃ b, b = wa.heap.size := ⟨_, rfl⟩
    rw [← hbase] at hg
    have H1 := Lib.hid hg
    have HS1 : Hid (base ≤ w1.heap.size) := Lib.hid (by rw [hbase]; exact hb.size)
    have HBW : Hid (w.heap.size ≤ base) := Lib.hid (by rw [hbase]; exact HBA.out.size)
    clear hg hb hmb hmd hbase
    obtain ⟨sm, hsm⟩ : ∃ sm, sm = sumL X kk := ⟨_, rfl⟩
    rw [← hsm]
    have HSM := Lib.hid hsm
    clear hsm
    by_cases hbig : n ≤ 60 ∧ sm ≤ 3000
    · obtain ⟨hb1, hb2⟩ := hbig
      have hi1 : ¬ (60 : Int) < (n : Int) := by omega
      have hi2 : ¬ (3000 : Int) < (sm : Int) := by omega
      have HSN : Hid (sumL X n ≤ 3000) := Lib.hid (by
        have e := hkk.out
        have q := HSM.out
        rw [e, Nat.min_eq_left (by omega)] at q
        omega)
      go_upto_region 10 with fail
      go_cut [66] (fun s wc => s = .bool false ∧ ∃ f, Hid (KeepsAt (Value.ownBlock (.slice none 0 0)) wc fuse 0 d mb base f [] [] ∧ Below base w1 wc))
      case first =>
        go_wp2_with fail
        refine (Append_one_new (nm := nF) d mb base _ _ _ _ 0 0 [] _ HS1.out nF_fit H1.out (IsBytes.nil _) (by omega)).mono ?_
        rintro e w2 ⟨z, rfl, hs, hk⟩
        obtain ⟨rfl, f, hf, ho⟩ := hs.done (by omega)
        rw [dec_none] at ho
        have H2 : Hid (One w2 (wrap64 (0 + 1)) (-1) false d mb base nF f [] [] ∧ Below base w1 w2) := Lib.hid ⟨ho, hk.below⟩
        have HS2 := Lib.hid (Nat.le_trans HS1.out hk.below.size)
        clear ho hk hs hf
        by_cases hfz : 0 ≤ fuse
        · go_wp2_with fail
          refine (Fuse_one (nm := nF) d mb base f fuse _ _ _ _ _ w2 HS2.out hfu1 H2.out.1).mono ?_
          rintro e w3 ⟨hs, hk⟩
          obtain ⟨rfl, ho⟩ : e = .returned (.int .i64 0) ∧ _ := by
            rcases hs with ⟨q1, _⟩ | ⟨_, q1, q2⟩
            · exact absurd q1 (by omega)
            · exact ⟨q1, q2⟩
          have HK0 : Hid (KeepsAt (Value.ownBlock (.slice none 0 0)) w3 fuse 0 d mb base f [] [] ∧ Below base w1 w3) := Lib.hid ⟨⟨_, .inr (.inl ⟨hfz, by omega, by rw [show fuse - ((0 : Nat) : Int) = fuse by omega]; exact ho⟩)⟩, H2.out.2.trans hk.below⟩
          clear hs hk ho
          go_wp2_with fail
          go_meet
          exact ⟨rfl, f, HK0⟩
        · have hfz2 : fuse < 0 := by omega
          go_wp2_with fail
          go_meet
          exact ⟨rfl, f, Lib.hid ⟨⟨_, .inl ⟨hfz2, H2.out.1⟩⟩, H2.out.2⟩⟩
      case rest =>
        obtain ⟨rfl, f, HK0⟩ := hcut
        go_wp2_with fail
        go_loopw [11, 12, 13] (fun sa ss si wr => ∃ (k la ls : Nat) (aa : Option Addr) (ac : Nat) (sb : Option Addr) (sc : Nat), k ≤ n ∧ si = .int .i64 k ∧ sa = .slice aa la ac ∧ ss = .slice sb ls sc ∧ ls ≤ la ∧ la ≤ 3000 ∧ la ≤ ac ∧ ac ≤ 9223372036854775807 ∧ Hid (∃ (S A : List UInt8) (D : List Deed), A.length = la ∧ S.length = ls ∧ OwnB wr base (.slice aa la ac) A ∧ KeepsAt (Value.ownBlock (.slice aa la ac)) wr fuse k d mb base f S D ∧ onlyM D ∧ A = S ++ catD D ∧ A.length ≤ sumL X k ∧ D.length ≤ k) ∧ Hid (Below base w1 wr)) (fun _ _ i _ => n - (intOf i).toNat)
        case atStart => exact ⟨0, 0, 0, none, 0, none, 0, by omega, rfl, rfl, rfl, by omega, by omega, by omega, by omega, Lib.hid ⟨[], [], [], rfl, rfl, OwnB.nil _ _, HK0.out.1, trivial, rfl, by simp, by simp⟩, Lib.hid HK0.out.2⟩
        case round =>
          obtain ⟨k, la, ls, aa, ac, sb, sc, hk, rfl, rfl, rfl, hls, hla, hlac, hacm, hst, hbl⟩ := hrel
          obtain ⟨S, A, D, hAl, hSl, hown, hka, honly, hA, hsumA, hDl⟩ := hst.out
          have HSZ : Hid (base ≤ wr.heap.size) := Lib.hid (Nat.le_trans HS1.out hbl.out.size)
          have HALL := Lib.hid (And.intro hAl (And.intro hSl (And.intro hown (And.intro honly (And.intro hA (And.intro hsumA hDl))))))
          have HKA := Lib.hid hka
          clear hst hAl hSl hown hka honly hA hsumA hDl
          by_cases hlt : k < n
          · have hi0 : (0 : Int) ≤ (k : Int) := by omega
            have hi4 : (k : Int) < (n : Int) := by omega
            have hbw : Below w.heap.size w wr := HB.out.trans (hbl.out.mono HBW.out)
            have HXR := Lib.hid (HX.out.later hbw)
            have HBR := Lib.hid hbw
            obtain ⟨b, off, c0, c1, rfl, g0, g1, ⟨pa, pn, pc, rfl, hpb, hpn⟩, rfl⟩ := HXR.out.2.2.2 k hlt
            have hstep := sumL_succ (X := X) (k := k) (by rw [HXL.out]; exact hlt)
            rw [hpb.1] at hstep
            have hle := Nat.le_trans (sumL_mono X (show k + 1 ≤ n by omega)) HSN.out
            have HPB := Lib.hid hpb
            have HST := Lib.hid (And.intro hstep hle)
            have hpn2 : la + pn ≤ 3000 := by have := HALL.out; omega
            have HG : Hid (∀ w' : World, Below wr.heap.size wr w' → w'.cell? ⟨b, off + k * 2, none⟩ = some (.slice pa pn pc) ∧ w'.cell? ⟨b, off + k * 2 + 1, none⟩ = wr.cell? ⟨b, off + k * 2 + 1, none⟩) := Lib.hid (fun w' hb' => ⟨(hb'.cell (block_lt_of_cell g0)).trans g0, hb'.cell (block_lt_of_cell g1)⟩)
            have HGL : Hid (b < w.heap.size) := Lib.hid (by
              obtain ⟨b', off', _, _, e, g', _⟩ := HX.out.2.2.2 k hlt
              injection e with e
              injection e with e _
              rw [e]
              exact block_lt_of_cell g')
            have hrd : (runD S D).length = la := by
              obtain ⟨q1, q2, q3, q4, q5, q6, q7⟩ := HALL.out
              rw [runD_only D S q4, ← q5, q1]
            have hun : ls + unitsD D = la := by
              obtain ⟨q1, q2, q3, q4, q5, q6, q7⟩ := HALL.out
              rw [units_only D q4, ← q1, q5, List.length_append, q2]
            have HRD := Lib.hid (And.intro hrd hun)
            obtain ⟨sy, hsy⟩ : ∃ sy, sy = (X.getD k ([], false)).2 := ⟨_, rfl⟩
            rw [← hsy] at g1
            clear hpb hstep hle hbw hrd hun hsy
            have hfp : fuse < 0 ∨ (0 ≤ fuse ∧ fuse ≤ (k : Int)) ∨ (0 ≤ fuse ∧ (k : Int) < fuse) := by omega
            cases sy with
            | true =>
              rcases hfp with hf0 | ⟨hf0, hf1⟩ | ⟨hf0, hf1⟩
              · have hf0n : ¬ 0 ≤ fuse := by omega
                go_wp2_with fail
                refine (piece_sync _ fuse k d mb base f S D wr HSZ.out HKA.out).mono ?_
                rintro e w4 ⟨z, rfl, hpr, hk4⟩
                obtain ⟨rfl, hka4⟩ : z = 0 ∧ _ := by
                  rcases hpr with ⟨q1, q2, _⟩ | ⟨_, q1, q2⟩
                  · omega
                  · exact ⟨q1, q2⟩
                have hown4 : OwnB w4 base (.slice aa la ac) A := by
                  obtain ⟨st', fu', out', es', c', r1, r2⟩ := HKA.out.row
                  exact HALL.out.2.2.1.keptD hk4 r1 r2
                have H4 := Lib.hid (And.intro hka4 (And.intro hown4 (And.intro hk4.below (Nat.le_trans HSZ.out hk4.below.size))))
                have hlt4 := Nat.lt_of_lt_of_le HGL.out HBW.out
                have g0' : w4.cell? ⟨b, off + k * 2, none⟩ = some (.slice pa pn pc) := (hk4.below.cell hlt4).trans g0
                have g1' : w4.cell? ⟨b, off + k * 2 + 1, none⟩ = some (.bool true) := (hk4.below.cell hlt4).trans g1
                clear hpr hka4 hown4 hk4 g0 g1 hlt4
                go_wp2_with fail
                refine H4.out.1.up.mono ?_
                rintro e w' ⟨he, rfl⟩
                obtain rfl : e = .returned (.bool true) := he.trans (by rw [decide_eq_false (by omega)]; rfl)
                clear he
                go_wp2_with fail
                refine (CopyBytes_any _ _ _ A w4 (by
                  obtain ⟨a', c', e', hb', _⟩ := H4.out.2.1.bytes
                  rw [HALL.out.1] at e' hb'
                  cases e'
                  exact hb') (by omega)).mono ?_
                rintro e w5 ⟨v5, rfl, hown5, hb5⟩
                obtain ⟨sb5, sc5, hv5, _⟩ := hown5.bytes
                rw [HALL.out.1] at hv5
                subst hv5
                have H5 : Hid (OwnB w5 base (.slice aa la ac) A ∧ KeepsAt (Value.ownBlock (.slice aa la ac)) w5 fuse (k + 1) d mb base f (runD S D) [] ∧ Below base w1 w5) := Lib.hid ⟨H4.out.2.1.move (fun g hg => hb5.block g (H4.out.2.1.1.lt g hg).2), H4.out.1.later hb5, (hbl.out.trans H4.out.2.2.1).trans (hb5.mono H4.out.2.2.2)⟩
                have g1'' : w5.cell? ⟨b, off + k * 2 + 1, none⟩ = some (.bool true) := (hb5.cell (block_lt_of_cell g1')).trans g1'
                clear hown5 hb5 g1' g0'
                go_wp2_with fail
                go_roundw
                case rel =>
                  have hrA : runD S D = A := by
                    obtain ⟨q1, q2, q3, q4, q5, q6, q7⟩ := HALL.out
                    rw [runD_only D S q4, ← q5]
                  exact ⟨k + 1, la, la, aa, ac, sb5, sc5, by omega, by go_num, rfl, rfl, by omega, by omega, by omega, by omega, Lib.hid ⟨A, A, [], HALL.out.1, HALL.out.1, H5.out.1, hrA ▸ H5.out.2.1, trivial, by simp [catD], Nat.le_trans HALL.out.2.2.2.2.2.1 (sumL_mono X (by omega)), by simp⟩, Lib.hid H5.out.2.2⟩
                case measure => simp [intOf]; omega
              · have hf0n : ¬ fuse < 0 := by omega
                have hf1n : ¬ (k : Int) < fuse := by omega
                go_wp2_with fail
                refine (piece_sync _ fuse k d mb base f S D wr HSZ.out HKA.out).mono ?_
                rintro e w4 ⟨z, rfl, hpr, hk4⟩
                obtain ⟨rfl, hka4⟩ : z = 10 ∧ _ := by
                  rcases hpr with ⟨_, _, q1, q2⟩ | ⟨q1, _⟩
                  · exact ⟨q1, q2⟩
                  · exact absurd ⟨hf0, hf1⟩ q1
                have hown4 : OwnB w4 base (.slice aa la ac) A := by
                  obtain ⟨st', fu', out', es', c', r1, r2⟩ := HKA.out.row
                  exact HALL.out.2.2.1.keptD hk4 r1 r2
                have H4 := Lib.hid (And.intro hka4 (And.intro hown4 (And.intro hk4.below (Nat.le_trans HSZ.out hk4.below.size))))
                have hlt4 := Nat.lt_of_lt_of_le HGL.out HBW.out
                have g0' : w4.cell? ⟨b, off + k * 2, none⟩ = some (.slice pa pn pc) := (hk4.below.cell hlt4).trans g0
                have g1' : w4.cell? ⟨b, off + k * 2 + 1, none⟩ = some (.bool true) := (hk4.below.cell hlt4).trans g1
                clear hpr hka4 hown4 hk4 g0 g1 hlt4
                go_wp2_with fail
                refine H4.out.1.up.mono ?_
                rintro e w' ⟨he, rfl⟩
                obtain rfl : e = .returned (.bool false) := he.trans (by rw [decide_eq_true (by omega)]; rfl)
                clear he
                go_wp2_with fail
                go_roundw
                case rel => exact ⟨k + 1, la, ls, aa, ac, sb, sc, by omega, by go_num, rfl, rfl, by omega, by omega, by omega, by omega, Lib.hid ⟨S, A, D, HALL.out.1, HALL.out.2.1, H4.out.2.1, H4.out.1, HALL.out.2.2.2.1, HALL.out.2.2.2.2.1, Nat.le_trans HALL.out.2.2.2.2.2.1 (sumL_mono X (by omega)), by have := HALL.out.2.2.2.2.2.2; omega⟩, Lib.hid (hbl.out.trans H4.out.2.2.1)⟩
                case measure => simp [intOf]; omega
              · have hf0n : ¬ fuse < 0 := by omega
                have hf1n : ¬ fuse ≤ (k : Int) := by omega
                go_wp2_with fail
                refine (piece_sync _ fuse k d mb base f S D wr HSZ.out HKA.out).mono ?_
                rintro e w4 ⟨z, rfl, hpr, hk4⟩
                obtain ⟨rfl, hka4⟩ : z = 0 ∧ _ := by
                  rcases hpr with ⟨q1, q2, _⟩ | ⟨_, q1, q2⟩
                  · omega
                  · exact ⟨q1, q2⟩
                have hown4 : OwnB w4 base (.slice aa la ac) A := by
                  obtain ⟨st', fu', out', es', c', r1, r2⟩ := HKA.out.row
                  exact HALL.out.2.2.1.keptD hk4 r1 r2
                have H4 := Lib.hid (And.intro hka4 (And.intro hown4 (And.intro hk4.below (Nat.le_trans HSZ.out hk4.below.size))))
                have hlt4 := Nat.lt_of_lt_of_le HGL.out HBW.out
                have g0' : w4.cell? ⟨b, off + k * 2, none⟩ = some (.slice pa pn pc) := (hk4.below.cell hlt4).trans g0
                have g1' : w4.cell? ⟨b, off + k * 2 + 1, none⟩ = some (.bool true) := (hk4.below.cell hlt4).trans g1
                clear hpr hka4 hown4 hk4 g0 g1 hlt4
                go_wp2_with fail
                refine H4.out.1.up.mono ?_
                rintro e w' ⟨he, rfl⟩
                obtain rfl : e = .returned (.bool true) := he.trans (by rw [decide_eq_false (by omega)]; rfl)
                clear he
                go_wp2_with fail
                refine (CopyBytes_any _ _ _ A w4 (by
                  obtain ⟨a', c', e', hb', _⟩ := H4.out.2.1.bytes
                  rw [HALL.out.1] at e' hb'
                  cases e'
                  exact hb') (by omega)).mono ?_
                rintro e w5 ⟨v5, rfl, hown5, hb5⟩
                obtain ⟨sb5, sc5, hv5, _⟩ := hown5.bytes
                rw [HALL.out.1] at hv5
                subst hv5
                have H5 : Hid (OwnB w5 base (.slice aa la ac) A ∧ KeepsAt (Value.ownBlock (.slice aa la ac)) w5 fuse (k + 1) d mb base f (runD S D) [] ∧ Below base w1 w5) := Lib.hid ⟨H4.out.2.1.move (fun g hg => hb5.block g (H4.out.2.1.1.lt g hg).2), H4.out.1.later hb5, (hbl.out.trans H4.out.2.2.1).trans (hb5.mono H4.out.2.2.2)⟩
                have g1'' : w5.cell? ⟨b, off + k * 2 + 1, none⟩ = some (.bool true) := (hb5.cell (block_lt_of_cell g1')).trans g1'
                clear hown5 hb5 g1' g0'
                go_wp2_with fail
                go_roundw
                case rel =>
                  have hrA : runD S D = A := by
                    obtain ⟨q1, q2, q3, q4, q5, q6, q7⟩ := HALL.out
                    rw [runD_only D S q4, ← q5]
                  exact ⟨k + 1, la, la, aa, ac, sb5, sc5, by omega, by go_num, rfl, rfl, by omega, by omega, by omega, by omega, Lib.hid ⟨A, A, [], HALL.out.1, HALL.out.1, H5.out.1, hrA ▸ H5.out.2.1, trivial, by simp [catD], Nat.le_trans HALL.out.2.2.2.2.2.1 (sumL_mono X (by omega)), by simp⟩, Lib.hid H5.out.2.2⟩
                case measure => simp [intOf]; omega
            | false =>
              rcases hfp with hf0 | ⟨hf0, hf1⟩ | ⟨hf0, hf1⟩
              · have hf0n : ¬ 0 ≤ fuse := by omega
                go_wp2_with fail
                refine (piece_append _ fuse k d mb base f S D pa pn pc _ wr HSZ.out HKA.out HPB.out (by have := HRD.out; omega) (by have := HALL.out; omega) (by have := HALL.out; have := HRD.out; omega)).mono ?_
                rintro e w4 ⟨z, rfl, hpr, hk4⟩
                obtain ⟨rfl, hka4⟩ : z = 0 ∧ _ := by
                  rcases hpr with ⟨q1, q2, _⟩ | ⟨_, q1, q2⟩
                  · omega
                  · exact ⟨q1, q2⟩
                have hown4 : OwnB w4 base (.slice aa la ac) A := by
                  obtain ⟨st', fu', out', es', c', r1, r2⟩ := HKA.out.row
                  exact HALL.out.2.2.1.keptD hk4 r1 r2
                have H4 := Lib.hid (And.intro hka4 (And.intro hown4 (And.intro hk4.below (Nat.le_trans HSZ.out hk4.below.size))))
                have hlt4 := Nat.lt_of_lt_of_le HGL.out HBW.out
                have g0' : w4.cell? ⟨b, off + k * 2, none⟩ = some (.slice pa pn pc) := (hk4.below.cell hlt4).trans g0
                have g1' : w4.cell? ⟨b, off + k * 2 + 1, none⟩ = some (.bool false) := (hk4.below.cell hlt4).trans g1
                clear hpr hka4 hown4 hk4 g0 g1 hlt4
                go_wp2_with fail
                refine H4.out.1.up.mono ?_
                rintro e w' ⟨he, rfl⟩
                obtain rfl : e = .returned (.bool true) := he.trans (by rw [decide_eq_false (by omega)]; rfl)
                clear he
                have HPB4 := Lib.hid ((HPB.out.later (show Below wr.heap.size wr wr from Below.refl _ _)))
                have HSRC : Hid (IsBytes w4 pa pn pc (X.getD k ([], false)).1) := Lib.hid (by
                  have hXw := (HX.out.later (HB.out.trans ((hbl.out.trans H4.out.2.2.1).mono HBW.out))).2.2.2 k hlt
                  obtain ⟨b', off', c0', c1', e', g0'', _, ⟨pa', pn', pc', e2, hs', _⟩, _⟩ := hXw
                  injection e' with e'
                  injection e' with e1 e3
                  rw [← e1, ← e3, g0'] at g0''
                  injection g0'' with g0''
                  rw [e2] at g0''
                  injection g0'' with z1 z2 z3
                  rw [z1, z2, z3]
                  exact hs')
                clear HPB4
                go_wp2_with (at_builtin; refine wpList_append_bytes_at rfl _ _ rfl base (.slice aa la ac) A rfl H4.out.2.1 pa pn pc _ rfl HSRC.out (by have := HALL.out.1; omega) H4.out.2.2.2 ?_; intro v5 w5 hown5 hg5 hat5; have H5 := Lib.hid (And.intro hown5 (And.intro (H4.out.1.grown H4.out.2.1 hown5 hg5 hat5) (Below.grownD (hbl.out.trans H4.out.2.2.1) H4.out.2.2.2 H4.out.2.1 hg5))); clear hown5 hg5 hat5)
                obtain ⟨aa5, ac5, hv5, hbs5, _⟩ := H5.out.1.bytes
                have hlA : (A ++ (X.getD k ([], false)).1).length = la + pn := by rw [List.length_append, HALL.out.1, HPB.out.1]
                rw [hlA] at hv5 hbs5
                subst hv5
                have hb5a := hbs5.2.1
                have hb5b := hbs5.2.2.1
                unfold maxLen at hb5b
                have HLA := Lib.hid hlA
                clear hbs5 hlA
                go_roundw
                case rel =>
                  obtain ⟨q1, q2, q3, q4, q5, q6, q7⟩ := HALL.out
                  obtain ⟨r1, r2⟩ := onlyM_laid D pn _ HPB.out.1 q4
                  exact ⟨k + 1, la + pn, ls, aa5, ac5, sb, sc, by omega, by go_num, rfl, rfl, by omega, by omega, by omega, by omega, Lib.hid ⟨S, A ++ (X.getD k ([], false)).1, laid D pn (X.getD k ([], false)).1, HLA.out, q2, H5.out.1, H5.out.2.1, r1, by rw [r2, q5, List.append_assoc], by rw [HLA.out, HST.out.1]; omega, by have := laid_length D pn (X.getD k ([], false)).1; omega⟩, Lib.hid H5.out.2.2⟩
                case measure => simp [intOf]; omega
              · have hf0n : ¬ fuse < 0 := by omega
                have hf1n : ¬ (k : Int) < fuse := by omega
                go_wp2_with fail
                refine (piece_append _ fuse k d mb base f S D pa pn pc _ wr HSZ.out HKA.out HPB.out (by have := HRD.out; omega) (by have := HALL.out; omega) (by have := HALL.out; have := HRD.out; omega)).mono ?_
                rintro e w4 ⟨z, rfl, hpr, hk4⟩
                obtain ⟨rfl, hka4⟩ : z = 10 ∧ _ := by
                  rcases hpr with ⟨_, _, q1, q2⟩ | ⟨q1, _⟩
                  · exact ⟨q1, q2⟩
                  · exact absurd ⟨hf0, hf1⟩ q1
                have hown4 : OwnB w4 base (.slice aa la ac) A := by
                  obtain ⟨st', fu', out', es', c', r1, r2⟩ := HKA.out.row
                  exact HALL.out.2.2.1.keptD hk4 r1 r2
                have H4 := Lib.hid (And.intro hka4 (And.intro hown4 (And.intro hk4.below (Nat.le_trans HSZ.out hk4.below.size))))
                have hlt4 := Nat.lt_of_lt_of_le HGL.out HBW.out
                have g0' : w4.cell? ⟨b, off + k * 2, none⟩ = some (.slice pa pn pc) := (hk4.below.cell hlt4).trans g0
                have g1' : w4.cell? ⟨b, off + k * 2 + 1, none⟩ = some (.bool false) := (hk4.below.cell hlt4).trans g1
                clear hpr hka4 hown4 hk4 g0 g1 hlt4
                go_wp2_with fail
                refine H4.out.1.up.mono ?_
                rintro e w' ⟨he, rfl⟩
                obtain rfl : e = .returned (.bool false) := he.trans (by rw [decide_eq_true (by omega)]; rfl)
                clear he
                go_wp2_with fail
                go_roundw
                case rel => exact ⟨k + 1, la, ls, aa, ac, sb, sc, by omega, by go_num, rfl, rfl, by omega, by omega, by omega, by omega, Lib.hid ⟨S, A, D, HALL.out.1, HALL.out.2.1, H4.out.2.1, H4.out.1, HALL.out.2.2.2.1, HALL.out.2.2.2.2.1, Nat.le_trans HALL.out.2.2.2.2.2.1 (sumL_mono X (by omega)), by have := HALL.out.2.2.2.2.2.2; omega⟩, Lib.hid (hbl.out.trans H4.out.2.2.1)⟩
                case measure => simp [intOf]; omega
              · have hf0n : ¬ fuse < 0 := by omega
                have hf1n : ¬ fuse ≤ (k : Int) := by omega
                go_wp2_with fail
                refine (piece_append _ fuse k d mb base f S D pa pn pc _ wr HSZ.out HKA.out HPB.out (by have := HRD.out; omega) (by have := HALL.out; omega) (by have := HALL.out; have := HRD.out; omega)).mono ?_
                rintro e w4 ⟨z, rfl, hpr, hk4⟩
                obtain ⟨rfl, hka4⟩ : z = 0 ∧ _ := by
                  rcases hpr with ⟨q1, q2, _⟩ | ⟨_, q1, q2⟩
                  · omega
                  · exact ⟨q1, q2⟩
                have hown4 : OwnB w4 base (.slice aa la ac) A := by
                  obtain ⟨st', fu', out', es', c', r1, r2⟩ := HKA.out.row
                  exact HALL.out.2.2.1.keptD hk4 r1 r2
                have H4 := Lib.hid (And.intro hka4 (And.intro hown4 (And.intro hk4.below (Nat.le_trans HSZ.out hk4.below.size))))
                have hlt4 := Nat.lt_of_lt_of_le HGL.out HBW.out
                have g0' : w4.cell? ⟨b, off + k * 2, none⟩ = some (.slice pa pn pc) := (hk4.below.cell hlt4).trans g0
                have g1' : w4.cell? ⟨b, off + k * 2 + 1, none⟩ = some (.bool false) := (hk4.below.cell hlt4).trans g1
                clear hpr hka4 hown4 hk4 g0 g1 hlt4
                go_wp2_with fail
                refine H4.out.1.up.mono ?_
                rintro e w' ⟨he, rfl⟩
                obtain rfl : e = .returned (.bool true) := he.trans (by rw [decide_eq_false (by omega)]; rfl)
                clear he
                have HPB4 := Lib.hid ((HPB.out.later (show Below wr.heap.size wr wr from Below.refl _ _)))
                have HSRC : Hid (IsBytes w4 pa pn pc (X.getD k ([], false)).1) := Lib.hid (by
                  have hXw := (HX.out.later (HB.out.trans ((hbl.out.trans H4.out.2.2.1).mono HBW.out))).2.2.2 k hlt
                  obtain ⟨b', off', c0', c1', e', g0'', _, ⟨pa', pn', pc', e2, hs', _⟩, _⟩ := hXw
                  injection e' with e'
                  injection e' with e1 e3
                  rw [← e1, ← e3, g0'] at g0''
                  injection g0'' with g0''
                  rw [e2] at g0''
                  injection g0'' with z1 z2 z3
                  rw [z1, z2, z3]
                  exact hs')
                clear HPB4
                go_wp2_with (at_builtin; refine wpList_append_bytes_at rfl _ _ rfl base (.slice aa la ac) A rfl H4.out.2.1 pa pn pc _ rfl HSRC.out (by have := HALL.out.1; omega) H4.out.2.2.2 ?_; intro v5 w5 hown5 hg5 hat5; have H5 := Lib.hid (And.intro hown5 (And.intro (H4.out.1.grown H4.out.2.1 hown5 hg5 hat5) (Below.grownD (hbl.out.trans H4.out.2.2.1) H4.out.2.2.2 H4.out.2.1 hg5))); clear hown5 hg5 hat5)
                obtain ⟨aa5, ac5, hv5, hbs5, _⟩ := H5.out.1.bytes
                have hlA : (A ++ (X.getD k ([], false)).1).length = la + pn := by rw [List.length_append, HALL.out.1, HPB.out.1]
                rw [hlA] at hv5 hbs5
                subst hv5
                have hb5a := hbs5.2.1
                have hb5b := hbs5.2.2.1
                unfold maxLen at hb5b
                have HLA := Lib.hid hlA
                clear hbs5 hlA
                go_roundw
                case rel =>
                  obtain ⟨q1, q2, q3, q4, q5, q6, q7⟩ := HALL.out
                  obtain ⟨r1, r2⟩ := onlyM_laid D pn _ HPB.out.1 q4
                  exact ⟨k + 1, la + pn, ls, aa5, ac5, sb, sc, by omega, by go_num, rfl, rfl, by omega, by omega, by omega, by omega, Lib.hid ⟨S, A ++ (X.getD k ([], false)).1, laid D pn (X.getD k ([], false)).1, HLA.out, q2, H5.out.1, H5.out.2.1, r1, by rw [r2, q5, List.append_assoc], by rw [HLA.out, HST.out.1]; omega, by have := laid_length D pn (X.getD k ([], false)).1; omega⟩, Lib.hid H5.out.2.2⟩
                case measure => simp [intOf]; omega
          · have hi4 : ¬ (k : Int) < (n : Int) := by omega
            have hun : ls + unitsD D = la := by
              obtain ⟨q1, q2, q3, q4, q5, q6, q7⟩ := HALL.out
              rw [units_only D q4, ← q1, q5, List.length_append, q2]
            obtain ⟨st, fu, hone⟩ := HKA.out.one
            have HONE := Lib.hid hone
            obtain ⟨u, hu⟩ : ∃ u, u = unitsD D := ⟨_, rfl⟩
            rw [← hu] at hun
            have HU := Lib.hid hu
            have hw1 : IntKind.i64.wrap ((la : Int) - (ls : Int)) = (u : Int) := by
              rw [IntWalk.i64_in _ (by omega)]
              omega
            clear hone hu
            go_wp2_with fail
            refine (@Loose_one ⟨_⟩ nF d mb base f st fu _ S D wr HONE.out).mono ?_
            rintro e w' ⟨he, rfl⟩
            obtain rfl : e = .returned (.int .i64 (u : Int)) := he.trans (by rw [HU.out])
            clear he
            go_wp2_with fail
            have hal : Below wr.heap.size wr (wr.alloc (.cells #[.int .i64 keep] 3)) := (Below.refl _ _).alloc (Nat.le_refl _) _
            refine (@Crash_one ⟨_⟩ nF d mb base f st fu _ S D _ 1 1 [keep] _ (Nat.le_trans HSZ.out hal.size) (@One.later ⟨_⟩ _ _ _ _ _ _ _ _ _ _ _ _ HONE.out hal) (IsKeeps.lit wr keep hk0 hk1 _ (by decide))).mono ?_
            rintro e w4 ⟨rfl, ho4, hk4⟩
            have hz : 0 ≤ keep % ((u : Int) + 1) ∧ keep % ((u : Int) + 1) ≤ u := ⟨Int.emod_nonneg _ (by omega), by have := Int.emod_lt_of_pos keep (b := (u : Int) + 1) (by omega); omega⟩
            obtain ⟨z, hzz⟩ : ∃ z : Nat, (z : Int) = keep % ((u : Int) + 1) := ⟨(keep % ((u : Int) + 1)).toNat, by omega⟩
            have hown4 : OwnB w4 base (.slice aa la ac) A := by
              obtain ⟨st', fu', out', es', c', r1, r2⟩ := (HKA.out.later hal).row
              exact (HALL.out.2.2.1.move (fun g hg => hal.block g (HALL.out.2.2.1.1.lt g hg).2)).keptD hk4 r1 r2
            have hbytes4 : IsBytes w4 aa la ac A := by
              obtain ⟨a', c', e', hb', _⟩ := hown4.bytes
              rw [HALL.out.1] at e' hb'
              cases e'
              exact hb'
            obtain ⟨t, ht⟩ : ∃ t : Nat, t = ls + z := ⟨_, rfl⟩
            have hst := slice_to hbytes4 t (by omega)
            have hsl := hst.1
            have HSB := Lib.hid hst.2
            have HOW4 := Lib.hid hown4
            have H4 : Hid (@One ⟨Value.ownBlock (.slice aa la ac)⟩ w4 st (-1) false d mb base nF f (A.take t) [] ∧ Below base w1 w4) := Lib.hid (by
              obtain ⟨q1, q2, q3, q4, q5, q6, q7⟩ := HALL.out
              have e1 : unitK [keep] 0 D = (z : Int) := by
                unfold unitK
                rw [if_pos (by simp), ← HU.out, hzz]
                rfl
              have e2 : afterZ S D (unitK [keep] 0 D) = A.take t := by
                rw [e1, after_only D S z q4, ht, q5, List.take_append, q2, List.take_of_length_le (show S.length ≤ ls + z by omega), show ls + z - ls = z by omega]
              rw [e2] at ho4
              exact ⟨ho4, (hbl.out.trans (hal.mono HSZ.out)).trans hk4.below⟩)
            have HS4 := Lib.hid (Nat.le_trans HSZ.out (Nat.le_trans hal.size hk4.below.size))
            have hw2 : IntKind.i64.wrap ((u : Int) + 1) = (u : Int) + 1 := IntWalk.i64_in _ (by omega)
            have hw3 : IntKind.i64.wrap ((ls : Int) + (z : Int)) = (t : Int) := by
              rw [IntWalk.i64_in _ (by omega)]
              omega
            have HT : Hid (t = ls + z ∧ ls + z ≤ la) := Lib.hid ⟨ht, by omega⟩
            clear ho4 hk4 hal hown4 hbytes4 hst ht
            go_wp2_with fail
            refine (Pick_any keep ((u : Int) + 1) w4 hk0 hk1 (by omega) (by omega)).mono ?_
            rintro e w' ⟨rfl, rfl⟩
            go_wp2_with fail
            rw [show ((ls : Int) + keep % ((u : Int) + 1)).toNat = t by have := HT.out; omega]
            refine (@reads_one ⟨_⟩ nF d mb base f _ _ _ [] _ _ _ (A.take t) w4 H4.out.1 HSB.out).mono ?_
            rintro e w5 ⟨he, hb5⟩
            obtain rfl : e = .returned (.bool true) := he.trans (by rw [show runD (A.take t) [] = A.take t from rfl]; simp)
            have H5 := Lib.hid (And.intro (@One.later ⟨_⟩ _ _ _ _ _ _ _ _ _ _ _ _ H4.out.1 hb5) (And.intro (H4.out.2.trans (hb5.mono HS4.out)) (HOW4.out.move (fun g hg => hb5.block g (HOW4.out.1.lt g hg).2))))
            have HS5 := Lib.hid (Nat.le_trans HS4.out hb5.size)
            clear he hb5
            go_wp2_with fail
            obtain ⟨c', C', hg', hC'⟩ := H5.out.1
            refine (Up_any _ _ _ _ _ w5 (@DiskG.dm ⟨_⟩ _ _ _ _ _ _ _ _ _ hg').2.2.1).mono ?_
            clear hg' hC'
            rintro e w' ⟨rfl, rfl⟩
            clear c' C'
            go_wp2_with fail
            obtain ⟨k2, hk2⟩ : ∃ k2, k2 = wrap64 (keep + 1) := ⟨_, rfl⟩
            have hk2b := wrap_in64 (keep + 1)
            rw [← hk2] at hk2b
            try rw [← hk2]
            have hal : Below w5.heap.size w5 (w5.alloc (.cells #[.int .i64 k2] 3)) := (Below.refl _ _).alloc (Nat.le_refl _) _
            refine (@Crash_one ⟨_⟩ nF d mb base f _ _ _ _ [] _ 1 1 [k2] _ (Nat.le_trans HS5.out hal.size) (@One.later ⟨_⟩ _ _ _ _ _ _ _ _ _ _ _ _ H5.out.1 hal) (IsKeeps.lit w5 k2 hk2b.1 hk2b.2 _ (by decide))).mono ?_
            rintro e w6 ⟨rfl, ho6, hk6⟩
            rw [afterZ_nil] at ho6
            have hbs6 : IsBytes w6 aa t ac (A.take t) := by
              have hown6 : OwnB w6 base (.slice aa la ac) A := by
                obtain ⟨c', C', hg', hC'⟩ := @One.later ⟨_⟩ _ _ _ _ _ _ _ _ _ _ _ _ H5.out.1 hal
                obtain ⟨_, _, h3, cc, _, h5⟩ := @DiskG.dm ⟨_⟩ _ _ _ _ _ _ _ _ _ hg'
                exact (H5.out.2.2.move (fun g hg => hal.block g (H5.out.2.2.1.lt g hg).2)).keptD hk6 h3 h5
              obtain ⟨a', c', e', hb', _⟩ := hown6.bytes
              rw [HALL.out.1] at e' hb'
              cases e'
              exact (slice_to hb' t (by have := HT.out; omega)).2
            have H6 := Lib.hid (And.intro ho6 (And.intro ((H5.out.2.1.trans (hal.mono HS5.out)).trans hk6.below) hbs6))
            have HS6 := Lib.hid (Nat.le_trans HS5.out (Nat.le_trans hal.size hk6.below.size))
            clear ho6 hk6 hal hbs6 hk2 hk2b
            go_wp2_with fail
            refine (@reads_one ⟨_⟩ nF d mb base f _ _ _ [] _ _ _ (A.take t) w6 H6.out.1 H6.out.2.2).mono ?_
            rintro e w7 ⟨he, hb7⟩
            obtain rfl : e = .returned (.bool true) := he.trans (by rw [show runD (A.take t) [] = A.take t from rfl]; simp)
            have H7 := Lib.hid (And.intro (@One.later ⟨_⟩ _ _ _ _ _ _ _ _ _ _ _ _ H6.out.1 hb7) (H6.out.2.1.trans (hb7.mono HS6.out)))
            clear he hb7
            go_wp2_with fail
            refine (@Loose_one ⟨_⟩ nF d mb base f _ _ _ _ [] w7 H7.out.1).mono ?_
            rintro e w' ⟨he, rfl⟩
            obtain rfl : e = .returned (.int .i64 0) := he.trans (by rfl)
            clear he
            go_wp2_with fail
            go_ret
            exact ⟨rfl, HB.out.trans (H7.out.2.mono HBW.out)⟩
    · by_cases hb1 : (60 : Int) < (n : Int)
      · go_wp2_with fail
        go_ret
        exact ⟨rfl, HB.out⟩
      · have hb2 : (3000 : Int) < (sm : Int) := by omega
        go_wp2_with fail
        go_ret
        exact ⟨rfl, HB.out⟩
end Go.Proofs.Ytmpjjkfbojhfoaa

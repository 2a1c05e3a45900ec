/- layer 27's statements: DiskNames -/
import Derived.Test.YtmpjjkfbojhfoaaDTwo
namespace Go.Proofs.Ytmpjjkfbojhfoaa
open Go.RowKit Go.Sort
def nNew : ByteArray := { data := #[110, 101, 119] }
def nOld : ByteArray := { data := #[111, 108, 100] }
theorem nNew_fit : nameP nNew.data.toList = true := by decide
theorem nOld_fit : nameP nOld.data.toList = true := by decide
theorem new_old : nNew ≠ nOld := by decide
theorem runD_one (S : List UInt8) (n : Nat) (B : List UInt8) (h : B.length = n) : runD S (laid [] n B) = S ++ B := by
  rw [runD_laid _ _ _ _ h]
  rfl
theorem units_one (n : Nat) (B : List UInt8) (h : B.length = n) : unitsD (laid [] n B) = n := by
  rw [unitsD_laid _ _ _ h]
  simp [unitsD]
theorem laid_some (n : Nat) (B : List UInt8) (h : n ≠ 0) : laid [] n B ≠ [] := by
  unfold laid
  rw [if_neg h]
  simp
theorem new_no (f c : Nat) : fileOf nNew [(nOld, f, c)] = none := by
  rw [fileOf_next _ _ _ new_old]
  rfl
set_option maxRecDepth 100000 in
set_option maxHeartbeats 4000000 in
theorem DiskNames_any (ao : Option Addr) (n cap : Nat) (L : List UInt8) (bo : Option Addr) (m cap2 : Nat) (L2 : List UInt8) (s : Bool) (w : World) (hL : IsBytes w ao n cap L) (hL2 : IsBytes w bo m cap2 L2) :
    Calls Try.prog 6 #[.slice ao n cap, .slice bo m cap2, .bool s] w fun e w' => e = .returned (.bool true) ∧ Below w.heap.size w w' := by
  have hn1 := hL.2.1
  have hn2 := hL2.2.1
  have hc1 := hL.2.2.1
  have hc2 := hL2.2.2.1
  unfold maxLen at hc1 hc2
  have HL := Lib.hid hL
  have HL2 := Lib.hid hL2
  clear hL hL2
  go_enter Try.func6, Try.ntmps6
  go_wp2_with fail
  refine (awake_any w).mono ?_
  rintro e wa ⟨rfl, hba⟩
  have HBA := Lib.hid hba
  clear hba
  go_wp2_with fail
  refine (New_G wa (fun _ => ([], [])) (ZW0 wa)).mono ?_
  rintro e w1 ⟨d, mb, rfl, hmb, hmd, hg, hb⟩
  have HB := Lib.hid (HBA.out.trans (hb.mono HBA.out.size))
  obtain ⟨base, hbase⟩ : ∃ b, b = wa.heap.size := ⟨_, rfl⟩
  rw [← hbase] at hg
  have H1 := Lib.hid (And.intro hg (Kept.refl d mb base w1))
  have HS1 : Hid (base ≤ w1.heap.size) := Lib.hid (by rw [hbase]; exact hb.size)
  have HBW : Hid (w.heap.size ≤ base) := Lib.hid (by rw [hbase]; exact HBA.out.size)
  have HL1 := Lib.hid (And.intro (HL.out.later HB.out) (HL2.out.later HB.out))
  clear hg hb hmb hmd hbase
  by_cases hbig : n ≤ 500 ∧ m ≤ 500
  · obtain ⟨hb1, hb2⟩ := hbig
    have hi1 : ¬ (500 : Int) < (n : Int) := by omega
    have hi2 : ¬ (500 : Int) < (m : Int) := by omega
    go_wp2_with fail
    have h' := H1.out
    refine (Append_one_new (nm := nNew) d mb base _ _ _ _ n cap L _ HS1.out nNew_fit H1.out.1 HL1.out.1 (by omega)).mono ?_
    rintro e w2 ⟨z, rfl, hs, hk⟩
    obtain ⟨rfl, f1, hf, ho⟩ := hs.done (by omega)
    rw [dec_none] at ho
    have H2 := Lib.hid (And.intro ho hk)
    have HS2 := Lib.hid (Nat.le_trans HS1.out hk.below.size)
    clear ho hk hs hf h'
    go_wp2_with fail
    refine (Append_two_new (n1 := nNew) (n2 := nOld) d mb base f1 _ _ _ _ _ m cap2 L2 _ HS2.out new_old nOld_fit H2.out.1 (HL2.out.later (HB.out.trans (H2.out.2.below.mono HBW.out))) (by omega)).mono ?_
    rintro e w3 ⟨z, rfl, hs, hk⟩
    obtain ⟨rfl, f2, ho⟩ := hs.done (by omega)
    rw [dec_none] at ho
    have H3 := Lib.hid (And.intro ho (H2.out.2.trans hk))
    have HS3 := Lib.hid (Nat.le_trans HS2.out hk.below.size)
    clear ho hk hs
    have hlen := HL.out.1
    have hlen2 := HL2.out.1
    by_cases hn0 : (0 : Int) < (n : Int)
    · cases s with
      | true =>
        go_wp2_with fail
        refine (Rename_two (n1 := nNew) (n2 := nOld) d mb base f1 f2 _ _ _ _ _ _ w3 HS3.out nOld_fit H3.out.1).mono ?_
        rintro e w4 ⟨z, rfl, hs, hk⟩
        obtain ⟨rfl, ho⟩ : z = 9 ∧ _ := by
          rcases hs with ⟨_, q1, q2⟩ | ⟨q1, _⟩
          · exact ⟨q1, q2⟩
          · exact absurd q1 (laid_some n L (by omega))
        have H4 := Lib.hid (And.intro ho (H3.out.2.trans hk))
        have HS4 := Lib.hid (Nat.le_trans HS3.out hk.below.size)
        clear ho hk hs
        go_wp2_with fail
        refine (Sync_two2 (n1 := nNew) (n2 := nOld) d mb base f1 f2 _ _ _ _ _ _ w4 HS4.out H4.out.1).mono ?_
        rintro e w5 ⟨z, rfl, hs, hk⟩
        obtain ⟨rfl, ho⟩ := hs.done (by omega)
        rw [dec_none] at ho
        have H5 := Lib.hid (And.intro ho (H4.out.2.trans hk))
        have HS5 := Lib.hid (Nat.le_trans HS4.out hk.below.size)
        clear ho hk hs
        go_wp2_with fail
        refine (Sync_two1 (n1 := nNew) (n2 := nOld) d mb base f1 f2 _ _ _ _ _ _ w5 HS5.out H5.out.1).mono ?_
        rintro e w6 ⟨z, rfl, hs, hk⟩
        obtain ⟨rfl, ho⟩ := hs.done (by omega)
        rw [dec_none] at ho
        have H6 := Lib.hid (And.intro ho (H5.out.2.trans hk))
        have HS6 := Lib.hid (Nat.le_trans HS5.out hk.below.size)
        clear ho hk hs
        go_wp2_with fail
        refine (Rename_two (n1 := nNew) (n2 := nOld) d mb base f1 f2 _ _ _ _ _ _ w6 HS6.out nOld_fit H6.out.1).mono ?_
        rintro e w7 ⟨z, rfl, hs, hk⟩
        obtain ⟨rfl, ho⟩ : z = 0 ∧ _ := by
          rcases hs with ⟨q1, _⟩ | ⟨_, q2⟩
          · exact absurd rfl q1
          · exact q2.done (by omega)
        rw [dec_none, runD_one _ _ _ hlen, List.nil_append] at ho
        have H7 := Lib.hid (And.intro ho (H6.out.2.trans hk))
        have HS7 := Lib.hid (Nat.le_trans HS6.out hk.below.size)
        clear ho hk hs
        go_wp2_with fail
        refine (reads_one (nm := nOld) d mb base f1 _ _ _ _ _ n cap L _ H7.out.1 (HL.out.later (HB.out.trans (H7.out.2.below.mono HBW.out)))).mono ?_
        rintro e w8 ⟨he, hb⟩
        obtain rfl : e = .returned (.bool true) := he.trans (by rw [show runD L [] = L from rfl]; simp)
        clear he
        have H8 := Lib.hid (And.intro (H7.out.1.later hb) (H7.out.2.trans (.of_below hb HS7.out)))
        have HS8 := Lib.hid (Nat.le_trans HS7.out hb.size)
        clear hb
        go_wp2_with fail
        refine (Loose_one (nm := nOld) d mb base f1 _ _ _ _ _ w8 H8.out.1).mono ?_
        rintro e w' ⟨he, rfl⟩
        obtain rfl : e = .returned (.int .i64 0) := he.trans (by rfl)
        clear he
        go_wp2_with fail
        refine (Names_one d mb base f1 nOld _ _ _ _ _ w8 H8.out.1).mono ?_
        rintro e w9 ⟨na, ncap, rfl, ht, hb⟩
        have HT := Lib.hid ht
        clear ht
        have H9 := Lib.hid (And.intro (H8.out.1.later hb) (H8.out.2.trans (.of_below hb HS8.out)))
        have HS9 := Lib.hid (Nat.le_trans HS8.out hb.size)
        clear hb
        go_wp2_with fail
        refine (SameTexts_any _ _ 1 1 _ _ [nOld] [nOld] _ (HT.out.later ((Below.refl _ _).alloc (Nat.le_refl _) _)) (IsTexts.lit w9 nOld _)).mono ?_
        rintro e w10 ⟨r, rfl, hr, hb⟩
        obtain rfl : r = true := hr.2 rfl
        clear hr
        have hb : Below w9.heap.size w9 w10 := ((Below.refl _ _).alloc (Nat.le_refl _) _).trans (hb.mono (by simp))
        have H10 := Lib.hid (And.intro (H9.out.1.later hb) (H9.out.2.trans (.of_below hb HS9.out)))
        have HS10 := Lib.hid (Nat.le_trans HS9.out hb.size)
        clear hb
        go_wp2_with fail
        refine (Crash_one (nm := nOld) d mb base f1 _ _ _ _ _ _ 0 0 [] _ HS10.out H10.out.1 (IsKeeps.nil _)).mono ?_
        rintro e w11 ⟨rfl, ho, hk⟩
        rw [afterZ_nil] at ho
        have H11 := Lib.hid (And.intro ho (H10.out.2.trans hk))
        have HS11 := Lib.hid (Nat.le_trans HS10.out hk.below.size)
        clear ho hk
        go_wp2_with fail
        obtain ⟨c, C, hg, hC⟩ := H11.out.1
        obtain ⟨cc, hm⟩ := hg.dm.map
        refine (Read_none (nm := nNew) d mb cc _ _ _ w11 hg.dm.2.2.1 hm (new_no _ _)).mono ?_
        clear hg hC hm
        rintro e w' ⟨rfl, rfl⟩
        clear c C cc
        go_wp2_with fail
        refine (reads_one (nm := nOld) d mb base f1 _ _ _ _ _ n cap L _ H11.out.1 (HL.out.later (HB.out.trans (H11.out.2.below.mono HBW.out)))).mono ?_
        rintro e w12 ⟨he, hb⟩
        obtain rfl : e = .returned (.bool true) := he.trans (by rw [show runD L [] = L from rfl]; simp)
        clear he
        have H12 := Lib.hid (And.intro (H11.out.1.later hb) (H11.out.2.trans (.of_below hb HS11.out)))
        have HS12 := Lib.hid (Nat.le_trans HS11.out hb.size)
        clear hb
        go_wp2_with fail
        go_ret
        exact ⟨rfl, HB.out.trans (H12.out.2.below.mono HBW.out)⟩
      | false =>
        go_wp2_with fail
        refine (Rename_two (n1 := nNew) (n2 := nOld) d mb base f1 f2 _ _ _ _ _ _ w3 HS3.out nOld_fit H3.out.1).mono ?_
        rintro e w4 ⟨z, rfl, hs, hk⟩
        obtain ⟨rfl, ho⟩ : z = 9 ∧ _ := by
          rcases hs with ⟨_, q1, q2⟩ | ⟨q1, _⟩
          · exact ⟨q1, q2⟩
          · exact absurd q1 (laid_some n L (by omega))
        have H4 := Lib.hid (And.intro ho (H3.out.2.trans hk))
        have HS4 := Lib.hid (Nat.le_trans HS3.out hk.below.size)
        clear ho hk hs
        go_wp2_with fail
        refine (Sync_two1 (n1 := nNew) (n2 := nOld) d mb base f1 f2 _ _ _ _ _ _ w4 HS4.out H4.out.1).mono ?_
        rintro e w5 ⟨z, rfl, hs, hk⟩
        obtain ⟨rfl, ho⟩ := hs.done (by omega)
        rw [dec_none] at ho
        have H5 := Lib.hid (And.intro ho (H4.out.2.trans hk))
        have HS5 := Lib.hid (Nat.le_trans HS4.out hk.below.size)
        clear ho hk hs
        go_wp2_with fail
        refine (Rename_two (n1 := nNew) (n2 := nOld) d mb base f1 f2 _ _ _ _ _ _ w5 HS5.out nOld_fit H5.out.1).mono ?_
        rintro e w6 ⟨z, rfl, hs, hk⟩
        obtain ⟨rfl, ho⟩ : z = 0 ∧ _ := by
          rcases hs with ⟨q1, _⟩ | ⟨_, q2⟩
          · exact absurd rfl q1
          · exact q2.done (by omega)
        rw [dec_none, runD_one _ _ _ hlen, List.nil_append] at ho
        have H6 := Lib.hid (And.intro ho (H5.out.2.trans hk))
        have HS6 := Lib.hid (Nat.le_trans HS5.out hk.below.size)
        clear ho hk hs
        go_wp2_with fail
        refine (reads_one (nm := nOld) d mb base f1 _ _ _ _ _ n cap L _ H6.out.1 (HL.out.later (HB.out.trans (H6.out.2.below.mono HBW.out)))).mono ?_
        rintro e w7 ⟨he, hb⟩
        obtain rfl : e = .returned (.bool true) := he.trans (by rw [show runD L [] = L from rfl]; simp)
        clear he
        have H7 := Lib.hid (And.intro (H6.out.1.later hb) (H6.out.2.trans (.of_below hb HS6.out)))
        have HS7 := Lib.hid (Nat.le_trans HS6.out hb.size)
        clear hb
        go_wp2_with fail
        refine (Loose_one (nm := nOld) d mb base f1 _ _ _ _ _ w7 H7.out.1).mono ?_
        rintro e w' ⟨he, rfl⟩
        obtain rfl : e = .returned (.int .i64 0) := he.trans (by rfl)
        clear he
        go_wp2_with fail
        refine (Names_one d mb base f1 nOld _ _ _ _ _ w7 H7.out.1).mono ?_
        rintro e w8 ⟨na, ncap, rfl, ht, hb⟩
        have HT := Lib.hid ht
        clear ht
        have H8 := Lib.hid (And.intro (H7.out.1.later hb) (H7.out.2.trans (.of_below hb HS7.out)))
        have HS8 := Lib.hid (Nat.le_trans HS7.out hb.size)
        clear hb
        go_wp2_with fail
        refine (SameTexts_any _ _ 1 1 _ _ [nOld] [nOld] _ (HT.out.later ((Below.refl _ _).alloc (Nat.le_refl _) _)) (IsTexts.lit w8 nOld _)).mono ?_
        rintro e w9 ⟨r, rfl, hr, hb⟩
        obtain rfl : r = true := hr.2 rfl
        clear hr
        have hb : Below w8.heap.size w8 w9 := ((Below.refl _ _).alloc (Nat.le_refl _) _).trans (hb.mono (by simp))
        have H9 := Lib.hid (And.intro (H8.out.1.later hb) (H8.out.2.trans (.of_below hb HS8.out)))
        have HS9 := Lib.hid (Nat.le_trans HS8.out hb.size)
        clear hb
        go_wp2_with fail
        refine (Crash_one (nm := nOld) d mb base f1 _ _ _ _ _ _ 0 0 [] _ HS9.out H9.out.1 (IsKeeps.nil _)).mono ?_
        rintro e w10 ⟨rfl, ho, hk⟩
        rw [afterZ_nil] at ho
        have H10 := Lib.hid (And.intro ho (H9.out.2.trans hk))
        have HS10 := Lib.hid (Nat.le_trans HS9.out hk.below.size)
        clear ho hk
        go_wp2_with fail
        obtain ⟨c, C, hg, hC⟩ := H10.out.1
        obtain ⟨cc, hm⟩ := hg.dm.map
        refine (Read_none (nm := nNew) d mb cc _ _ _ w10 hg.dm.2.2.1 hm (new_no _ _)).mono ?_
        clear hg hC hm
        rintro e w' ⟨rfl, rfl⟩
        clear c C cc
        go_wp2_with fail
        refine (reads_one (nm := nOld) d mb base f1 _ _ _ _ _ n cap L _ H10.out.1 (HL.out.later (HB.out.trans (H10.out.2.below.mono HBW.out)))).mono ?_
        rintro e w11 ⟨he, hb⟩
        obtain rfl : e = .returned (.bool true) := he.trans (by rw [show runD L [] = L from rfl]; simp)
        clear he
        have H11 := Lib.hid (And.intro (H10.out.1.later hb) (H10.out.2.trans (.of_below hb HS10.out)))
        have HS11 := Lib.hid (Nat.le_trans HS10.out hb.size)
        clear hb
        go_wp2_with fail
        go_ret
        exact ⟨rfl, HB.out.trans (H11.out.2.below.mono HBW.out)⟩
    · cases s with
      | true =>
        go_wp2_with fail
        refine (Sync_two2 (n1 := nNew) (n2 := nOld) d mb base f1 f2 _ _ _ _ _ _ w3 HS3.out H3.out.1).mono ?_
        rintro e w4 ⟨z, rfl, hs, hk⟩
        obtain ⟨rfl, ho⟩ := hs.done (by omega)
        rw [dec_none] at ho
        have H4 := Lib.hid (And.intro ho (H3.out.2.trans hk))
        have HS4 := Lib.hid (Nat.le_trans HS3.out hk.below.size)
        clear ho hk hs
        go_wp2_with fail
        refine (Sync_two1 (n1 := nNew) (n2 := nOld) d mb base f1 f2 _ _ _ _ _ _ w4 HS4.out H4.out.1).mono ?_
        rintro e w5 ⟨z, rfl, hs, hk⟩
        obtain ⟨rfl, ho⟩ := hs.done (by omega)
        rw [dec_none] at ho
        have H5 := Lib.hid (And.intro ho (H4.out.2.trans hk))
        have HS5 := Lib.hid (Nat.le_trans HS4.out hk.below.size)
        clear ho hk hs
        go_wp2_with fail
        refine (Rename_two (n1 := nNew) (n2 := nOld) d mb base f1 f2 _ _ _ _ _ _ w5 HS5.out nOld_fit H5.out.1).mono ?_
        rintro e w6 ⟨z, rfl, hs, hk⟩
        obtain ⟨rfl, ho⟩ : z = 0 ∧ _ := by
          rcases hs with ⟨q1, _⟩ | ⟨_, q2⟩
          · exact absurd rfl q1
          · exact q2.done (by omega)
        rw [dec_none, runD_one _ _ _ hlen, List.nil_append] at ho
        have H6 := Lib.hid (And.intro ho (H5.out.2.trans hk))
        have HS6 := Lib.hid (Nat.le_trans HS5.out hk.below.size)
        clear ho hk hs
        go_wp2_with fail
        refine (reads_one (nm := nOld) d mb base f1 _ _ _ _ _ n cap L _ H6.out.1 (HL.out.later (HB.out.trans (H6.out.2.below.mono HBW.out)))).mono ?_
        rintro e w7 ⟨he, hb⟩
        obtain rfl : e = .returned (.bool true) := he.trans (by rw [show runD L [] = L from rfl]; simp)
        clear he
        have H7 := Lib.hid (And.intro (H6.out.1.later hb) (H6.out.2.trans (.of_below hb HS6.out)))
        have HS7 := Lib.hid (Nat.le_trans HS6.out hb.size)
        clear hb
        go_wp2_with fail
        refine (Loose_one (nm := nOld) d mb base f1 _ _ _ _ _ w7 H7.out.1).mono ?_
        rintro e w' ⟨he, rfl⟩
        obtain rfl : e = .returned (.int .i64 0) := he.trans (by rfl)
        clear he
        go_wp2_with fail
        refine (Names_one d mb base f1 nOld _ _ _ _ _ w7 H7.out.1).mono ?_
        rintro e w8 ⟨na, ncap, rfl, ht, hb⟩
        have HT := Lib.hid ht
        clear ht
        have H8 := Lib.hid (And.intro (H7.out.1.later hb) (H7.out.2.trans (.of_below hb HS7.out)))
        have HS8 := Lib.hid (Nat.le_trans HS7.out hb.size)
        clear hb
        go_wp2_with fail
        refine (SameTexts_any _ _ 1 1 _ _ [nOld] [nOld] _ (HT.out.later ((Below.refl _ _).alloc (Nat.le_refl _) _)) (IsTexts.lit w8 nOld _)).mono ?_
        rintro e w9 ⟨r, rfl, hr, hb⟩
        obtain rfl : r = true := hr.2 rfl
        clear hr
        have hb : Below w8.heap.size w8 w9 := ((Below.refl _ _).alloc (Nat.le_refl _) _).trans (hb.mono (by simp))
        have H9 := Lib.hid (And.intro (H8.out.1.later hb) (H8.out.2.trans (.of_below hb HS8.out)))
        have HS9 := Lib.hid (Nat.le_trans HS8.out hb.size)
        clear hb
        go_wp2_with fail
        refine (Crash_one (nm := nOld) d mb base f1 _ _ _ _ _ _ 0 0 [] _ HS9.out H9.out.1 (IsKeeps.nil _)).mono ?_
        rintro e w10 ⟨rfl, ho, hk⟩
        rw [afterZ_nil] at ho
        have H10 := Lib.hid (And.intro ho (H9.out.2.trans hk))
        have HS10 := Lib.hid (Nat.le_trans HS9.out hk.below.size)
        clear ho hk
        go_wp2_with fail
        obtain ⟨c, C, hg, hC⟩ := H10.out.1
        obtain ⟨cc, hm⟩ := hg.dm.map
        refine (Read_none (nm := nNew) d mb cc _ _ _ w10 hg.dm.2.2.1 hm (new_no _ _)).mono ?_
        clear hg hC hm
        rintro e w' ⟨rfl, rfl⟩
        clear c C cc
        go_wp2_with fail
        refine (reads_one (nm := nOld) d mb base f1 _ _ _ _ _ n cap L _ H10.out.1 (HL.out.later (HB.out.trans (H10.out.2.below.mono HBW.out)))).mono ?_
        rintro e w11 ⟨he, hb⟩
        obtain rfl : e = .returned (.bool true) := he.trans (by rw [show runD L [] = L from rfl]; simp)
        clear he
        have H11 := Lib.hid (And.intro (H10.out.1.later hb) (H10.out.2.trans (.of_below hb HS10.out)))
        have HS11 := Lib.hid (Nat.le_trans HS10.out hb.size)
        clear hb
        go_wp2_with fail
        go_ret
        exact ⟨rfl, HB.out.trans (H11.out.2.below.mono HBW.out)⟩
      | false =>
        go_wp2_with fail
        refine (Sync_two1 (n1 := nNew) (n2 := nOld) d mb base f1 f2 _ _ _ _ _ _ w3 HS3.out H3.out.1).mono ?_
        rintro e w4 ⟨z, rfl, hs, hk⟩
        obtain ⟨rfl, ho⟩ := hs.done (by omega)
        rw [dec_none] at ho
        have H4 := Lib.hid (And.intro ho (H3.out.2.trans hk))
        have HS4 := Lib.hid (Nat.le_trans HS3.out hk.below.size)
        clear ho hk hs
        go_wp2_with fail
        refine (Rename_two (n1 := nNew) (n2 := nOld) d mb base f1 f2 _ _ _ _ _ _ w4 HS4.out nOld_fit H4.out.1).mono ?_
        rintro e w5 ⟨z, rfl, hs, hk⟩
        obtain ⟨rfl, ho⟩ : z = 0 ∧ _ := by
          rcases hs with ⟨q1, _⟩ | ⟨_, q2⟩
          · exact absurd rfl q1
          · exact q2.done (by omega)
        rw [dec_none, runD_one _ _ _ hlen, List.nil_append] at ho
        have H5 := Lib.hid (And.intro ho (H4.out.2.trans hk))
        have HS5 := Lib.hid (Nat.le_trans HS4.out hk.below.size)
        clear ho hk hs
        go_wp2_with fail
        refine (reads_one (nm := nOld) d mb base f1 _ _ _ _ _ n cap L _ H5.out.1 (HL.out.later (HB.out.trans (H5.out.2.below.mono HBW.out)))).mono ?_
        rintro e w6 ⟨he, hb⟩
        obtain rfl : e = .returned (.bool true) := he.trans (by rw [show runD L [] = L from rfl]; simp)
        clear he
        have H6 := Lib.hid (And.intro (H5.out.1.later hb) (H5.out.2.trans (.of_below hb HS5.out)))
        have HS6 := Lib.hid (Nat.le_trans HS5.out hb.size)
        clear hb
        go_wp2_with fail
        refine (Loose_one (nm := nOld) d mb base f1 _ _ _ _ _ w6 H6.out.1).mono ?_
        rintro e w' ⟨he, rfl⟩
        obtain rfl : e = .returned (.int .i64 0) := he.trans (by rfl)
        clear he
        go_wp2_with fail
        refine (Names_one d mb base f1 nOld _ _ _ _ _ w6 H6.out.1).mono ?_
        rintro e w7 ⟨na, ncap, rfl, ht, hb⟩
        have HT := Lib.hid ht
        clear ht
        have H7 := Lib.hid (And.intro (H6.out.1.later hb) (H6.out.2.trans (.of_below hb HS6.out)))
        have HS7 := Lib.hid (Nat.le_trans HS6.out hb.size)
        clear hb
        go_wp2_with fail
        refine (SameTexts_any _ _ 1 1 _ _ [nOld] [nOld] _ (HT.out.later ((Below.refl _ _).alloc (Nat.le_refl _) _)) (IsTexts.lit w7 nOld _)).mono ?_
        rintro e w8 ⟨r, rfl, hr, hb⟩
        obtain rfl : r = true := hr.2 rfl
        clear hr
        have hb : Below w7.heap.size w7 w8 := ((Below.refl _ _).alloc (Nat.le_refl _) _).trans (hb.mono (by simp))
        have H8 := Lib.hid (And.intro (H7.out.1.later hb) (H7.out.2.trans (.of_below hb HS7.out)))
        have HS8 := Lib.hid (Nat.le_trans HS7.out hb.size)
        clear hb
        go_wp2_with fail
        refine (Crash_one (nm := nOld) d mb base f1 _ _ _ _ _ _ 0 0 [] _ HS8.out H8.out.1 (IsKeeps.nil _)).mono ?_
        rintro e w9 ⟨rfl, ho, hk⟩
        rw [afterZ_nil] at ho
        have H9 := Lib.hid (And.intro ho (H8.out.2.trans hk))
        have HS9 := Lib.hid (Nat.le_trans HS8.out hk.below.size)
        clear ho hk
        go_wp2_with fail
        obtain ⟨c, C, hg, hC⟩ := H9.out.1
        obtain ⟨cc, hm⟩ := hg.dm.map
        refine (Read_none (nm := nNew) d mb cc _ _ _ w9 hg.dm.2.2.1 hm (new_no _ _)).mono ?_
        clear hg hC hm
        rintro e w' ⟨rfl, rfl⟩
        clear c C cc
        go_wp2_with fail
        refine (reads_one (nm := nOld) d mb base f1 _ _ _ _ _ n cap L _ H9.out.1 (HL.out.later (HB.out.trans (H9.out.2.below.mono HBW.out)))).mono ?_
        rintro e w10 ⟨he, hb⟩
        obtain rfl : e = .returned (.bool true) := he.trans (by rw [show runD L [] = L from rfl]; simp)
        clear he
        have H10 := Lib.hid (And.intro (H9.out.1.later hb) (H9.out.2.trans (.of_below hb HS9.out)))
        have HS10 := Lib.hid (Nat.le_trans HS9.out hb.size)
        clear hb
        go_wp2_with fail
        go_ret
        exact ⟨rfl, HB.out.trans (H10.out.2.below.mono HBW.out)⟩
  · by_cases hb1 : (500 : Int) < (n : Int)
    · go_wp2_with fail
      go_ret
      exact ⟨rfl, HB.out⟩
    · have hb2 : (500 : Int) < (m : Int) := by omega
      go_wp2_with fail
      go_ret
      exact ⟨rfl, HB.out⟩
end Go.Proofs.Ytmpjjkfbojhfoaa

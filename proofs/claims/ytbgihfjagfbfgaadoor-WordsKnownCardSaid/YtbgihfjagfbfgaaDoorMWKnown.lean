/- layer 16: WordsKnown -/
import Derived.Test.YtbgihfjagfbfgaaDoorMWKit
set_option linter.unusedSimpArgs false
set_option linter.unusedVariables false
namespace Go.Proofs.YtbgihfjagfbfgaaDoor
open Go.RowKit Go.Words
attribute [local go_sem] Oper.semAt_some
theorem k1 : firstS (kindP 1) [83, 84] = some [83, 84] := by decide +kernel
theorem k2 : firstS (kindP 1) [115, 116, 114, 101, 101, 116] = none := by decide +kernel
theorem k3 : firstS (kindP 3) [83, 84] = none := by decide +kernel
theorem k4 : firstL (kindP 3) [78, 69, 87, 32, 89, 79, 82, 75] = none := by decide +kernel
theorem k5 : firstS (kindP 3) [78, 69, 87, 32, 89, 79, 82, 75] = some [78, 89] := by decide +kernel
set_option maxRecDepth 100000 in
set_option maxHeartbeats 4000000 in
theorem WordsKnown_any (w : World) (h : Tb w) : Calls Tryd.prog 7 #[] w fun e w' => e = .returned (.bool true) ∧ Below w.heap.size w w' := by
  have HT := Lib.hid h
  clear h
  have HS : Hid (∀ (k : Int) (x : Wd) (wX : World), Tb wX → Calls Tryd.prog 9 #[.int .i64 k, sV x] wX fun e w' => e = .returned (foundV (firstS (kindP k) x)) ∧ Below wX.heap.size wX w') := Lib.hid (fun k x wX hT => by
    have := Short_any k x wX hT
    rw [short_is] at this
    exact this)
  have HL : Hid (∀ (k : Int) (x : Wd) (wX : World), Tb wX → Calls Tryd.prog 10 #[.int .i64 k, sV x] wX fun e w' => e = .returned (foundV (firstL (kindP k) x)) ∧ Below wX.heap.size wX w') := Lib.hid (fun k x wX hT => by
    have := Long_any k x wX hT
    rw [long_is] at this
    exact this)
  have q1 : ((bs [83, 84]).toList == [83, 84]) = true := (bs_lit _ _).trans (decide_eq_true rfl)
  have q2 : ((bs [78, 89]).toList == [78, 89]) = true := (bs_lit _ _).trans (decide_eq_true rfl)
  go_enter Tryd.func7, Tryd.ntmps7
  go_wp2_with fail
  have hs := HS.out 1 [83, 84] w HT.out
  rw [k1] at hs
  refine hs.mono ?_
  clear hs
  rintro e w1 ⟨rfl, hb⟩
  have HB1 := Lib.hid hb
  have HT1 := Lib.hid (HT.out.later hb)
  clear hb
  unfold foundV
  go_wp2_with fail
  have hs := HS.out 1 [115, 116, 114, 101, 101, 116] w1 HT1.out
  rw [k2] at hs
  refine hs.mono ?_
  clear hs
  rintro e w2 ⟨rfl, hb⟩
  have HB2 := Lib.hid (HB1.out.trans (hb.mono HB1.out.size))
  have HT2 := Lib.hid (HT1.out.later hb)
  clear hb
  unfold foundV
  go_wp2_with fail
  have hs := HS.out 3 [83, 84] w2 HT2.out
  rw [k3] at hs
  refine hs.mono ?_
  clear hs
  rintro e w3 ⟨rfl, hb⟩
  have HB3 := Lib.hid (HB2.out.trans (hb.mono HB2.out.size))
  have HT3 := Lib.hid (HT2.out.later hb)
  clear hb
  unfold foundV
  go_wp2_with fail
  have hs := HL.out 3 [78, 69, 87, 32, 89, 79, 82, 75] w3 HT3.out
  rw [k4] at hs
  refine hs.mono ?_
  clear hs
  rintro e w4 ⟨rfl, hb⟩
  have HB4 := Lib.hid (HB3.out.trans (hb.mono HB3.out.size))
  have HT4 := Lib.hid (HT3.out.later hb)
  clear hb
  unfold foundV
  go_wp2_with fail
  have hs := HS.out 3 [78, 69, 87, 32, 89, 79, 82, 75] w4 HT4.out
  rw [k5] at hs
  refine hs.mono ?_
  clear hs
  rintro e w5 ⟨rfl, hb⟩
  have HB5 := Lib.hid (HB4.out.trans (hb.mono HB4.out.size))
  have HT5 := Lib.hid (HT4.out.later hb)
  clear hb
  unfold foundV
  go_wp2_with fail
  refine (awake_any w5 HT5.out).mono ?_
  rintro e w6 ⟨rfl, hb⟩
  have HB6 := Lib.hid (HB5.out.trans (hb.mono HB5.out.size))
  have HT6 := Lib.hid (HT5.out.later hb)
  clear hb
  go_wp2_with fail
  have ha := All_kind 4 w6 HT6.out
  rw [show kindS 4 = uniS from rfl] at ha
  refine ha.mono ?_
  clear ha
  rintro e w7 ⟨ao, cap, rfl, hi, _, hb⟩
  have HB7 := Lib.hid (HB6.out.trans (hb.mono HB6.out.size))
  have HT7 := Lib.hid (HT6.out.later hb)
  have HI7 := Lib.hid hi
  clear hb hi
  go_wp2_with fail
  refine (SameTexts_any _ _ _ _ _ _ uniS uniS _ (HI7.out.later ((Below.refl _ _).alloc (Nat.le_refl _) _) (Nat.le_refl _)) (lit_strs w7 uniS (by decide))).mono ?_
  rw [decide_eq_true rfl]
  rintro e w8 ⟨rfl, hb⟩
  have hb2 := ((Below.refl w7.heap.size w7).alloc (Nat.le_refl _) (Obj.cells (flatS uniS).toArray 9)).trans (hb.mono (by simp))
  have HB8 := Lib.hid (HB7.out.trans (hb2.mono HB7.out.size))
  have HT8 := Lib.hid (HT7.out.later hb2)
  clear hb hb2
  go_wp2_with fail
  have ha := All_kind 2 w8 HT8.out
  rw [show kindS 2 = dirS from rfl] at ha
  refine ha.mono ?_
  clear ha
  rintro e w9 ⟨ao9, cap9, rfl, hi, _, hb⟩
  have HB9 := Lib.hid (HB8.out.trans (hb.mono HB8.out.size))
  have HT9 := Lib.hid (HT8.out.later hb)
  have HI9 := Lib.hid hi
  clear hb hi
  go_wp2_with fail
  refine (SameTexts_any _ _ _ _ _ _ dirS dirS _ (HI9.out.later ((Below.refl _ _).alloc (Nat.le_refl _) _) (Nat.le_refl _)) (lit_strs w9 dirS (by decide))).mono ?_
  rw [decide_eq_true rfl]
  rintro e w10 ⟨rfl, hb⟩
  have hb2 := ((Below.refl w9.heap.size w9).alloc (Nat.le_refl _) (Obj.cells (flatS dirS).toArray 9)).trans (hb.mono (by simp))
  have HB10 := Lib.hid (HB9.out.trans (hb2.mono HB9.out.size))
  have HT10 := Lib.hid (HT9.out.later hb2)
  clear hb hb2
  go_wp2_with fail
  have ha := All_kind 5 w10 HT10.out
  rw [show kindS 5 = [] from rfl] at ha
  refine ha.mono ?_
  clear ha
  rintro e w11 ⟨ao11, cap11, rfl, _, _, hb⟩
  have HB11 := Lib.hid (HB10.out.trans (hb.mono HB10.out.size))
  clear hb
  rw [show ([] : List Wd).length = 0 from rfl]
  go_wp2_with fail
  go_ret
  exact ⟨rfl, HB11.out⟩
end Go.Proofs.YtbgihfjagfbfgaaDoor

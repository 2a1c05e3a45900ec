/- BoxtreeKnown: the walk -/
import Derived.Test.YtlmmejdcjhbppaaMBLaw0
set_option linter.unusedSimpArgs false
set_option linter.unusedVariables false
namespace Go.Proofs.Ytlmmejdcjhbppaa
open Go.RowKit Go.Geo
attribute [local go_sem] Oper.semAt_some
theorem made_X (n : Nat) : (madeCells (Value.agg #[.int .i64 0, .int .i64 0, .int .i64 0, .int .i64 0]).cells (n * 4)).toList = flatX (List.replicate n bx0) := by
  apply List.ext_getElem?
  intro j
  by_cases hj : j < n * 4
  · have hq : j / 4 < n := by omega
    have h2 := flatX_get (List.replicate n bx0) (j / 4) (by rw [List.length_replicate]; exact hq) (j % 4) (by omega)
    rw [show j / 4 * 4 + j % 4 = j by omega] at h2
    rw [h2]
    have e : (List.replicate n bx0).getD (j / 4) bx0 = bx0 := by rw [List.getD_eq_getElem?_getD, List.getElem?_replicate]; split <;> rfl
    rw [e]
    have hc : (Value.agg #[.int .i64 0, .int .i64 0, .int .i64 0, .int .i64 0]).cells = #[.int .i64 0, .int .i64 0, .int .i64 0, .int .i64 0] := rfl
    rw [hc]
    have hm : j % 4 = 0 ∨ j % 4 = 1 ∨ j % 4 = 2 ∨ j % 4 = 3 := by omega
    have hl : (madeCells #[.int .i64 0, .int .i64 0, .int .i64 0, .int .i64 0] (n * 4)).toList[j]? = some ((#[.int .i64 0, .int .i64 0, .int .i64 0, .int .i64 0] : Array Value)[j % 4]!) := by simp [madeCells, hj]
    rw [hl]
    rcases hm with h | h | h | h <;> rw [h] <;> rfl
  · rw [List.getElem?_eq_none (by simp [size_madeCells]; omega), List.getElem?_eq_none (by rw [flatX_length, List.length_replicate]; omega)]
theorem make_X (n : Nat) (hn : n ≤ 100000) (w : World) : ∃ W, (Instr.makeSlice 22 (.int .i64 (n : Int)) (.int .i64 (n : Int))).run Try.prog w = .ok (.slice (some ⟨w.heap.size, 0, none⟩) n n) W ∧ IsX W (some ⟨w.heap.size, 0, none⟩) n n (List.replicate n bx0) ∧ OwnX W w.heap.size (.slice (some ⟨w.heap.size, 0, none⟩) n n) (List.replicate n bx0) ∧ Below w.heap.size w W := by
  obtain ⟨i0, hi, hz0, hz1, hz2⟩ := info_parts' Try.infoX
  obtain ⟨W, hr, ho, hg⟩ := run_make_full (P := Try.prog) w w.heap.size 22 33 i0 _ 4 Try.underlying22 hi hz0 hz1 .i64 .i64 n (by rw [hz2]; omega) (by unfold maxLen; omega) (Nat.le_refl _)
  rw [made_X] at ho
  have hox : OwnX W w.heap.size (.slice (some ⟨w.heap.size, 0, none⟩) n n) (List.replicate n bx0) := by unfold OwnX; rw [List.length_replicate]; exact ho
  obtain ⟨ao, cap, e, hi⟩ := hox.is
  rw [List.length_replicate] at e hi
  cases e
  exact ⟨W, hr, hi, hox, (Below.refl _ _).grown hg (Nat.le_refl _) (fun g h => by cases h)⟩
set_option maxRecDepth 100000 in
set_option maxHeartbeats 4000000 in
theorem BoxtreeKnown_any (w : World) : Calls Try.prog 8 #[] w fun e w' => e = .returned (.bool true) ∧ Below w.heap.size w w' := by
  go_enter Try.func8, Try.ntmps8
  go_wp2_with fail
  refine (sample_any w).mono ?_
  rintro e w1 ⟨g, rfl, hT, hb⟩
  have HT := Lib.hid hT
  have HB := Lib.hid hb
  have HU := Lib.hid (BuildT_any none 0 0 [] w1 ⟨rfl, Nat.le_refl _, by unfold maxLen; omega, fun _ => ⟨rfl, rfl⟩, fun h => absurd h (by simp)⟩ (fun b hb => absurd hb (by simp)))
  clear hT hb
  go_wp2_with fail
  refine HU.out.mono ?_
  rintro e w2 ⟨_, hok, hb2⟩
  obtain ⟨u, rfl, _, hU⟩ := hok (by simp)
  have HU2 := Lib.hid hU
  have HB2 := Lib.hid (HB.out.trans (hb2.mono HB.out.size))
  have HT2 := Lib.hid (HT.out.later hb2)
  obtain ⟨W, hmk, hix, _, hbw⟩ := make_X 1001 (by omega) w2
  have hmk2 : (Instr.makeSlice 22 (.int .i64 1001) (.int .i64 1001)).run Try.prog w2 = .ok (.slice (some ⟨w2.heap.size, 0, none⟩) 1001 1001) W := hmk
  have hal : InB (List.replicate 1001 bx0) := by
    intro b hb; obtain rfl := (List.mem_replicate.1 hb).2; simp [InI, bx0, p0]
  have HL := Lib.hid (BuildT_any _ 1001 1001 _ W hix hal)
  have HBW := Lib.hid hbw
  clear hok hU hb2 hmk hix hbw hal
  go_wp2_with fail
  refine HL.out.mono ?_
  rintro e w3 ⟨hno, _, hb3⟩
  obtain rfl := hno (by simp)
  have HB3 := Lib.hid (HB2.out.trans ((HBW.out.trans (hb3.mono HBW.out.size)).mono HB2.out.size))
  have hbb := HBW.out.trans (hb3.mono HBW.out.size)
  have HT3 := Lib.hid (HT2.out.later hbb)
  have HU3 := Lib.hid (HU2.out.later hbb)
  have HX := Lib.hid (BoxT_out g 3 smB w3 HT3.out (.inr (by simp [smB])))
  clear hno hb3 hbb hmk2
  go_wp2_with fail
  refine HX.out.mono ?_
  rintro e w4 ⟨rfl, hb4⟩
  have HB4 := Lib.hid (HB3.out.trans (hb4.mono HB3.out.size))
  have HT4 := Lib.hid (HT3.out.later hb4)
  have HU4 := Lib.hid (HU3.out.later hb4)
  clear hb4
  unfold boxV
  have hal : Below w4.heap.size w4 (w4.alloc (.cells #[.int .i64 p0.x, .int .i64 p0.y, .int .i64 p0.x, .int .i64 p0.y] 33)) := (Below.refl _ _).alloc (Nat.le_refl _) _
  have hA := At_any g smB ⟨9, 9⟩ _ (HT4.out.later hal)
  unfold ptV at hA
  have HA := Lib.hid hA
  have HB5 := Lib.hid (HB4.out.trans (hal.mono HB4.out.size))
  have HT5 := Lib.hid (HT4.out.later hal)
  have HU5 := Lib.hid (HU4.out.later hal)
  clear hal hA
  go_wp2_with fail
  refine HA.out.mono ?_
  rintro e w5 ⟨v5, rfl, ho5, hb5⟩
  rw [smB_facts.2.2.1] at ho5
  obtain ⟨a5, c5, hv5, hi5⟩ := ho5.ints
  subst hv5
  have HB6 := Lib.hid (HB5.out.trans (hb5.mono HB5.out.size))
  have HT6 := Lib.hid (HT5.out.later hb5)
  have HU6 := Lib.hid (HU5.out.later hb5)
  clear ho5 hb5 hi5 HB5 HT5 HU5
  go_wp2_with fail
  refine (box_any 3 3 9 9 w5).mono ?_
  rintro e w6 ⟨rfl, hb6⟩
  have hO := Over_any g smB (⟨3, 3⟩, ⟨9, 9⟩) w6 (HT6.out.later hb6)
  unfold boxV at hO
  have HO := Lib.hid hO
  have HB7 := Lib.hid (HB6.out.trans (hb6.mono HB6.out.size))
  have HT7 := Lib.hid (HT6.out.later hb6)
  have HU7 := Lib.hid (HU6.out.later hb6)
  clear hb6 hO
  go_wp2_with fail
  refine HO.out.mono ?_
  rintro e w7 ⟨v7, rfl, ho7, hb7⟩
  rw [smB_facts.2.2.2.1] at ho7
  obtain ⟨a7, c7, hv7, hi7⟩ := ho7.ints
  subst hv7
  have hal : Below w7.heap.size w7 (w7.alloc (.cells #[.int .i64 0, .int .i64 1] 3)) := (Below.refl _ _).alloc (Nat.le_refl _) _
  have HS := Lib.hid (SameInts_any a7 (some ⟨w7.heap.size, 0, none⟩) 2 2 c7 2 [0, 1] [0, 1] _ (hi7.later hal (Nat.le_refl _)) (lit_ints w7 [0, 1] (by simp)))
  have hbb := hb7.trans (hal.mono hb7.size)
  have HB8 := Lib.hid (HB7.out.trans (hbb.mono HB7.out.size))
  have HT8 := Lib.hid (HT7.out.later hbb)
  have HU8 := Lib.hid (HU7.out.later hbb)
  have hbe : (([0, 1] : List Int) == [0, 1]) = true := by decide
  clear ho7 hb7 hi7 hal hbb
  go_wp2_with fail
  refine HS.out.mono ?_
  rintro e w8 ⟨rfl, hg8⟩
  have HB9 := Lib.hid (HB8.out.trans (hg8.1.mono HB8.out.size))
  have HT9 := Lib.hid (HT8.out.later hg8.1)
  have HU9 := Lib.hid (HU8.out.later hg8.1)
  have HR := Lib.hid (OrderT_any g smB w8 HT9.out)
  clear hg8
  go_wp2_with fail
  refine HR.out.mono ?_
  rintro e w9 ⟨v9, O, rfl, ho9, hly, hb9⟩
  obtain rfl := smB_order hly
  obtain ⟨a9, c9, hv9, hi9⟩ := ho9.ints
  subst hv9
  have hal : Below w9.heap.size w9 (w9.alloc (.cells #[.int .i64 0, .int .i64 1, .int .i64 2] 3)) := (Below.refl _ _).alloc (Nat.le_refl _) _
  have HS2 := Lib.hid (SameInts_any a9 (some ⟨w9.heap.size, 0, none⟩) 3 3 c9 3 [0, 1, 2] [0, 1, 2] _ (hi9.later hal (Nat.le_refl _)) (lit_ints w9 [0, 1, 2] (by simp)))
  have hbb := hb9.trans (hal.mono hb9.size)
  have HB10 := Lib.hid (HB9.out.trans (hbb.mono HB9.out.size))
  have HU10 := Lib.hid (HU9.out.later hbb)
  have hbe3 : (([0, 1, 2] : List Int) == [0, 1, 2]) = true := by decide
  clear ho9 hb9 hi9 hal hbb hly
  go_wp2_with fail
  refine HS2.out.mono ?_
  rintro e w10 ⟨rfl, hg10⟩
  have HB11 := Lib.hid (HB10.out.trans (hg10.1.mono HB10.out.size))
  have HU11 := Lib.hid (HU10.out.later hg10.1)
  clear hg10
  go_wp2_with fail
  refine (awake_any w10).mono ?_
  rintro e w11 ⟨rfl, hb11⟩
  have hA := At_any u [] ⟨0, 0⟩ w11 (HU11.out.later hb11)
  unfold ptV at hA
  have HA2 := Lib.hid hA
  have HB12 := Lib.hid (HB11.out.trans (hb11.mono HB11.out.size))
  have HU12 := Lib.hid (HU11.out.later hb11)
  clear hb11 hA
  go_wp2_with fail
  refine HA2.out.mono ?_
  rintro e w12 ⟨v12, rfl, ho12, hb12⟩
  rw [show askB (atQ ⟨0, 0⟩) [] = [] from rfl] at ho12
  obtain ⟨a12, c12, hv12, hi12⟩ := ho12.ints
  subst hv12
  have HB13 := Lib.hid (HB12.out.trans (hb12.mono HB12.out.size))
  have hde := DepthT_any u [] w12 (HU12.out.later hb12)
  have HDE := Lib.hid hde
  clear ho12 hb12 hi12 hde
  go_wp2_with fail
  refine HDE.out.mono ?_
  rintro e w13 ⟨rfl, rfl⟩
  have hd0 : ((depthN ([] : List Bx).length : Nat) : Int) = 0 := by decide
  rw [hd0]
  go_wp2_with fail
  go_ret
  exact ⟨rfl, HB13.out⟩
end Go.Proofs.Ytlmmejdcjhbppaa

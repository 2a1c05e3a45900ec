/- apportionlaw22: awake -/
import Derived.Test.YtlmimocmllhbkaaCOf
namespace Go.Proofs.Ytlmimocmllhbkaa
open Go.RowKit
set_option maxRecDepth 100000 in
theorem awake_any (w : World) : Calls Try.prog 11 #[] w fun e w' => e = .returned (.bool true) ∧ Below w.heap.size w w' := by
  go_enter Try.func11, Try.ntmps11
  go_wp2_with fail
  refine (sample_any _).mono ?_
  rintro e w1 ⟨b1, rfl, hs1, hb1⟩
  have HS1 := Lib.hid hs1
  have HB1 := Lib.hid hb1
  clear hs1 hb1
  go_wp2_with fail
  refine (Until_any _ _ _ smp ⟨5, 1, 7, 12⟩ _ HS1.out (by decide) smp_to (by decide)).mono ?_
  rintro e w2 ⟨rfl, hb2⟩
  rw [show untilF smp ⟨5, 1, 7, 12⟩ 2 3652060 (Qst.da ⟨5, 1, 7, 12⟩) = 30 from smp_until2]
  have HB2 := Lib.hid hb2
  clear hb2
  go_wp2_with fail
  refine (sample_any _).mono ?_
  rintro e w3 ⟨b3, rfl, hs3, hb3⟩
  have HS3 := Lib.hid hs3
  have HB3 := Lib.hid hb3
  clear hs3 hb3
  go_wp2_with fail
  refine (Holds_any _ _ _ smp ⟨5, 9, 9, 20⟩ _ HS3.out).mono ?_
  rintro e w4 ⟨rfl, hb4⟩
  rw [show (decide ((checkP smp).1 = 0) && anyP smp ⟨5, 9, 9, 20⟩) = true by decide]
  have HB4 := Lib.hid hb4
  clear hb4
  go_wp2_with fail
  refine (sample_any _).mono ?_
  rintro e w5 ⟨b5, rfl, hs5, hb5⟩
  have HS5 := Lib.hid hs5
  have HB5 := Lib.hid hb5
  clear hs5 hb5
  go_wp2_with fail
  refine (Holds_any _ _ _ smp ⟨5, 9, 9, 21⟩ _ HS5.out).mono ?_
  rintro e w6 ⟨rfl, hb6⟩
  rw [show (decide ((checkP smp).1 = 0) && anyP smp ⟨5, 9, 9, 21⟩) = false by decide]
  have HB6 := Lib.hid hb6
  clear hb6
  go_wp2_with fail
  go_ret
  have B1 := HB1.out
  have B2 := B1.trans (HB2.out.mono B1.size)
  have B3 := B2.trans (HB3.out.mono B2.size)
  have B4 := B3.trans (HB4.out.mono B3.size)
  have B5 := B4.trans (HB5.out.mono B4.size)
  have B6 := B5.trans (HB6.out.mono B5.size)
  exact ⟨rfl, B6⟩
end Go.Proofs.Ytlmimocmllhbkaa

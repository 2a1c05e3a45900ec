/- CertKnown's walk -/
import Derived.Test.YtlmimocmllhbkaaCAwake
namespace Go.Proofs.Ytlmimocmllhbkaa
open Go.RowKit
set_option maxRecDepth 100000 in
set_option maxHeartbeats 2000000 in
theorem CertKnown_any (w : World) : Calls Try.prog 3 #[] w fun e w' => e = .returned (.bool true) ∧ Below w.heap.size w w' := by
  go_enter Try.func3, Try.ntmps3
  go_wp2_with fail
  refine (sample_any _).mono ?_
  rintro e w1 ⟨b1, rfl, hs1, hb1⟩
  have HS1 := Lib.hid hs1
  have HB1 := Lib.hid hb1
  clear hs1 hb1
  go_wp2_with fail
  refine (Until_any _ _ _ smp ⟨5, 1, 8, 12⟩ _ HS1.out (by decide) smp_to (by decide)).mono ?_
  rintro e w2 ⟨rfl, hb2⟩
  rw [show untilF smp ⟨5, 1, 8, 12⟩ 2 3652060 (Qst.da ⟨5, 1, 8, 12⟩) = 20 from smp_until1]
  have HB2 := Lib.hid hb2
  clear hb2
  go_wp2_with fail
  refine (sample_any _).mono ?_
  rintro e w3 ⟨b3, rfl, hs3, hb3⟩
  have HS3 := Lib.hid hs3
  have HB3 := Lib.hid hb3
  clear hs3 hb3
  go_wp2_with fail
  refine (Until_none _ _ _ smp ⟨5, 1, 7, 31⟩ _ HS3.out (by decide)).mono ?_
  rintro e w4 ⟨rfl, hb4⟩
  have HB4 := Lib.hid hb4
  clear hb4
  go_wp2_with fail
  have hal5 : Below w4.heap.size w4 _ := (Below.refl _ _).alloc (Nat.le_refl _) (Obj.cells #[Value.int .i64 (Crt.cu ⟨5, 0, 0, 20, 10⟩), Value.int .i64 (Crt.ju ⟨5, 0, 0, 20, 10⟩), Value.int .i64 (Crt.ca ⟨5, 0, 0, 20, 10⟩), Value.int .i64 (Crt.fr ⟨5, 0, 0, 20, 10⟩), Value.int .i64 (Crt.to ⟨5, 0, 0, 20, 10⟩)] 30)
  refine (Check_any _ _ _ [⟨5, 0, 0, 20, 10⟩] _ (one_certs w4 ⟨5, 0, 0, 20, 10⟩)).mono ?_
  rintro e w5 ⟨rfl, hb5⟩
  have HB5 := Lib.hid (hal5.trans (hb5.mono hal5.size))
  clear hb5 hal5
  rw [show checkP [⟨5, 0, 0, 20, 10⟩] = (2, 0) by decide]
  go_wp2_with fail
  have hal6 : Below w5.heap.size w5 _ := (Below.refl _ _).alloc (Nat.le_refl _) (Obj.cells #[Value.int .i64 (Crt.cu ⟨0, 0, 0, 1, 1⟩), Value.int .i64 (Crt.ju ⟨0, 0, 0, 1, 1⟩), Value.int .i64 (Crt.ca ⟨0, 0, 0, 1, 1⟩), Value.int .i64 (Crt.fr ⟨0, 0, 0, 1, 1⟩), Value.int .i64 (Crt.to ⟨0, 0, 0, 1, 1⟩)] 30)
  refine (Check_any _ _ _ [⟨0, 0, 0, 1, 1⟩] _ (one_certs w5 ⟨0, 0, 0, 1, 1⟩)).mono ?_
  rintro e w6 ⟨rfl, hb6⟩
  have HB6 := Lib.hid (hal6.trans (hb6.mono hal6.size))
  clear hb6 hal6
  rw [show checkP [⟨0, 0, 0, 1, 1⟩] = (5, 0) by decide]
  go_wp2_with fail
  refine (sample_any _).mono ?_
  rintro e w7 ⟨b7, rfl, hs7, hb7⟩
  have HS7 := Lib.hid hs7
  have HB7 := Lib.hid hb7
  clear hs7 hb7
  go_wp2_with fail
  refine (Holds_any _ _ _ smp ⟨5, 1, 7, 30⟩ _ HS7.out).mono ?_
  rintro e w8 ⟨rfl, hb8⟩
  rw [show (decide ((checkP smp).1 = 0) && anyP smp ⟨5, 1, 7, 30⟩) = true by decide]
  have HB8 := Lib.hid hb8
  clear hb8
  go_wp2_with fail
  refine (sample_any _).mono ?_
  rintro e w9 ⟨b9, rfl, hs9, hb9⟩
  have HS9 := Lib.hid hs9
  have HB9 := Lib.hid hb9
  clear hs9 hb9
  go_wp2_with fail
  refine (Holds_any _ _ _ smp ⟨6, 1, 7, 15⟩ _ HS9.out).mono ?_
  rintro e w10 ⟨rfl, hb10⟩
  rw [show (decide ((checkP smp).1 = 0) && anyP smp ⟨6, 1, 7, 15⟩) = false by decide]
  have HB10 := Lib.hid hb10
  clear hb10
  go_wp2_with fail
  refine (awake_any _).mono ?_
  rintro e w11 ⟨rfl, hb11⟩
  have HB11 := Lib.hid hb11
  clear hb11
  go_wp2_with fail
  refine (sample_any _).mono ?_
  rintro e w12 ⟨b12, rfl, hs12, hb12⟩
  have HS12 := Lib.hid hs12
  have HB12 := Lib.hid hb12
  clear hs12 hb12
  go_wp2_with fail
  refine (Of_none _ _ _ smp 6 _ HS12.out smp_of).mono ?_
  rintro e w13 ⟨rfl, hb13⟩
  have HB13 := Lib.hid hb13
  clear hb13
  go_wp2_with fail
  go_ret
  have B1 := HB1.out
  have B2 := B1.trans (HB2.out.mono B1.size)
  have B3 := B2.trans (HB3.out.mono B2.size)
  have B4 := B3.trans (HB4.out.mono B3.size)
  have B5 := B4.trans (HB5.out.mono B4.size)
  have B6 := B5.trans (HB6.out.mono B5.size)
  have B7 := B6.trans (HB7.out.mono B6.size)
  have B8 := B7.trans (HB8.out.mono B7.size)
  have B9 := B8.trans (HB9.out.mono B8.size)
  have B10 := B9.trans (HB10.out.mono B9.size)
  have B11 := B10.trans (HB11.out.mono B10.size)
  have B12 := B11.trans (HB12.out.mono B11.size)
  have B13 := B12.trans (HB13.out.mono B12.size)
  exact ⟨rfl, B13⟩
end Go.Proofs.Ytlmimocmllhbkaa

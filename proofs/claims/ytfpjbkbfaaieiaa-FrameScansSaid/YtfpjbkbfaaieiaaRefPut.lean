/- apportionref06: word, Put, number -/
import Derived.Test.YtfpjbkbfaaieiaaRefSum
import Derived.Test.YtfpjbkbfaaieiaaNumber
namespace Go.Proofs.Ytfpjbkbfaaieiaa
open Go.RowKit
theorem OwnB_made {w : World} : OwnB (w.alloc (.cells #[] 5)) w.heap.size (.slice (some ⟨w.heap.size, 0, none⟩) 0 0) [] := by
  refine ⟨World.ownsRow_made w #[] 0 (Nat.le_refl _) (by unfold maxLen; omega) (by simp), fun g c t f hg hc u hu => ?_⟩
  simp only [Value.ownBlock, Option.some.injEq] at hg
  subst hg
  rw [heap_alloc_new] at hc
  cases hc
  simp at hu
theorem refWord_any (x : Nat) (w : World) (hx : x < 4294967296) :
    Calls Try.prog 28 #[.int .u32 (x : Int)] w fun e w' => ∃ ao, e = .returned (.slice ao 4 4) ∧ IsBytes w' ao 4 4 (Fr.le4 x) ∧ Below w.heap.size w w' := by
  have he := le4_vals x hx
  have hv : ∀ (W : World) (a b c d : Value), [a, b, c, d] = u8s (Fr.le4 x) → IsBytes (W.alloc (.cells #[a, b, c, d] 5)) (some ⟨W.heap.size, 0, none⟩) 4 4 (Fr.le4 x) := by
    intro W a b c d he
    refine ⟨rfl, Nat.le_refl _, by unfold maxLen; omega, fun _ => ⟨_, _, rfl, fun i hi => ?_⟩, fun h => by cases h⟩
    rw [cell_of_row _ _ _ _ _ _ (heap_alloc_new W _), ← u8s_get _ i hi, ← he]; simp
  have HE := Lib.hid he
  have HV := Lib.hid hv
  clear he hv
  go_enter Try.func28, Try.ntmps28
  go_wp2
  go_ret
  exact ⟨_, rfl, HV.out _ _ _ _ _ HE.out.symm, (Below.refl _ _).alloc (Nat.le_refl _) _⟩
theorem refPut_long (ao : Option Addr) (n cap : Nat) (w : World) (hn : 65536 < n) (hcm : n ≤ 9223372036854775807) :
    Calls Try.prog 13 #[.slice ao n cap] w fun e w' => e = .returned (.tuple #[.slice none 0 0, .int .i64 3]) ∧ w = w' := by
  have hp : (65536 : Int) < (n : Int) := by omega
  go_enter Try.func13, Try.ntmps13
  go_wp2
  go_ret2
  exact ⟨rfl, rfl⟩
set_option maxRecDepth 100000 in
set_option maxHeartbeats 1000000 in
theorem refPut_any (ao : Option Addr) (n cap : Nat) (l : List UInt8) (w : World) (hs : IsBytes w ao n cap l) (hn : n ≤ 65536) :
    Calls Try.prog 13 #[.slice ao n cap] w fun e w' => ∃ v, e = .returned (.tuple #[v, .int .i64 0]) ∧ OwnB w' w.heap.size v (Fr.putF l) ∧ Below w.heap.size w w' := by
  have hl := hs.1
  have hp : (n : Int) ≤ 65536 := by omega
  have e4 : Fr.putF l = Fr.le4 n ++ Fr.le4 (4294967295 - n) ++ l ++ Fr.le4 (Fr.sumB l).toNat := by rw [← hl]; rfl
  have E4 := Lib.hid e4
  clear e4
  have HL := Lib.hid hl
  clear hl
  have hmade : OwnB (w.alloc (.cells #[] 5)) w.heap.size (.slice (some ⟨w.heap.size, 0, none⟩) 0 0) [] := OwnB_made
  have hb0 : Below w.heap.size w (w.alloc (.cells #[] 5)) := (Below.refl w.heap.size w).alloc (Nat.le_refl _) _
  have HMADE := Lib.hid hmade
  have HB0 := Lib.hid hb0
  clear hmade hb0
  go_enter Try.func13, Try.ntmps13
  go_wp2_with fail
  refine (refWord_any n _ (by omega)).mono ?_
  rintro e w1 ⟨a1, rfl, hw1, hb1⟩
  have HB1 := Lib.hid (HB0.out.trans (hb1.mono HB0.out.size))
  have HM1 := Lib.hid (HMADE.out.later hb1)
  clear hb1
  go_wp2_with (at_builtin; refine wpList_append_bytes rfl _ _ rfl w.heap.size _ [] rfl HM1.out _ _ _ _ rfl hw1 (by simp) HB1.out.size ?_; intro v2 w2 hown2 hg2)
  rw [List.nil_append] at hown2
  have HO2 := Lib.hid hown2
  have HB2 := Lib.hid (HB1.out.grown hg2 HB1.out.size (fun k hk => (HM1.out.1.lt k hk).1))
  clear hown2 hg2 hw1
  go_wp2_with fail
  rw [Fr.not_nat n (by omega)]
  refine (refWord_any (4294967295 - n) w2 (by omega)).mono ?_
  rintro e w3 ⟨a3, rfl, hw3, hb3⟩
  have HO3 := Lib.hid (HO2.out.later hb3)
  have HB3 := Lib.hid (HB2.out.trans (hb3.mono HB2.out.size))
  clear hb3
  go_wp2_with (first
    | (at_builtin; refine wpList_append_bytes rfl _ _ rfl w.heap.size _ _ rfl HO4.out _ _ _ l rfl hs4 (by simp [Fr.le4]; omega) HB4.out.size ?_; intro v5 w5 hown5 hg5)
    | (at_builtin; refine wpList_append_bytes rfl _ _ rfl w.heap.size _ _ rfl HO3.out _ _ _ _ rfl hw3 (by simp [Fr.le4]) HB3.out.size ?_; intro v4 w4 hown4 hg4
       have HO4 := Lib.hid hown4
       have HB4 := Lib.hid (HB3.out.grown hg4 HB3.out.size (fun k hk => (HO3.out.1.lt k hk).1))
       have hs4 := hs.later HB4.out))
  have HO5 := Lib.hid hown5
  have HB5 := Lib.hid (HB4.out.grown hg5 HB4.out.size (fun k hk => (HO4.out.1.lt k hk).1))
  clear hown5 hg5 hs4 hown4 hg4 hw3
  refine (RefSum_any _ _ _ l _ (hs.later HB5.out)).mono ?_
  rintro e w6 ⟨rfl, rfl⟩
  have hlim := (Fr.sumB l).isLt
  go_wp2_with fail
  refine (refWord_any (Fr.sumB l).toNat _ hlim).mono ?_
  rintro e w7 ⟨a7, rfl, hw7, hb7⟩
  have HO7 := Lib.hid (HO5.out.later hb7)
  have HB7 := Lib.hid (HB5.out.trans (hb7.mono HB5.out.size))
  clear hb7
  go_wp2_with (at_builtin; refine wpList_append_bytes rfl _ _ rfl w.heap.size _ _ rfl HO7.out _ _ _ _ rfl hw7 (by have := HL.out; simp [Fr.le4]; omega) HB7.out.size ?_; intro v8 w8 hown8 hg8)
  have HO8 := Lib.hid hown8
  have HB8 := Lib.hid (HB7.out.grown hg8 HB7.out.size (fun k hk => (HO7.out.1.lt k hk).1))
  clear hown8 hg8
  go_wp2_with fail
  go_ret2
  exact ⟨v8, rfl, by rw [E4.out]; exact HO8.out, HB8.out⟩
end Go.Proofs.Ytfpjbkbfaaieiaa

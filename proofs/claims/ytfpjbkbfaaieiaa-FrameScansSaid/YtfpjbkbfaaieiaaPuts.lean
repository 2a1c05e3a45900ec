/- apportionlaw06.FramePuts -/
import Derived.Test.YtfpjbkbfaaieiaaCut
import Derived.Test.YtfpjbkbfaaieiaaRefPut
namespace Go.Proofs.Ytfpjbkbfaaieiaa
open Go.RowKit
/-- what Put tells: the frame, or nothing where the record is too long. -/
def putR (l : List UInt8) : List UInt8 := if l.length ≤ 65536 then Fr.putF l else []
def putE (l : List UInt8) : Int := if l.length ≤ 65536 then 0 else 3
theorem Put_both (ao : Option Addr) (n cap : Nat) (l : List UInt8) (w : World) (hs : IsBytes w ao n cap l) (hn : n ≤ 9223372036854775807) :
    Calls Try.prog 12 #[.slice ao n cap] w fun e w' => ∃ v, e = .returned (.tuple #[v, .int .i64 (putE l)]) ∧ OwnB w' w.heap.size v (putR l) ∧ Below w.heap.size w w' := by
  have hl := hs.1
  unfold putR putE
  by_cases h : n ≤ 65536
  · rw [if_pos (by omega), if_pos (by omega)]
    exact Put_any ao n cap l w hs h
  · rw [if_neg (by omega), if_neg (by omega)]
    refine (Put_long ao n cap w (by omega) hn).mono ?_
    rintro e w' ⟨rfl, rfl⟩
    exact ⟨_, rfl, OwnB.nil _ _, Below.refl _ _⟩
theorem refPut_both (ao : Option Addr) (n cap : Nat) (l : List UInt8) (w : World) (hs : IsBytes w ao n cap l) (hn : n ≤ 9223372036854775807) :
    Calls Try.prog 13 #[.slice ao n cap] w fun e w' => ∃ v, e = .returned (.tuple #[v, .int .i64 (putE l)]) ∧ OwnB w' w.heap.size v (putR l) ∧ Below w.heap.size w w' := by
  have hl := hs.1
  unfold putR putE
  by_cases h : n ≤ 65536
  · rw [if_pos (by omega), if_pos (by omega)]
    exact refPut_any ao n cap l w hs h
  · rw [if_neg (by omega), if_neg (by omega)]
    refine (refPut_long ao n cap w (by omega) hn).mono ?_
    rintro e w' ⟨rfl, rfl⟩
    exact ⟨_, rfl, OwnB.nil _ _, Below.refl _ _⟩
theorem lent_reads {w : World} {g n : Nat} {l : List UInt8} (hl : l.length = n) (hn : n ≤ 4294967296) (h : w.heap[g]? = some (.cells (u8s (lentA l 3)).toArray 5 (0, 0))) : IsBytes w (some ⟨g, 0, none⟩) n (n + 3) l := by
  have h1 := block_IsBytes h (by rw [lentA_length]; unfold maxLen; omega)
  rw [lentA_length, hl] at h1
  have h2 := h1.cut n (by omega)
  have e := lentA_take l 3
  rw [hl] at e
  rwa [e] at h2
set_option maxRecDepth 100000 in
set_option maxHeartbeats 1000000 in
theorem FramePuts_any (w : World) (ao : Option Addr) (n cap : Nat) (l : List UInt8) (hs : IsBytes w ao n cap l) :
    Calls Try.prog 3 #[.slice ao n cap] w fun e w' => e = .returned (.bool true) ∧ Below w.heap.size w w' := by
  by_cases hbig : n ≤ 70000
  case neg =>
    have hp : (70000 : Int) < (n : Int) := by omega
    go_enter Try.func3, Try.ntmps3
    go_wp2_with fail
    go_ret
    exact ⟨rfl, Below.refl _ _⟩
  have hp : (n : Int) ≤ 70000 := by omega
  have HL := Lib.hid hs.1
  have HS := Lib.hid hs
  clear hs
  obtain ⟨E, hE⟩ : ∃ E, E = putE l := ⟨_, rfl⟩
  obtain ⟨R, hR⟩ : ∃ R, R = putR l := ⟨_, rfl⟩
  have HE := Lib.hid hE
  have HR := Lib.hid hR
  clear hE hR
  go_enter Try.func3, Try.ntmps3
  go_wp2_with fail
  refine (LentBytes_any ao n cap l w HS.out (by omega)).mono ?_
  rintro e w1 ⟨g, rfl, hgb, hg, hb1⟩
  have hin : IsBytes w1 (some ⟨g, 0, none⟩) n (n + 3) l := lent_reads HL.out (by omega) hg
  have hg1 : g < w1.heap.size := by
    rcases Nat.lt_or_ge g w1.heap.size with h | h
    · exact h
    · rw [Array.getElem?_eq_none h] at hg; cases hg
  have HG1 := Lib.hid hg
  have HIN1 := Lib.hid hin
  have HB1 := Lib.hid hb1
  clear hg hin hb1
  go_wp2_with fail
  refine (Put_both _ _ _ l w1 HIN1.out (by omega)).mono ?_
  rintro e w2 ⟨v2, rfl, ho2, hb2⟩
  rw [← HR.out] at ho2
  rw [← HE.out]
  have HB12 := Lib.hid hb2
  have HO2 := Lib.hid ho2
  have HB2 := Lib.hid (HB1.out.trans (hb2.mono HB1.out.size))
  clear hb2 ho2
  go_wp2_with fail
  refine (refPut_both _ _ _ l w2 (HS.out.later HB2.out) (by omega)).mono ?_
  rintro e w3 ⟨v3, rfl, ho3, hb3⟩
  rw [← HR.out] at ho3
  rw [← HE.out]
  obtain ⟨a2, c2, rfl, hr2, -⟩ := (HO2.out.later hb3).bytes
  obtain ⟨a3, c3, rfl, hr3, -⟩ := ho3.bytes
  have HO3 := Lib.hid (HO2.out.later hb3)
  have HB3 := Lib.hid (HB2.out.trans (hb3.mono HB2.out.size))
  have HB13 := Lib.hid (HB12.out.trans (hb3.mono HB12.out.size))
  have HR2 := Lib.hid hr2
  have HR3 := Lib.hid hr3
  clear hb3 ho3 hr2 hr3
  go_wp2_with fail
  refine (SameBytes_any _ _ _ _ _ _ R R _ HR2.out HR3.out).mono ?_
  rintro e w4 ⟨rfl, rfl⟩
  rw [show (R == R) = true by simp]
  have hEE : (E == E) = true := by simp
  go_wp2_with fail
  refine (Sum_any _ _ _ l _ (HIN1.out.later HB13.out)).mono ?_
  rintro e w5 ⟨rfl, hb5⟩
  have HB5 := Lib.hid (HB3.out.trans (hb5.mono HB3.out.size))
  have HB15 := Lib.hid (HB13.out.trans (hb5.mono HB13.out.size))
  have HO5 := Lib.hid (HO3.out.later hb5)
  clear hb5
  go_wp2_with fail
  refine (RefSum_any _ _ _ l _ (HS.out.later HB5.out)).mono ?_
  rintro e w6 ⟨rfl, rfl⟩
  obtain ⟨sm, hsm⟩ : ∃ x, x = (((Fr.sumB l).toNat : Nat) : Int) := ⟨_, rfl⟩
  rw [← hsm]
  clear hsm
  have hss : (sm == sm) = true := by simp
  go_wp2_with fail
  refine (OverBytes_any _ _ R _ HO5.out).mono ?_
  rintro e w6 ⟨rfl, hg6⟩
  have hsz := HB1.out.size
  have hb6 : Below w.heap.size w w6 := HB5.out.grown hg6 HB5.out.size (fun k hk => by have := (HO5.out.1.lt k hk).1; omega)
  have hg5 : w5.heap[g]? = some (.cells (u8s (lentA l 3)).toArray 5 (0, 0)) := (HB15.out.block g hg1).trans HG1.out
  have hgg : w6.heap[g]? = some (.cells (u8s (lentA l 3)).toArray 5 (0, 0)) :=
    (hg6.block g (by have := HB15.out.size; omega) (fun he => by have := (HO5.out.1.lt g he.symm).1; omega)).trans hg5
  have HG6 := Lib.hid hgg
  have HB6 := Lib.hid hb6
  clear hg6 hb6 hgg hg5
  go_wp2_with fail
  refine (KeptBytes_any g n (lentA l 3) _ _ l w6 HG6.out (by rw [lentA_length, HL.out]) (HS.out.later HB6.out) (by omega)).mono ?_
  rintro e w7 ⟨rfl, hb7⟩
  rw [show (lentA l 3 == lentA l 3) = true by simp]
  have HB7 := Lib.hid (HB6.out.trans (hb7.mono HB6.out.size))
  clear hb7
  go_wp2_with fail
  refine (awake_any w7).mono ?_
  rintro e w8 ⟨rfl, hb8⟩
  go_wp2_with fail
  go_ret
  exact ⟨rfl, HB7.out.trans (hb8.mono HB7.out.size)⟩
end Go.Proofs.Ytfpjbkbfaaieiaa

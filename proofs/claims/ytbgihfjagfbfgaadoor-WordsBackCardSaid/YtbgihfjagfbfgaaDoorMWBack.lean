/- layer 16: WordsBack -/
import Derived.Test.YtbgihfjagfbfgaaDoorMWLaw0
set_option linter.unusedSimpArgs false
set_option linter.unusedVariables false
namespace Go.Proofs.YtbgihfjagfbfgaaDoor
open Go.RowKit Go.Words
attribute [local go_sem] Oper.semAt_some
set_option maxRecDepth 100000 in
set_option maxHeartbeats 2000000 in
theorem WordsBack_any (k : Int) (l : Wd) (w : World) (h : Tb w) : Calls Tryd.prog 3 #[.int .i64 k, sV l] w fun e w' => e = .returned (.bool true) ∧ Below w.heap.size w w' := by
  have HT := Lib.hid h
  have hsz := bs_size l
  clear h
  obtain ⟨P, hP⟩ : ∃ P, P = kindP k := ⟨_, rfl⟩
  have HS : Hid (∀ (x : Wd) (wX : World), Tb wX → Calls Tryd.prog 9 #[.int .i64 k, sV x] wX fun e w' => e = .returned (foundV (firstS P x)) ∧ Below wX.heap.size wX w') := Lib.hid (fun x wX hT => by
    have := Short_any k x wX hT
    rw [short_is, ← hP] at this
    exact this)
  have HL : Hid (∀ (x : Wd) (wX : World), Tb wX → Calls Tryd.prog 10 #[.int .i64 k, sV x] wX fun e w' => e = .returned (foundV (firstL P x)) ∧ Below wX.heap.size wX w') := Lib.hid (fun x wX hT => by
    have := Long_any k x wX hT
    rw [long_is, ← hP] at this
    exact this)
  have hback : ∀ a, firstS P l = some a → _ := fun a => back_of (P := P) (by rw [hP]; exact kind_good k) (by rw [hP]; exact kind_len k) (l := l) (a := a)
  have HK := Lib.hid hback
  clear hback hP
  go_enter Tryd.func3, Tryd.ntmps3
  go_wp2_with fail
  refine (awake_any w HT.out).mono ?_
  rintro e w1 ⟨rfl, hb⟩
  have HB := Lib.hid hb
  have HT1 := Lib.hid (HT.out.later hb)
  clear hb
  by_cases h1000 : 1000 < l.length
  · have h5 : (1000 : Int) < ((bs l).size : Int) := by omega
    go_wp2_with fail
    go_ret
    exact ⟨rfl, HB.out⟩
  have h5 : ¬ (1000 : Int) < ((bs l).size : Int) := by omega
  clear hsz
  go_wp2_with fail
  refine (HS.out l w1 HT1.out).mono ?_
  rintro e w2 ⟨rfl, hb2⟩
  have HB2 := Lib.hid (HB.out.trans (hb2.mono HB.out.size))
  have HT2 := Lib.hid (HT1.out.later hb2)
  clear hb2
  unfold foundV
  cases hf : firstS P l with
  | none =>
    have hn := firstL_none hf
    have HN := Lib.hid hn
    have q0 : ((bs []).toList == []) = true := (bs_lit _ _).trans (decide_eq_true rfl)
    clear hf hn
    go_wp2_with fail
    have hl := HL.out l w2 HT2.out
    rw [HN.out] at hl
    refine hl.mono ?_
    rintro e w3 ⟨rfl, hb3⟩
    have HB3 := Lib.hid (HB2.out.trans (hb3.mono HB2.out.size))
    clear hb3 hl
    unfold foundV
    go_wp2_with fail
    go_ret
    exact ⟨rfl, HB3.out⟩
  | some a =>
    obtain ⟨lg, e1, e2, e3, e4, e5⟩ := HK.out a hf
    have HE := Lib.hid (And.intro e1 (And.intro e2 e3))
    have HE4 := Lib.hid e4
    have q1 : ((bs a).toList == (bs a).toList) = true := (bs_eq _ _).trans (decide_eq_true rfl)
    have hla := bs_size a
    have hll := bs_size lg
    have h6 : ((bs a).size : Int) ≤ ((bs lg).size : Int) := by omega
    have h6n : (bs a).size ≤ (bs lg).size := by omega
    clear hf e1 e2 e3 e4 e5 hla hll
    go_wp2_with fail
    have hl := HL.out a w2 HT2.out
    rw [HE.out.1] at hl
    refine hl.mono ?_
    rintro e w3 ⟨rfl, hb3⟩
    have HB3 := Lib.hid (HB2.out.trans (hb3.mono HB2.out.size))
    have HT3 := Lib.hid (HT2.out.later hb3)
    clear hb3 hl
    unfold foundV
    go_wp2_with fail
    have hs := HS.out lg w3 HT3.out
    rw [HE.out.2.1] at hs
    refine hs.mono ?_
    rintro e w4 ⟨rfl, hb4⟩
    have HB4 := Lib.hid (HB3.out.trans (hb4.mono HB3.out.size))
    have HT4 := Lib.hid (HT3.out.later hb4)
    clear hb4 hs
    unfold foundV
    go_wp2_with fail
    have hs := HS.out a w4 HT4.out
    rw [HE.out.2.2] at hs
    refine hs.mono ?_
    rintro e w5 ⟨rfl, hb5⟩
    have HB5 := Lib.hid (HB4.out.trans (hb5.mono HB4.out.size))
    clear hb5 hs
    unfold foundV
    by_cases hla : l = a
    · subst hla
      go_wp2_with fail
      go_ret
      exact ⟨rfl, HB5.out⟩
    · have hlg : l = lg := HE4.out.resolve_left hla
      subst hlg
      have q2 : ((bs l).toList == (bs l).toList) = true := (bs_eq _ _).trans (decide_eq_true rfl)
      have q3 : ((bs l).toList == (bs a).toList) = false := (bs_eq _ _).trans (decide_eq_false hla)
      clear hla
      go_wp2_with fail
      go_ret
      exact ⟨rfl, HB5.out⟩
end Go.Proofs.YtbgihfjagfbfgaaDoor

/- ring.valid -/
import Derived.Test.YtgijaaklhdcgeaaQRing3
set_option linter.unusedSimpArgs false
set_option linter.unusedVariables false
namespace Go.Proofs.Ytgijaaklhdcgeaa
open Go.RowKit Go.Geo
attribute [local go_sem] Oper.semAt_some
def firstZ (n : Nat) (f : Nat → Bool) : Int := match firstP n f with
  | some i => (i : Int)
  | none => -1
theorem badp_any (p : Pt) (w : World) : Calls Try.prog 82 #[ptV p] w fun e w' => e = .returned (.bool (!validP p)) ∧ Grew w w' := by
  have HV := Lib.hid (Valid_any p)
  have hA : Grew w (w.alloc (.cells #[.int .i64 p.x, .int .i64 p.y] 27)) := (Grew.refl _).alloc _
  have HA := Lib.hid hA
  clear hA
  unfold ptV at HV ⊢
  go_enter Try.func82, Try.ntmps82
  go_wp2_with fail
  refine (HV.out _).mono ?_
  rintro e w1 ⟨rfl, hb1⟩
  go_wp2_with fail
  go_ret
  exact ⟨rfl, HA.out.trans hb1⟩
set_option maxRecDepth 100000 in
theorem IndexFn_any (ao : Option Addr) (n cap : Nat) (P : List Pt) (w : World) (h : IsPts w ao n cap P) :
    Calls Try.prog 81 #[.slice ao n cap, .func (.func 82) #[] #[]] w fun e w' => e = .returned (.int .i64 (firstZ n (fun i => !validP (P.getD i p0)))) ∧ Grew w w' := by
  have hcm := h.2.2.1
  have hnc := h.2.1
  unfold maxLen at hcm
  have HI := Lib.hid h
  clear h
  obtain ⟨z, hz⟩ : ∃ z, z = firstZ n (fun i => !validP (P.getD i p0)) := ⟨_, rfl⟩
  rw [← hz]
  have HZ := Lib.hid hz
  clear hz
  go_enter Try.func81, Try.ntmps81
  go_wp2
  go_loopw [8] (fun i wr => ∃ k : Nat, k ≤ n ∧ i = .int .i64 k ∧ Hid (∀ i, i < k → (!validP (P.getD i p0)) = false) ∧ Hid (Grew w wr)) (fun i _ => n - (intOf i).toNat)
  case atStart => exact ⟨0, by omega, rfl, fun i hi => absurd hi (by omega), Grew.refl _⟩
  case round =>
    obtain ⟨k, hk, rfl, hall, hbl⟩ := hrel
    by_cases hlt : k < n
    · have hi0 : (0 : Int) ≤ (k : Int) := by omega
      have hi5 : (k : Int) < (n : Int) := by omega
      obtain ⟨b, off, rfl, e0, e1⟩ := (HI.out.grew hbl.out).at hlt
      obtain ⟨c, hc⟩ : ∃ c, c = P.getD k p0 := ⟨_, rfl⟩
      rw [← hc] at e0 e1
      have HCE := Lib.hid hc
      obtain ⟨p, hp⟩ : ∃ p, p = !validP c := ⟨_, rfl⟩
      have HX := Lib.hid (badp_any c)
      rw [← hp] at HX
      unfold ptV at HX
      have HP := Lib.hid hp
      clear hc hp
      cases p with
      | true =>
        go_wp2_with fail
        refine (HX.out _).mono ?_
        rintro e w1 ⟨rfl, hb1⟩
        go_wp2_with fail
        go_ret
        refine ⟨?_, hbl.out.trans hb1⟩
        rw [HZ.out]
        unfold firstZ
        rw [firstP_some hlt (by rw [← HCE.out]; exact HP.out.symm) hall.out]
        rfl
      | false =>
        go_wp2_with fail
        refine (HX.out _).mono ?_
        rintro e w1 ⟨rfl, hb1⟩
        go_wp2_with fail
        go_roundw
        case rel =>
          refine ⟨k + 1, by omega, by go_num, fun i hi => ?_, hbl.out.trans hb1⟩
          by_cases hik : i < k
          · exact hall.out i hik
          · obtain rfl : i = k := by omega
            rw [← HCE.out]; exact HP.out.symm
        case measure => simp [intOf]; omega
    · obtain rfl : k = n := by omega
      go_wp2
      go_ret
      refine ⟨?_, hbl.out⟩
      rw [HZ.out]
      unfold firstZ
      rw [firstP_none hall.out]
      rfl
def validL (l : List Pt) : Option (Int × Int) := (firstP l.length (fun i => !validP (l.getD i p0))).map fun i => (2, (i : Int))
set_option maxRecDepth 100000 in
theorem valid1_any (ao : Option Addr) (n cap : Nat) (P : List Pt) (w : World) (h : IsPts w ao n cap P) :
    Calls Try.prog 56 #[.slice ao n cap] w fun e w' => e = .returned (lookV (validL P)) ∧ Grew w w' := by
  have HB := Lib.hid bad_any
  have hA : Grew w (w.alloc (.cells #[.int .i64 0, .int .i64 0] 32)) := (Grew.refl _).alloc _
  have HX := Lib.hid (IndexFn_any ao n cap P _ (h.grew hA))
  have hl := h.1
  obtain ⟨o, ho⟩ : ∃ o, o = firstP n (fun i => !validP (P.getD i p0)) := ⟨_, rfl⟩
  have HL : Hid (validL P = o.map fun i => (2, (i : Int))) := Lib.hid (by unfold validL; rw [hl, ho])
  unfold firstZ at HX
  rw [← ho] at HX
  clear h hA ho
  cases o with
  | none =>
    dsimp only at HX
    go_enter Try.func56, Try.ntmps56
    go_wp2_with fail
    refine HX.out.mono ?_
    rintro e w1 ⟨rfl, hb1⟩
    obtain ⟨k0, k1, f0, f1, HG⟩ := fault_cells hb1
    clear hb1
    go_wp2_with fail
    refine look_end rfl rfl rfl rfl HG rfl ?_
    rw [HL.out]; rfl
  | some k =>
    have hk0 : (0 : Int) ≤ (k : Int) := by omega
    dsimp only at HX
    go_enter Try.func56, Try.ntmps56
    go_wp2_with fail
    refine HX.out.mono ?_
    rintro e w1 ⟨rfl, hb1⟩
    have HB1 := Lib.hid hb1
    clear hb1
    go_wp2_with fail
    refine (HB.out 2 k _).mono ?_
    rintro e w2 ⟨rfl, hg⟩
    unfold faultV
    obtain ⟨k0, k1, f0, f1, HG⟩ := fault_cells (HB1.out.trans hg)
    clear hg
    go_wp2_with fail
    refine look_end rfl rfl rfl rfl HG rfl ?_
    rw [HL.out]; rfl
end Go.Proofs.Ytgijaaklhdcgeaa

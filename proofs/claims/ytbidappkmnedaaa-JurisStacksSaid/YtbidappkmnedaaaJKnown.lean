/- law 20: JurisKnown, walked -/
import Derived.Test.YtbidappkmnedaaaJAwake
import Derived.Deep.DeepCutAuto
namespace Go.Proofs.Ytbidappkmnedaaa
open Go.RowKit
theorem samp_row0 {w : World} {b : Nat} (h : IsJurs w (some ⟨b, 0, none⟩) 4 4 sampL) :
    w.cell? ⟨b, 0, none⟩ = some (.int .i64 1) ∧ w.cell? ⟨b, 1, none⟩ = some (.int .i64 1) ∧ w.cell? ⟨b, 2, none⟩ = some (.int .i64 0) ∧ w.cell? ⟨b, 3, none⟩ = some (.int .i64 1) ∧ w.cell? ⟨b, 4, none⟩ = some (.slice none 0 0) := by
  obtain ⟨b', off', e, hc⟩ := h.2.2.2.1 (by omega)
  cases e
  have k := fun j hj => hc 0 (by omega) j hj
  exact ⟨k 0 (by omega), k 1 (by omega), k 2 (by omega), k 3 (by omega), k 4 (by omega)⟩
theorem samp_part {w : World} {b : Nat} (h : IsJurs w (some ⟨b, 0, none⟩) 4 4 sampL) : IsJurs w (some ⟨b, 5, none⟩) 2 3 [⟨5, 2, 1, 1, none, 0, 0⟩, ⟨9, 3, 5, 1, none, 0, 0⟩] := by
  obtain ⟨b', off', e, hc⟩ := h.2.2.2.1 (by omega)
  cases e
  refine ⟨rfl, by omega, by unfold maxLen; omega, fun _ => ⟨_, _, rfl, fun i hi j hj => ?_⟩, fun h => by cases h⟩
  have := hc (i + 1) (by omega) j hj
  rw [show 0 + (i + 1) * 5 + j = 5 + i * 5 + j by omega] at this
  rw [this]
  have h1 : i = 0 ∨ i = 1 := by omega
  rcases h1 with rfl | rfl <;> rfl
def js1 : List Jur := [⟨1, 1, 1, 1, none, 0, 0⟩]
def js2 : List Jur := [⟨1, 1, 0, 1, none, 0, 0⟩, ⟨1, 1, 0, 1, none, 0, 0⟩]
theorem lit_js1 (w : World) (t : TypeId) : IsJurs (w.alloc (Obj.cells #[.int .i64 1, .int .i64 1, .int .i64 1, .int .i64 1, .slice none 0 0] t)) (some ⟨w.heap.size, 0, none⟩) 1 1 js1 :=
  lit_jurs w _ js1 (by decide) (fun i hi j hj => by
    have h1 : i = 0 := by have : js1.length = 1 := rfl; omega
    have h2 : j = 0 ∨ j = 1 ∨ j = 2 ∨ j = 3 ∨ j = 4 := by omega
    subst h1
    rcases h2 with rfl | rfl | rfl | rfl | rfl <;> rfl) t
theorem lit_js2 (w : World) (t : TypeId) : IsJurs (w.alloc (Obj.cells #[.int .i64 1, .int .i64 1, .int .i64 0, .int .i64 1, .slice none 0 0, .int .i64 1, .int .i64 1, .int .i64 0, .int .i64 1, .slice none 0 0] t)) (some ⟨w.heap.size, 0, none⟩) 2 2 js2 :=
  lit_jurs w _ js2 (by decide) (fun i hi j hj => by
    have h1 : i = 0 ∨ i = 1 := by have : js2.length = 2 := rfl; omega
    have h2 : j = 0 ∨ j = 1 ∨ j = 2 ∨ j = 3 ∨ j = 4 := by omega
    rcases h1 with rfl | rfl <;> rcases h2 with rfl | rfl | rfl | rfl | rfl <;> rfl) t
theorem lit1 (w : World) (x : Int) : IsInts (w.alloc (Obj.cells #[.int .i64 x] 3)) (some ⟨w.heap.size, 0, none⟩) 1 1 [x] := lit_ints w [x] (by simp)
/-- a call of wrong that says yes. -/
theorem wrong_yes {ao : Option Addr} {n cap : Nat} {L : List Jur} {e i : Int} {w : World} (h : IsJurs w ao n cap L) (hc : checkP L = (e, i)) :
    Calls Try.prog 26 #[.slice ao n cap, .int .i64 e, .int .i64 i] w fun e' w' => e' = .returned (.bool true) ∧ Grew w w' := by
  have := wrong_any ao n cap L e i w h
  rw [hc] at this
  simpa using this
set_option maxRecDepth 100000 in
set_option maxHeartbeats 4000000 in
theorem JurisKnown_any (w : World) : Calls Try.prog 6 #[] w fun e w' => e = .returned (.bool true) ∧ Below w.heap.size w w' := by
  go_enter Try.func6, Try.ntmps6
  go_wp2_with fail
  refine (sample_any w).mono ?_
  rintro e w2 ⟨⟨b2, rfl, hj2⟩, hg2⟩
  have HAB := Lib.hid (Above_any _ 4 4 sampL 12 w2 hj2)
  have HB2 := Lib.hid hg2.1
  clear hj2 hg2
  go_wp2_with fail
  refine HAB.out.mono ?_
  rintro e w3 ⟨v3, M, rfl, hab, hown3, hb3⟩
  obtain rfl := (hab.2 (by rw [samp_check])).unique chain12
  obtain ⟨a3, c3, hv3, hi3⟩ := hown3.ints
  subst hv3
  have HB3 := Lib.hid (HB2.out.trans (hb3.mono HB2.out.size))
  clear hab hown3 hb3 hi3
  go_wp2_with fail
  refine (sample_any w3).mono ?_
  rintro e w4 ⟨⟨b4, rfl, hj4⟩, hg4⟩
  have hal4 : Grew w4 (w4.alloc (Obj.cells #[.int .i64 9, .int .i64 5, .int .i64 1] 3)) := (Grew.refl _).alloc _
  have hw4 := Whole_any _ 4 4 sampL _ 3 3 [9, 5, 1] _ (hj4.grew hal4) (lit3 w4 9 5 1)
  rw [show wholeP sampL [9, 5, 1] = true by decide] at hw4
  have HW4 := Lib.hid hw4
  have HB4 := Lib.hid (HB3.out.trans ((hg4.trans hal4).1.mono HB3.out.size))
  clear hj4 hg4 hal4 hw4
  go_wp2_with fail
  refine HW4.out.mono ?_
  rintro e w5 ⟨rfl, hg5⟩
  have HB5 := Lib.hid (HB4.out.trans (hg5.1.mono HB4.out.size))
  clear hg5
  go_wp2_with fail
  refine (sample_any w5).mono ?_
  rintro e w6 ⟨⟨b6, rfl, hj6⟩, hg6⟩
  have hal6 : Grew w6 (w6.alloc (Obj.cells #[.int .i64 9, .int .i64 1] 3)) := (Grew.refl _).alloc _
  have hw6 := Whole_any _ 4 4 sampL _ 2 2 [9, 1] _ (hj6.grew hal6) (lit2 w6 9 1)
  rw [show wholeP sampL [9, 1] = false by decide] at hw6
  have HW6 := Lib.hid hw6
  have HB6 := Lib.hid (HB5.out.trans ((hg6.trans hal6).1.mono HB5.out.size))
  clear hj6 hg6 hal6 hw6
  go_wp2_with fail
  refine HW6.out.mono ?_
  rintro e w7 ⟨rfl, hg7⟩
  have HB7 := Lib.hid (HB6.out.trans (hg7.1.mono HB6.out.size))
  clear hg7 HAB HW4 HW6 HB2 HB3 HB4 HB5 HB6
  go_upto_region 2 with (fail)
  go_cut [2] (fun s2 wc => s2 = .bool true ∧ Hid (Grew w7 wc))
  case first =>
    have tok1 : True := trivial
    have tok2 : True := trivial
    have gA0 : Grew w7 w7.drew := (Grew.refl _).drew
    go_region_with (first
      | (go_at_call 25; have _t := tok1; clear tok1; refine (sample_any _).mono ?_; rintro e wA ⟨⟨bA, rfl, hjA⟩, hgA⟩; have gA := gA0.trans hgA; have HPA := samp_part hjA; clear hgA hjA)
      | (go_at_call 25; have _t := tok2; clear tok2; refine (sample_any _).mono ?_; rintro e wB ⟨⟨bB, rfl, hjB⟩, hgB⟩; have gB := (gY.trans hgB); obtain ⟨r0, r1, r2, r3, r4⟩ := samp_row0 hjB; clear hgB)
      | (go_at_call 25; refine (sample_any _).mono ?_; rintro e wC ⟨⟨bC, rfl, hjC⟩, hgC⟩; have gC := (gB.trans hgC); obtain ⟨r0, r1, r2, r3, r4⟩ := samp_row0 (hjB.grew hgC); obtain ⟨s0, s1, s2, s3, s4⟩ := samp_row0 hjC; clear hgC)
      | (go_at_call_of 26 (Value.int IntKind.i64 6); refine (wrong_yes HPA (by decide)).mono ?_; rintro e wX ⟨rfl, hgX⟩; have gX := (gA.trans hgX); clear hgX)
      | (go_at_call_of 26 (Value.int IntKind.i64 9); refine (wrong_yes (lit_js1 wX 33) (by decide)).mono ?_; rintro e wY ⟨rfl, hgY⟩; have gY := ((gX.alloc _).trans hgY); clear hgY)
      | (go_at_call_of 26 (Value.int IntKind.i64 7); refine (wrong_yes (lit_js2 wC 33) (by decide)).mono ?_; rintro e wZ ⟨rfl, hgZ⟩; have gZ := ((gC.alloc _).trans hgZ); clear hgZ))
    all_goals (go_wp2_with fail; go_meet; exact ⟨rfl, gZ⟩)
  case rest =>
    obtain ⟨rfl, hgc⟩ := hcut
    have HBC := Lib.hid (HB7.out.trans (hgc.out.1.mono HB7.out.size))
    clear hgc
    go_wp2_with fail
    refine (sample_any wc).mono ?_
    rintro e v2 ⟨⟨d2, rfl, hk2⟩, hh2⟩
    have hal2 : Grew v2 (v2.alloc (Obj.cells #[.int .i64 7] 3)) := (Grew.refl _).alloc _
    have HS2 := Lib.hid (Stack_any _ 4 4 sampL _ 1 1 [7] _ (hk2.grew hal2) (lit1 v2 7) (by omega))
    have HC2 := Lib.hid (HBC.out.trans ((hh2.trans hal2).1.mono HBC.out.size))
    clear hk2 hh2 hal2
    go_wp2_with fail
    refine HS2.out.mono ?_
    rintro e v3 ⟨x3, r3, M3, rfl, hst, hown, hb3⟩
    obtain ⟨rfl, rfl⟩ := hst.2.1 (by rw [samp_check]) ⟨7, by simp, by decide⟩
    obtain ⟨p3, q3, hx3, _⟩ := hown.ints
    subst hx3
    have HC3 := Lib.hid (HC2.out.trans (hb3.mono HC2.out.size))
    clear hst hown hb3
    go_wp2_with fail
    refine (sample_any v3).mono ?_
    rintro e v4 ⟨⟨d4, rfl, hk4⟩, hh4⟩
    have hal4 : Grew v4 (v4.alloc (Obj.cells #[.int .i64 1, .int .i64 1] 3)) := (Grew.refl _).alloc _
    have HS4 := Lib.hid (Stack_any _ 4 4 sampL _ 2 2 [1, 1] _ (hk4.grew hal4) (lit2 v4 1 1) (by omega))
    have HC4 := Lib.hid (HC3.out.trans ((hh4.trans hal4).1.mono HC3.out.size))
    clear hk4 hh4 hal4
    go_wp2_with fail
    refine HS4.out.mono ?_
    rintro e v5 ⟨x5, r5, M5, rfl, hst, hown, hb5⟩
    obtain ⟨rfl, rfl⟩ := hst.2.2.1 (by rw [samp_check]) (by decide) (by decide)
    obtain ⟨p5, q5, hx5, _⟩ := hown.ints
    subst hx5
    have HC5 := Lib.hid (HC4.out.trans (hb5.mono HC4.out.size))
    clear hst hown hb5
    go_wp2_with fail
    refine (sample_any v5).mono ?_
    rintro e v6 ⟨⟨d6, rfl, hk6⟩, hh6⟩
    have hf6 := Find_any _ 4 4 sampL 7 v6 hk6
    rw [show findP sampL 7 = (j0, false) by unfold findP; rw [show atJ sampL 7 = none by decide]] at hf6
    unfold j0 Jur.val Jur.row at hf6
    dsimp only at hf6
    have HF6 := Lib.hid hf6
    have HC6 := Lib.hid (HC5.out.trans (hh6.1.mono HC5.out.size))
    clear hk6 hh6 hf6
    go_wp2_with fail
    refine HF6.out.mono ?_
    rintro e v7 ⟨rfl, hh7⟩
    have HC7 := Lib.hid (HC6.out.trans ((hh7.alloc (Obj.cells #[.int .i64 0, .int .i64 0, .int .i64 0, .int .i64 0, .slice none 0 0] 33)).1.mono HC6.out.size))
    clear hh7
    go_wp2_with fail
    refine (awake_any _).mono ?_
    rintro e v8 ⟨rfl, hb8⟩
    have HC8 := Lib.hid (HC7.out.trans (hb8.mono HC7.out.size))
    clear hb8
    go_wp2_with fail
    go_ret
    exact ⟨rfl, HC8.out⟩
end Go.Proofs.Ytbidappkmnedaaa

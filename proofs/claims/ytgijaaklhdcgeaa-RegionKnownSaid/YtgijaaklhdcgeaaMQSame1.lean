/- slices.CompareFunc of points, region.normal$1; slices.Equal of points, region.Same$1, slices.EqualFunc of rings -/
import Derived.Test.YtgijaaklhdcgeaaMQNorm
import Derived.Test.YtgijaaklhdcgeaaMQCont
set_option linter.unusedSimpArgs false
set_option linter.unusedVariables false
namespace Go.Proofs.Ytgijaaklhdcgeaa
open Go.RowKit Go.Geo
attribute [local go_sem] Oper.semAt_some
theorem drop_at {P : List Pt} {k : Nat} (h : k < P.length) : P.drop k = P.getD k p0 :: P.drop (k + 1) := by
  rw [List.drop_eq_getElem_cons h, List.getD_eq_getElem?_getD, List.getElem?_eq_getElem h]; rfl
theorem enters_cmp : ∀ args w, (callFunc 79 args).run Try.prog w = .ok (.enter 79 args) w := enters_of Try.func79 (by kernel_rfl) rfl
set_option maxRecDepth 100000 in
set_option maxHeartbeats 2000000 in
theorem CompareFunc_any (ao : Option Addr) (n cap : Nat) (P : List Pt) (bo : Option Addr) (m cap2 : Nat) (Q : List Pt) (w : World) (h : IsPts w ao n cap P) (h2 : IsPts w bo m cap2 Q) :
    Calls Try.prog 78 #[.slice ao n cap, .slice bo m cap2, .func (.func 79) #[] #[]] w fun e w' => e = .returned (.int .i64 (cmpL P Q)) ∧ Grew w w' := by
  have HI := Lib.hid h
  have HJ := Lib.hid h2
  have HL : Hid (P.length = n) := h.1
  have HL2 : Hid (Q.length = m) := h2.1
  have hcm := h.2.2.1
  have hnc := h.2.1
  have hcm2 := h2.2.2.1
  have hnc2 := h2.2.1
  unfold maxLen at hcm hcm2
  obtain ⟨r, hr⟩ : ∃ r, r = cmpL P Q := ⟨_, rfl⟩
  rw [← hr]
  have HR := Lib.hid hr
  have hen := enters_cmp
  clear h h2 hr
  go_enter Try.func78, Try.ntmps78
  go_wp2_with fail
  go_loopw [13] (fun i wr => ∃ k : Nat, k ≤ n ∧ k ≤ m ∧ i = .int .i64 k ∧ Hid (cmpL P Q = cmpL (P.drop k) (Q.drop k)) ∧ Hid (Grew w wr)) (fun i _ => n - (intOf i).toNat)
  case atStart => exact ⟨0, by omega, by omega, rfl, Lib.hid rfl, Grew.refl _⟩
  case round =>
    obtain ⟨k, hk, hkm, rfl, hc, hg⟩ := hrel
    by_cases hlt : k < n
    · have k0 : (0 : Int) ≤ (k : Int) := by omega
      have k5 : (k : Int) < (n : Int) := by omega
      obtain ⟨b, off, rfl, e0, e1⟩ := (HI.out.grew hg.out).at hlt
      obtain ⟨x, hx⟩ : ∃ x, x = P.getD k p0 := ⟨_, rfl⟩
      rw [← hx] at e0 e1
      have HX : Hid (P.drop k = x :: P.drop (k + 1)) := Lib.hid (by rw [hx]; exact drop_at (by rw [HL.out]; exact hlt))
      clear hx
      by_cases hlt2 : k < m
      · have k6 : (k : Int) < (m : Int) := by omega
        have k7 : ¬ (m : Int) ≤ (k : Int) := by omega
        obtain ⟨b2, off2, rfl, f0, f1⟩ := (HJ.out.grew hg.out).at hlt2
        obtain ⟨y, hy⟩ : ∃ x, x = Q.getD k p0 := ⟨_, rfl⟩
        rw [← hy] at f0 f1
        have HY : Hid (Q.drop k = y :: Q.drop (k + 1)) := Lib.hid (by rw [hy]; exact drop_at (by rw [HL2.out]; exact hlt2))
        have HCM := Lib.hid (Compare_any x y)
        obtain ⟨c, hcc⟩ : ∃ c, c = compP x y := ⟨_, rfl⟩
        rw [← hcc] at HCM
        have HCC : Hid (cmpL P Q = if c ≠ 0 then c else cmpL (P.drop (k + 1)) (Q.drop (k + 1))) := Lib.hid (by rw [hc.out, HX.out, HY.out, cmpL, hcc])
        unfold ptV at HCM
        clear hy hcc
        have g0 : (wr.alloc (.cells #[.int .i64 x.x, .int .i64 x.y] 27)).cell? ⟨b2, off2 + k * 2, none⟩ = some (.int .i64 y.x) := ((Grew.refl _).alloc _).cell f0
        have g1 : (wr.alloc (.cells #[.int .i64 x.x, .int .i64 x.y] 27)).cell? ⟨b2, off2 + k * 2 + 1, none⟩ = some (.int .i64 y.y) := ((Grew.refl _).alloc _).cell f1
        have q0 : ((wr.alloc (.cells #[.int .i64 x.x, .int .i64 x.y] 27)).alloc (.cells #[.int .i64 y.x, .int .i64 y.y] 27)).cell? ⟨wr.heap.size, 0, none⟩ = some (.int .i64 x.x) := ((Grew.refl _).alloc _).cell (cell_of_row _ _ _ _ _ _ (alloc_new _ _))
        have q1 : ((wr.alloc (.cells #[.int .i64 x.x, .int .i64 x.y] 27)).alloc (.cells #[.int .i64 y.x, .int .i64 y.y] 27)).cell? ⟨wr.heap.size, 1, none⟩ = some (.int .i64 x.y) := ((Grew.refl _).alloc _).cell (cell_of_row _ _ _ _ _ _ (alloc_new _ _))
        have q2 : ((wr.alloc (.cells #[.int .i64 x.x, .int .i64 x.y] 27)).alloc (.cells #[.int .i64 y.x, .int .i64 y.y] 27)).cell? ⟨wr.heap.size + 1, 0, none⟩ = some (.int .i64 y.x) := cell_of_row _ _ _ _ _ _ (alloc_new2 _ _ _)
        have q3 : ((wr.alloc (.cells #[.int .i64 x.x, .int .i64 x.y] 27)).alloc (.cells #[.int .i64 y.x, .int .i64 y.y] 27)).cell? ⟨wr.heap.size + 1, 1, none⟩ = some (.int .i64 y.y) := cell_of_row _ _ _ _ _ _ (alloc_new2 _ _ _)
        by_cases hz : c = 0
        · subst hz
          go_wp2_with fail
          refine (HCM.out _).mono ?_
          rintro e w2 ⟨rfl, hg2⟩
          have HG2 := Lib.hid (((hg.out.alloc _).alloc _).trans hg2)
          clear hg2 e0 e1 f0 f1 g0 g1 q0 q1 q2 q3
          go_wp2_with fail
          go_roundw
          case rel => exact ⟨k + 1, by omega, by omega, by go_num, Lib.hid (by rw [HCC.out]; simp), HG2⟩
          case measure => simp [intOf]; omega
        · have hz1 : (c == 0) = false := by simp [hz]
          have hz2 : (c != 0) = true := by simp [hz]
          have HZ := Lib.hid hz
          clear hz
          go_wp2_with fail
          refine (HCM.out _).mono ?_
          rintro e w2 ⟨rfl, hg2⟩
          have HG2 := Lib.hid (((hg.out.alloc _).alloc _).trans hg2)
          clear hg2 e0 e1 f0 f1 g0 g1 q0 q1 q2 q3
          go_wp2_with fail
          go_ret
          exact ⟨by rw [HR.out, HCC.out, if_pos HZ.out]; rfl, HG2.out⟩
      · have k7 : (m : Int) ≤ (k : Int) := by omega
        have hmk : k = m := by omega
        have HQ : Hid (Q.drop k = []) := Lib.hid (List.drop_eq_nil_of_le (by rw [HL2.out]; omega))
        clear hmk
        go_wp2_with fail
        go_ret
        exact ⟨by rw [HR.out, hc.out, HX.out, HQ.out]; rfl, hg.out.alloc _⟩
    · have hkn : n = k := by omega
      subst hkn
      have HP : Hid (P.drop n = []) := Lib.hid (List.drop_eq_nil_of_le (by rw [HL.out]; omega))
      by_cases hlt2 : n < m
      · have k6 : (n : Int) < (m : Int) := by omega
        have HY : Hid (Q.drop n = Q.getD n p0 :: Q.drop (n + 1)) := Lib.hid (drop_at (by rw [HL2.out]; exact hlt2))
        go_wp2_with fail
        go_ret
        exact ⟨by rw [HR.out, hc.out, HP.out, HY.out]; rfl, hg.out⟩
      · have k6 : ¬ (n : Int) < (m : Int) := by omega
        have HQ : Hid (Q.drop n = []) := Lib.hid (List.drop_eq_nil_of_le (by rw [HL2.out]; omega))
        go_wp2_with fail
        go_ret
        exact ⟨by rw [HR.out, hc.out, HP.out, HQ.out]; rfl, hg.out⟩
set_option maxRecDepth 100000 in
theorem normal1_any (ao : Option Addr) (n cap : Nat) (P : List Pt) (bo : Option Addr) (m cap2 : Nat) (Q : List Pt) (w : World) (h : IsPts w ao n cap P) (h2 : IsPts w bo m cap2 Q) :
    Calls Try.prog 77 #[.slice ao n cap, .slice bo m cap2] w fun e w' => e = .returned (.int .i64 (cmpL P Q)) ∧ Grew w w' := by
  have HC := Lib.hid (CompareFunc_any ao n cap P bo m cap2 Q w h h2)
  obtain ⟨r, hr⟩ : ∃ r, r = cmpL P Q := ⟨_, rfl⟩
  rw [← hr] at HC ⊢
  clear h h2 hr
  go_enter Try.func77, Try.ntmps77
  go_wp2_with fail
  refine HC.out.mono ?_
  rintro e w2 ⟨rfl, hg2⟩
  have HG := Lib.hid hg2
  clear hg2
  go_wp2_with fail
  go_ret
  exact ⟨rfl, HG.out⟩
theorem eq_take {P Q : List Pt} (h : P.length = Q.length) (hq : ∀ t, t < P.length → P.getD t p0 = Q.getD t p0) : P = Q := by
  apply List.ext_getElem h
  intro i h1 h2
  have := hq i h1
  rwa [List.getD_eq_getElem?_getD, List.getElem?_eq_getElem h1, List.getD_eq_getElem?_getD, List.getElem?_eq_getElem h2] at this
set_option maxRecDepth 100000 in
set_option maxHeartbeats 2000000 in
theorem EqualPts_any (ao : Option Addr) (n cap : Nat) (P : List Pt) (bo : Option Addr) (m cap2 : Nat) (Q : List Pt) (w : World) (h : IsPts w ao n cap P) (h2 : IsPts w bo m cap2 Q) :
    Calls Try.prog 54 #[.slice ao n cap, .slice bo m cap2] w fun e w' => e = .returned (.bool (decide (P = Q))) ∧ Grew w w' := by
  have HI := Lib.hid h
  have HJ := Lib.hid h2
  have HL : Hid (P.length = n) := h.1
  have HL2 : Hid (Q.length = m) := h2.1
  have hcm := h.2.2.1
  have hnc := h.2.1
  have hcm2 := h2.2.2.1
  have hnc2 := h2.2.1
  unfold maxLen at hcm hcm2
  obtain ⟨r, hr⟩ : ∃ r, r = decide (P = Q) := ⟨_, rfl⟩
  rw [← hr]
  have HR := Lib.hid hr
  clear h h2 hr
  by_cases hnm : n = m
  · subst hnm
    go_enter Try.func54, Try.ntmps54
    go_wp2_with fail
    go_loopw [13] (fun i wr => ∃ k : Nat, k ≤ n ∧ i = .int .i64 k ∧ Hid (∀ t, t < k → P.getD t p0 = Q.getD t p0) ∧ Hid (Grew w wr)) (fun i _ => n - (intOf i).toNat)
    case atStart => exact ⟨0, by omega, rfl, Lib.hid (fun t ht => absurd ht (by omega)), Grew.refl _⟩
    case round =>
      obtain ⟨k, hk, rfl, hc, hg⟩ := hrel
      by_cases hlt : k < n
      · have k0 : (0 : Int) ≤ (k : Int) := by omega
        have k5 : (k : Int) < (n : Int) := by omega
        obtain ⟨b, off, rfl, e0, e1⟩ := (HI.out.grew hg.out).at hlt
        obtain ⟨b2, off2, rfl, f0, f1⟩ := (HJ.out.grew hg.out).at hlt
        obtain ⟨x, hx⟩ : ∃ x, x = P.getD k p0 := ⟨_, rfl⟩
        obtain ⟨y, hy⟩ : ∃ x, x = Q.getD k p0 := ⟨_, rfl⟩
        rw [← hx] at e0 e1
        rw [← hy] at f0 f1
        have HXY := Lib.hid (And.intro hx hy)
        have hne := run_ne_pt x y
        clear hx hy
        by_cases hq : x = y
        · have hd : decide (x = y) = true := decide_eq_true hq
          rw [hd] at hne
          have HQ := Lib.hid hq
          clear hd hq
          go_wp2_with fail
          go_quiet (fail)
          go_wp2_with fail
          go_roundw
          case rel =>
            refine ⟨k + 1, by omega, by go_num, Lib.hid (fun t ht => ?_), Lib.hid (hg.out.drewN _)⟩
            by_cases htk : t < k
            · exact hc.out t htk
            · obtain rfl : t = k := by omega
              rw [← HXY.out.1, ← HXY.out.2, HQ.out]
          case measure => simp [intOf]; omega
        · have hd : decide (x = y) = false := decide_eq_false hq
          rw [hd] at hne
          have HQ := Lib.hid hq
          clear hd hq
          go_wp2_with fail
          go_quiet (fail)
          go_wp2_with fail
          go_ret
          refine ⟨?_, hg.out.drewN _⟩
          rw [HR.out, decide_eq_false (fun e => HQ.out (by rw [HXY.out.1, HXY.out.2, e]))]
          rfl
      · have hkn : n = k := by omega
        subst hkn
        have HE : Hid (P = Q) := Lib.hid (eq_take (by rw [HL.out, HL2.out]) (by rw [HL.out]; exact hc.out))
        go_wp2_with fail
        go_ret
        exact ⟨by rw [HR.out, decide_eq_true HE.out]; rfl, hg.out⟩
  · have h1 : ((n : Int) == (m : Int)) = false := by simp; omega
    have h2 : ((n : Int) != (m : Int)) = true := by simp; omega
    have HN := Lib.hid hnm
    clear hnm
    go_enter Try.func54, Try.ntmps54
    go_wp2_with fail
    go_ret
    refine ⟨?_, Grew.refl _⟩
    rw [HR.out, decide_eq_false (fun e => HN.out (by rw [← HL.out, ← HL2.out, e]))]
    rfl
set_option maxRecDepth 100000 in
theorem same1_any (ao : Option Addr) (n cap : Nat) (P : List Pt) (bo : Option Addr) (m cap2 : Nat) (Q : List Pt) (w : World) (h : IsPts w ao n cap P) (h2 : IsPts w bo m cap2 Q) :
    Calls Try.prog 53 #[.slice ao n cap, .slice bo m cap2] w fun e w' => e = .returned (.bool (decide (P = Q))) ∧ Grew w w' := by
  have HC := Lib.hid (EqualPts_any ao n cap P bo m cap2 Q w h h2)
  obtain ⟨r, hr⟩ : ∃ r, r = decide (P = Q) := ⟨_, rfl⟩
  rw [← hr] at HC ⊢
  clear h h2 hr
  go_enter Try.func53, Try.ntmps53
  go_wp2_with fail
  refine HC.out.mono ?_
  rintro e w2 ⟨rfl, hg2⟩
  have HG := Lib.hid hg2
  clear hg2
  go_wp2_with fail
  go_ret
  exact ⟨rfl, HG.out⟩
theorem eqR_take {P Q : List (List Pt)} (h : P.length = Q.length) (hq : ∀ t, t < P.length → P.getD t [] = Q.getD t []) : P = Q := by
  apply List.ext_getElem h
  intro i h1 h2
  have := hq i h1
  rwa [List.getD_eq_getElem?_getD, List.getElem?_eq_getElem h1, List.getD_eq_getElem?_getD, List.getElem?_eq_getElem h2] at this
set_option maxRecDepth 100000 in
set_option maxHeartbeats 2000000 in
theorem EqualFunc_any (ao : Option Addr) (n cap : Nat) (P : List (List Pt)) (bo : Option Addr) (m cap2 : Nat) (Q : List (List Pt)) (w : World) (h : IsRings w ao n cap P) (h2 : IsRings w bo m cap2 Q) :
    Calls Try.prog 51 #[.slice ao n cap, .slice bo m cap2, .func (.func 53) #[] #[]] w fun e w' => e = .returned (.bool (decide (P = Q))) ∧ Grew w w' := by
  have HI := Lib.hid h
  have HJ := Lib.hid h2
  have HL : Hid (P.length = n) := h.1
  have HL2 : Hid (Q.length = m) := h2.1
  have hcm := h.2.2.1
  have hnc := h.2.1
  have hcm2 := h2.2.2.1
  have hnc2 := h2.2.1
  unfold maxLen at hcm hcm2
  obtain ⟨r, hr⟩ : ∃ r, r = decide (P = Q) := ⟨_, rfl⟩
  rw [← hr]
  have HR := Lib.hid hr
  have hen : ∀ args w, (callFunc 53 args).run Try.prog w = .ok (.enter 53 args) w := enters_of Try.func53 (by kernel_rfl) rfl
  clear h h2 hr
  by_cases hnm : n = m
  · subst hnm
    go_enter Try.func51, Try.ntmps51
    go_wp2_with fail
    go_loopw [17] (fun i wr => ∃ k : Nat, k ≤ n ∧ i = .int .i64 k ∧ Hid (∀ t, t < k → P.getD t [] = Q.getD t []) ∧ Hid (Grew w wr)) (fun i _ => n - (intOf i).toNat)
    case atStart => exact ⟨0, by omega, rfl, Lib.hid (fun t ht => absurd ht (by omega)), Grew.refl _⟩
    case round =>
      obtain ⟨k, hk, rfl, hc, hg⟩ := hrel
      by_cases hlt : k < n
      · have k0 : (0 : Int) ≤ (k : Int) := by omega
        have k5 : (k : Int) < (n : Int) := by omega
        obtain ⟨b, off, x, y, z, rfl, e0, hp⟩ := (HI.out.grew hg.out).2.2.2.2 k hlt
        obtain ⟨b2, off2, x2, y2, z2, rfl, f0, hp2⟩ := (HJ.out.grew hg.out).2.2.2.2 k hlt
        have HS := Lib.hid (same1_any x y z _ x2 y2 z2 _ wr hp hp2)
        obtain ⟨v, hv⟩ : ∃ v, v = decide (P.getD k [] = Q.getD k []) := ⟨_, rfl⟩
        rw [← hv] at HS
        have HV := Lib.hid hv
        clear hv hp hp2
        cases v with
        | true =>
          go_wp2_with fail
          refine HS.out.mono ?_
          rintro e w2 ⟨rfl, hg2⟩
          have HG2 := Lib.hid (hg.out.trans hg2)
          clear hg2 e0 f0
          go_wp2_with fail
          go_roundw
          case rel =>
            refine ⟨k + 1, by omega, by go_num, Lib.hid (fun t ht => ?_), HG2⟩
            by_cases htk : t < k
            · exact hc.out t htk
            · obtain rfl : t = k := by omega
              exact of_decide_eq_true HV.out.symm
          case measure => simp [intOf]; omega
        | false =>
          go_wp2_with fail
          refine HS.out.mono ?_
          rintro e w2 ⟨rfl, hg2⟩
          have HG2 := Lib.hid (hg.out.trans hg2)
          clear hg2 e0 f0
          go_wp2_with fail
          go_ret
          refine ⟨?_, HG2.out⟩
          rw [HR.out, decide_eq_false (fun e => of_decide_eq_false HV.out.symm (by rw [e]))]
          rfl
      · have hkn : n = k := by omega
        subst hkn
        have HE : Hid (P = Q) := Lib.hid (eqR_take (by rw [HL.out, HL2.out]) (by rw [HL.out]; exact hc.out))
        go_wp2_with fail
        go_ret
        exact ⟨by rw [HR.out, decide_eq_true HE.out]; rfl, hg.out⟩
  · have h1 : ((n : Int) == (m : Int)) = false := by simp; omega
    have h2 : ((n : Int) != (m : Int)) = true := by simp; omega
    have HN := Lib.hid hnm
    clear hnm
    go_enter Try.func51, Try.ntmps51
    go_wp2_with fail
    go_ret
    refine ⟨?_, Grew.refl _⟩
    rw [HR.out, decide_eq_false (fun e => HN.out (by rw [← HL.out, ← HL2.out, e]))]
    rfl
end Go.Proofs.Ytgijaaklhdcgeaa

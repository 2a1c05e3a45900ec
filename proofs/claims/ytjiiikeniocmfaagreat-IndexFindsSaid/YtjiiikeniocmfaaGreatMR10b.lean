/- the document's edges: may, Ends -/
import Derived.Test.YtjiiikeniocmfaaGreatMR7b
import Derived.Test.YtjiiikeniocmfaaGreatMQEnds
import Derived.Test.YtjiiikeniocmfaaGreatMQRing1
import Derived.Test.YtjiiikeniocmfaaGreatMR10
import Derived.IntWalk
set_option linter.unusedSimpArgs false
set_option linter.unusedVariables false
namespace Go.Proofs.YtjiiikeniocmfaaGreat
open Go.RowKit Go.Geo
theorem rmay_any (a b : Pt) (w : World) :
    Calls Tryz.prog 125 #[ptV a, ptV b] w fun e w' => e = .returned (.bool (mayP a b)) ∧ Grew w w' := by
  have HX := Lib.hid (rValid_any a)
  have HY := Lib.hid (rValid_any b)
  have hne : ∀ w, (binOp .neq 24 (.agg #[.int .i64 a.x, .int .i64 a.y]) (.agg #[.int .i64 b.x, .int .i64 b.y])).run Tryz.prog w = .ok (.bool (!decide (a = b))) w := run_ne_pt a b
  have he : mayP a b = (validP a && validP b && !decide (a = b)) := by unfold mayP; rw [decide_not]
  rw [he]
  generalize (!decide (a = b)) = d at *
  generalize validP a = p at *
  generalize validP b = q at *
  clear he
  obtain ⟨ax, ay⟩ := a
  obtain ⟨bx, bY⟩ := b
  unfold ptV at *
  dsimp only at *
  cases p with
  | false =>
    go_enter Tryz.func125, Tryz.ntmps125
    go_wp2_with fail
    refine (HX.out _).mono ?_
    rintro e w1 ⟨rfl, hg1⟩
    go_wp2_with fail
    go_ret
    exact ⟨rfl, (((Grew.refl _).alloc _).alloc _).trans hg1⟩
  | true =>
    go_enter Tryz.func125, Tryz.ntmps125
    go_wp2_with fail
    refine (HX.out _).mono ?_
    rintro e w1 ⟨rfl, hg1⟩
    have a0 : w1.cell? ⟨w.heap.size, 0, none⟩ = some (.int .i64 ax) := hg1.cell (((Grew.refl _).alloc _).cell (cell_of_row _ _ _ _ _ _ (alloc_new w _)))
    have a1 : w1.cell? ⟨w.heap.size, 1, none⟩ = some (.int .i64 ay) := hg1.cell (((Grew.refl _).alloc _).cell (cell_of_row _ _ _ _ _ _ (alloc_new w _)))
    have b0 : w1.cell? ⟨w.heap.size + 1, 0, none⟩ = some (.int .i64 bx) := hg1.cell (cell_of_row _ _ _ _ _ _ (alloc_new2 w _ _))
    have b1 : w1.cell? ⟨w.heap.size + 1, 1, none⟩ = some (.int .i64 bY) := hg1.cell (cell_of_row _ _ _ _ _ _ (alloc_new2 w _ _))
    have HG := Lib.hid ((((Grew.refl w).alloc _).alloc _).trans hg1)
    clear hg1
    go_wp2_with fail
    refine (HY.out _).mono ?_
    rintro e w2 ⟨rfl, hg2⟩
    have c0 := hg2.cell a0
    have c1 := hg2.cell a1
    have d0 := hg2.cell b0
    have d1 := hg2.cell b1
    have HG2 := Lib.hid (HG.out.trans hg2)
    clear hg2 a0 a1 b0 b1
    cases q with
    | false =>
      go_wp2_with fail
      go_ret
      exact ⟨rfl, HG2.out⟩
    | true =>
      go_wp2_with fail
      go_ret
      exact ⟨rfl, HG2.out⟩
def rpickP (a b c d : Pt) (k : Nat) : Bool := if k ≤ 1 then onP ([a, b, c, d].getD k p0) c d else onP ([a, b, c, d].getD k p0) a b
def outK (a b c d : Pt) : Nat → List Pt
  | 0 => []
  | k + 1 => if rpickP a b c d k && decide ([a, b, c, d].getD k p0 ∉ outK a b c d k) then outK a b c d k ++ [[a, b, c, d].getD k p0] else outK a b c d k
theorem gather_one (out : List Pt) (p : Pt) (q : Bool) : gatherP out (if q then [p] else []) = if q && decide (p ∉ out) then out ++ [p] else out := by
  cases q
  · simp [gatherP]
  · by_cases h : p ∈ out <;> simp [gatherP, h]
theorem outK_len (a b c d : Pt) : ∀ k, (outK a b c d k).length ≤ k
  | 0 => by simp [outK]
  | k + 1 => by
    have := outK_len a b c d k
    rw [outK]
    split
    · simp; omega
    · omega
theorem filter2 (f : Pt → Bool) (a b : Pt) : [a, b].filter f = (if f a then [a] else []) ++ (if f b then [b] else []) := by
  cases h1 : f a <;> cases h2 : f b <;> simp [List.filter, h1, h2]
theorem outK_ends (a b c d : Pt) (h : (mayP a b && mayP c d) = true) : outK a b c d 4 = endsP a b c d := by
  unfold endsP
  rw [if_pos h, filter2, filter2, gatherP_append, gatherP_append, gather_one, gather_one, gather_one, gather_one]
  rfl
theorem pts4 (w : World) (a b c d : Pt) : IsPts (w.alloc (.cells #[.int .i64 a.x, .int .i64 a.y, .int .i64 b.x, .int .i64 b.y, .int .i64 c.x, .int .i64 c.y, .int .i64 d.x, .int .i64 d.y] 24)) (some ⟨w.heap.size, 0, none⟩) 4 4 [a, b, c, d] := by
  refine ⟨rfl, Nat.le_refl _, by unfold maxLen; omega, fun _ => ⟨_, _, rfl, fun i hi => ?_⟩, fun h => by cases h⟩
  have h := alloc_new w (.cells #[.int .i64 a.x, .int .i64 a.y, .int .i64 b.x, .int .i64 b.y, .int .i64 c.x, .int .i64 c.y, .int .i64 d.x, .int .i64 d.y] 24)
  match i, hi with
  | 0, _ => exact ⟨cell_of_row _ _ _ _ _ _ h, cell_of_row _ _ _ _ _ _ h⟩
  | 1, _ => exact ⟨cell_of_row _ _ _ _ _ _ h, cell_of_row _ _ _ _ _ _ h⟩
  | 2, _ => exact ⟨cell_of_row _ _ _ _ _ _ h, cell_of_row _ _ _ _ _ _ h⟩
  | 3, _ => exact ⟨cell_of_row _ _ _ _ _ _ h, cell_of_row _ _ _ _ _ _ h⟩
theorem on_step {W w1 w2 : World} {B1 B2 B3 o3 o4 : Nat} {v1 v2 v3 v4 v5 v6 : Value} (hb : Grew w1 w2)
    (h1 : w1.cell? ⟨B1, 0, none⟩ = some v1) (h2 : w1.cell? ⟨B1, 1, none⟩ = some v2) (h3 : w1.cell? ⟨B2, 0, none⟩ = some v3) (h4 : w1.cell? ⟨B2, 1, none⟩ = some v4) (h5 : w1.cell? ⟨B3, o3, none⟩ = some v5) (h6 : w1.cell? ⟨B3, o4, none⟩ = some v6) (h7 : Below W.heap.size W w1) :
    w2.cell? ⟨B1, 0, none⟩ = some v1 ∧ w2.cell? ⟨B1, 1, none⟩ = some v2 ∧ w2.cell? ⟨B2, 0, none⟩ = some v3 ∧ w2.cell? ⟨B2, 1, none⟩ = some v4 ∧ w2.cell? ⟨B3, o3, none⟩ = some v5 ∧ w2.cell? ⟨B3, o4, none⟩ = some v6 ∧ Below W.heap.size W w2 :=
  ⟨hb.cell h1, hb.cell h2, hb.cell h3, hb.cell h4, hb.cell h5, hb.cell h6, h7.trans (hb.1.mono h7.size)⟩
set_option maxRecDepth 100000 in
set_option maxHeartbeats 4000000 in
theorem rEnds_any (a b c d : Pt) (w : World) :
    Calls Tryz.prog 126 #[ptV a, ptV b, ptV c, ptV d] w fun e w' => LenR (endsP a b c d).length w e w' := by
  obtain ⟨B, hB⟩ : ∃ B, B = w.heap.size := ⟨_, rfl⟩
  have H4 := box4_new w a b c d
  rw [← hB] at H4
  obtain ⟨W4, hW4⟩ : ∃ W, W = (((w.alloc (.cells #[.int .i64 a.x, .int .i64 a.y] 24)).alloc (.cells #[.int .i64 b.x, .int .i64 b.y] 24)).alloc (.cells #[.int .i64 c.x, .int .i64 c.y] 24)).alloc (.cells #[.int .i64 d.x, .int .i64 d.y] 24) := ⟨_, rfl⟩
  rw [← hW4] at H4
  have hsz : W4.heap.size = B + 4 := by rw [hW4, hB]; simp
  have HB0 : Hid (Grew w W4) := Lib.hid (by rw [hW4]; exact ((((Grew.refl _).alloc _).alloc _).alloc _).alloc _)
  have HH4 := Lib.hid H4
  have HSZ := Lib.hid hsz
  have HBE := Lib.hid hB
  have HM1 := Lib.hid (rmay_any a b)
  have HM2 := Lib.hid (rmay_any c d)
  have HO1 := Lib.hid (fun p => rOn_any p c d)
  have HO2 := Lib.hid (fun p => rOn_any p a b)
  have HE := Lib.hid (outK_ends a b c d)
  obtain ⟨N, hN⟩ : ∃ N, N = (endsP a b c d).length := ⟨_, rfl⟩
  rw [← hN]
  have hN0 : (mayP a b && mayP c d) = false → N = 0 := fun h => by rw [hN]; unfold endsP; rw [h]; rfl
  have hN1 : (mayP a b && mayP c d) = true → N = (outK a b c d 4).length := fun h => by rw [hN, outK_ends a b c d h]
  obtain ⟨p, hp⟩ : ∃ p, p = mayP a b := ⟨_, rfl⟩
  obtain ⟨q, hq⟩ : ∃ q, q = mayP c d := ⟨_, rfl⟩
  rw [← hp] at HM1
  rw [← hq] at HM2
  rw [← hp, ← hq] at hN0 hN1
  clear hp hq hN HE
  unfold ptV at *
  cases p with
  | false =>
    have hn := hN0 rfl
    subst hn
    clear hN0 hN1
    go_enter Tryz.func126, Tryz.ntmps126
    go_wp2_with fail
    refine (HM1.out _).mono ?_
    rintro e w1 ⟨rfl, hg1⟩
    go_wp2_with fail
    go_ret
    exact ⟨_, _, rfl, (((((Grew.refl _).alloc _).alloc _).alloc _).alloc _ |>.trans hg1).1⟩
  | true =>
    cases q with
    | false =>
      have hn := hN0 rfl
      subst hn
      clear hN0 hN1
      go_enter Tryz.func126, Tryz.ntmps126
      go_wp2_with fail
      rw [← hW4, ← hB]
      refine (HM1.out _).mono ?_
      rintro e w1 ⟨rfl, hg1⟩
      obtain ⟨⟨k1, k2⟩, ⟨k3, k4⟩, ⟨k5, k6⟩, k7, k8⟩ := HH4.out.later hg1.1 (by rw [HSZ.out]; exact Nat.le_refl _)
      have HG1 := Lib.hid (HB0.out.trans hg1)
      clear hg1 H4 hW4 hB hsz
      go_wp2_with fail
      refine (HM2.out _).mono ?_
      rintro e w2 ⟨rfl, hg2⟩
      have HG2 := Lib.hid (HG1.out.trans hg2)
      clear hg2
      go_wp2_with fail
      go_ret
      exact ⟨_, _, rfl, HG2.out.1⟩
    | true =>
      have hn := hN1 rfl
      have HN := Lib.hid hn
      clear hN0 hN1 hn
      go_enter Tryz.func126, Tryz.ntmps126
      go_wp2_with fail
      rw [← hW4, ← hB]
      refine (HM1.out _).mono ?_
      rintro e w1 ⟨rfl, hg1⟩
      obtain ⟨⟨k1, k2⟩, ⟨k3, k4⟩, ⟨k5, k6⟩, k7, k8⟩ := HH4.out.later hg1.1 (by rw [HSZ.out]; exact Nat.le_refl _)
      have HG1 := Lib.hid (And.intro (HB0.out.trans hg1) (show B + 4 ≤ w1.heap.size by have := hg1.size; omega))
      clear hg1 H4 hW4 hB hsz
      go_wp2_with fail
      refine (HM2.out _).mono ?_
      rintro e w2 ⟨rfl, hg2⟩
      have HG2 := Lib.hid (And.intro (HG1.out.1.trans hg2) (Nat.le_trans HG1.out.2 hg2.size))
      have HK : Hid (Box4 B a b c d w2) := Lib.hid ((show Box4 B a b c d w1 from ⟨⟨k1, k2⟩, ⟨k3, k4⟩, ⟨k5, k6⟩, k7, k8⟩).later hg2.1 HG1.out.2)
      clear hg2 k1 k2 k3 k4 k5 k6 k7 k8
      obtain ⟨⟨k1, k2⟩, ⟨k3, k4⟩, ⟨k5, k6⟩, k7, k8⟩ := HK.out
      go_wp2_with fail
      obtain ⟨L, hL⟩ : ∃ L, L = [a, b, c, d] := ⟨_, rfl⟩
      have HL0 := pts4 w2 a b c d
      rw [← hL] at HL0
      obtain ⟨W5, hW5⟩ : ∃ W, W = w2.alloc (.cells #[.int .i64 a.x, .int .i64 a.y, .int .i64 b.x, .int .i64 b.y, .int .i64 c.x, .int .i64 c.y, .int .i64 d.x, .int .i64 d.y] 24) := ⟨_, rfl⟩
      obtain ⟨g, hg⟩ : ∃ g, g = w2.heap.size := ⟨_, rfl⟩
      rw [← hW5, ← hg] at HL0
      try rw [← hW5]
      try rw [← hg]
      obtain ⟨ao, hao⟩ : ∃ ao : Option Addr, ao = some ⟨g, 0, none⟩ := ⟨_, rfl⟩
      try rw [← hao]
      rw [← hao] at HL0
      have hg5 : Grew w2 W5 := by rw [hW5]; exact (Grew.refl _).alloc _
      have hs5 : g + 1 = W5.heap.size := by rw [hW5, hg]; simp
      have HS5 := Lib.hid (And.intro (HK.out.later hg5.1 HG2.out.2) (And.intro HL0 (And.intro (show B + 4 ≤ g + 1 by rw [hg]; have := HG2.out.2; omega) (And.intro (Nat.le_of_eq hs5) (HG2.out.1.trans hg5)))))
      have HLE := Lib.hid hL
      have HAO := Lib.hid hao
      have hLl : L.length = 4 := by rw [hL]; rfl
      have HIP : Hid (∀ wr, Below (g + 1) W5 wr → Box4 B a b c d wr ∧ IsPts wr ao 4 4 L ∧ g + 1 ≤ wr.heap.size) := Lib.hid (fun wr h => ⟨HS5.out.1.later h HS5.out.2.2.1, HS5.out.2.1.later h (Nat.le_of_eq hs5.symm), by rw [hs5]; exact h.size⟩)
      clear hg5 hs5 hL hao hg hW5 HL0 k1 k2 k3 k4 k5 k6 k7 k8
      go_loopw [10, 11] (fun v i wr => ∃ k : Nat, k ≤ 4 ∧ i = .int .i64 k ∧ Hid (OwnP wr (g + 1) v (outK a b c d k) ∧ Below (g + 1) W5 wr)) (fun _ i _ => 4 - (intOf i).toNat)
      case atStart => exact ⟨0, by omega, rfl, Lib.hid ⟨OwnP.nil _ _, Below.refl _ _⟩⟩
      case round =>
        obtain ⟨k, hk, rfl, hr⟩ := hrel
        obtain ⟨wo, hwo⟩ : ∃ wo, wo = wr := ⟨_, rfl⟩
        subst hwo
        obtain ⟨ai, cc, hv0, hpts⟩ := hr.out.1.pts
        subst hv0
        have hlen := outK_len a b c d k
        obtain ⟨m, hm⟩ : ∃ m, m = (outK a b c d k).length := ⟨_, rfl⟩
        rw [← hm] at hlen hr hpts ⊢
        have HM := Lib.hid hm
        have HPT := Lib.hid hpts
        clear hm hpts
        by_cases hlt : k < 4
        · have hi0 : (0 : Int) ≤ (k : Int) := by omega
          have hi5 : (k : Int) < 4 := by omega
          have hz := (HIP.out wo hr.out.2).2.2
          have HZ := Lib.hid hz
          obtain ⟨b2, off2, hbo, e0, e1⟩ := (HIP.out wo hr.out.2).2.1.at hlt
          subst hbo
          obtain ⟨x, hx⟩ : ∃ x, x = L.getD k p0 := ⟨_, rfl⟩
          rw [← hx] at e0 e1
          have HX := Lib.hid hx
          have HON1 := Lib.hid (HO1.out x)
          have HON2 := Lib.hid (HO2.out x)
          unfold ptV at HON1 HON2
          obtain ⟨⟨k1, k2⟩, ⟨k3, k4⟩, ⟨k5, k6⟩, k7, k8⟩ := (HIP.out wo hr.out.2).1
          clear hx hz
          obtain ⟨O, hO⟩ : ∃ O, O = outK a b c d k := ⟨_, rfl⟩
          rw [← hO] at hr HM HPT
          have HOE := Lib.hid hO
          have HOL : Hid (m = O.length) := HM
          have HXX : Hid (x = [a, b, c, d].getD k p0) := Lib.hid (by rw [← HLE.out]; exact HX.out)
          clear hO
          by_cases hk1 : 1 < k
          · have hk1i : (1 : Int) < (k : Int) := by omega
            obtain ⟨pk, hpk⟩ : ∃ pk, pk = onP x a b := ⟨_, rfl⟩
            rw [← hpk] at HON2
            have HPK : Hid (pk = rpickP a b c d k) := Lib.hid (by unfold rpickP; rw [if_neg (by omega), hpk, HXX.out])
            clear hpk
            go_wp2_with fail
            go_region_held3 (fun w' => w'.cell? ⟨B + 1 + 1, 0, none⟩ = some (.int .i64 c.x) ∧ w'.cell? ⟨B + 1 + 1, 1, none⟩ = some (.int .i64 c.y) ∧ w'.cell? ⟨B + 1 + 1 + 1, 0, none⟩ = some (.int .i64 d.x) ∧ w'.cell? ⟨B + 1 + 1 + 1, 1, none⟩ = some (.int .i64 d.y) ∧ w'.cell? ⟨b2, off2 + k * 2, none⟩ = some (.int .i64 x.x) ∧ w'.cell? ⟨b2, off2 + k * 2 + 1, none⟩ = some (.int .i64 x.y) ∧ Below wo.heap.size wo w')
              (first
                | (exact ⟨k5, k6, k7, k8, e0, e1, (Below.refl _ _).drew⟩)
                | (go_split_ands; refine on_step hgr ?_ ?_ ?_ ?_ ?_ ?_ ?_; all_goals assumption))
              (first
                | (go_at_call 124; refine (HON1.out _).mono ?_; rintro e wA ⟨rfl, hgr⟩)
                | fail)
            have HA : Hid (Below wo.heap.size wo wA) := Lib.hid (by first | assumption | (go_split_ands; assumption))
            have hbA : Below (g + 1) W5 wA := hr.out.2.trans (HA.out.mono HZ.out)
            clear k1 k2 k3 k4 k5 k6 k7 k8 e0 e1
            obtain ⟨b4, off4, hbo4, e0, e1⟩ := (HIP.out _ hbA).2.1.at hlt
            cases hbo4
            rw [← HX.out] at e0 e1
            obtain ⟨⟨k1, k2⟩, ⟨k3, k4⟩, _⟩ := (HIP.out _ hbA).1
            clear hbA
            go_wp2_with fail
            go_region_held3 (fun w' => w'.cell? ⟨B, 0, none⟩ = some (.int .i64 a.x) ∧ w'.cell? ⟨B, 1, none⟩ = some (.int .i64 a.y) ∧ w'.cell? ⟨B + 1, 0, none⟩ = some (.int .i64 b.x) ∧ w'.cell? ⟨B + 1, 1, none⟩ = some (.int .i64 b.y) ∧ w'.cell? ⟨b2, off2 + k * 2, none⟩ = some (.int .i64 x.x) ∧ w'.cell? ⟨b2, off2 + k * 2 + 1, none⟩ = some (.int .i64 x.y) ∧ Below wo.heap.size wo w')
              (first
                | (exact ⟨k1, k2, k3, k4, e0, e1, HA.out.drew⟩)
                | (go_split_ands; refine on_step hgr ?_ ?_ ?_ ?_ ?_ ?_ ?_; all_goals assumption))
              (first
                | (go_at_call 124; refine (HON2.out _).mono ?_; rintro e wB ⟨rfl, hgr⟩)
                | fail)
            have HA2 : Hid (Below wo.heap.size wo wB) := Lib.hid (by first | assumption | (go_split_ands; assumption))
            clear k1 k2 k3 k4 e0 e1
            go_wp2_with fail
            go_loopw [12, 13] (fun on j wi => ∃ t : Nat, t ≤ m ∧ j = .int .i64 t ∧ ∃ o : Bool, on = .bool o ∧ Hid (o = (pk && decide (x ∉ O.take t)) ∧ Below wo.heap.size wo wi)) (fun _ j _ => m - (intOf j).toNat)
            case atStart => exact ⟨0, by omega, rfl, _, rfl, Lib.hid ⟨by simp, HA2.out⟩⟩
            case round =>
              obtain ⟨t, ht, rfl, o, rfl, hi⟩ := hrel
              have ez := Nat.le_trans HZ.out hi.out.2.size
              have hbw : Below (g + 1) W5 _ := hr.out.2.trans (hi.out.2.mono HZ.out)
              obtain ⟨b4, off4, hbo4, e0, e1⟩ := (HIP.out _ hbw).2.1.at hlt
              cases hbo4
              rw [← HX.out] at e0 e1
              have HBW := Lib.hid (And.intro hbw ez)
              clear hbw ez
              by_cases htm : t < m
              · have ti0 : (0 : Int) ≤ (t : Int) := by omega
                have ti5 : (t : Int) < (m : Int) := by omega
                have hpp : IsPts wr ai m cc O := HPT.out.later hi.out.2 (Nat.le_refl _)
                obtain ⟨b3, off3, hbo3, f0, f1⟩ := hpp.at htm
                subst hbo3
                obtain ⟨y, hy⟩ : ∃ y, y = O.getD t p0 := ⟨_, rfl⟩
                rw [← hy] at f0 f1
                have HT : Hid (O.take (t + 1) = O.take t ++ [y]) := Lib.hid (by rw [hy]; exact take_more (by rw [← HOL.out]; exact htm))
                have hne := run_ne_pt y x
                obtain ⟨z, hz⟩ : ∃ z, z = !decide (y = x) := ⟨_, rfl⟩
                rw [← hz] at hne
                have HZZ := Lib.hid hz
                clear hy hz hpp
                cases o with
                | false =>
                  go_wp2_with fail
                  try go_region
                  try go_wp2_with fail
                  go_roundw
                  case rel =>
                    refine ⟨t + 1, by omega, by go_num, _, rfl, Lib.hid ⟨?_, by first | exact hi.out.2 | exact hi.out.2.drew⟩⟩
                    rw [HT.out]
                    have := hi.out.1
                    cases pk
                    · rfl
                    · simp at this ⊢
                      exact fun h => absurd this h
                  case measure => simp [intOf]; omega
                | true =>
                  cases z with
                  | true =>
                    go_wp2_with fail
                    try go_region
                    try go_wp2_with fail
                    go_roundw
                    case rel =>
                      refine ⟨t + 1, by omega, by go_num, _, rfl, Lib.hid ⟨?_, by first | exact hi.out.2 | exact hi.out.2.drew⟩⟩
                      rw [HT.out]
                      have h1 := hi.out.1
                      have h2 := HZZ.out
                      simp at h1 h2 ⊢
                      exact ⟨h1.1, h1.2, fun h => h2 h.symm⟩
                    case measure => simp [intOf]; omega
                  | false =>
                    go_wp2_with fail
                    try go_region
                    try go_wp2_with fail
                    go_roundw
                    case rel =>
                      refine ⟨t + 1, by omega, by go_num, _, rfl, Lib.hid ⟨?_, by first | exact hi.out.2 | exact hi.out.2.drew⟩⟩
                      rw [HT.out]
                      have h2 := HZZ.out
                      simp at h2 ⊢
                      exact fun _ _ => h2.symm
                    case measure => simp [intOf]; omega
              · obtain rfl : t = m := by omega
                have ho := hi.out.1
                rw [List.take_of_length_le (by rw [← HOL.out]; exact Nat.le_refl _)] at ho
                have HNX : Hid (outK a b c d (k + 1) = if o then O ++ [x] else O) := Lib.hid (by rw [outK, ← HOE.out, ← HPK.out, ← HXX.out, ho])
                clear ho
                cases o with
                | false =>
                  go_wp2_with fail
                  first
                  | go_roundw
                  | skip
                  case rel => exact ⟨k + 1, by omega, by go_num, Lib.hid ⟨by rw [HNX.out, if_neg (by simp)]; exact hr.out.1.later hi.out.2, HBW.out.1⟩⟩
                  case measure => simp [intOf]; omega
                | true =>
                  have hb5 : Below wo.heap.size wo (wr.alloc (.cells #[.int .i64 x.x, .int .i64 x.y] 24)) := hi.out.2.alloc hi.out.2.size _
                  have HBB := Lib.hid hb5
                  clear hb5
                  go_wp2_with (at_builtin; refine wpList_append_pts_at rfl _ _ rfl (g + 1) _ O rfl (hr.out.1.later HBB.out) _ _ _ [x] rfl (pt1 wr x) (by have := HOL.out; omega) (Nat.le_trans HZ.out HBB.out.size) ?_
                               intro v5 w5 hown5 hg5 hat5
                               have H5 := Lib.hid (And.intro hown5 (And.intro hg5 hat5))
                               clear hown5 hg5 hat5)
                  go_roundw
                  case rel =>
                    have hg5 := H5.out.2.1
                    have hgr : Below (g + 1) W5 w5 := (hr.out.2.trans (HBB.out.mono HZ.out)).grown hg5 (Nat.le_trans HZ.out HBB.out.size) (fun k hk => (hr.out.1.lt k hk).1)
                    exact ⟨k + 1, by omega, by go_num, Lib.hid ⟨by rw [HNX.out, if_pos rfl]; exact H5.out.1, hgr⟩⟩
                  case measure => simp [intOf]; omega
          · have hk1i : ¬ (1 : Int) < (k : Int) := by omega
            obtain ⟨pk, hpk⟩ : ∃ pk, pk = onP x c d := ⟨_, rfl⟩
            rw [← hpk] at HON1
            have HPK : Hid (pk = rpickP a b c d k) := Lib.hid (by unfold rpickP; rw [if_pos (by omega), hpk, HXX.out])
            clear hpk
            go_wp2_with fail
            go_region_held3 (fun w' => w'.cell? ⟨B + 1 + 1, 0, none⟩ = some (.int .i64 c.x) ∧ w'.cell? ⟨B + 1 + 1, 1, none⟩ = some (.int .i64 c.y) ∧ w'.cell? ⟨B + 1 + 1 + 1, 0, none⟩ = some (.int .i64 d.x) ∧ w'.cell? ⟨B + 1 + 1 + 1, 1, none⟩ = some (.int .i64 d.y) ∧ w'.cell? ⟨b2, off2 + k * 2, none⟩ = some (.int .i64 x.x) ∧ w'.cell? ⟨b2, off2 + k * 2 + 1, none⟩ = some (.int .i64 x.y) ∧ Below wo.heap.size wo w')
              (first
                | (exact ⟨k5, k6, k7, k8, e0, e1, (Below.refl _ _).drew⟩)
                | (go_split_ands; refine on_step hgr ?_ ?_ ?_ ?_ ?_ ?_ ?_; all_goals assumption))
              (first
                | (go_at_call 124; refine (HON1.out _).mono ?_; rintro e wA ⟨rfl, hgr⟩)
                | fail)
            have HA2 : Hid (Below wo.heap.size wo wA) := Lib.hid (by first | assumption | (go_split_ands; assumption))
            clear k1 k2 k3 k4 k5 k6 k7 k8 e0 e1
            go_wp2_with fail
            go_loopw [12, 13] (fun on j wi => ∃ t : Nat, t ≤ m ∧ j = .int .i64 t ∧ ∃ o : Bool, on = .bool o ∧ Hid (o = (pk && decide (x ∉ O.take t)) ∧ Below wo.heap.size wo wi)) (fun _ j _ => m - (intOf j).toNat)
            case atStart => exact ⟨0, by omega, rfl, _, rfl, Lib.hid ⟨by simp, HA2.out⟩⟩
            case round =>
              obtain ⟨t, ht, rfl, o, rfl, hi⟩ := hrel
              have ez := Nat.le_trans HZ.out hi.out.2.size
              have hbw : Below (g + 1) W5 _ := hr.out.2.trans (hi.out.2.mono HZ.out)
              obtain ⟨b4, off4, hbo4, e0, e1⟩ := (HIP.out _ hbw).2.1.at hlt
              cases hbo4
              rw [← HX.out] at e0 e1
              have HBW := Lib.hid (And.intro hbw ez)
              clear hbw ez
              by_cases htm : t < m
              · have ti0 : (0 : Int) ≤ (t : Int) := by omega
                have ti5 : (t : Int) < (m : Int) := by omega
                have hpp : IsPts wr ai m cc O := HPT.out.later hi.out.2 (Nat.le_refl _)
                obtain ⟨b3, off3, hbo3, f0, f1⟩ := hpp.at htm
                subst hbo3
                obtain ⟨y, hy⟩ : ∃ y, y = O.getD t p0 := ⟨_, rfl⟩
                rw [← hy] at f0 f1
                have HT : Hid (O.take (t + 1) = O.take t ++ [y]) := Lib.hid (by rw [hy]; exact take_more (by rw [← HOL.out]; exact htm))
                have hne := run_ne_pt y x
                obtain ⟨z, hz⟩ : ∃ z, z = !decide (y = x) := ⟨_, rfl⟩
                rw [← hz] at hne
                have HZZ := Lib.hid hz
                clear hy hz hpp
                cases o with
                | false =>
                  go_wp2_with fail
                  try go_region
                  try go_wp2_with fail
                  go_roundw
                  case rel =>
                    refine ⟨t + 1, by omega, by go_num, _, rfl, Lib.hid ⟨?_, by first | exact hi.out.2 | exact hi.out.2.drew⟩⟩
                    rw [HT.out]
                    have := hi.out.1
                    cases pk
                    · rfl
                    · simp at this ⊢
                      exact fun h => absurd this h
                  case measure => simp [intOf]; omega
                | true =>
                  cases z with
                  | true =>
                    go_wp2_with fail
                    try go_region
                    try go_wp2_with fail
                    go_roundw
                    case rel =>
                      refine ⟨t + 1, by omega, by go_num, _, rfl, Lib.hid ⟨?_, by first | exact hi.out.2 | exact hi.out.2.drew⟩⟩
                      rw [HT.out]
                      have h1 := hi.out.1
                      have h2 := HZZ.out
                      simp at h1 h2 ⊢
                      exact ⟨h1.1, h1.2, fun h => h2 h.symm⟩
                    case measure => simp [intOf]; omega
                  | false =>
                    go_wp2_with fail
                    try go_region
                    try go_wp2_with fail
                    go_roundw
                    case rel =>
                      refine ⟨t + 1, by omega, by go_num, _, rfl, Lib.hid ⟨?_, by first | exact hi.out.2 | exact hi.out.2.drew⟩⟩
                      rw [HT.out]
                      have h2 := HZZ.out
                      simp at h2 ⊢
                      exact fun _ _ => h2.symm
                    case measure => simp [intOf]; omega
              · obtain rfl : t = m := by omega
                have ho := hi.out.1
                rw [List.take_of_length_le (by rw [← HOL.out]; exact Nat.le_refl _)] at ho
                have HNX : Hid (outK a b c d (k + 1) = if o then O ++ [x] else O) := Lib.hid (by rw [outK, ← HOE.out, ← HPK.out, ← HXX.out, ho])
                clear ho
                cases o with
                | false =>
                  go_wp2_with fail
                  first
                  | go_roundw
                  | skip
                  case rel => exact ⟨k + 1, by omega, by go_num, Lib.hid ⟨by rw [HNX.out, if_neg (by simp)]; exact hr.out.1.later hi.out.2, HBW.out.1⟩⟩
                  case measure => simp [intOf]; omega
                | true =>
                  have hb5 : Below wo.heap.size wo (wr.alloc (.cells #[.int .i64 x.x, .int .i64 x.y] 24)) := hi.out.2.alloc hi.out.2.size _
                  have HBB := Lib.hid hb5
                  clear hb5
                  go_wp2_with (at_builtin; refine wpList_append_pts_at rfl _ _ rfl (g + 1) _ O rfl (hr.out.1.later HBB.out) _ _ _ [x] rfl (pt1 wr x) (by have := HOL.out; omega) (Nat.le_trans HZ.out HBB.out.size) ?_
                               intro v5 w5 hown5 hg5 hat5
                               have H5 := Lib.hid (And.intro hown5 (And.intro hg5 hat5))
                               clear hown5 hg5 hat5)
                  go_roundw
                  case rel =>
                    have hg5 := H5.out.2.1
                    have hgr : Below (g + 1) W5 w5 := (hr.out.2.trans (HBB.out.mono HZ.out)).grown hg5 (Nat.le_trans HZ.out HBB.out.size) (fun k hk => (hr.out.1.lt k hk).1)
                    exact ⟨k + 1, by omega, by go_num, Lib.hid ⟨by rw [HNX.out, if_pos rfl]; exact H5.out.1, hgr⟩⟩
                  case measure => simp [intOf]; omega
        · obtain rfl : k = 4 := by omega
          go_wp2_with fail
          go_ret
          refine ⟨_, _, by rw [HN.out, ← HM.out]; rfl, ?_⟩
          exact (HS5.out.2.2.2.2.1.trans (hr.out.2.mono (by have := HS5.out.2.2.2.2.size; have := HS5.out.2.2.2.1; have := HBE.out; have := HS5.out.2.2.1; omega)))
end Go.Proofs.YtjiiikeniocmfaaGreat

/- the document's edges: Meets -/
set_option linter.unusedSimpArgs false
set_option linter.unusedVariables false
namespace Go.Proofs.YtjiiikeniocmfaaGreat
open Go.RowKit Go.Geo
set_option maxRecDepth 100000 in
set_option maxHeartbeats 4000000 in
theorem rMeets_any (a b c d : Pt) (w : World) :
    Calls Tryz.prog 95 #[ptV a, ptV b, ptV c, ptV d] w fun e w' => MeetR (meetK a b c d) w e w' := by
  obtain ⟨B, hB⟩ : ∃ B, B = w.heap.size := ⟨_, rfl⟩
  have H4 := box4_new w a b c d
  rw [← hB] at H4
  obtain ⟨W4, hW4⟩ : ∃ W, W = (((w.alloc (.cells #[.int .i64 a.x, .int .i64 a.y] 24)).alloc (.cells #[.int .i64 b.x, .int .i64 b.y] 24)).alloc (.cells #[.int .i64 c.x, .int .i64 c.y] 24)).alloc (.cells #[.int .i64 d.x, .int .i64 d.y] 24) := ⟨_, rfl⟩
  rw [← hW4] at H4
  have hsz : W4.heap.size = B + 4 := by rw [hW4, hB]; simp
  have HB0 : Hid (Grew w W4) := Lib.hid (by rw [hW4]; exact ((((Grew.refl _).alloc _).alloc _).alloc _).alloc _)
  have HH4 := Lib.hid H4
  have HSZ := Lib.hid hsz
  have HBE := Lib.hid hB
  have HM1 := Lib.hid (rmay_any a b)
  have HM2 := Lib.hid (rmay_any c d)
  have HE := Lib.hid (rEnds_any a b c d)
  have HT1 := Lib.hid (rTurn_any a b c)
  have HT2 := Lib.hid (rTurn_any a b d)
  have HT3 := Lib.hid (rTurn_any c d a)
  have HT4 := Lib.hid (rTurn_any c d b)
  have ht1 := turnP_range a b c
  have ht2 := turnP_range a b d
  have ht3 := turnP_range c d a
  have ht4 := turnP_range c d b
  have hx : crossP a b c d = (decide (turnP a b c * turnP a b d < 0) && decide (turnP c d a * turnP c d b < 0)) := rfl
  have hpr1 : -1 ≤ turnP a b c * turnP a b d ∧ turnP a b c * turnP a b d ≤ 1 := by rcases ht1 with h | h | h <;> rcases ht2 with h2 | h2 | h2 <;> rw [h, h2] <;> decide
  have hpr2 : -1 ≤ turnP c d a * turnP c d b ∧ turnP c d a * turnP c d b ≤ 1 := by rcases ht3 with h | h | h <;> rcases ht4 with h2 | h2 | h2 <;> rw [h, h2] <;> decide
  have hm : meetK a b c d = meetN (mayP a b) (mayP c d) (crossP a b c d) (endsP a b c d).length := rfl
  rw [hm]
  obtain ⟨m, hme⟩ : ∃ m, m = (endsP a b c d).length := ⟨_, rfl⟩
  rw [← hme] at HE ⊢
  obtain ⟨x, hxe⟩ : ∃ x, x = crossP a b c d := ⟨_, rfl⟩
  rw [← hxe]
  rw [hx] at hxe
  obtain ⟨t1, h1⟩ : ∃ t, t = turnP a b c := ⟨_, rfl⟩
  obtain ⟨t2, h2⟩ : ∃ t, t = turnP a b d := ⟨_, rfl⟩
  obtain ⟨t3, h3⟩ : ∃ t, t = turnP c d a := ⟨_, rfl⟩
  obtain ⟨t4, h4⟩ : ∃ t, t = turnP c d b := ⟨_, rfl⟩
  rw [← h1] at HT1 hxe hpr1
  rw [← h2] at HT2 hxe hpr1
  rw [← h3] at HT3 hxe hpr2
  rw [← h4] at HT4 hxe hpr2
  have HPR := Lib.hid (And.intro hpr1 hpr2)
  obtain ⟨p, hp⟩ : ∃ p, p = mayP a b := ⟨_, rfl⟩
  obtain ⟨q, hq⟩ : ∃ q, q = mayP c d := ⟨_, rfl⟩
  rw [← hp] at HM1
  rw [← hq] at HM2
  rw [← hp, ← hq]
  have HXE := Lib.hid hxe
  obtain ⟨r, hr⟩ : ∃ r : Nat, r = meetN p q x m := ⟨_, rfl⟩
  rw [← hr]
  have HR := Lib.hid hr
  clear hr
  clear hp hq hm hx h1 h2 h3 h4 hme hxe hpr1 hpr2 ht1 ht2 ht3 ht4
  unfold ptV at *
  cases p with
  | false =>
    go_enter Tryz.func95, Tryz.ntmps95
    go_wp2_with fail
    refine (HM1.out _).mono ?_
    rintro e w1 ⟨rfl, hg1⟩
    go_wp2_with fail
    go_ret
    exact ⟨by rw [show r = 0 from HR.out]; rfl, (((((Grew.refl _).alloc _).alloc _).alloc _).alloc _ |>.trans hg1).1⟩
  | true =>
    go_enter Tryz.func95, Tryz.ntmps95
    go_wp2_with fail
    rw [← hW4, ← hB]
    refine (HM1.out _).mono ?_
    rintro e w1 ⟨rfl, hg1⟩
    obtain ⟨⟨k1, k2⟩, ⟨k3, k4⟩, ⟨k5, k6⟩, k7, k8⟩ := HH4.out.later hg1.1 (by rw [HSZ.out]; exact Nat.le_refl _)
    have HG1 := Lib.hid (And.intro (HB0.out.trans hg1) (show B + 4 ≤ w1.heap.size by have := hg1.size; omega))
    clear hg1 H4 hW4 hB hsz
    go_wp2_with fail
    refine (HM2.out _).mono ?_
    rintro e w2 ⟨rfl, hg2⟩
    have HG2 := Lib.hid (And.intro (HG1.out.1.trans hg2) (Nat.le_trans HG1.out.2 hg2.size))
    have HK : Hid (Box4 B a b c d w2) := Lib.hid ((show Box4 B a b c d w1 from ⟨⟨k1, k2⟩, ⟨k3, k4⟩, ⟨k5, k6⟩, k7, k8⟩).later hg2.1 HG1.out.2)
    clear hg2 k1 k2 k3 k4 k5 k6 k7 k8
    cases q with
    | false =>
      go_wp2_with fail
      go_ret
      exact ⟨by rw [show r = 0 from HR.out]; rfl, HG2.out.1.1⟩
    | true =>
      obtain ⟨⟨k1, k2⟩, ⟨k3, k4⟩, ⟨k5, k6⟩, k7, k8⟩ := HK.out
      go_wp2_with fail
      refine (HE.out _).mono ?_
      rintro e w3 ⟨ao, cap, rfl, hb3⟩
      have HG3 := Lib.hid (And.intro (HG2.out.1.1.trans (hb3.mono HG2.out.1.size)) (Nat.le_trans HG2.out.2 hb3.size))
      have HK3 : Hid (Box4 B a b c d w3) := Lib.hid (HK.out.later hb3 HG2.out.2)
      clear hb3 k1 k2 k3 k4 k5 k6 k7 k8
      match m with
      | 0 =>
        obtain ⟨⟨k1, k2⟩, ⟨k3, k4⟩, ⟨k5, k6⟩, k7, k8⟩ := HK3.out
        have hsz3 := HG3.out.2
        have HSZ3 := Lib.hid hsz3
        clear hsz3
        obtain ⟨p1, hp1⟩ : ∃ z, z = t1 * t2 := ⟨_, rfl⟩
        obtain ⟨p2, hp2⟩ : ∃ z, z = t3 * t4 := ⟨_, rfl⟩
        have s1 : IntKind.i64.wrap (t1 * t2) = p1 := by rw [hp1]; exact IntWalk.i64_in _ (by have := HPR.out.1; omega)
        have s2 : IntKind.i64.wrap (t3 * t4) = p2 := by rw [hp2]; exact IntWalk.i64_in _ (by have := HPR.out.2; omega)
        have hrr : r = if decide (p1 < 0) && decide (p2 < 0) then 2 else 0 := by rw [hp1, hp2, ← HXE.out]; exact HR.out
        have HRR := Lib.hid hrr
        clear hp1 hp2 hrr
        go_wp2_with fail
        go_region_held3 (fun w' => w'.cell? ⟨B, 0, none⟩ = some (.int .i64 a.x) ∧ w'.cell? ⟨B, 1, none⟩ = some (.int .i64 a.y) ∧ w'.cell? ⟨B + 1, 0, none⟩ = some (.int .i64 b.x) ∧ w'.cell? ⟨B + 1, 1, none⟩ = some (.int .i64 b.y) ∧ w'.cell? ⟨B + 1 + 1, 0, none⟩ = some (.int .i64 c.x) ∧ w'.cell? ⟨B + 1 + 1, 1, none⟩ = some (.int .i64 c.y) ∧ w'.cell? ⟨B + 1 + 1 + 1, 0, none⟩ = some (.int .i64 d.x) ∧ w'.cell? ⟨B + 1 + 1 + 1, 1, none⟩ = some (.int .i64 d.y) ∧ Below (B + 4) w3 w')
          (first
            | (exact ⟨k1, k2, k3, k4, k5, k6, k7, k8, (Below.refl _ _).drew⟩)
            | (go_split_ands; refine turn_step hgr HSZ3.out (Nat.le_refl _) ?_ ?_ ?_ ?_ ?_ ?_ ?_ ?_ ?_; all_goals assumption))
          (first
            | (go_at_call 123; have hv := HT1; clear HT1; go_split_ands; refine (hv.out _).mono ?_; rintro e wA ⟨rfl, hgr⟩)
            | (go_at_call 123; go_split_ands; refine (HT2.out _).mono ?_; rintro e wB ⟨rfl, hgr⟩))
        have HA : Hid (Below (B + 4) w3 wB) := Lib.hid (by first | assumption | (go_split_ands; assumption))
        clear k1 k2 k3 k4 k5 k6 k7 k8
        obtain ⟨⟨k1, k2⟩, ⟨k3, k4⟩, ⟨k5, k6⟩, k7, k8⟩ := HK3.out.later HA.out (Nat.le_refl _)
        go_wp2_with fail
        go_region_held3 (fun w' => w'.cell? ⟨B, 0, none⟩ = some (.int .i64 a.x) ∧ w'.cell? ⟨B, 1, none⟩ = some (.int .i64 a.y) ∧ w'.cell? ⟨B + 1, 0, none⟩ = some (.int .i64 b.x) ∧ w'.cell? ⟨B + 1, 1, none⟩ = some (.int .i64 b.y) ∧ w'.cell? ⟨B + 1 + 1, 0, none⟩ = some (.int .i64 c.x) ∧ w'.cell? ⟨B + 1 + 1, 1, none⟩ = some (.int .i64 c.y) ∧ w'.cell? ⟨B + 1 + 1 + 1, 0, none⟩ = some (.int .i64 d.x) ∧ w'.cell? ⟨B + 1 + 1 + 1, 1, none⟩ = some (.int .i64 d.y) ∧ Below (B + 4) w3 w')
          (first
            | (exact ⟨k1, k2, k3, k4, k5, k6, k7, k8, HA.out.drew⟩)
            | (go_split_ands; refine turn_step hgr HSZ3.out (Nat.le_refl _) ?_ ?_ ?_ ?_ ?_ ?_ ?_ ?_ ?_; all_goals assumption))
          (first
            | (go_at_call 123; have hv := HT3; clear HT3; go_split_ands; refine (hv.out _).mono ?_; rintro e wC ⟨rfl, hgr⟩)
            | (go_at_call 123; go_split_ands; refine (HT4.out _).mono ?_; rintro e wD ⟨rfl, hgr⟩))
        have HBD : Hid (Below w.heap.size w wD) := Lib.hid (HG3.out.1.trans (Below.mono (B := B + 4) (by first | assumption | (go_split_ands; assumption)) (by have := HBE.out; omega)))
        clear k1 k2 k3 k4 k5 k6 k7 k8
        by_cases c1 : p1 < 0
        · by_cases c2 : p2 < 0
          · go_wp2_with fail
            go_ret
            exact ⟨by rw [show r = 2 from by rw [HRR.out]; simp [c1, c2]]; rfl, HBD.out⟩
          · go_wp2_with fail
            go_ret
            exact ⟨by rw [show r = 0 from by rw [HRR.out]; simp [c1, c2]]; rfl, HBD.out⟩
        · go_wp2_with fail
          go_ret
          exact ⟨by rw [show r = 0 from by rw [HRR.out, decide_eq_false (by omega)]; rfl]; rfl, HBD.out⟩
      | 1 =>
        go_wp2_with fail
        go_ret
        exact ⟨by rw [show r = 1 from HR.out]; rfl, HG3.out.1⟩
      | m + 2 =>
        have hm0 : (((m + 2 : Nat) : Int) == 0) = false := by simp; omega
        have hm1 : (((m + 2 : Nat) : Int) == 1) = false := by simp; omega
        go_wp2_with fail
        go_ret
        exact ⟨by rw [show r = 3 from HR.out]; rfl, HG3.out.1⟩
end Go.Proofs.YtjiiikeniocmfaaGreat

/- the document's crossings: Crossings, In -/
set_option linter.unusedSimpArgs false
set_option linter.unusedVariables false
namespace Go.Proofs.YtjiiikeniocmfaaGreat
open Go.RowKit Go.Geo
theorem cntB_le (f : Nat → Bool) : ∀ n, cntB n f ≤ n
  | 0 => Nat.le_refl _
  | n + 1 => by
    have := cntB_le f n
    rw [cntB]
    split <;> omega
theorem six_step {W w1 w2 : World} {B1 B2 B3 o1 o2 o3 o4 o5 o6 : Nat} {v1 v2 v3 v4 v5 v6 : Value} (hb : Grew w1 w2)
    (h1 : w1.cell? ⟨B1, o1, none⟩ = some v1) (h2 : w1.cell? ⟨B1, o2, none⟩ = some v2) (h3 : w1.cell? ⟨B2, o3, none⟩ = some v3) (h4 : w1.cell? ⟨B2, o4, none⟩ = some v4) (h5 : w1.cell? ⟨B3, o5, none⟩ = some v5) (h6 : w1.cell? ⟨B3, o6, none⟩ = some v6) (h7 : Grew W w1) :
    w2.cell? ⟨B1, o1, none⟩ = some v1 ∧ w2.cell? ⟨B1, o2, none⟩ = some v2 ∧ w2.cell? ⟨B2, o3, none⟩ = some v3 ∧ w2.cell? ⟨B2, o4, none⟩ = some v4 ∧ w2.cell? ⟨B3, o5, none⟩ = some v5 ∧ w2.cell? ⟨B3, o6, none⟩ = some v6 ∧ Grew W w2 :=
  ⟨hb.cell h1, hb.cell h2, hb.cell h3, hb.cell h4, hb.cell h5, hb.cell h6, h7.trans hb⟩
set_option maxRecDepth 100000 in
set_option maxHeartbeats 4000000 in
theorem rCrossings_any (p : Pt) (ao : Option Addr) (n cap : Nat) (P : List Pt) (w : World) (h : IsPts w ao n cap P) :
    Calls Tryz.prog 96 #[ptV p, .slice ao n cap] w fun e w' => e = .returned (.int .i64 (countK p P : Nat)) ∧ Grew w w' := by
  have HL : Hid (P.length = n) := h.1
  have hcm := h.2.2.1
  have hnc := h.2.1
  unfold maxLen at hcm
  have HP := Lib.hid h
  obtain ⟨f, hf⟩ : ∃ f : Nat → Bool, f = fun i => countsP p (P.getD i p0) (atP P (i + 1)) := ⟨_, rfl⟩
  have hk : countK p P = cntB n f := by unfold countK; rw [hf, ← HL.out]
  have HF := Lib.hid hf
  rw [hk]
  have c0 : (w.alloc (.cells #[.int .i64 p.x, .int .i64 p.y] 24)).cell? ⟨w.heap.size, 0, none⟩ = some (.int .i64 p.x) := cell_of_row _ _ _ _ _ _ (alloc_new w _)
  have c1 : (w.alloc (.cells #[.int .i64 p.x, .int .i64 p.y] 24)).cell? ⟨w.heap.size, 1, none⟩ = some (.int .i64 p.y) := cell_of_row _ _ _ _ _ _ (alloc_new w _)
  have HC0 := Lib.hid (And.intro c0 c1)
  clear h hk hf c0 c1
  unfold ptV
  go_enter Tryz.func96, Tryz.ntmps96
  go_wp2_with fail
  go_loopw [5, 6] (fun c i wr => ∃ k : Nat, k ≤ n ∧ i = .int .i64 k ∧ c = .int .i64 (cntB k f : Nat) ∧ Hid (Grew (w.alloc (.cells #[.int .i64 p.x, .int .i64 p.y] 24)) wr)) (fun _ i _ => n - (intOf i).toNat)
  case atStart => exact ⟨0, by omega, rfl, rfl, Grew.refl _⟩
  case round =>
    obtain ⟨k, hk, rfl, rfl, hr⟩ := hrel
    have hcl := cntB_le f k
    have HS := fun (b : Bool) (h : f k = b) => (show cntB (k + 1) f = cntB k f + (if b then 1 else 0) by rw [cntB, h])
    obtain ⟨c, hc⟩ : ∃ c, c = cntB k f := ⟨_, rfl⟩
    rw [← hc] at hcl HS ⊢
    have HCE := Lib.hid hc
    clear hc
    by_cases hlt : k < n
    · have hk0 : (0 : Int) ≤ (k : Int) := by omega
      have hk5 : (k : Int) < (n : Int) := by omega
      have hw : Grew w wr := ((Grew.refl _).alloc _).trans hr.out
      have hpw := HP.out.later hw.1 (Nat.le_refl _)
      obtain ⟨b2, off2, rfl, e0, e1⟩ := hpw.at hlt
      have hmod : (k + 1) % n < n := Nat.mod_lt _ (by omega)
      obtain ⟨b3, off3, hbo, g0, g1⟩ := hpw.at hmod
      cases hbo
      have c0 := hr.out.cell HC0.out.1
      have c1 := hr.out.cell HC0.out.2
      obtain ⟨x, hx⟩ : ∃ x, x = P.getD k p0 := ⟨_, rfl⟩
      obtain ⟨d, hd⟩ : ∃ d, d = atP P (k + 1) := ⟨_, rfl⟩
      have hde : P.getD ((k + 1) % n) p0 = d := by rw [hd]; unfold atP; rw [HL.out]
      rw [← hx] at e0 e1
      rw [hde] at g0 g1
      obtain ⟨q, hq⟩ : ∃ q, q = (k + 1) % n := ⟨_, rfl⟩
      rw [← hq] at g0 g1 hmod
      have hq0 : (0 : Int) ≤ (q : Int) := by omega
      have hq1 : (q : Int) < (n : Int) := by omega
      have hrem : Int.tmod ((k : Int) + 1) (n : Int) = (q : Int) := by
        rw [Int.tmod_eq_emod_of_nonneg (by omega), hq, Int.natCast_emod]; rfl
      have hrem2 : ((k : Int) + 1) % (n : Int) = (q : Int) := by rw [hq, Int.natCast_emod]; rfl
      have hz : ((n : Int) == 0) = false := by simp; omega
      have hz2 : ¬ (n : Int) = 0 := by omega
      have hnz : ¬ n = 0 := by omega
      have hwr : IntKind.i64.wrap ((k : Int) + 1) = (k : Int) + 1 := IntWalk.i64_in _ (by omega)
      have hwc : IntKind.i64.wrap ((c : Int) + 1) = (c : Int) + 1 := IntWalk.i64_in _ (by omega)
      have hkp : (0 : Int) ≤ (k : Int) + 1 := by omega
      have HCT := Lib.hid (rCounts_any p x d)
      obtain ⟨y, hy⟩ : ∃ y, y = countsP p x d := ⟨_, rfl⟩
      rw [← hy] at HCT
      have hstep := HS y (by rw [HF.out, hy, hx, hd])
      have HST := Lib.hid hstep
      unfold ptV at HCT
      clear hx hd hde hq hw hpw hy HS hstep hmod
      go_wp2_with fail
      go_region_held3 (fun w' => w'.cell? ⟨w.heap.size, 0, none⟩ = some (.int .i64 p.x) ∧ w'.cell? ⟨w.heap.size, 1, none⟩ = some (.int .i64 p.y) ∧ w'.cell? ⟨b2, off2 + k * 2, none⟩ = some (.int .i64 x.x) ∧ w'.cell? ⟨b2, off2 + k * 2 + 1, none⟩ = some (.int .i64 x.y) ∧ w'.cell? ⟨b2, off2 + q * 2, none⟩ = some (.int .i64 d.x) ∧ w'.cell? ⟨b2, off2 + q * 2 + 1, none⟩ = some (.int .i64 d.y) ∧ Grew wr w')
        (first
          | (exact ⟨c0, c1, e0, e1, g0, g1, (Grew.refl _).drew⟩)
          | (go_split_ands; refine six_step hgr ?_ ?_ ?_ ?_ ?_ ?_ ?_; all_goals assumption))
        (first
          | (go_at_call 127; refine (HCT.out _).mono ?_; rintro e wA ⟨rfl, hgr⟩)
          | fail)
      have HA : Hid (Grew wr wA) := Lib.hid (by first | assumption | (go_split_ands; assumption))
      clear c0 c1 e0 e1 g0 g1
      cases y with
      | true =>
        go_wp2_with fail
        go_roundw
        case rel => exact ⟨k + 1, by omega, by go_num, by rw [HST.out]; simp, Lib.hid (hr.out.trans HA.out)⟩
        case measure => simp [intOf]; omega
      | false =>
        go_wp2_with fail
        go_roundw
        case rel => exact ⟨k + 1, by omega, by go_num, by rw [HST.out]; simp, Lib.hid (hr.out.trans HA.out)⟩
        case measure => simp [intOf]; omega
    · obtain rfl : k = n := by omega
      go_wp2_with fail
      go_ret
      exact ⟨by rw [← HCE.out]; rfl, ((Grew.refl _).alloc _).trans hr.out⟩
set_option maxRecDepth 100000 in
set_option maxHeartbeats 4000000 in
theorem rIn_ring (p : Pt) (ao : Option Addr) (n cap : Nat) (P : List Pt) (w : World) (h : IsPts w ao n cap P) :
    Calls Tryz.prog 59 #[ptV p, .slice ao n cap] w fun e w' => e = .returned (.bool (inP p P)) ∧ Grew w w' := by
  have HC := Lib.hid (fun w h => rCrossings_any p ao n cap P w h)
  have hcl : countK p P ≤ n := by unfold countK; rw [h.1]; exact cntB_le _ _
  have hcm := h.2.2.1
  have hnc := h.2.1
  unfold maxLen at hcm
  have hga : Grew w (w.alloc (.cells #[.int .i64 p.x, .int .i64 p.y] 24)) := (Grew.refl w).alloc _
  have HP : Hid (IsPts (w.alloc (.cells #[.int .i64 p.x, .int .i64 p.y] 24)) ao n cap P) := Lib.hid (h.later hga.1 (Nat.le_refl _))
  clear hga
  have he := inP_count p P
  rw [he]
  unfold oddB
  obtain ⟨c, hc⟩ : ∃ c, c = countK p P := ⟨_, rfl⟩
  rw [← hc] at hcl HC ⊢
  clear hc he h
  unfold ptV at *
  obtain ⟨z, hz⟩ : ∃ z : Int, z = (c : Int) % 2 := ⟨_, rfl⟩
  have hrem : Int.tmod (c : Int) 2 = z := by rw [Int.tmod_eq_emod_of_nonneg (by omega), hz]
  have hrem2 : (c : Int) % 2 = z := hz.symm
  have hd : decide (c % 2 = 1) = decide (z = 1) := by
    by_cases h : c % 2 = 1
    · rw [decide_eq_true h, decide_eq_true (by omega)]
    · rw [decide_eq_false h, decide_eq_false (by omega)]
  rw [hd]
  have hc0 : (0 : Int) ≤ (c : Int) := by omega
  clear hz hd
  go_enter Tryz.func59, Tryz.ntmps59
  go_wp2_with fail
  refine (HC.out _ HP.out).mono ?_
  rintro e w1 ⟨rfl, hg⟩
  have HG := Lib.hid (((Grew.refl _).alloc _).trans hg)
  clear hg
  go_wp2_with fail
  go_ret
  exact ⟨rfl, HG.out⟩
end Go.Proofs.YtjiiikeniocmfaaGreat

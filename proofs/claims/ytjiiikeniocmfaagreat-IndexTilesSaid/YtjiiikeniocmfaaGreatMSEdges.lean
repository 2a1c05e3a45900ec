/- region.meet -/
import Derived.Test.YtjiiikeniocmfaaGreatMQBnd
import Derived.StillTailTactics
import Derived.WalkMore
import Derived.IntWalk
import Derived.Test.YtjiiikeniocmfaaGreatMQPoint
set_option linter.unusedSimpArgs false
set_option linter.unusedVariables false
namespace Go.Proofs.YtjiiikeniocmfaaGreat
open Go.RowKit Go.Geo
attribute [local go_sem] Oper.semAt_some
/-- does an edge meet one of a ring's, in more than points? -/
def edgeMeet (p q : Pt) (Q : List Pt) (k : Nat) : Bool := decide (2 ≤ meetK p q (Q.getD k p0) (atP Q (k + 1)))
def edgeMeets (p q : Pt) (Q : List Pt) : Bool := (List.range Q.length).any (edgeMeet p q Q)
theorem edgeMeets_no {p q : Pt} {Q : List Pt} (h : ∀ k, k < Q.length → edgeMeet p q Q k = false) : edgeMeets p q Q = false := by
  unfold edgeMeets
  rw [List.any_eq_false]
  intro k hk
  rw [h k (List.mem_range.1 hk)]
  decide
theorem edgeMeets_yes {p q : Pt} {Q : List Pt} {k : Nat} (hk : k < Q.length) (h : edgeMeet p q Q k = true) : edgeMeets p q Q = true := by
  unfold edgeMeets
  rw [List.any_eq_true]
  exact ⟨k, List.mem_range.2 hk, h⟩
theorem ringsMeet_no {P Q : List Pt} (h : ∀ i, i < P.length → edgeMeets (P.getD i p0) (atP P (i + 1)) Q = false) : ringsMeet P Q = false := by
  unfold ringsMeet
  rw [List.any_eq_false]
  intro i hi
  have := h i (List.mem_range.1 hi)
  unfold edgeMeets edgeMeet at this
  rw [this]
  decide
theorem ringsMeet_yes {P Q : List Pt} {i : Nat} (hi : i < P.length) (h : edgeMeets (P.getD i p0) (atP P (i + 1)) Q = true) : ringsMeet P Q = true := by
  unfold ringsMeet
  rw [List.any_eq_true]
  exact ⟨i, List.mem_range.2 hi, h⟩
/-- where the boxes lie apart no edge meets. -/
theorem edgeMeets_box {p q lo hi lo2 hi2 : Pt} {Q : List Pt} (h1 : boundsP [p, q] = some (lo, hi)) (h2 : boundsP Q = some (lo2, hi2)) (h : boxMeet lo hi lo2 hi2 = false) : edgeMeets p q Q = false := by
  refine edgeMeets_no fun k hk => ?_
  unfold edgeMeet
  rw [decide_eq_false_iff_not]
  intro hm
  have hc : Q.getD k p0 ∈ Q := by rw [List.getD_eq_getElem?_getD, List.getElem?_eq_getElem hk]; exact List.getElem_mem _
  have hd : atP Q (k + 1) ∈ Q := by
    have hl : (k + 1) % Q.length < Q.length := Nat.mod_lt _ (by omega)
    unfold atP
    rw [List.getD_eq_getElem?_getD, List.getElem?_eq_getElem hl]
    exact List.getElem_mem _
  rw [meet_boxes hm h1 h2 hc hd] at h
  cases h
theorem bounds_all {Q : List Pt} (hn : 0 < Q.length) (h : ∀ v ∈ Q, validP v = true) : ∃ lo hi, boundsP Q = some (lo, hi) := by
  cases Q with
  | nil => simp at hn
  | cons a m =>
    unfold boundsP
    simp only
    rw [if_pos (List.all_eq_true.2 h)]
    exact ⟨_, _, rfl⟩
theorem pt2 (w : World) (a b : Pt) : IsPts (w.alloc (.cells #[.int .i64 a.x, .int .i64 a.y, .int .i64 b.x, .int .i64 b.y] 24)) (some ⟨w.heap.size, 0, none⟩) 2 2 [a, b] := by
  refine ⟨rfl, Nat.le_refl _, by unfold maxLen; omega, fun _ => ⟨_, _, rfl, fun i hi => ?_⟩, fun h => by cases h⟩
  have h := alloc_new w (.cells #[.int .i64 a.x, .int .i64 a.y, .int .i64 b.x, .int .i64 b.y] 24)
  match i, hi with
  | 0, _ => exact ⟨cell_of_row _ _ _ _ _ _ h, cell_of_row _ _ _ _ _ _ h⟩
  | 1, _ => exact ⟨cell_of_row _ _ _ _ _ _ h, cell_of_row _ _ _ _ _ _ h⟩
theorem pt2g (w : World) (a b : Pt) {g : Nat} (hg : w.heap.size = g) : IsPts (w.alloc (.cells #[.int .i64 a.x, .int .i64 a.y, .int .i64 b.x, .int .i64 b.y] 24)) (some ⟨g, 0, none⟩) 2 2 [a, b] := by subst hg; exact pt2 w a b
theorem mem_at {P : List Pt} {k : Nat} (hn : 0 < P.length) : atP P k ∈ P := by
  have hl : k % P.length < P.length := Nat.mod_lt _ hn
  unfold atP
  rw [List.getD_eq_getElem?_getD, List.getElem?_eq_getElem hl]
  exact List.getElem_mem _
theorem mem_getD {P : List Pt} {k : Nat} (hk : k < P.length) : P.getD k p0 ∈ P := by
  rw [List.getD_eq_getElem?_getD, List.getElem?_eq_getElem hk]; exact List.getElem_mem _
set_option maxRecDepth 100000 in
set_option maxHeartbeats 4000000 in
theorem meet_any (ao : Option Addr) (n cap : Nat) (P : List Pt) (bo : Option Addr) (m cap2 : Nat) (Q : List Pt) (w : World) (h : IsPts w ao n cap P) (h2 : IsPts w bo m cap2 Q)
    (hn : n ≤ 1048576) (hm0 : 0 < m) (hm : m ≤ 1048576) (hvP : ∀ v ∈ P, validP v = true) (hvQ : ∀ v ∈ Q, validP v = true) :
    Calls Tryz.prog 45 #[.slice ao n cap, .slice bo m cap2] w fun e w' => e = .returned (.bool (ringsMeet P Q)) ∧ Below w.heap.size w w' := by
  have HI := Lib.hid h
  have HJ := Lib.hid h2
  have HL := Lib.hid h.1
  have HL2 := Lib.hid h2.1
  have hnc := h.2.1
  have hmc := h2.2.1
  obtain ⟨lo2, hi2, hbq⟩ := bounds_all (Q := Q) (by rw [h2.1]; exact hm0) hvQ
  have HBQ := Lib.hid hbq
  have hbo := Bounds_any bo m cap2 Q w h2
  unfold boundsV at hbo
  rw [hbq] at hbo
  have HB := Lib.hid hbo
  have HVP := Lib.hid hvP
  obtain ⟨r, hr⟩ : ∃ r, r = ringsMeet P Q := ⟨_, rfl⟩
  rw [← hr]
  have HR := Lib.hid hr
  try dsimp only at HB
  unfold boxV at HB
  clear h h2 hbq hbo hvP hvQ hr
  go_enter Tryz.func45, Tryz.ntmps45
  go_wp2_with fail
  refine wp_scope_straight ?_
  go_wp2_with fail
  refine HB.out.mono ?_
  rintro e w1 ⟨rfl, hg1⟩
  obtain ⟨W0, hW0⟩ : ∃ W, W = w1.alloc (.cells #[.int .i64 lo2.x, .int .i64 lo2.y, .int .i64 hi2.x, .int .i64 hi2.y] 66) := ⟨_, rfl⟩
  have hg0 : Grew w W0 := by rw [hW0]; exact hg1.alloc _
  have hbx : W0.heap[w1.heap.size]? = some (.cells #[.int .i64 lo2.x, .int .i64 lo2.y, .int .i64 hi2.x, .int .i64 hi2.y] 66 (0, 0)) := by rw [hW0]; exact alloc_new _ _
  have H0 := Lib.hid (And.intro hg0 hbx)
  clear hg1 hg0 hbx
  go_wp2_with fail
  try rw [← hW0]
  have HW0 := Lib.hid hW0
  clear hW0
  refine wp_label ?_
  go_wp2_with fail
  go_loopw [21] (fun i wr => ∃ k : Nat, k ≤ n ∧ i = .int .i64 k ∧ Hid (∀ j, j < k → edgeMeets (P.getD j p0) (atP P (j + 1)) Q = false) ∧ Hid (Below W0.heap.size W0 wr)) (fun i _ => n - (intOf i).toNat)
  case atStart => exact ⟨0, by omega, rfl, (fun j hj => absurd hj (by omega)), Below.refl _ _⟩
  case round =>
    obtain ⟨k, hk, rfl, hq, hb⟩ := hrel
    by_cases hlt : k < n
    · have hi0 : (0 : Int) ≤ (k : Int) := by omega
      have hi5 : (k : Int) < (n : Int) := by omega
      have hpt : IsPts wr ao n cap P := (HI.out.grew H0.out.1).later hb.out (Nat.le_refl _)
      obtain ⟨b, off, rfl, e0, e1⟩ := hpt.at hlt
      obtain ⟨c, hc⟩ : ∃ c, c = P.getD k p0 := ⟨_, rfl⟩
      rw [← hc] at e0 e1
      have hmod : (k + 1) % n < n := Nat.mod_lt _ (by omega)
      obtain ⟨b3, off3, hbo, g0, g1⟩ := (hpt.later (((Below.refl wr.heap.size wr).alloc (Nat.le_refl _) (.cells #[.int .i64 c.x, .int .i64 c.y] 24))) (Nat.le_refl _)).at hmod
      cases hbo
      obtain ⟨d, hd⟩ : ∃ d, d = atP P (k + 1) := ⟨_, rfl⟩
      have hde : P.getD ((k + 1) % n) p0 = d := by rw [hd]; unfold atP; rw [HL.out]
      rw [hde] at g0 g1
      obtain ⟨q, hqe⟩ : ∃ q, q = (k + 1) % n := ⟨_, rfl⟩
      rw [← hqe] at g0 g1 hmod
      have hq0 : (0 : Int) ≤ (q : Int) := by omega
      have hq1 : (q : Int) < (n : Int) := by omega
      have hrem : Int.tmod ((k : Int) + 1) (n : Int) = (q : Int) := by
        rw [Int.tmod_eq_emod_of_nonneg (by omega), hqe, Int.natCast_emod]; rfl
      have hrem2 : ((k : Int) + 1) % (n : Int) = (q : Int) := by rw [hqe, Int.natCast_emod]; rfl
      have hz : ((n : Int) == 0) = false := by simp; omega
      have hvc : validP c = true := by rw [hc]; exact HVP.out _ (mem_getD (by rw [HL.out]; exact hlt))
      have hvd : validP d = true := by rw [hd]; exact HVP.out _ (mem_at (by rw [HL.out]; omega))
      obtain ⟨lo, hlo⟩ : ∃ x : Pt, x = ⟨min c.x d.x, min c.y d.y⟩ := ⟨_, rfl⟩
      obtain ⟨hi, hhi⟩ : ∃ x : Pt, x = ⟨max c.x d.x + 1, max c.y d.y + 1⟩ := ⟨_, rfl⟩
      have hbd : boundsP [c, d] = some (lo, hi) := by rw [bounds_two c d ⟨hvc, hvd⟩, hlo, hhi]
      have HBD : Hid (∀ W W', IsPts W (some ⟨W', 0, none⟩) 2 2 [c, d] → Calls Tryz.prog 46 #[.slice (some ⟨W', 0, none⟩) 2 2] W fun e w' => e = .returned (.tuple #[boxV lo hi, .bool true]) ∧ Grew W w') := Lib.hid (fun W W' hW => by
        have h := Bounds_any _ 2 2 [c, d] W hW
        unfold boundsV at h
        rw [hbd] at h
        exact h)
      unfold boxV at HBD
      have HMT := Lib.hid (Meet_any lo hi lo2 hi2)
      unfold boxV at HMT
      obtain ⟨mt, hmt⟩ : ∃ x, x = boxMeet lo hi lo2 hi2 := ⟨_, rfl⟩
      rw [← hmt] at HMT
      have HK := Lib.hid (And.intro hbd (And.intro hmt (And.intro hc hd)))
      have hw2 : Below wr.heap.size wr ((wr.alloc (.cells #[.int .i64 c.x, .int .i64 c.y] 24)).alloc (.cells #[.int .i64 d.x, .int .i64 d.y] 24)) := ((Below.refl _ _).alloc (Nat.le_refl _) _).alloc (by simp) _
      have a0 : ((wr.alloc (.cells #[.int .i64 c.x, .int .i64 c.y] 24)).alloc (.cells #[.int .i64 d.x, .int .i64 d.y] 24)).heap[wr.heap.size]? = some (.cells #[.int .i64 c.x, .int .i64 c.y] 24 (0, 0)) := (Below.heap_alloc _ _ _ (by simp)).trans (alloc_new _ _)
      have a1 := alloc_new2 wr (.cells #[.int .i64 c.x, .int .i64 c.y] 24) (.cells #[.int .i64 d.x, .int .i64 d.y] 24)
      have p0 : ((wr.alloc (.cells #[.int .i64 c.x, .int .i64 c.y] 24)).alloc (.cells #[.int .i64 d.x, .int .i64 d.y] 24)).cell? ⟨wr.heap.size, 0, none⟩ = _ := cell_of_row _ _ _ _ _ _ a0
      have p1 : ((wr.alloc (.cells #[.int .i64 c.x, .int .i64 c.y] 24)).alloc (.cells #[.int .i64 d.x, .int .i64 d.y] 24)).cell? ⟨wr.heap.size, 1, none⟩ = _ := cell_of_row _ _ _ _ _ _ a0
      have HA := Lib.hid (And.intro hw2 (And.intro a0 a1))
      clear hc hd hde hqe hvc hvd hlo hhi hbd hmt hw2 a0 a1 hpt
      go_wp2_with fail
      (with_reducible refine (HBD.out _ _ (pt2g _ c d (by simp))).mono ?_)
      rintro e w2 ⟨rfl, hg2⟩
      have hgA := ((Grew.refl ((wr.alloc (.cells #[.int .i64 c.x, .int .i64 c.y] 24)).alloc (.cells #[.int .i64 d.x, .int .i64 d.y] 24))).alloc _).trans hg2
      have hsA : wr.heap.size + 2 ≤ w2.heap.size := by have := hgA.size; simpa using this
      obtain ⟨w3, hw3⟩ : ∃ W, W = w2.alloc (.cells #[.int .i64 lo.x, .int .i64 lo.y, .int .i64 hi.x, .int .i64 hi.y] 66) := ⟨_, rfl⟩
      have hg3 : Grew w2 w3 := by rw [hw3]; exact (Grew.refl _).alloc _
      have c2 := (hg3.1.block _ (by omega)).trans ((hgA.1.block wr.heap.size (by simp; omega)).trans HA.out.2.1)
      have d2 := (hg3.1.block _ (by omega)).trans ((hgA.1.block (wr.heap.size + 1) (by simp)).trans HA.out.2.2)
      have hb3 : Below wr.heap.size wr w3 := (HA.out.1.trans (hgA.1.mono (by simp; omega))).trans (hg3.1.mono (by omega))
      have hs3 : wr.heap.size + 2 ≤ w3.heap.size := Nat.le_trans hsA hg3.size
      have hx3 := alloc_new w2 (.cells #[.int .i64 lo.x, .int .i64 lo.y, .int .i64 hi.x, .int .i64 hi.y] 66)
      rw [← hw3] at hx3
      have hlw : w1.heap.size < wr.heap.size := Nat.lt_of_lt_of_le (heap_lt' H0.out.2) hb.out.size
      have hy3 := (hb3.block w1.heap.size hlw).trans ((hb.out.block w1.heap.size (heap_lt' H0.out.2)).trans H0.out.2)
      obtain ⟨x0, x1, x2, x3⟩ := box_cells hx3
      obtain ⟨y0, y1, y2, y3⟩ := box_cells hy3
      have H3 := Lib.hid (And.intro hb3 (And.intro hs3 (And.intro c2 (And.intro d2 hlw))))
      clear hg2 hgA hsA hg3 c2 d2 hb3 hs3 hx3 hlw hy3 p0 p1 e0 e1 g0 g1
      rw [hw3] at x0 x1 x2 x3 y0 y1 y2 y3
      go_wp2_with fail
      try rw [← hw3]
      have HW3 := Lib.hid hw3
      clear hw3
      refine (HMT.out _).mono ?_
      rintro e w4 ⟨rfl, hg4⟩
      have HG4 := Lib.hid hg4
      clear hg4 x0 x1 x2 x3 y0 y1 y2 y3
      cases mt with
      | false =>
        go_wp2_with fail
        go_roundw
        case rel =>
          refine ⟨k + 1, by omega, by go_num, Lib.hid fun j hj => ?_, Lib.hid (hb.out.trans ((H3.out.1.trans (HG4.out.1.mono (by have := H3.out.2.1; omega))).mono hb.out.size))⟩
          by_cases hik : j < k
          · exact hq.out j hik
          · obtain rfl : j = k := by omega
            rw [← HK.out.2.2.1, ← HK.out.2.2.2]
            exact edgeMeets_box HK.out.1 HBQ.out HK.out.2.1.symm
        case measure => simp [intOf]; omega
      | true =>
        go_wp2_with fail
        have c4 := (HG4.out.1.block _ (by have := H3.out.2.1; omega)).trans H3.out.2.2.1
        have d4 := (HG4.out.1.block _ (by have := H3.out.2.1; omega)).trans H3.out.2.2.2.1
        have hb4 : Below W0.heap.size W0 w4 := hb.out.trans ((H3.out.1.trans (HG4.out.1.mono (by have := H3.out.2.1; omega))).mono hb.out.size)
        have HC4 := Lib.hid (And.intro c4 (And.intro d4 hb4))
        have hq4 := hq.out
        have HQ4 := Lib.hid hq4
        have HCD : Hid (c = P.getD k p0 ∧ d = atP P (k + 1)) := Lib.hid HK.out.2.2
        clear c4 d4 hb4 hq4 hq hb H3 HG4 HA HBD HMT HK HW3
        obtain ⟨B0, hB0⟩ : ∃ B, B = wr.heap.size := ⟨_, rfl⟩
        rw [← hB0] at HC4
        simp only [← hB0]
        have HB0 := Lib.hid hB0
        clear hB0
        go_loopw [47] (fun i wi => ∃ j : Nat, j ≤ m ∧ i = .int .i64 j ∧ Hid (∀ t, t < j → edgeMeet c d Q t = false) ∧ Hid (Below w4.heap.size w4 wi)) (fun i _ => m - (intOf i).toNat)
        case atStart => exact ⟨0, by omega, rfl, (fun j hj => absurd hj (by omega)), Below.refl _ _⟩
        case round =>
          obtain ⟨j, hj, rfl, hq, hb⟩ := hrel
          by_cases hlt2 : j < m
          · have hj0 : (0 : Int) ≤ (j : Int) := by omega
            have hj5 : (j : Int) < (m : Int) := by omega
            have hpt : IsPts wr bo m cap2 Q := ((HJ.out.grew H0.out.1).later HC4.out.2.2 (Nat.le_refl _)).later hb.out (Nat.le_refl _)
            obtain ⟨b4, off4, hbq, e0, e1⟩ := hpt.at hlt2
            subst hbq
            obtain ⟨c', hc'⟩ : ∃ c', c' = Q.getD j p0 := ⟨_, rfl⟩
            rw [← hc'] at e0 e1
            have hmod : (j + 1) % m < m := Nat.mod_lt _ (by omega)
            have hal : Below wr.heap.size wr (wr.alloc (.cells #[.int .i64 c'.x, .int .i64 c'.y] 24)) := (Below.refl _ _).alloc (Nat.le_refl _) _
            obtain ⟨b5, off5, hbo, g0, g1⟩ := (hpt.later hal (Nat.le_refl _)).at hmod
            cases hbo
            obtain ⟨d', hd'⟩ : ∃ d', d' = atP Q (j + 1) := ⟨_, rfl⟩
            have hde : Q.getD ((j + 1) % m) p0 = d' := by rw [hd']; unfold atP; rw [HL2.out]
            rw [hde] at g0 g1
            obtain ⟨q2, hqe⟩ : ∃ q, q = (j + 1) % m := ⟨_, rfl⟩
            rw [← hqe] at g0 g1 hmod
            have hq0 : (0 : Int) ≤ (q2 : Int) := by omega
            have hq1 : (q2 : Int) < (m : Int) := by omega
            have hrem : Int.tmod ((j : Int) + 1) (m : Int) = (q2 : Int) := by
              rw [Int.tmod_eq_emod_of_nonneg (by omega), hqe, Int.natCast_emod]; rfl
            have hrem2 : ((j : Int) + 1) % (m : Int) = (q2 : Int) := by rw [hqe, Int.natCast_emod]; rfl
            have hz : ((m : Int) == 0) = false := by simp; omega
            have hmne : ¬ m = 0 := by omega
            have hwr : IntKind.i64.wrap ((j : Int) + 1) = (j : Int) + 1 := IntWalk.i64_in _ (by omega)
            have hkp : (0 : Int) ≤ (j : Int) + 1 := by omega
            have hl4 := heap_lt' HC4.out.1
            have hl5 := heap_lt' HC4.out.2.1
            have k0 := (hal.block B0 (Nat.lt_of_lt_of_le hl4 hb.out.size)).trans ((hb.out.block B0 hl4).trans HC4.out.1)
            have k1 := (hal.block (B0 + 1) (Nat.lt_of_lt_of_le hl5 hb.out.size)).trans ((hb.out.block (B0 + 1) hl5).trans HC4.out.2.1)
            obtain ⟨x0, x1, _, _⟩ := pt_cells k0
            obtain ⟨x2, x3, _, _⟩ := pt_cells k1
            have x4 : (wr.alloc (.cells #[.int .i64 c'.x, .int .i64 c'.y] 24)).cell? ⟨wr.heap.size, 0, none⟩ = some (.int .i64 c'.x) := cell_of_row _ _ _ _ _ _ (alloc_new _ _)
            have x5 : (wr.alloc (.cells #[.int .i64 c'.x, .int .i64 c'.y] 24)).cell? ⟨wr.heap.size, 1, none⟩ = some (.int .i64 c'.y) := cell_of_row _ _ _ _ _ _ (alloc_new _ _)
            have HAL := Lib.hid (And.intro hal (hb.out.alloc hb.out.size (.cells #[.int .i64 c'.x, .int .i64 c'.y] 24)))
            have HMC := Lib.hid (Meets_any c d c' d')
            unfold ptV at HMC
            obtain ⟨mm, hmm⟩ : ∃ x, x = meetK c d c' d' := ⟨_, rfl⟩
            rw [← hmm] at HMC
            have HEM : Hid (edgeMeet c d Q j = decide (2 ≤ mm)) := Lib.hid (by rw [hmm, hc', hd']; rfl)
            clear hc' hd' hde hqe hl4 hl5 k0 k1 hal hpt hmm hj
            go_wp2_with fail
            generalize wr.alloc _ = W at *
            go_still_tail 11, (by kernel_rfl)
            change wpList _ _ _ _ _ W.drew
            go_wp2_with fail
            refine (HMC.out _).mono ?_
            rintro e w5 ⟨rfl, hb5⟩
            have HB5 : Hid (Below W.heap.size W w5) := Lib.hid ⟨hb5.os, hb5.tape, hb5.output, hb5.size, hb5.block⟩
            clear hb5 x0 x1 x2 x3 x4 x5 e0 e1 g0 g1
            match mm with
            | 0 =>
              go_wp2_with fail
              go_roundw
              case rel =>
                refine ⟨j + 1, by omega, by go_num, Lib.hid fun t ht => ?_, Lib.hid (HAL.out.2.trans (HB5.out.mono HAL.out.2.size))⟩
                by_cases hik : t < j
                · exact hq.out t hik
                · obtain rfl : t = j := by omega
                  rw [HEM.out]; rfl
              case measure => simp [intOf]; omega
            | 1 =>
              go_wp2_with fail
              go_roundw
              case rel =>
                refine ⟨j + 1, by omega, by go_num, Lib.hid fun t ht => ?_, Lib.hid (HAL.out.2.trans (HB5.out.mono HAL.out.2.size))⟩
                by_cases hik : t < j
                · exact hq.out t hik
                · obtain rfl : t = j := by omega
                  rw [HEM.out]; rfl
              case measure => simp [intOf]; omega
            | mm + 2 =>
              have hm0 : (((mm + 2 : Nat) : Int) == 0) = false := by simp; omega
              have hm1 : (((mm + 2 : Nat) : Int) == 1) = false := by simp; omega
              go_wp2_with fail
              change bodyPost Tryz.prog Tryz.f45 (fun e w' => e = .returned (.bool r) ∧ Below w.heap.size w w') .ret _ _
              go_ret
              refine ⟨?_, H0.out.1.1.trans ((HC4.out.2.2.trans ((HAL.out.2.trans (HB5.out.mono HAL.out.2.size)).mono HC4.out.2.2.size)).mono H0.out.1.size)⟩
              have hr1 : r = true := by
                rw [HR.out]
                refine ringsMeet_yes (by rw [HL.out]; exact hlt) ?_
                rw [← HCD.out.1, ← HCD.out.2]
                refine edgeMeets_yes (by rw [HL2.out]; exact hlt2) ?_
                rw [HEM.out]
                exact decide_eq_true (by omega)
              rw [hr1]
              rfl
          · obtain rfl : j = m := by omega
            have hj5 : ¬ ((j : Int) < (j : Int)) := by omega
            go_wp2_with fail
            refine ⟨⟨k + 1, by omega, by go_num, Lib.hid fun t ht => ?_, Lib.hid (HC4.out.2.2.trans (hb.out.mono HC4.out.2.2.size))⟩, by simp [intOf]; omega⟩
            by_cases hik : t < k
            · exact HQ4.out t hik
            · obtain rfl : t = k := by omega
              rw [← HCD.out.1, ← HCD.out.2]
              exact edgeMeets_no (by rw [HL2.out]; exact hq.out)
    · obtain rfl : k = n := by omega
      have hi5 : ¬ ((k : Int) < (k : Int)) := by omega
      go_wp2_with fail
      go_ret
      refine ⟨?_, H0.out.1.1.trans (hb.out.mono H0.out.1.size)⟩
      rw [HR.out, ringsMeet_no (by rw [HL.out]; exact hq.out)]
      rfl
end Go.Proofs.YtjiiikeniocmfaaGreat

/- region.size; region.Check's helpers: Check$1, IndexFunc, ContainsFunc over rings -/
set_option linter.unusedSimpArgs false
set_option linter.unusedVariables false
namespace Go.Proofs.YtjiiikeniocmfaaGreat
open Go.RowKit Go.Geo
attribute [local go_sem] Oper.semAt_some
def sizeRP (n s : Nat) : Int := if 20 < n then 3 else if n = 0 then 2 else if 400 < s then 211 else 0
theorem sumLen_take_le (g : List (List Pt)) (k : Nat) : sumLen (g.take k) ≤ sumLen g := by
  have h := sumLen_append (g.take k) (g.drop k)
  rw [List.take_append_drop] at h
  omega
set_option maxRecDepth 100000 in
set_option maxHeartbeats 1000000 in
theorem size_region (ao : Option Addr) (n cap : Nat) (R : List (List Pt)) (w : World) (h : IsRings w ao n cap R) (hs : sumLen R ≤ 1000000000000) :
    Calls Tryz.prog 41 #[.agg #[.slice ao n cap]] w fun e w' => e = .returned (.int .i64 (sizeRP n (sumLen R))) ∧ Grew w w' := by
  have HI := Lib.hid h
  have HS := Lib.hid hs
  have hcm := h.2.2.1
  have hnc := h.2.1
  have HL := Lib.hid h.1
  unfold maxLen at hcm
  obtain ⟨z, hz⟩ : ∃ z, z = sizeRP n (sumLen R) := ⟨_, rfl⟩
  rw [← hz]
  have HZ := Lib.hid hz
  have hA : Grew w (w.alloc (.cells #[.slice ao n cap] 30)) := (Grew.refl _).alloc _
  have HA := Lib.hid hA
  have hc0 : (w.alloc (.cells #[.slice ao n cap] 30)).cell? ⟨w.heap.size, 0, none⟩ = some (.slice ao n cap) := alloc_cell _ _ _
  clear h hs hz hA
  go_enter Tryz.func41, Tryz.ntmps41
  go_wp2_with fail
  go_loopw [3, 9] (fun s i wr => ∃ k : Nat, k ≤ n ∧ i = .int .i64 k ∧ (∃ t : Nat, s = .int .i64 t ∧ Hid (t = sumLen (R.take k))) ∧ wr = w.alloc (.cells #[.slice ao n cap] 30)) (fun s i _ => n - (intOf i).toNat)
  case atStart => exact ⟨0, by omega, rfl, ⟨0, rfl, rfl⟩, rfl⟩
  case round =>
    obtain ⟨k, hk, rfl, ⟨t, rfl, ht⟩, rfl⟩ := hrel
    have htb : (t : Int) ≤ 1000000000000 := by have h1 := sumLen_take_le R k; have h2 := HS.out; have h3 := ht.out; omega
    have ht0 : (0 : Int) ≤ (t : Int) := by omega
    by_cases hlt : k < n
    · have hi0 : (0 : Int) ≤ (k : Int) := by omega
      have hi5 : (k : Int) < (n : Int) := by omega
      obtain ⟨b, off, x, y, z, rfl, e0, hp⟩ := (HI.out.later HA.out.1 (Nat.le_refl _)).2.2.2.2 k hlt
      have hy : (y : Int) ≤ 1000000000000 := by
        have h1 := hp.1
        have h2 := sumLen_get (g := R) (k := k) (by rw [HL.out]; exact hlt)
        have h3 := HS.out
        omega
      have hy0 : (0 : Int) ≤ (y : Int) := by omega
      have HT : Hid (t + y = sumLen (R.take (k + 1))) := Lib.hid (by rw [sumLen_take (by rw [HL.out]; exact hlt), ← ht.out, hp.1])
      clear hp
      go_wp2_with fail
      go_roundw
      case rel => exact ⟨k + 1, by omega, by go_num, ⟨t + y, by go_num, HT⟩, by first | trivial | rfl⟩
      case measure => simp [intOf]; omega
    · obtain rfl : n = k := by omega
      have hi5 : ¬ ((n : Int) < (n : Int)) := by omega
      have HT : Hid (t = sumLen R) := Lib.hid (by have := ht.out; rw [List.take_of_length_le (by rw [HL.out]; exact Nat.le_refl _)] at this; exact this)
      by_cases h1 : 20 < n
      · have t1 : decide ((20 : Int) < (n : Int)) = true := decide_eq_true (by omega)
        go_wp2_with fail
        go_ret
        exact ⟨by rw [HZ.out]; unfold sizeRP; rw [if_pos h1]; rfl, HA.out⟩
      · have t1 : decide ((20 : Int) < (n : Int)) = false := decide_eq_false (by omega)
        by_cases h2 : n = 0
        · have t2 : ((n : Int) == 0) = true := by simp; omega
          have HN : Hid (n = 0) := Lib.hid h2
          clear h2
          go_wp2_with fail
          go_ret
          exact ⟨by rw [HZ.out]; unfold sizeRP; rw [if_neg h1, if_pos HN.out]; rfl, HA.out⟩
        · have t2 : ((n : Int) == 0) = false := by simp; omega
          by_cases h3 : 400 < t
          · have t3 : decide ((400 : Int) < (t : Int)) = true := decide_eq_true (by omega)
            go_wp2_with fail
            go_ret
            exact ⟨by rw [HZ.out]; unfold sizeRP; rw [if_neg h1, if_neg h2, ← HT.out, if_pos h3]; rfl, HA.out⟩
          · have t3 : decide ((400 : Int) < (t : Int)) = false := decide_eq_false (by omega)
            go_wp2_with fail
            go_ret
            exact ⟨by rw [HZ.out]; unfold sizeRP; rw [if_neg h1, if_neg h2, ← HT.out, if_neg h3]; rfl, HA.out⟩
/-- a ring that may be. -/
def OkR (P : List Pt) : Prop := 3 ≤ P.length ∧ P.length ≤ 200 ∧ ∀ v ∈ P, validP v = true
theorem meet_ok (ao : Option Addr) (n cap : Nat) (P : List Pt) (bo : Option Addr) (m cap2 : Nat) (Q : List Pt) (w : World) (h : IsPts w ao n cap P) (h2 : IsPts w bo m cap2 Q) (hP : OkR P) (hQ : OkR Q) :
    Calls Tryz.prog 45 #[.slice ao n cap, .slice bo m cap2] w fun e w' => e = .returned (.bool (ringsMeet P Q)) ∧ Below w.heap.size w w' :=
  meet_any ao n cap P bo m cap2 Q w h h2 (by have := hP.2.1; have := h.1; omega) (by have := hQ.1; have := h2.1; omega) (by have := hQ.2.1; have := h2.1; omega) hP.2.2 hQ.2.2
set_option maxRecDepth 100000 in
theorem check1_any (B : Nat) (ao : Option Addr) (n cap : Nat) (P : List Pt) (bo : Option Addr) (m cap2 : Nat) (Q : List Pt) (w : World) (hB : w.cell? ⟨B, 0, none⟩ = some (.slice ao n cap)) (h : IsPts w ao n cap P) (h2 : IsPts w bo m cap2 Q) (hP : OkR P) (hQ : OkR Q) :
    Calls Tryz.prog 44 #[.slice bo m cap2, .pointer (some ⟨B, 0, none⟩)] w fun e w' => e = .returned (.bool (ringsMeet P Q)) ∧ Below w.heap.size w w' := by
  have HM := Lib.hid (meet_ok ao n cap P bo m cap2 Q w h h2 hP hQ)
  clear h h2 hP hQ
  go_enter Tryz.func44, Tryz.ntmps44
  go_wp2_with fail
  refine HM.out.mono ?_
  rintro e w1 ⟨rfl, hb1⟩
  have HB := Lib.hid hb1
  clear hb1
  go_wp2_with fail
  go_ret
  exact ⟨rfl, HB.out⟩
set_option maxRecDepth 100000 in
set_option maxHeartbeats 1000000 in
theorem IndexFnR_any (B : Nat) (ao : Option Addr) (n cap : Nat) (P : List Pt) (co : Option Addr) (m cap2 : Nat) (S : List (List Pt)) (w : World) (hB : w.cell? ⟨B, 0, none⟩ = some (.slice ao n cap)) (h : IsPts w ao n cap P) (h2 : IsRings w co m cap2 S) (hP : OkR P) (hS : ∀ r ∈ S, OkR r) :
    Calls Tryz.prog 68 #[.slice co m cap2, .func (.func 44) #[] #[.pointer (some ⟨B, 0, none⟩)]] w fun e w' => e = .returned (.int .i64 (firstZ m (fun i => ringsMeet P (S.getD i [])))) ∧ Below w.heap.size w w' := by
  have hcm := h2.2.2.1
  have hnc := h2.2.1
  unfold maxLen at hcm
  have HB := Lib.hid hB
  have HI := Lib.hid h
  have HJ := Lib.hid h2
  have HP := Lib.hid hP
  have HS := Lib.hid hS
  obtain ⟨z, hz⟩ : ∃ z, z = firstZ m (fun i => ringsMeet P (S.getD i [])) := ⟨_, rfl⟩
  rw [← hz]
  have HZ := Lib.hid hz
  have hen := enters_of Tryz.func44 (by kernel_rfl) rfl
  have HL := Lib.hid h2.1
  clear hB h h2 hP hS hz
  go_enter Tryz.func68, Tryz.ntmps68
  go_wp2_with fail
  go_loopw [8] (fun i wr => ∃ k : Nat, k ≤ m ∧ i = .int .i64 k ∧ Hid (∀ i, i < k → ringsMeet P (S.getD i []) = false) ∧ Hid (Below w.heap.size w wr)) (fun i _ => m - (intOf i).toNat)
  case atStart => exact ⟨0, by omega, rfl, fun i hi => absurd hi (by omega), Below.refl _ _⟩
  case round =>
    obtain ⟨k, hk, rfl, hall, hbl⟩ := hrel
    by_cases hlt : k < m
    · have hi0 : (0 : Int) ≤ (k : Int) := by omega
      have hi5 : (k : Int) < (m : Int) := by omega
      obtain ⟨b, off, x, y, z, rfl, e0, hp⟩ := (HJ.out.later hbl.out (Nat.le_refl _)).2.2.2.2 k hlt
      have hok : OkR (S.getD k []) := HS.out _ (by
        rw [List.getD_eq_getElem?_getD, List.getElem?_eq_getElem (by rw [HL.out]; exact hlt)]
        exact List.getElem_mem _)
      have HC := Lib.hid (check1_any B ao n cap P x y z (S.getD k []) wr ((hbl.out.cell (p := ⟨B, 0, none⟩) (block_lt_of_cell HB.out)).trans HB.out) (HI.out.later hbl.out (Nat.le_refl _)) hp HP.out hok)
      obtain ⟨p, hpe⟩ : ∃ p, p = ringsMeet P (S.getD k []) := ⟨_, rfl⟩
      rw [← hpe] at HC
      have HPE := Lib.hid hpe
      clear hpe hp hok
      cases p with
      | true =>
        go_wp2_with fail
        refine HC.out.mono ?_
        rintro e w1 ⟨rfl, hb1⟩
        have HB1 := Lib.hid hb1
        clear hb1
        go_wp2_with fail
        go_ret
        refine ⟨?_, hbl.out.trans (HB1.out.mono hbl.out.size)⟩
        rw [HZ.out]
        unfold firstZ
        rw [firstP_some hlt HPE.out.symm hall.out]
        rfl
      | false =>
        go_wp2_with fail
        refine HC.out.mono ?_
        rintro e w1 ⟨rfl, hb1⟩
        have HB1 := Lib.hid hb1
        clear hb1
        go_wp2_with fail
        go_roundw
        case rel =>
          refine ⟨k + 1, by omega, by go_num, fun i hi => ?_, hbl.out.trans (HB1.out.mono hbl.out.size)⟩
          by_cases hik : i < k
          · exact hall.out i hik
          · obtain rfl : i = k := by omega
            exact HPE.out.symm
        case measure => simp [intOf]; omega
    · obtain rfl : k = m := by omega
      go_wp2_with fail
      go_ret
      refine ⟨?_, hbl.out⟩
      rw [HZ.out]
      unfold firstZ
      rw [firstP_none hall.out]
      rfl
theorem firstZ_any {m : Nat} {f : Nat → Bool} : decide (0 ≤ firstZ m f) = (List.range m).any f := by
  unfold firstZ
  cases hf : firstP m f with
  | some i =>
    obtain ⟨h1, h2, _⟩ := firstP_eq_some hf
    rw [List.any_eq_true.2 ⟨i, List.mem_range.2 h1, h2⟩]
    exact decide_eq_true (by simp)
  | none =>
    have h := firstP_eq_none hf
    rw [List.any_eq_false.2 (fun i hi => by rw [h i (List.mem_range.1 hi)]; decide)]
    rfl
set_option maxRecDepth 100000 in
theorem ContainsR_any (B : Nat) (ao : Option Addr) (n cap : Nat) (P : List Pt) (co : Option Addr) (m cap2 : Nat) (S : List (List Pt)) (w : World) (hB : w.cell? ⟨B, 0, none⟩ = some (.slice ao n cap)) (h : IsPts w ao n cap P) (h2 : IsRings w co m cap2 S) (hP : OkR P) (hS : ∀ r ∈ S, OkR r) :
    Calls Tryz.prog 43 #[.slice co m cap2, .func (.func 44) #[] #[.pointer (some ⟨B, 0, none⟩)]] w fun e w' => e = .returned (.bool (S.any (ringsMeet P))) ∧ Below w.heap.size w w' := by
  have hv : S.any (ringsMeet P) = decide (0 ≤ firstZ m (fun i => ringsMeet P (S.getD i []))) := by
    rw [firstZ_any, Bool.eq_iff_iff, List.any_eq_true, List.any_eq_true]
    constructor
    · rintro ⟨r, hr, hm⟩
      obtain ⟨i, hi, rfl⟩ := List.mem_iff_getElem.1 hr
      refine ⟨i, List.mem_range.2 (by rw [← h2.1]; exact hi), ?_⟩
      rw [List.getD_eq_getElem?_getD, List.getElem?_eq_getElem hi]
      exact hm
    · rintro ⟨i, hi, hm⟩
      have hi := List.mem_range.1 hi
      rw [← h2.1] at hi
      rw [List.getD_eq_getElem?_getD, List.getElem?_eq_getElem hi] at hm
      exact ⟨_, List.getElem_mem hi, hm⟩
  have HX := Lib.hid (IndexFnR_any B ao n cap P co m cap2 S w hB h h2 hP hS)
  obtain ⟨z, hz⟩ : ∃ z, z = firstZ m (fun i => ringsMeet P (S.getD i [])) := ⟨_, rfl⟩
  rw [← hz] at HX hv
  rw [hv]
  clear hv hz hB h h2 hP hS
  by_cases h0 : 0 ≤ z
  · rw [decide_eq_true h0]
    have h1 : decide (0 ≤ z) = true := decide_eq_true h0
    clear h0
    go_enter Tryz.func43, Tryz.ntmps43
    go_wp2_with fail
    refine HX.out.mono ?_
    rintro e w1 ⟨rfl, hb1⟩
    have HB1 := Lib.hid hb1
    clear hb1
    go_wp2_with fail
    go_ret
    exact ⟨rfl, HB1.out⟩
  · rw [decide_eq_false h0]
    have h1 : decide (0 ≤ z) = false := decide_eq_false h0
    clear h0
    go_enter Tryz.func43, Tryz.ntmps43
    go_wp2_with fail
    refine HX.out.mono ?_
    rintro e w1 ⟨rfl, hb1⟩
    have HB1 := Lib.hid hb1
    clear hb1
    go_wp2_with fail
    go_ret
    exact ⟨rfl, HB1.out⟩
end Go.Proofs.YtjiiikeniocmfaaGreat

/- slab.edges -/
set_option linter.unusedSimpArgs false
set_option linter.unusedVariables false
namespace Go.Proofs.YtjiiikeniocmfaaGreat
open Go.RowKit Go.Geo
attribute [local go_sem] Oper.semAt_some
def edgesT (l : List Pt) (j : Nat) : List Edg := (List.range j).filterMap fun i => edgeP (l.getD i p0) (atP l (i + 1))
theorem edgesT_succ (l : List Pt) (j : Nat) : edgesT l (j + 1) = edgesT l j ++ (match edgeP (l.getD j p0) (atP l (j + 1)) with | none => [] | some e => [e]) := by
  unfold edgesT
  rw [List.range_succ, List.filterMap_append]
  congr 1
  cases h : edgeP (l.getD j p0) (atP l (j + 1)) with
  | none => simp only [List.filterMap_cons, List.filterMap_nil, h]
  | some e => simp only [List.filterMap_cons, List.filterMap_nil, h]
theorem edgesT_len (l : List Pt) (j : Nat) : (edgesT l j).length ≤ j := by
  unfold edgesT
  exact Nat.le_trans (List.length_filterMap_le _ _) (by simp)
theorem edgesT_all (l : List Pt) : edgesT l l.length = slabL l := rfl
theorem edgesP_len : ∀ R : List (List Pt), (edgesP R).length ≤ sumLen R
  | [] => Nat.le_refl _
  | l :: R => by
    have := edgesP_len R
    have h2 := edgesT_len l l.length
    rw [edgesT_all] at h2
    unfold edgesP sumLen at *
    rw [List.flatMap_cons, List.length_append, List.map_cons, List.sum_cons]
    omega
theorem edgesP_take {R : List (List Pt)} {k : Nat} (h : k < R.length) : edgesP (R.take (k + 1)) = edgesP (R.take k) ++ slabL (R.getD k []) := by
  unfold edgesP
  rw [take_more (d := []) h, List.flatMap_append]
  simp
set_option maxRecDepth 100000 in
set_option maxHeartbeats 4000000 in
theorem Edges_any (ao : Option Addr) (n cap : Nat) (R : List (List Pt)) (w : World) (h : IsRings w ao n cap R) (hs : sumLen R ≤ 1000000) (hn : n ≤ 1000000) :
    Calls Tryz.prog 84 #[.agg #[.slice ao n cap]] w fun e w' => ∃ v, e = .returned v ∧ OwnE w' w.heap.size v (edgesP R) ∧ Below w.heap.size w w' := by
  have HL := Lib.hid h.1
  have HS := Lib.hid hs
  have hcm := h.2.2.1
  have hnc := h.2.1
  unfold maxLen at hcm
  obtain ⟨W0, hW0⟩ : ∃ W, W = w.alloc (.cells #[.slice ao n cap] 30) := ⟨_, rfl⟩
  have hg0 : Below w.heap.size w W0 := by rw [hW0]; exact (Below.refl _ _).alloc (Nat.le_refl _) _
  have c0 : W0.cell? ⟨w.heap.size, 0, none⟩ = some (.slice ao n cap) := by rw [hW0]; exact alloc_cell _ _ _
  have HI := Lib.hid (h.later hg0 (Nat.le_refl _))
  have H0 := Lib.hid hg0
  rw [hW0] at c0
  clear h hs hg0
  go_enter Tryz.func84, Tryz.ntmps84
  go_wp2_with fail
  rw [← hW0]
  clear hW0 c0
  go_loopw [3, 12] (fun v i wr => ∃ k : Nat, k ≤ n ∧ i = .int .i64 k ∧ Hid (OwnE wr W0.heap.size v (edgesP (R.take k))) ∧ Hid (Below W0.heap.size W0 wr)) (fun _ i _ => n - (intOf i).toNat)
  case atStart => exact ⟨0, by omega, rfl, OwnE.nil _ _, Below.refl _ _⟩
  case round =>
    obtain ⟨k, hk, rfl, hown, hbl⟩ := hrel
    by_cases hlt : k < n
    · have hi0 : (0 : Int) ≤ (k : Int) := by omega
      have hi5 : (k : Int) < (n : Int) := by omega
      obtain ⟨b, off, x, y, z, rfl, e00, hp⟩ := HI.out.2.2.2.2 k hlt
      have e0 : wr.cell? ⟨b, off + k, none⟩ = some (.slice x y z) := (hbl.out.cell (p := ⟨b, off + k, none⟩) (block_lt_of_cell e00)).trans e00
      have HP := Lib.hid hp
      have HY : Hid ((R.getD k []).length = y) := Lib.hid hp.1
      have hyc := hp.2.1
      have hzm := hp.2.2.1
      unfold maxLen at hzm
      have HT : Hid (edgesP (R.take (k + 1)) = edgesP (R.take k) ++ slabL (R.getD k [])) := Lib.hid (edgesP_take (by rw [HL.out]; exact hlt))
      have HLEN : Hid ((edgesP (R.take k)).length + y ≤ 1000000) := Lib.hid (by
        have h1 := edgesP_len (R.take k)
        have h2 := sumLen_take (g := R) (k := k) (by rw [HL.out]; exact hlt)
        have h3 := sumLen_take_le R (k + 1)
        have h4 := HS.out
        have h5 := HY.out
        omega)
      obtain ⟨l, hl⟩ : ∃ l, l = R.getD k [] := ⟨_, rfl⟩
      rw [← hl] at HP HY HT
      obtain ⟨E, hE⟩ : ∃ E, E = edgesP (R.take k) := ⟨_, rfl⟩
      rw [← hE] at hown HT HLEN
      clear hp hl hE e00
      go_wp2_with fail
      obtain ⟨wA, hwA⟩ : ∃ x, x = wr := ⟨_, rfl⟩
      subst hwA
      go_loopw [3, 18] (fun v i wr => ∃ j : Nat, j ≤ y ∧ i = .int .i64 j ∧ Hid (OwnE wr W0.heap.size v (E ++ edgesT l j)) ∧ Hid (Below W0.heap.size W0 wr)) (fun _ i _ => y - (intOf i).toNat)
      case atStart => exact ⟨0, by omega, rfl, Lib.hid (by rw [show edgesT l 0 = [] from rfl, List.append_nil]; exact hown.out), hbl⟩
      case round =>
        obtain ⟨j, hj, rfl, hown2, hbl2⟩ := hrel
        by_cases hlt2 : j < y
        · have hj0 : (0 : Int) ≤ (j : Int) := by omega
          have hj5 : (j : Int) < (y : Int) := by omega
          have hy0 : 0 < y := by omega
          obtain ⟨q, hq⟩ : ∃ q, q = (j + 1) % y := ⟨_, rfl⟩
          have hqy : q < y := by rw [hq]; exact Nat.mod_lt _ hy0
          have hrem : Int.tmod ((j : Int) + 1) (y : Int) = (q : Int) := by
            rw [Int.tmod_eq_emod_of_nonneg (by omega), hq, Int.natCast_emod]; rfl
          have hrem2 : ((j : Int) + 1) % (y : Int) = (q : Int) := by rw [hq, Int.natCast_emod]; rfl
          have hq0 : (0 : Int) ≤ (q : Int) := by omega
          have hq5 : (q : Int) < (y : Int) := by omega
          have hyn : ¬ y = 0 := by omega
          have hyi : ((y : Int) == 0) = false := by simp; omega
          have hyi2 : ¬ (y : Int) = 0 := by omega
          have hwq : IntKind.i64.wrap (q : Int) = (q : Int) := IntWalk.i64_in _ (by omega)
          have hpw := HP.out.later hbl2.out (Nat.le_refl _)
          obtain ⟨bp, op, hxe, e1, e2⟩ := hpw.at hlt2
          obtain ⟨bp', op', hxe', e3, e4⟩ := hpw.at hqy
          rw [hxe] at hxe'
          cases hxe'
          subst hxe
          obtain ⟨a, ha⟩ : ∃ a, a = l.getD j p0 := ⟨_, rfl⟩
          obtain ⟨c, hc⟩ : ∃ a, a = l.getD q p0 := ⟨_, rfl⟩
          rw [← ha] at e1 e2
          rw [← hc] at e3 e4
          have HT2 : Hid (E ++ edgesT l (j + 1) = (E ++ edgesT l j) ++ (match edgeP a c with | none => [] | some e => [e])) := Lib.hid (by
            rw [edgesT_succ, ← List.append_assoc, ha, hc, hq]
            unfold atP
            rw [HY.out])
          have HTL : Hid ((E ++ edgesT l j).length + 1 ≤ 1000000000) := Lib.hid (by
            have h1 := edgesT_len l j
            have h2 := HLEN.out
            rw [List.length_append]; omega)
          obtain ⟨F, hF⟩ : ∃ F, F = E ++ edgesT l j := ⟨_, rfl⟩
          rw [← hF] at hown2 HT2 HTL
          clear hpw ha hc hF hq
          by_cases hgt : c.y < a.y
          · have hne : ¬ c.y = a.y := by omega
            have hneb : (c.y == a.y) = false := by simp; omega
            have hneb2 : (c.y != a.y) = true := by simp; omega
            have HE : Hid (edgeP a c = some (c, a)) := Lib.hid (by unfold edgeP; rw [if_pos hgt])
            have e5 : (wr.alloc (.cells #[.int .i64 a.x, .int .i64 a.y] 24)).cell? ⟨bp, op + q * 2, none⟩ = some (.int .i64 c.x) := (((Below.refl wr.heap.size wr).alloc (Nat.le_refl _) _).cell (p := ⟨bp, _, none⟩) (block_lt_of_cell e3)).trans e3
            have e6 : (wr.alloc (.cells #[.int .i64 a.x, .int .i64 a.y] 24)).cell? ⟨bp, op + q * 2 + 1, none⟩ = some (.int .i64 c.y) := (((Below.refl wr.heap.size wr).alloc (Nat.le_refl _) _).cell (p := ⟨bp, _, none⟩) (block_lt_of_cell e4)).trans e4
            go_wp2_with (
              at_builtin
              refine wpList_append_edgs rfl _ _ rfl W0.heap.size _ F rfl (hown2.out.later ((((Below.refl _ _).alloc (Nat.le_refl _) _).alloc (by simp) _).alloc (by simp <;> omega) _)) _ _ _ [(c, a)] rfl (one_edgB _ (c, a) (by simp)) HTL.out (Nat.le_trans hbl2.out.size (by simp <;> omega)) ?_
              intro v9 w9 ho9 hg9
              have H9 := Lib.hid (And.intro ho9 ((((hbl2.out.alloc hbl2.out.size _).alloc (Nat.le_trans hbl2.out.size (by simp)) _).alloc (Nat.le_trans hbl2.out.size (by simp <;> omega)) _).grown hg9 (Nat.le_trans hbl2.out.size (by simp <;> omega)) (fun k hk => (hown2.out.lt k hk).1)))
              clear ho9 hg9)
            go_roundw
            case rel => exact ⟨j + 1, by omega, by go_num, Lib.hid (by rw [HT2.out, HE.out]; exact H9.out.1), Lib.hid H9.out.2⟩
            case measure => simp [intOf]; omega
          · by_cases heq : a.y = c.y
            · have hneb : (a.y == c.y) = true := by simp; omega
              have hneb2 : (a.y != c.y) = false := by simp; omega
              have HE : Hid (edgeP a c = none) := Lib.hid (by unfold edgeP; rw [if_neg hgt, if_pos heq])
              have HEQ := Lib.hid heq
              have e5 : (wr.alloc (.cells #[.int .i64 a.x, .int .i64 a.y] 24)).cell? ⟨bp, op + q * 2, none⟩ = some (.int .i64 c.x) := (((Below.refl wr.heap.size wr).alloc (Nat.le_refl _) _).cell (p := ⟨bp, _, none⟩) (block_lt_of_cell e3)).trans e3
              have e6 : (wr.alloc (.cells #[.int .i64 a.x, .int .i64 a.y] 24)).cell? ⟨bp, op + q * 2 + 1, none⟩ = some (.int .i64 c.y) := (((Below.refl wr.heap.size wr).alloc (Nat.le_refl _) _).cell (p := ⟨bp, _, none⟩) (block_lt_of_cell e4)).trans e4
              clear heq
              go_wp2_with fail
              go_roundw
              case rel => exact ⟨j + 1, by omega, by go_num, Lib.hid (by rw [HT2.out, HE.out, List.append_nil]; exact hown2.out.later (((Below.refl _ _).alloc (Nat.le_refl _) _).alloc (by simp) _)), Lib.hid ((hbl2.out.alloc hbl2.out.size _).alloc (Nat.le_trans hbl2.out.size (by simp)) _)⟩
              case measure => simp [intOf]; omega
            · have hneb : (a.y == c.y) = false := by simp; omega
              have hneb2 : (a.y != c.y) = true := by simp; omega
              have HE : Hid (edgeP a c = some (a, c)) := Lib.hid (by unfold edgeP; rw [if_neg hgt, if_neg heq])
              have e5 : (wr.alloc (.cells #[.int .i64 a.x, .int .i64 a.y] 24)).cell? ⟨bp, op + q * 2, none⟩ = some (.int .i64 c.x) := (((Below.refl wr.heap.size wr).alloc (Nat.le_refl _) _).cell (p := ⟨bp, _, none⟩) (block_lt_of_cell e3)).trans e3
              have e6 : (wr.alloc (.cells #[.int .i64 a.x, .int .i64 a.y] 24)).cell? ⟨bp, op + q * 2 + 1, none⟩ = some (.int .i64 c.y) := (((Below.refl wr.heap.size wr).alloc (Nat.le_refl _) _).cell (p := ⟨bp, _, none⟩) (block_lt_of_cell e4)).trans e4
              go_wp2_with (
                at_builtin
                refine wpList_append_edgs rfl _ _ rfl W0.heap.size _ F rfl (hown2.out.later ((((Below.refl _ _).alloc (Nat.le_refl _) _).alloc (by simp) _).alloc (by simp <;> omega) _)) _ _ _ [(a, c)] rfl (one_edgB _ (a, c) (by simp)) HTL.out (Nat.le_trans hbl2.out.size (by simp <;> omega)) ?_
                intro v9 w9 ho9 hg9
                have H9 := Lib.hid (And.intro ho9 ((((hbl2.out.alloc hbl2.out.size _).alloc (Nat.le_trans hbl2.out.size (by simp)) _).alloc (Nat.le_trans hbl2.out.size (by simp <;> omega)) _).grown hg9 (Nat.le_trans hbl2.out.size (by simp <;> omega)) (fun k hk => (hown2.out.lt k hk).1)))
                clear ho9 hg9)
              go_roundw
              case rel => exact ⟨j + 1, by omega, by go_num, Lib.hid (by rw [HT2.out, HE.out]; exact H9.out.1), Lib.hid H9.out.2⟩
              case measure => simp [intOf]; omega
        · have hjy : y = j := by omega
          subst hjy
          have hj5 : ¬ (y : Int) < (y : Int) := by omega
          have HF : Hid (edgesP (R.take (k + 1)) = E ++ edgesT l y) := Lib.hid (by rw [HT.out, ← HY.out]; rfl)
          go_wp2_with fail
          go_roundw
          case rel => exact ⟨k + 1, by omega, by go_num, Lib.hid (by rw [HF.out]; exact hown2.out), hbl2⟩
          case measure => simp [intOf]; omega
    · have hkn : n = k := by omega
      subst hkn
      have hi5 : ¬ (n : Int) < (n : Int) := by omega
      have hown3 := hown.out
      rw [List.take_of_length_le (by rw [HL.out]; exact Nat.le_refl _)] at hown3
      have H3 := Lib.hid hown3
      clear hown3
      go_wp2_with fail
      go_ret
      exact ⟨_, rfl, H3.out.base H0.out.size, H0.out.trans (hbl.out.mono H0.out.size)⟩
end Go.Proofs.YtjiiikeniocmfaaGreat

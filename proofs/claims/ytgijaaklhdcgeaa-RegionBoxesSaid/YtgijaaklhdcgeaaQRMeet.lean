/- region.meet -/
import Derived.Test.YtgijaaklhdcgeaaQCheck
import Derived.Test.YtgijaaklhdcgeaaQBnd
import Derived.StillTailTactics
import Derived.WalkMore
import Derived.IntWalk
set_option linter.unusedSimpArgs false
set_option linter.unusedVariables false
namespace Go.Proofs.Ytgijaaklhdcgeaa
open Go.RowKit Go.Geo
attribute [local go_sem] Oper.semAt_some
/-- does an edge meet one of a ring's, in more than points? -/
def edgeMeet (p q : Pt) (Q : List Pt) (k : Nat) : Bool := decide (2 ≤ meetK p q (Q.getD k p0) (atP Q (k + 1)))
def edgeMeets (p q : Pt) (Q : List Pt) : Bool := (List.range Q.length).any (edgeMeet p q Q)
theorem edgeMeets_no {p q : Pt} {Q : List Pt} (h : ∀ k, k < Q.length → edgeMeet p q Q k = false) : edgeMeets p q Q = false := by
  unfold edgeMeets
  rw [List.any_eq_false]
  intro k hk
  rw [h k (List.mem_range.1 hk)]
  decide
theorem edgeMeets_yes {p q : Pt} {Q : List Pt} {k : Nat} (hk : k < Q.length) (h : edgeMeet p q Q k = true) : edgeMeets p q Q = true := by
  unfold edgeMeets
  rw [List.any_eq_true]
  exact ⟨k, List.mem_range.2 hk, h⟩
theorem ringsMeet_no {P Q : List Pt} (h : ∀ i, i < P.length → edgeMeets (P.getD i p0) (atP P (i + 1)) Q = false) : ringsMeet P Q = false := by
  unfold ringsMeet
  rw [List.any_eq_false]
  intro i hi
  have := h i (List.mem_range.1 hi)
  unfold edgeMeets edgeMeet at this
  rw [this]
  decide
theorem ringsMeet_yes {P Q : List Pt} {i : Nat} (hi : i < P.length) (h : edgeMeets (P.getD i p0) (atP P (i + 1)) Q = true) : ringsMeet P Q = true := by
  unfold ringsMeet
  rw [List.any_eq_true]
  exact ⟨i, List.mem_range.2 hi, h⟩
/-- where the boxes lie apart no edge meets. -/
theorem edgeMeets_box {p q lo hi lo2 hi2 : Pt} {Q : List Pt} (h1 : boundsP [p, q] = some (lo, hi)) (h2 : boundsP Q = some (lo2, hi2)) (h : boxMeet lo hi lo2 hi2 = false) : edgeMeets p q Q = false := by
  refine edgeMeets_no fun k hk => ?_
  unfold edgeMeet
  rw [decide_eq_false_iff_not]
  intro hm
  have hc : Q.getD k p0 ∈ Q := by rw [List.getD_eq_getElem?_getD, List.getElem?_eq_getElem hk]; exact List.getElem_mem _
  have hd : atP Q (k + 1) ∈ Q := by
    have hl : (k + 1) % Q.length < Q.length := Nat.mod_lt _ (by omega)
    unfold atP
    rw [List.getD_eq_getElem?_getD, List.getElem?_eq_getElem hl]
    exact List.getElem_mem _
  rw [meet_boxes hm h1 h2 hc hd] at h
  cases h
theorem bounds_all {Q : List Pt} (hn : 0 < Q.length) (h : ∀ v ∈ Q, validP v = true) : ∃ lo hi, boundsP Q = some (lo, hi) := by
  cases Q with
  | nil => simp at hn
  | cons a m =>
    unfold boundsP
    simp only
    rw [if_pos (List.all_eq_true.2 h)]
    exact ⟨_, _, rfl⟩
theorem pt2 (w : World) (a b : Pt) : IsPts (w.alloc (.cells #[.int .i64 a.x, .int .i64 a.y, .int .i64 b.x, .int .i64 b.y] 27)) (some ⟨w.heap.size, 0, none⟩) 2 2 [a, b] := by
  refine ⟨rfl, Nat.le_refl _, by unfold maxLen; omega, fun _ => ⟨_, _, rfl, fun i hi => ?_⟩, fun h => by cases h⟩
  have h := alloc_new w (.cells #[.int .i64 a.x, .int .i64 a.y, .int .i64 b.x, .int .i64 b.y] 27)
  match i, hi with
  | 0, _ => exact ⟨cell_of_row _ _ _ _ _ _ h, cell_of_row _ _ _ _ _ _ h⟩
  | 1, _ => exact ⟨cell_of_row _ _ _ _ _ _ h, cell_of_row _ _ _ _ _ _ h⟩
theorem pt2g (w : World) (a b : Pt) {g : Nat} (hg : w.heap.size = g) : IsPts (w.alloc (.cells #[.int .i64 a.x, .int .i64 a.y, .int .i64 b.x, .int .i64 b.y] 27)) (some ⟨g, 0, none⟩) 2 2 [a, b] := by subst hg; exact pt2 w a b
theorem mem_at {P : List Pt} {k : Nat} (hn : 0 < P.length) : atP P k ∈ P := by
  have hl : k % P.length < P.length := Nat.mod_lt _ hn
  unfold atP
  rw [List.getD_eq_getElem?_getD, List.getElem?_eq_getElem hl]
  exact List.getElem_mem _
theorem mem_getD {P : List Pt} {k : Nat} (hk : k < P.length) : P.getD k p0 ∈ P := by
  rw [List.getD_eq_getElem?_getD, List.getElem?_eq_getElem hk]; exact List.getElem_mem _
set_option maxRecDepth 100000 in
set_option maxHeartbeats 4000000 in
theorem meet_any (ao : Option Addr) (n cap : Nat) (P : List Pt) (bo : Option Addr) (m cap2 : Nat) (Q : List Pt) (w : World) (h : IsPts w ao n cap P) (h2 : IsPts w bo m cap2 Q)
    (hn : n ≤ 1048576) (hm0 : 0 < m) (hm : m ≤ 1048576) (hvP : ∀ v ∈ P, validP v = true) (hvQ : ∀ v ∈ Q, validP v = true) :
    Calls Try.prog 36 #[.slice ao n cap, .slice bo m cap2] w fun e w' => e = .returned (.bool (ringsMeet P Q)) ∧ Below w.heap.size w w' := by
  have HI := Lib.hid h
  have HJ := Lib.hid h2
  have HL := Lib.hid h.1
  have HL2 := Lib.hid h2.1
  have hnc := h.2.1
  have hmc := h2.2.1
  obtain ⟨lo2, hi2, hbq⟩ := bounds_all (Q := Q) (by rw [h2.1]; exact hm0) hvQ
  have HBQ := Lib.hid hbq
  have hbo := Bounds_any bo m cap2 Q w h2
  unfold boundsV at hbo
  rw [hbq] at hbo
  have HB := Lib.hid hbo
  have HVP := Lib.hid hvP
  obtain ⟨r, hr⟩ : ∃ r, r = ringsMeet P Q := ⟨_, rfl⟩
  rw [← hr]
  have HR := Lib.hid hr
  try dsimp only at HB
  unfold boxV at HB
  clear h h2 hbq hbo hvP hvQ hr
  go_enter Try.func36, Try.ntmps36
  go_wp2_with fail
  refine wp_scope_straight ?_
  go_wp2_with fail
  refine HB.out.mono ?_
  rintro e w1 ⟨rfl, hg1⟩
  obtain ⟨W0, hW0⟩ : ∃ W, W = w1.alloc (.cells #[.int .i64 lo2.x, .int .i64 lo2.y, .int .i64 hi2.x, .int .i64 hi2.y] 47) := ⟨_, rfl⟩
  have hg0 : Grew w W0 := by rw [hW0]; exact hg1.alloc _
  have hbx : W0.heap[w1.heap.size]? = some (.cells #[.int .i64 lo2.x, .int .i64 lo2.y, .int .i64 hi2.x, .int .i64 hi2.y] 47 (0, 0)) := by rw [hW0]; exact alloc_new _ _
  have H0 := Lib.hid (And.intro hg0 hbx)
  clear hg1 hg0 hbx
  go_wp2_with fail
  try rw [← hW0]
  have HW0 := Lib.hid hW0
  clear hW0
  refine wp_label ?_
  go_wp2_with fail
  go_loopw [21] (fun i wr => ∃ k : Nat, k ≤ n ∧ i = .int .i64 k ∧ Hid (∀ j, j < k → edgeMeets (P.getD j p0) (atP P (j + 1)) Q = false) ∧ Hid (Below W0.heap.size W0 wr)) (fun i _ => n - (intOf i).toNat)
  case atStart => exact ⟨0, by omega, rfl, (fun j hj => absurd hj (by omega)), Below.refl _ _⟩
  case round =>
    obtain ⟨k, hk, rfl, hq, hb⟩ := hrel
    by_cases hlt : k < n
    · have hi0 : (0 : Int) ≤ (k : Int) := by omega
      have hi5 : (k : Int) < (n : Int) := by omega
      have hpt : IsPts wr ao n cap P := (HI.out.grew H0.out.1).later hb.out (Nat.le_refl _)
      obtain ⟨b, off, rfl, e0, e1⟩ := hpt.at hlt
      obtain ⟨c, hc⟩ : ∃ c, c = P.getD k p0 := ⟨_, rfl⟩
      rw [← hc] at e0 e1
      have hmod : (k + 1) % n < n := Nat.mod_lt _ (by omega)
      obtain ⟨b3, off3, hbo, g0, g1⟩ := (hpt.later (((Below.refl wr.heap.size wr).alloc (Nat.le_refl _) (.cells #[.int .i64 c.x, .int .i64 c.y] 27))) (Nat.le_refl _)).at hmod
      cases hbo
      obtain ⟨d, hd⟩ : ∃ d, d = atP P (k + 1) := ⟨_, rfl⟩
      have hde : P.getD ((k + 1) % n) p0 = d := by rw [hd]; unfold atP; rw [HL.out]
      rw [hde] at g0 g1
      obtain ⟨q, hqe⟩ : ∃ q, q = (k + 1) % n := ⟨_, rfl⟩
      rw [← hqe] at g0 g1 hmod
      have hq0 : (0 : Int) ≤ (q : Int) := by omega
      have hq1 : (q : Int) < (n : Int) := by omega
      have hrem : Int.tmod ((k : Int) + 1) (n : Int) = (q : Int) := by
        rw [Int.tmod_eq_emod_of_nonneg (by omega), hqe, Int.natCast_emod]; rfl
      have hrem2 : ((k : Int) + 1) % (n : Int) = (q : Int) := by rw [hqe, Int.natCast_emod]; rfl
      have hz : ((n : Int) == 0) = false := by simp; omega
      have hvc : validP c = true := by rw [hc]; exact HVP.out _ (mem_getD (by rw [HL.out]; exact hlt))
      have hvd : validP d = true := by rw [hd]; exact HVP.out _ (mem_at (by rw [HL.out]; omega))
      obtain ⟨lo, hlo⟩ : ∃ x : Pt, x = ⟨min c.x d.x, min c.y d.y⟩ := ⟨_, rfl⟩
      obtain ⟨hi, hhi⟩ : ∃ x : Pt, x = ⟨max c.x d.x + 1, max c.y d.y + 1⟩ := ⟨_, rfl⟩
      have hbd : boundsP [c, d] = some (lo, hi) := by rw [bounds_two c d ⟨hvc, hvd⟩, hlo, hhi]
      have HBD : Hid (∀ W W', IsPts W (some ⟨W', 0, none⟩) 2 2 [c, d] → Calls Try.prog 45 #[.slice (some ⟨W', 0, none⟩) 2 2] W fun e w' => e = .returned (.tuple #[boxV lo hi, .bool true]) ∧ Grew W w') := Lib.hid (fun W W' hW => by
        have h := Bounds_any _ 2 2 [c, d] W hW
        unfold boundsV at h
        rw [hbd] at h
        exact h)
      unfold boxV at HBD
      have HMT := Lib.hid (Meet_any lo hi lo2 hi2)
      unfold boxV at HMT
      obtain ⟨mt, hmt⟩ : ∃ x, x = boxMeet lo hi lo2 hi2 := ⟨_, rfl⟩
      rw [← hmt] at HMT
      have HK := Lib.hid (And.intro hbd (And.intro hmt (And.intro hc hd)))
      have hw2 : Below wr.heap.size wr ((wr.alloc (.cells #[.int .i64 c.x, .int .i64 c.y] 27)).alloc (.cells #[.int .i64 d.x, .int .i64 d.y] 27)) := ((Below.refl _ _).alloc (Nat.le_refl _) _).alloc (by simp) _
      have a0 : ((wr.alloc (.cells #[.int .i64 c.x, .int .i64 c.y] 27)).alloc (.cells #[.int .i64 d.x, .int .i64 d.y] 27)).heap[wr.heap.size]? = some (.cells #[.int .i64 c.x, .int .i64 c.y] 27 (0, 0)) := (Below.heap_alloc _ _ _ (by simp)).trans (alloc_new _ _)
      have a1 := alloc_new2 wr (.cells #[.int .i64 c.x, .int .i64 c.y] 27) (.cells #[.int .i64 d.x, .int .i64 d.y] 27)
      have p0 : ((wr.alloc (.cells #[.int .i64 c.x, .int .i64 c.y] 27)).alloc (.cells #[.int .i64 d.x, .int .i64 d.y] 27)).cell? ⟨wr.heap.size, 0, none⟩ = _ := cell_of_row _ _ _ _ _ _ a0
      have p1 : ((wr.alloc (.cells #[.int .i64 c.x, .int .i64 c.y] 27)).alloc (.cells #[.int .i64 d.x, .int .i64 d.y] 27)).cell? ⟨wr.heap.size, 1, none⟩ = _ := cell_of_row _ _ _ _ _ _ a0
      have HA := Lib.hid (And.intro hw2 (And.intro a0 a1))
      clear hc hd hde hqe hvc hvd hlo hhi hbd hmt hw2 a0 a1 hpt
      go_wp2_with fail
      (with_reducible refine (HBD.out _ _ (pt2g _ c d (by simp))).mono ?_)
      rintro e w2 ⟨rfl, hg2⟩
      have hgA := ((Grew.refl ((wr.alloc (.cells #[.int .i64 c.x, .int .i64 c.y] 27)).alloc (.cells #[.int .i64 d.x, .int .i64 d.y] 27))).alloc _).trans hg2
      have hsA : wr.heap.size + 2 ≤ w2.heap.size := by have := hgA.size; simpa using this
      obtain ⟨w3, hw3⟩ : ∃ W, W = w2.alloc (.cells #[.int .i64 lo.x, .int .i64 lo.y, .int .i64 hi.x, .int .i64 hi.y] 47) := ⟨_, rfl⟩
      have hg3 : Grew w2 w3 := by rw [hw3]; exact (Grew.refl _).alloc _
      have c2 := (hg3.1.block _ (by omega)).trans ((hgA.1.block wr.heap.size (by simp; omega)).trans HA.out.2.1)
      have d2 := (hg3.1.block _ (by omega)).trans ((hgA.1.block (wr.heap.size + 1) (by simp)).trans HA.out.2.2)
      have hb3 : Below wr.heap.size wr w3 := (HA.out.1.trans (hgA.1.mono (by simp; omega))).trans (hg3.1.mono (by omega))
      have hs3 : wr.heap.size + 2 ≤ w3.heap.size := Nat.le_trans hsA hg3.size
      have hx3 := alloc_new w2 (.cells #[.int .i64 lo.x, .int .i64 lo.y, .int .i64 hi.x, .int .i64 hi.y] 47)
      rw [← hw3] at hx3
      have hlw : w1.heap.size < wr.heap.size := Nat.lt_of_lt_of_le (heap_lt' H0.out.2) hb.out.size
      have hy3 := (hb3.block w1.heap.size hlw).trans ((hb.out.block w1.heap.size (heap_lt' H0.out.2)).trans H0.out.2)
      obtain ⟨x0, x1, x2, x3⟩ := box_cells hx3
      obtain ⟨y0, y1, y2, y3⟩ := box_cells hy3
      have H3 := Lib.hid (And.intro hb3 (And.intro hs3 (And.intro c2 (And.intro d2 hlw))))
      clear hg2 hgA hsA hg3 c2 d2 hb3 hs3 hx3 hlw hy3 p0 p1 e0 e1 g0 g1
      rw [hw3] at x0 x1 x2 x3 y0 y1 y2 y3
      go_wp2_with fail
      try rw [← hw3]
      have HW3 := Lib.hid hw3
      clear hw3
      refine (HMT.out _).mono ?_
      rintro e w4 ⟨rfl, hg4⟩
      have HG4 := Lib.hid hg4
      clear hg4 x0 x1 x2 x3 y0 y1 y2 y3
      cases mt with
      | false =>
        go_wp2_with fail
        go_roundw
        case rel =>
          refine ⟨k + 1, by omega, by go_num, Lib.hid fun j hj => ?_, Lib.hid (hb.out.trans ((H3.out.1.trans (HG4.out.1.mono (by have := H3.out.2.1; omega))).mono hb.out.size))⟩
          by_cases hik : j < k
          · exact hq.out j hik
          · obtain rfl : j = k := by omega
            rw [← HK.out.2.2.1, ← HK.out.2.2.2]
            exact edgeMeets_box HK.out.1 HBQ.out HK.out.2.1.symm
        case measure => simp [intOf]; omega
      | true =>
        go_wp2_with fail
        have c4 := (HG4.out.1.block _ (by have := H3.out.2.1; omega)).trans H3.out.2.2.1
        have d4 := (HG4.out.1.block _ (by have := H3.out.2.1; omega)).trans H3.out.2.2.2.1
        have hb4 : Below W0.heap.size W0 w4 := hb.out.trans ((H3.out.1.trans (HG4.out.1.mono (by have := H3.out.2.1; omega))).mono hb.out.size)
        have HC4 := Lib.hid (And.intro c4 (And.intro d4 hb4))
        have hq4 := hq.out
        have HQ4 := Lib.hid hq4
        have HCD : Hid (c = P.getD k p0 ∧ d = atP P (k + 1)) := Lib.hid HK.out.2.2
        clear c4 d4 hb4 hq4 hq hb H3 HG4 HA HBD HMT HK HW3
        obtain ⟨B0, hB0⟩ : ∃ B, B = wr.heap.size := ⟨_, rfl⟩
        rw [← hB0] at HC4
        simp only [← hB0]
        have HB0 := Lib.hid hB0
        clear hB0
        go_loopw [47] (fun i wi => ∃ j : Nat, j ≤ m ∧ i = .int .i64 j ∧ Hid (∀ t, t < j → edgeMeet c d Q t = false) ∧ Hid (Below w4.heap.size w4 wi)) (fun i _ => m - (intOf i).toNat)
        case atStart => exact ⟨0, by omega, rfl, (fun j hj => absurd hj (by omega)), Below.refl _ _⟩
        case round =>
          obtain ⟨j, hj, rfl, hq, hb⟩ := hrel
          by_cases hlt2 : j < m
          · have hj0 : (0 : Int) ≤ (j : Int) := by omega
            have hj5 : (j : Int) < (m : Int) := by omega
            have hpt : IsPts wr bo m cap2 Q := ((HJ.out.grew H0.out.1).later HC4.out.2.2 (Nat.le_refl _)).later hb.out (Nat.le_refl _)
            obtain ⟨b4, off4, hbq, e0, e1⟩ := hpt.at hlt2
            subst hbq
            obtain ⟨c', hc'⟩ : ∃ c', c' = Q.getD j p0 := ⟨_, rfl⟩
            rw [← hc'] at e0 e1
            have hmod : (j + 1) % m < m := Nat.mod_lt _ (by omega)
            have hal : Below wr.heap.size wr (wr.alloc (.cells #[.int .i64 c'.x, .int .i64 c'.y] 27)) := (Below.refl _ _).alloc (Nat.le_refl _) _
            obtain ⟨b5, off5, hbo, g0, g1⟩ := (hpt.later hal (Nat.le_refl _)).at hmod
            cases hbo
            obtain ⟨d', hd'⟩ : ∃ d', d' = atP Q (j + 1) := ⟨_, rfl⟩
            have hde : Q.getD ((j + 1) % m) p0 = d' := by rw [hd']; unfold atP; rw [HL2.out]
            rw [hde] at g0 g1
            obtain ⟨q2, hqe⟩ : ∃ q, q = (j + 1) % m := ⟨_, rfl⟩
            rw [← hqe] at g0 g1 hmod
            have hq0 : (0 : Int) ≤ (q2 : Int) := by omega
            have hq1 : (q2 : Int) < (m : Int) := by omega
            have hrem : Int.tmod ((j : Int) + 1) (m : Int) = (q2 : Int) := by
              rw [Int.tmod_eq_emod_of_nonneg (by omega), hqe, Int.natCast_emod]; rfl
            have hrem2 : ((j : Int) + 1) % (m : Int) = (q2 : Int) := by rw [hqe, Int.natCast_emod]; rfl
            have hz : ((m : Int) == 0) = false := by simp; omega
            have hmne : ¬ m = 0 := by omega
            have hwr : IntKind.i64.wrap ((j : Int) + 1) = (j : Int) + 1 := IntWalk.i64_in _ (by omega)
            have hkp : (0 : Int) ≤ (j : Int) + 1 := by omega
            have hl4 := heap_lt' HC4.out.1
            have hl5 := heap_lt' HC4.out.2.1
            have k0 := (hal.block B0 (Nat.lt_of_lt_of_le hl4 hb.out.size)).trans ((hb.out.block B0 hl4).trans HC4.out.1)
            have k1 := (hal.block (B0 + 1) (Nat.lt_of_lt_of_le hl5 hb.out.size)).trans ((hb.out.block (B0 + 1) hl5).trans HC4.out.2.1)
            obtain ⟨x0, x1, _, _⟩ := pt_cells k0
            obtain ⟨x2, x3, _, _⟩ := pt_cells k1
            have x4 : (wr.alloc (.cells #[.int .i64 c'.x, .int .i64 c'.y] 27)).cell? ⟨wr.heap.size, 0, none⟩ = some (.int .i64 c'.x) := cell_of_row _ _ _ _ _ _ (alloc_new _ _)
            have x5 : (wr.alloc (.cells #[.int .i64 c'.x, .int .i64 c'.y] 27)).cell? ⟨wr.heap.size, 1, none⟩ = some (.int .i64 c'.y) := cell_of_row _ _ _ _ _ _ (alloc_new _ _)
            have HAL := Lib.hid (And.intro hal (hb.out.alloc hb.out.size (.cells #[.int .i64 c'.x, .int .i64 c'.y] 27)))
            have HMC := Lib.hid (Meets_any c d c' d')
            unfold ptV at HMC
            obtain ⟨mm, hmm⟩ : ∃ x, x = meetK c d c' d' := ⟨_, rfl⟩
            rw [← hmm] at HMC
            have HEM : Hid (edgeMeet c d Q j = decide (2 ≤ mm)) := Lib.hid (by rw [hmm, hc', hd']; rfl)
            clear hc' hd' hde hqe hl4 hl5 k0 k1 hal hpt hmm hj
            go_wp2_with fail
            generalize wr.alloc _ = W at *
            go_still_tail 11, (by kernel_rfl)
            change wpList _ _ _ _ _ W.drew
            go_wp2_with fail
            refine (HMC.out _).mono ?_
            rintro e w5 ⟨rfl, hb5⟩
            have HB5 : Hid (Below W.heap.size W w5) := Lib.hid ⟨hb5.os, hb5.tape, hb5.output, hb5.size, hb5.block⟩
            clear hb5 x0 x1 x2 x3 x4 x5 e0 e1 g0 g1
            match mm with
            | 0 =>
              go_wp2_with fail
              go_roundw
              case rel =>
                refine ⟨j + 1, by omega, by go_num, Lib.hid fun t ht => ?_, Lib.hid (HAL.out.2.trans (HB5.out.mono HAL.out.2.size))⟩
                by_cases hik : t < j
                · exact hq.out t hik
                · obtain rfl : t = j := by omega
                  rw [HEM.out]; rfl
              case measure => simp [intOf]; omega
            | 1 =>
              go_wp2_with fail
              go_roundw
              case rel =>
                refine ⟨j + 1, by omega, by go_num, Lib.hid fun t ht => ?_, Lib.hid (HAL.out.2.trans (HB5.out.mono HAL.out.2.size))⟩
                by_cases hik : t < j
                · exact hq.out t hik
                · obtain rfl : t = j := by omega
                  rw [HEM.out]; rfl
              case measure => simp [intOf]; omega
            | mm + 2 =>
              have hm0 : (((mm + 2 : Nat) : Int) == 0) = false := by simp; omega
              have hm1 : (((mm + 2 : Nat) : Int) == 1) = false := by simp; omega
              go_wp2_with fail
              change bodyPost Try.prog Try.f36 (fun e w' => e = .returned (.bool r) ∧ Below w.heap.size w w') .ret _ _
              go_ret
              refine ⟨?_, H0.out.1.1.trans ((HC4.out.2.2.trans ((HAL.out.2.trans (HB5.out.mono HAL.out.2.size)).mono HC4.out.2.2.size)).mono H0.out.1.size)⟩
              have hr1 : r = true := by
                rw [HR.out]
                refine ringsMeet_yes (by rw [HL.out]; exact hlt) ?_
                rw [← HCD.out.1, ← HCD.out.2]
                refine edgeMeets_yes (by rw [HL2.out]; exact hlt2) ?_
                rw [HEM.out]
                exact decide_eq_true (by omega)
              rw [hr1]
              rfl
          · obtain rfl : j = m := by omega
            have hj5 : ¬ ((j : Int) < (j : Int)) := by omega
            go_wp2_with fail
            refine ⟨⟨k + 1, by omega, by go_num, Lib.hid fun t ht => ?_, Lib.hid (HC4.out.2.2.trans (hb.out.mono HC4.out.2.2.size))⟩, by simp [intOf]; omega⟩
            by_cases hik : t < k
            · exact HQ4.out t hik
            · obtain rfl : t = k := by omega
              rw [← HCD.out.1, ← HCD.out.2]
              exact edgeMeets_no (by rw [HL2.out]; exact hq.out)
    · obtain rfl : k = n := by omega
      have hi5 : ¬ ((k : Int) < (k : Int)) := by omega
      go_wp2_with fail
      go_ret
      refine ⟨?_, H0.out.1.1.trans (hb.out.mono H0.out.1.size)⟩
      rw [HR.out, ringsMeet_no (by rw [HL.out]; exact hq.out)]
      rfl
end Go.Proofs.Ytgijaaklhdcgeaa

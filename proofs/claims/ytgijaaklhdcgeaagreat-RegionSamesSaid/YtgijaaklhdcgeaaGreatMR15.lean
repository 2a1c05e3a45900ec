/- the document's ring: Turned, Same (printed by mkr15.py) -/
import Derived.Test.YtgijaaklhdcgeaaGreatMQConcat
import Derived.Test.YtgijaaklhdcgeaaGreatMQCont
import Derived.Test.YtgijaaklhdcgeaaGreatMQLay
import Derived.Test.YtgijaaklhdcgeaaGreatMRegX
set_option linter.unusedSimpArgs false
set_option linter.unusedVariables false
namespace Go.Proofs.YtgijaaklhdcgeaaGreat
open Go.RowKit Go.Geo
attribute [local go_sem] Oper.semAt_some
theorem pts_litR (w : World) (P : List Pt) (hp : P.length ≤ 1000000) : IsPts (w.alloc (.cells (flatP P).toArray 40)) (some ⟨w.heap.size, 0, none⟩) P.length P.length P := by
  obtain ⟨ao, cap, e, h⟩ := (OwnP.lit w w.heap.size (Nat.le_refl _) P hp).pts
  cases e
  exact h
theorem drop_rev {P : List Pt} {k : Nat} (h : k < P.length) : (P.drop k).reverse = (P.drop (k + 1)).reverse ++ [P.getD k p0] := by
  have h2 : P.drop k = P.getD k p0 :: P.drop (k + 1) := by
    rw [List.drop_eq_getElem_cons h, List.getD_eq_getElem?_getD, List.getElem?_eq_getElem h]; rfl
  rw [h2, List.reverse_cons]
theorem rot_iff {P Q : List Pt} {i : Nat} (h : P.length = Q.length) (hi : i < Q.length) : P = rotP Q i ↔ ∀ j, j < P.length → P.getD j p0 = atP Q (i + j) := by
  have hr : (rotP Q i).length = Q.length := by simp [rotP]; omega
  have hg : ∀ j, j < Q.length → (rotP Q i).getD j p0 = atP Q (i + j) := by
    intro j hj
    unfold rotP atP
    rw [List.getD_eq_getElem?_getD, List.getD_eq_getElem?_getD, List.getElem?_append]
    rw [List.length_drop]
    by_cases h1 : j < Q.length - i
    · rw [if_pos h1, List.getElem?_drop, Nat.mod_eq_of_lt (by omega)]
    · rw [if_neg h1, List.getElem?_take, if_pos (by omega)]
      have : (i + j) % Q.length = j - (Q.length - i) := by
        rw [Nat.mod_eq_sub_mod (by omega), Nat.mod_eq_of_lt (by omega)]; omega
      rw [this]
  constructor
  · intro he j hj
    rw [he]
    exact hg j (by omega)
  · intro he
    apply List.ext_getElem (by rw [hr, h])
    intro j h1 h2
    have h3 := he j h1
    rw [← hg j (by omega), List.getD_eq_getElem?_getD, List.getD_eq_getElem?_getD, List.getElem?_eq_getElem h1, List.getElem?_eq_getElem h2] at h3
    exact h3
theorem same_true {P Q : List Pt} (hP : (ringCheckP P).1 = 0) (hQ : (ringCheckP Q).1 = 0) (hl : P.length = Q.length) {t i : Nat} (hi : i < Q.length) (h : P = rotP (if t = 1 then Q.reverse else Q) i) : sameP P Q = true := by
  unfold sameP
  rw [decide_eq_true hP, decide_eq_true hQ, decide_eq_true hl]
  by_cases ht : t = 1
  · rw [if_pos ht] at h
    have h2 : (List.range Q.length).any (fun i => decide (P = rotP Q.reverse i)) = true := List.any_eq_true.2 ⟨i, List.mem_range.2 hi, decide_eq_true h⟩
    rw [h2]; simp
  · rw [if_neg ht] at h
    have h2 : (List.range Q.length).any (fun i => decide (P = rotP Q i)) = true := List.any_eq_true.2 ⟨i, List.mem_range.2 hi, decide_eq_true h⟩
    rw [h2]; simp
theorem same_none {P Q : List Pt} (h : ∀ t, t < 2 → ∀ i, i < Q.length → ¬ P = rotP (if t = 1 then Q.reverse else Q) i) : sameP P Q = false := by
  unfold sameP
  have h1 : (List.range Q.length).any (fun i => decide (P = rotP Q i)) = false := by
    rw [List.any_eq_false]
    intro i hi
    have := h 0 (by omega) i (List.mem_range.1 hi)
    simpa using this
  have h2 : (List.range Q.length).any (fun i => decide (P = rotP Q.reverse i)) = false := by
    rw [List.any_eq_false]
    intro i hi
    have := h 1 (by omega) i (List.mem_range.1 hi)
    simpa using this
  rw [h1, h2]; simp
theorem rat_sum (ao : Option Addr) (n cap : Nat) (P : List Pt) (i k : Nat) (w : World) (h : IsPts w ao n cap P) (hi : i < n) (hk : k < n) (hnb : n ≤ 1000) :
    Calls Tryz.prog 38 #[.slice ao n cap, .int .i64 ((i : Int) + (k : Int))] w fun e w' => e = .returned (ptV (atP P (i + k))) ∧ Grew w w' := by
  have hn : 0 < n := by omega
  have hmod := Nat.mod_lt (i + k) hn
  have h1 : Int.tmod ((i : Int) + (k : Int)) n = (((i + k) % n : Nat) : Int) := by rw [Int.tmod_eq_emod_of_nonneg (by omega)]; rw [Int.natCast_emod]; rfl
  have h2 : Int.tmod ((((i + k) % n : Nat) : Int) + n) n = (((i + k) % n : Nat) : Int) := by
    rw [Int.tmod_eq_emod_of_nonneg (by omega), Int.add_emod_right, Int.emod_eq_of_lt (by omega) (by omega)]
  have hr := rat_any ao n cap P ((i : Int) + (k : Int)) _ _ w h hmod h1 (by omega) (by omega) h2 (by omega)
  unfold atP
  rw [h.1]
  exact hr
set_option maxRecDepth 100000 in
set_option maxHeartbeats 1000000 in
theorem rTurned_any (ao : Option Addr) (n cap : Nat) (P : List Pt) (w : World) (h : IsPts w ao n cap P) (hn : n ≤ 1000) :
    Calls Tryz.prog 39 #[.slice ao n cap] w fun e w' => ∃ v, e = .returned v ∧ OwnP w' w.heap.size v P.reverse ∧ Below w.heap.size w w' := by
  have HI := Lib.hid h
  have HL : Hid (P.length = n) := h.1
  have hcm := h.2.2.1
  have hnc := h.2.1
  unfold maxLen at hcm
  clear h
  go_enter Tryz.func39, Tryz.ntmps39
  go_wp2_with fail
  go_loopw [3, 4] (fun v i wr => ∃ k : Nat, k ≤ n ∧ i = .int .i64 ((k : Int) - 1) ∧ Hid (OwnP wr w.heap.size v (P.drop k).reverse) ∧ Hid (Below w.heap.size w wr)) (fun _ i _ => (intOf i + 1).toNat)
  case atStart => exact ⟨n, Nat.le_refl _, by go_num, Lib.hid (by rw [List.drop_of_length_le (by rw [HL.out]; exact Nat.le_refl _)]; exact World.ownsRow_nil _ _ _ _), Below.refl _ _⟩
  case round =>
    obtain ⟨k, hk, rfl, hown, hbl⟩ := hrel
    by_cases hlt : 0 < k
    · obtain ⟨j, rfl⟩ : ∃ j, k = j + 1 := ⟨k - 1, by omega⟩
      have hj : ((j + 1 : Nat) : Int) - 1 = (j : Int) := by omega
      rw [hj]
      have hi0 : (0 : Int) ≤ (j : Int) := by omega
      have hi5 : (j : Int) < (n : Int) := by omega
      obtain ⟨b2, off2, rfl, e0, e1⟩ := (HI.out.later hbl.out (Nat.le_refl _)).at (k := j) (by omega)
      obtain ⟨x, hx⟩ : ∃ x, x = P.getD j p0 := ⟨_, rfl⟩
      rw [← hx] at e0 e1
      have HT : Hid ((P.drop j).reverse = (P.drop (j + 1)).reverse ++ [x]) := Lib.hid (by rw [hx]; exact drop_rev (by rw [HL.out]; omega))
      have HTL : Hid ((P.drop (j + 1)).reverse.length + 1 ≤ 1000000000) := Lib.hid (by rw [List.length_reverse, List.length_drop, HL.out]; omega)
      obtain ⟨X, hX⟩ : ∃ X, X = (P.drop (j + 1)).reverse := ⟨_, rfl⟩
      rw [← hX] at hown HT HTL
      have HLIT := Lib.hid (pts_litR wr [x] (by simp))
      clear hx hX hlt
      go_wp2_with (
        at_builtin
        refine wpList_append_pts rfl _ _ rfl w.heap.size _ X rfl (hown.out.later ((Below.refl _ _).alloc (Nat.le_refl _) _)) _ _ _ [x] rfl HLIT.out HTL.out (Nat.le_trans hbl.out.size (by simp)) ?_
        intro v6 w6 ho6 hg6
        have H6 := Lib.hid (And.intro ho6 ((hbl.out.alloc hbl.out.size _).grown hg6 (Nat.le_trans hbl.out.size (by simp)) (fun k hk => (hown.out.lt k hk).1)))
        clear ho6 hg6)
      go_roundw
      case rel => exact ⟨j, by omega, by go_num, Lib.hid (by rw [HT.out]; exact H6.out.1), Lib.hid H6.out.2⟩
      case measure => simp [intOf]; try omega
    · have hk0 : k = 0 := by omega
      subst hk0
      have hi5 : ¬ ((0 : Int) ≤ ((0 : Nat) : Int) - 1) := by omega
      go_wp2_with fail
      go_ret
      exact ⟨_, rfl, by have := hown.out; rw [List.drop_zero] at this; exact this, hbl.out⟩
set_option maxRecDepth 100000 in
set_option maxHeartbeats 4000000 in
theorem rSame_ring (ao : Option Addr) (n cap : Nat) (P : List Pt) (bo : Option Addr) (m cap2 : Nat) (Q : List Pt) (w : World) (h : IsPts w ao n cap P) (h2 : IsPts w bo m cap2 Q) :
    Calls Tryz.prog 18 #[.slice ao n cap, .slice bo m cap2] w fun e w' => e = .returned (.bool (sameP P Q)) ∧ Below w.heap.size w w' := by
  have HI := Lib.hid h
  have HJ := Lib.hid h2
  have HL : Hid (P.length = n) := h.1
  have HM : Hid (Q.length = m) := h2.1
  have hcm := h.2.2.1
  have hnc := h.2.1
  have hcm2 := h2.2.2.1
  have hnc2 := h2.2.1
  unfold maxLen at hcm hcm2
  have hC1 := rCheck_ring ao n cap P w h
  have hC2 : ∀ wX, Below w.heap.size w wX → _ := fun wX hX => rCheck_ring bo m cap2 Q wX (h2.later hX (Nat.le_refl _))
  obtain ⟨r, hr⟩ : ∃ r, r = sameP P Q := ⟨_, rfl⟩
  rw [← hr]
  have HR := Lib.hid hr
  obtain ⟨fp, hfp⟩ : ∃ f, f = ringCheckP P := ⟨_, rfl⟩
  obtain ⟨fq, hfq⟩ : ∃ f, f = ringCheckP Q := ⟨_, rfl⟩
  rw [← hfp] at hC1
  rw [← hfq] at hC2
  have HFP := Lib.hid hfp
  have HFQ := Lib.hid hfq
  obtain ⟨f, fa⟩ := fp
  obtain ⟨g, ga⟩ := fq
  unfold faultV at hC1 hC2
  dsimp only at hC1 hC2
  have HC1 := Lib.hid hC1
  have HC2 := Lib.hid hC2
  have hfd := fieldF0
  clear h h2 hr hfp hfq hC1 hC2
  by_cases hz : f = 0
  · subst hz
    by_cases hz2 : g = 0
    · subst hz2
      by_cases hnm : n = m
      · subst hnm
        have hP : (ringCheckP P).1 = 0 := by rw [← HFP.out]
        have hQ : (ringCheckP Q).1 = 0 := by rw [← HFQ.out]
        have hn3 := (ring_ok hP).2.1
        rw [HL.out] at hn3
        have HOK := Lib.hid (And.intro hP hQ)
        clear hP hQ
        have hnn : ((n : Int) == (n : Int)) = true := by simp
        have hnn2 : ((n : Int) != (n : Int)) = false := by simp
        go_enter Tryz.func18, Tryz.ntmps18
        go_wp2_with fail
        refine HC1.out.mono ?_
        rintro e w1 ⟨rfl, hb1⟩
        go_wp2_with fail
        refine (HC2.out _ hb1).mono ?_
        rintro e w2 ⟨rfl, hb2⟩
        have HB2 := Lib.hid (hb1.trans (hb2.mono hb1.size))
        clear hb1 hb2
        go_wp2_with fail
        go_loopw [1, 5] (fun v i wr => ∃ t : Nat, t ≤ 2 ∧ i = .int .i64 (t : Int) ∧ (∃ x z, v = .slice x n z ∧ Hid (IsPts wr x n z (if t = 1 then Q.reverse else Q))) ∧ Hid (∀ s, s < t → ∀ i, i < Q.length → ¬ P = rotP (if s = 1 then Q.reverse else Q) i) ∧ Hid (Below w.heap.size w wr)) (fun _ i _ => 2 - (intOf i).toNat)
        case atStart => exact ⟨0, by omega, rfl, ⟨bo, cap2, rfl, Lib.hid (HJ.out.later HB2.out (Nat.le_refl _))⟩, Lib.hid (fun s hs => absurd hs (by omega)), HB2⟩
        case round =>
          obtain ⟨t, ht, rfl, ⟨bo, cap2, rfl, hpq⟩, hno, hbl⟩ := hrel
          by_cases hlt : t < 2
          · have ht2 : (t : Int) < 2 := by omega
            go_wp2_with fail
            obtain ⟨Q2, hQ2⟩ : ∃ Q2, Q2 = (if t = 1 then Q.reverse else Q) := ⟨_, rfl⟩
            rw [← hQ2] at hpq
            have HQ2 := Lib.hid hQ2
            have HQL : Hid (Q2.length = n) := hpq.out.1
            obtain ⟨wA, hwA⟩ : ∃ x, x = wr := ⟨_, rfl⟩
            subst hwA
            clear hQ2
            go_loopw [6] (fun i wr => ∃ k : Nat, k ≤ n ∧ i = .int .i64 k ∧ Hid (∀ j, j < k → ¬ P = rotP Q2 j) ∧ Hid (Below wA.heap.size wA wr)) (fun i _ => n - (intOf i).toNat)
            case atStart => exact ⟨0, by omega, rfl, Lib.hid (fun j hj => absurd hj (by omega)), Below.refl _ _⟩
            case round =>
              obtain ⟨i, hi, rfl, hno2, hbl2⟩ := hrel
              by_cases hlt2 : i < n
              · have hi0 : (0 : Int) ≤ (i : Int) := by omega
                have hi5 : (i : Int) < (n : Int) := by omega
                go_wp2_with fail
                obtain ⟨wB, hwB⟩ : ∃ x, x = wr := ⟨_, rfl⟩
                subst hwB
                go_loopw [7, 8] (fun s k wr => ∃ j : Nat, ∃ q : Bool, j ≤ n ∧ s = .bool q ∧ k = .int .i64 j ∧ Hid (q = true → ∀ t, t < j → P.getD t p0 = atP Q2 (i + t)) ∧ Hid (q = false → ∃ t, t < n ∧ ¬ P.getD t p0 = atP Q2 (i + t)) ∧ Hid (Below wA.heap.size wA wr)) (fun _ k _ => n - (intOf k).toNat)
                case atStart => exact ⟨0, true, by omega, rfl, rfl, Lib.hid (fun _ t ht => absurd ht (by omega)), Lib.hid (fun h => by cases h), hbl2⟩
                case round =>
                  obtain ⟨k, q, hk, rfl, rfl, hq1, hq2, hbl3⟩ := hrel
                  have HROT : Hid (P = rotP Q2 i ↔ ∀ j, j < P.length → P.getD j p0 = atP Q2 (i + j)) := Lib.hid (rot_iff (by rw [HL.out, HQL.out]) (by rw [HQL.out]; exact hlt2))
                  by_cases hlt3 : k < n
                  · have hk0 : (0 : Int) ≤ (k : Int) := by omega
                    have hk5 : (k : Int) < (n : Int) := by omega
                    cases q with
                    | true =>
                      have hpX : ∀ wX, Below wr.heap.size wr wX → IsPts wX ao n cap P ∧ IsPts wX bo n cap2 Q2 := fun wX hX => ⟨(((HI.out.later hbl.out (Nat.le_refl _)).later hbl3.out (Nat.le_refl _))).later hX (Nat.le_refl _), (hpq.out.later hbl3.out (Nat.le_refl _)).later hX (Nat.le_refl _)⟩
                      obtain ⟨b, off, rfl, e0, e1⟩ := (hpX wr (Below.refl _ _)).1.at hlt3
                      obtain ⟨x, hx⟩ : ∃ x, x = P.getD k p0 := ⟨_, rfl⟩
                      obtain ⟨y, hy⟩ : ∃ y, y = atP Q2 (i + k) := ⟨_, rfl⟩
                      rw [← hx] at e0 e1
                      have HX := Lib.hid (And.intro hx hy)
                      have HCELLS : Hid (∀ wX, Below wr.heap.size wr wX → wX.cell? ⟨b, off + k * 2, none⟩ = some (.int .i64 x.x) ∧ wX.cell? ⟨b, off + k * 2 + 1, none⟩ = some (.int .i64 x.y)) := Lib.hid (fun wX hX => ⟨(hX.cell (p := ⟨b, _, none⟩) (block_lt_of_cell e0)).trans e0, (hX.cell (p := ⟨b, _, none⟩) (block_lt_of_cell e1)).trans e1⟩)
                      have hAT := fun wX hX => rat_sum bo n cap2 Q2 i k wX (hpX wX hX).2 hlt2 hlt3 (by omega)
                      rw [← hy] at hAT
                      unfold ptV at hAT
                      have HAT := Lib.hid hAT
                      have hwik : IntKind.i64.wrap ((i : Int) + (k : Int)) = (i : Int) + (k : Int) := IntWalk.i64_in _ (by omega)
                      clear hAT hx hy hpX e0 e1
                      go_wp2_with fail
                      refine wp_region_J (s := [(45, 0), (46, 1), (47, 2), (48, 3), (49, 4), (50, 5), (51, 6), (52, 7), (53, 8), (54, 9), (7, 10)]) (by kernel_rfl) (StdJ wr (fun iX => match iX with | 0 => some (.slice (some ⟨b, off, none⟩) n cap) | 1 => some (.int .i64 (k : Int)) | 2 => some (.pointer (some ⟨b, off + k * 2, none⟩)) | 3 => some (.agg #[.int .i64 x.x, .int .i64 x.y]) | 4 => some (.slice bo n cap2) | 5 => some (.int .i64 (i : Int)) | 6 => some (.int .i64 (k : Int)) | 7 => some (.int .i64 ((i : Int) + (k : Int))) | 8 => some (.agg #[.int .i64 y.x, .int .i64 y.y]) | 9 => some (.bool (decide (x = y))) | 10 => some (.bool (decide (x = y))) | _ => none) []) (by kernel_rfl) (by kernel_rfl) (by kernel_rfl) (by kernel_rfl) (fun _ => undef) ?start13 ?step13 ?done13
                      case start13 => exact StdJ.start ((Below.refl _ _).drew)
                      case step13 =>
                        refine ⟨?o13_0, ?o13_1, ?o13_2, ?o13_3, ?o13_4, ?o13_5, ?o13_6, ?o13_7, ?o13_8, ?o13_9, ?o13_10, trivial⟩
                        case o13_0 =>
                          intro LX V aX wX K hl hp hcl hf hJ hK
                          have t0 : aX.tmps[0]? = some (.slice (some ⟨b, off, none⟩) n cap) := hf.old (by kernel_rfl) rfl
                          rw [if_pos (by rfl)]
                          go_simp
                          exact hK _ _ (hJ.val (Below.refl _ _) 0 _ (by kernel_rfl) rfl)
                        case o13_1 =>
                          intro LX V aX wX K hl hp hcl hf hJ hK
                          have t8 : aX.tmps[8]? = some (.int .i64 (k : Int)) := hf.old (by kernel_rfl) rfl
                          rw [if_pos (by rfl)]
                          go_simp
                          exact hK _ _ (hJ.val (Below.refl _ _) 1 _ (by kernel_rfl) rfl)
                        case o13_2 =>
                          intro LX V aX wX K hl hp hcl hf hJ hK
                          have t45 := hf.in (i := 0) (d := 45) (by kernel_rfl) (hp 0 (by kernel_rfl)) (hJ.vals 0 _ rfl (hp 0 (by kernel_rfl)))
                          have t46 := hf.in (i := 1) (d := 46) (by kernel_rfl) (hp 1 (by kernel_rfl)) (hJ.vals 1 _ rfl (hp 1 (by kernel_rfl)))
                          rw [if_pos (by rfl)]
                          go_simp
                          exact hK _ _ (hJ.val (Below.refl _ _) 2 _ (by kernel_rfl) rfl)
                        case o13_3 =>
                          intro LX V aX wX K hl hp hcl hf hJ hK
                          have t47 := hf.in (i := 2) (d := 47) (by kernel_rfl) (hp 2 (by kernel_rfl)) (hJ.vals 2 _ rfl (hp 2 (by kernel_rfl)))
                          obtain ⟨c0, c1⟩ := HCELLS.out wX hJ.below
                          rw [if_pos (by rfl)]
                          go_simp
                          exact hK _ _ (hJ.val (Below.refl _ _) 3 _ (by kernel_rfl) rfl)
                        case o13_4 =>
                          intro LX V aX wX K hl hp hcl hf hJ hK
                          have t1 : aX.tmps[1]? = some (.slice bo n cap2) := hf.old (by kernel_rfl) rfl
                          rw [if_pos (by rfl)]
                          go_simp
                          exact hK _ _ (hJ.val (Below.refl _ _) 4 _ (by kernel_rfl) rfl)
                        case o13_5 =>
                          intro LX V aX wX K hl hp hcl hf hJ hK
                          have t6 : aX.tmps[6]? = some (.int .i64 (i : Int)) := hf.old (by kernel_rfl) rfl
                          rw [if_pos (by rfl)]
                          go_simp
                          exact hK _ _ (hJ.val (Below.refl _ _) 5 _ (by kernel_rfl) rfl)
                        case o13_6 =>
                          intro LX V aX wX K hl hp hcl hf hJ hK
                          have t8 : aX.tmps[8]? = some (.int .i64 (k : Int)) := hf.old (by kernel_rfl) rfl
                          rw [if_pos (by rfl)]
                          go_simp
                          exact hK _ _ (hJ.val (Below.refl _ _) 6 _ (by kernel_rfl) rfl)
                        case o13_7 =>
                          intro LX V aX wX K hl hp hcl hf hJ hK
                          have t50 := hf.in (i := 5) (d := 50) (by kernel_rfl) (hp 5 (by kernel_rfl)) (hJ.vals 5 _ rfl (hp 5 (by kernel_rfl)))
                          have t51 := hf.in (i := 6) (d := 51) (by kernel_rfl) (hp 6 (by kernel_rfl)) (hJ.vals 6 _ rfl (hp 6 (by kernel_rfl)))
                          rw [if_pos (by rfl)]
                          go_simp
                          exact hK _ _ (hJ.val (Below.refl _ _) 7 _ (by kernel_rfl) rfl)
                        case o13_8 =>
                          intro LX V aX wX K hl hp hcl hf hJ hK
                          have t49 := hf.in (i := 4) (d := 49) (by kernel_rfl) (hp 4 (by kernel_rfl)) (hJ.vals 4 _ rfl (hp 4 (by kernel_rfl)))
                          have t52 := hf.in (i := 7) (d := 52) (by kernel_rfl) (hp 7 (by kernel_rfl)) (hJ.vals 7 _ rfl (hp 7 (by kernel_rfl)))
                          rw [if_pos (by rfl)]
                          go_simp
                          refine (HAT.out _ hJ.below).mono ?_
                          rintro e wA ⟨rfl, hgA⟩
                          exact hK _ _ (hJ.val (hgA.1) 8 _ (by kernel_rfl) rfl)
                        case o13_9 =>
                          intro LX V aX wX K hl hp hcl hf hJ hK
                          have t48 := hf.in (i := 3) (d := 48) (by kernel_rfl) (hp 3 (by kernel_rfl)) (hJ.vals 3 _ rfl (hp 3 (by kernel_rfl)))
                          have t53 := hf.in (i := 8) (d := 53) (by kernel_rfl) (hp 8 (by kernel_rfl)) (hJ.vals 8 _ rfl (hp 8 (by kernel_rfl)))
                          have he : ∀ w, _ := run_eq_pt x y
                          rw [if_pos (by rfl)]
                          go_simp
                          exact hK _ _ (hJ.val (Below.refl _ _) 9 _ (by kernel_rfl) rfl)
                        case o13_10 =>
                          intro LX V aX wX K hl hp hcl hf hJ hK
                          have t54 := hf.in (i := 9) (d := 54) (by kernel_rfl) (hp 9 (by kernel_rfl)) (hJ.vals 9 _ rfl (hp 9 (by kernel_rfl)))
                          rw [if_pos (by rfl)]
                          go_simp
                          exact hK _ _ (hJ.val (Below.refl _ _) 10 _ (by kernel_rfl) rfl)
                      intro V wZ hJ
                      have hv := hJ.vals 10 _ rfl (by kernel_rfl)
                      have HBZ := Lib.hid hJ.below
                      simp only [puts, Act.put, List.setIfInBounds_toArray, List.set_cons_zero, List.set_cons_succ]
                      rw [hv]
                      clear hJ hv
                      go_wp2_with fail
                      go_roundw
                      case rel =>
                        refine ⟨k + 1, decide (x = y), by omega, rfl, by go_num, Lib.hid fun hd t ht => ?_, Lib.hid fun hd => ?_, Lib.hid (hbl3.out.trans (HBZ.out.mono hbl3.out.size))⟩
                        · by_cases htk : t < k
                          · exact hq1.out (by first | rfl | trivial) t htk
                          · obtain rfl : t = k := by omega
                            rw [← HX.out.1, ← HX.out.2]; exact of_decide_eq_true hd
                        · exact ⟨k, hlt3, by rw [← HX.out.1, ← HX.out.2]; exact of_decide_eq_false hd⟩
                      case measure => simp [intOf]; omega
                    | false =>
                      have HNE : Hid (¬ P = rotP Q2 i) := Lib.hid (fun he => by
                        obtain ⟨t, h1, h2⟩ := hq2.out (by first | rfl | trivial)
                        exact h2 (HROT.out.1 he t (by rw [HL.out]; exact h1)))
                      go_wp2_with fail
                      go_roundw
                      case rel =>
                        refine ⟨i + 1, by omega, by go_num, Lib.hid fun j hj => ?_, hbl3⟩
                        by_cases hij : j < i
                        · exact hno2.out j hij
                        · obtain rfl : j = i := by omega
                          exact HNE.out
                      case measure => simp [intOf]; omega
                  · have hkn : n = k := by omega
                    subst hkn
                    have hk5 : ¬ ((n : Int) < (n : Int)) := by omega
                    cases q with
                    | true =>
                      have HEQ : Hid (P = rotP Q2 i) := Lib.hid (HROT.out.2 (fun j hj => hq1.out (by first | rfl | trivial) j (by rw [HL.out] at hj; exact hj)))
                      go_wp2_with fail
                      go_ret
                      exact ⟨by rw [HR.out, same_true HOK.out.1 HOK.out.2 (by rw [HL.out, HM.out]) (t := t) (i := i) (by rw [HM.out]; exact hlt2) (by rw [← HQ2.out]; exact HEQ.out)]; rfl, hbl.out.trans (hbl3.out.mono hbl.out.size)⟩
                    | false =>
                      have HNE : Hid (¬ P = rotP Q2 i) := Lib.hid (fun he => by
                        obtain ⟨t, h1, h2⟩ := hq2.out (by first | rfl | trivial)
                        exact h2 (HROT.out.1 he t (by rw [HL.out]; exact h1)))
                      go_wp2_with fail
                      go_roundw
                      case rel =>
                        refine ⟨i + 1, by omega, by go_num, Lib.hid fun j hj => ?_, hbl3⟩
                        by_cases hij : j < i
                        · exact hno2.out j hij
                        · obtain rfl : j = i := by omega
                          exact HNE.out
                      case measure => simp [intOf]; omega
              · have hin : n = i := by omega
                subst hin
                have hi5 : ¬ ((n : Int) < (n : Int)) := by omega
                have HTU := Lib.hid (rTurned_any bo n cap2 Q2 wr (hpq.out.later hbl2.out (Nat.le_refl _)) (by omega))
                go_wp2_with fail
                refine HTU.out.mono ?_
                rintro e w5 ⟨v5, rfl, ho5, hb5⟩
                obtain ⟨x5, c5, hv5, hp5⟩ := ho5.pts
                rw [List.length_reverse, HQL.out] at hv5 hp5
                subst hv5
                have HP5 := Lib.hid hp5
                have HB5 := Lib.hid hb5
                clear ho5 hp5 hb5
                go_wp2_with fail
                go_roundw
                case rel =>
                  refine ⟨t + 1, by omega, by go_num, ⟨x5, c5, rfl, Lib.hid ?_⟩, Lib.hid fun s hs i hi => ?_, Lib.hid ((hbl.out.trans (hbl2.out.mono hbl.out.size)).trans (HB5.out.mono (Nat.le_trans hbl.out.size hbl2.out.size)))⟩
                  · have := HP5.out
                    rw [HQ2.out] at this
                    rcases (show t = 0 ∨ t = 1 by omega) with rfl | rfl
                    · simpa using this
                    · simpa using this
                  · by_cases hst : s < t
                    · exact hno.out s hst i hi
                    · obtain rfl : s = t := by omega
                      rw [← HQ2.out]
                      exact hno2.out i (by rw [HM.out] at hi; exact hi)
                case measure => simp [intOf]; omega
          · have ht3 : t = 2 := by omega
            subst ht3
            go_wp2_with fail
            go_ret
            exact ⟨by rw [HR.out, same_none hno.out]; rfl, hbl.out⟩
      · have hnn : ((n : Int) == (m : Int)) = false := by simp; omega
        have hnn2 : ((n : Int) != (m : Int)) = true := by simp; omega
        have HRF : Hid (r = false) := Lib.hid (by rw [HR.out]; unfold sameP; rw [decide_eq_false (show ¬ P.length = Q.length by rw [HL.out, HM.out]; exact hnm)]; simp)
        clear hnm
        go_enter Tryz.func18, Tryz.ntmps18
        go_wp2_with fail
        refine HC1.out.mono ?_
        rintro e w1 ⟨rfl, hb1⟩
        go_wp2_with fail
        refine (HC2.out _ hb1).mono ?_
        rintro e w2 ⟨rfl, hb2⟩
        have HB2 := Lib.hid (hb1.trans (hb2.mono hb1.size))
        clear hb1 hb2
        go_wp2_with fail
        go_ret
        exact ⟨by rw [HRF.out]; rfl, HB2.out⟩
    · have hzz : (g == 0) = false := by simp [hz2]
      have hzz2 : (g != 0) = true := by simp [hz2]
      have HRF : Hid (r = false) := Lib.hid (by rw [HR.out]; unfold sameP; rw [← HFQ.out, decide_eq_false (show ¬ g = 0 from hz2)]; simp)
      clear hz2
      go_enter Tryz.func18, Tryz.ntmps18
      go_wp2_with fail
      refine HC1.out.mono ?_
      rintro e w1 ⟨rfl, hb1⟩
      go_wp2_with fail
      refine (HC2.out _ hb1).mono ?_
      rintro e w2 ⟨rfl, hb2⟩
      have HB2 := Lib.hid (hb1.trans (hb2.mono hb1.size))
      clear hb1 hb2
      go_wp2_with fail
      go_ret
      exact ⟨by rw [HRF.out]; rfl, HB2.out⟩
  · have hzz : (f == 0) = false := by simp [hz]
    have hzz2 : (f != 0) = true := by simp [hz]
    have HRF : Hid (r = false) := Lib.hid (by rw [HR.out]; unfold sameP; rw [← HFP.out, decide_eq_false (show ¬ f = 0 from hz)]; simp)
    clear hz
    go_enter Tryz.func18, Tryz.ntmps18
    go_wp2_with fail
    refine HC1.out.mono ?_
    rintro e w1 ⟨rfl, hb1⟩
    have HB1 := Lib.hid hb1
    clear hb1
    go_wp2_with fail
    go_ret
    exact ⟨by rw [HRF.out]; rfl, HB1.out⟩
end Go.Proofs.YtgijaaklhdcgeaaGreat

/- the document's ring: at, twice -/
import Derived.Test.YtgijaaklhdcgeaaGreatMR10b
import Derived.Test.YtgijaaklhdcgeaaGreatMQRegIn
import Derived.IntWalk
import Derived.Test.YtgijaaklhdcgeaaGreatMQCheck
import Derived.Orders
import Derived.KernelRfl
import Derived.Laws.World
set_option linter.unusedSimpArgs false
set_option linter.unusedVariables false
namespace Go.Proofs.YtgijaaklhdcgeaaGreat
open Go.RowKit Go.Shelf Go.Geo
attribute [local go_sem] Oper.semAt_some
set_option maxRecDepth 100000 in
set_option maxHeartbeats 2000000 in
theorem rat_any (ao : Option Addr) (n cap : Nat) (P : List Pt) (i m : Int) (q : Nat) (w : World) (h : IsPts w ao n cap P) (hq : q < n) (hm : Int.tmod i n = m) (hm1 : -(n : Int) ≤ m) (hm2 : m ≤ n) (hq2 : Int.tmod (m + n) n = q) (hnb : n ≤ 1000000000000) :
    Calls Tryz.prog 38 #[.slice ao n cap, .int .i64 i] w fun e w' => e = .returned (ptV (P.getD q p0)) ∧ Grew w w' := by
  have hga : Grew w (w.alloc (.cells #[.int .i64 0, .int .i64 0] 40)) := (Grew.refl w).alloc _
  obtain ⟨b2, off2, rfl, e0, e1⟩ := (h.later hga.1 (Nat.le_refl _)).at hq
  obtain ⟨x, hx⟩ : ∃ x, x = P.getD q p0 := ⟨_, rfl⟩
  rw [← hx] at e0 e1 ⊢
  clear hga h hx
  have hq0 : (0 : Int) ≤ (q : Int) := by omega
  have hq1 : (q : Int) < (n : Int) := by omega
  have hz : ((n : Int) == 0) = false := by simp; omega
  have hz2 : ¬ (n : Int) = 0 := by omega
  have hwr : IntKind.i64.wrap (m + (n : Int)) = m + (n : Int) := IntWalk.i64_in _ (by omega)
  have hwm : IntKind.i64.wrap m = m := IntWalk.i64_in _ (by omega)
  have hwq : IntKind.i64.wrap (q : Int) = (q : Int) := IntWalk.i64_in _ (by omega)
  unfold ptV
  go_enter Tryz.func38, Tryz.ntmps38
  go_wp2_with fail
  first
  | exact bodyPost_ret (results_point rfl rfl (alloc_new _ _)) rfl ⟨rfl, (Grew.refl _).alloc _⟩
set_option maxRecDepth 100000 in
set_option maxHeartbeats 2000000 in
theorem rtwice_any (ao : Option Addr) (n cap : Nat) (P : List Pt) (j : Nat) (w : World) (h : IsPts w ao n cap P) (hj : j < n) :
    Calls Tryz.prog 61 #[.slice ao n cap, .int .i64 j] w fun e w' => e = .returned (.bool (twiceP P j)) ∧ Grew w w' := by
  have HI := Lib.hid h
  have HL : Hid (P.length = n) := h.1
  have hcm := h.2.2.1
  have hnc := h.2.1
  unfold maxLen at hcm
  obtain ⟨x, hx⟩ : ∃ x, x = P.getD j p0 := ⟨_, rfl⟩
  obtain ⟨r, hr⟩ : ∃ r, r = twiceP P j := ⟨_, rfl⟩
  rw [← hr]
  unfold twiceP at hr
  rw [← hx] at hr
  have HR := Lib.hid hr
  have HX := Lib.hid hx
  have hj0 : (0 : Int) ≤ (j : Int) := by omega
  have hj1 : (j : Int) < (n : Int) := by omega
  clear h hr hx
  go_enter Tryz.func61, Tryz.ntmps61
  go_wp2
  go_loopw [5] (fun i wr => ∃ k : Nat, k ≤ j ∧ i = .int .i64 k ∧ Hid (x ∉ P.take k) ∧ Hid (Grew w wr)) (fun i _ => j - (intOf i).toNat)
  case atStart => exact ⟨0, by omega, rfl, Lib.hid (by simp), Grew.refl _⟩
  case round =>
    obtain ⟨k, hk, rfl, hnot, hg⟩ := hrel
    by_cases hlt : k < j
    · have hk0 : (0 : Int) ≤ (k : Int) := by omega
      have hk1 : (k : Int) < (n : Int) := by omega
      have hk2 : (k : Int) < (j : Int) := by omega
      have hpw := HI.out.later hg.out.1 (Nat.le_refl _)
      obtain ⟨b2, off2, rfl, e0, e1⟩ := hpw.at (show k < n by omega)
      obtain ⟨b3, off3, hbo, f0, f1⟩ := hpw.at hj
      cases hbo
      rw [← HX.out] at f0 f1
      obtain ⟨y, hy⟩ : ∃ y, y = P.getD k p0 := ⟨_, rfl⟩
      rw [← hy] at e0 e1
      have HT : Hid (P.take (k + 1) = P.take k ++ [y]) := Lib.hid (by rw [hy]; exact take_more (by rw [HL.out]; omega))
      have HTJ : Hid (y ∈ P.take j) := Lib.hid (by rw [hy]; exact List.mem_iff_getElem.2 ⟨k, by rw [List.length_take, HL.out]; omega, by rw [List.getElem_take, List.getD_eq_getElem?_getD, List.getElem?_eq_getElem (by rw [HL.out]; omega)]; rfl⟩)
      have heq := run_eq_pt y x
      obtain ⟨z, hz⟩ : ∃ z, z = decide (y = x) := ⟨_, rfl⟩
      rw [← hz] at heq
      have HZ := Lib.hid hz
      clear hy hz hpw
      cases z with
      | true =>
        go_wp2_with fail
        try go_region
        try go_wp2_with fail
        go_ret
        refine ⟨?_, by first | exact hg.out | exact hg.out.drew⟩
        rw [HR.out, decide_eq_true (by rw [← of_decide_eq_true HZ.out.symm]; exact HTJ.out)]
        rfl
      | false =>
        go_wp2_with fail
        try go_region
        try go_wp2_with fail
        go_roundw
        case rel =>
          refine ⟨k + 1, by omega, by go_num, Lib.hid ?_, by first | exact hg | exact Lib.hid hg.out.drew⟩
          rw [HT.out]
          have h1 := hnot.out
          have h2 := of_decide_eq_false HZ.out.symm
          simp only [List.mem_append, List.mem_singleton, not_or]
          exact ⟨h1, fun h => h2 h.symm⟩
        case measure => simp [intOf]; omega
    · obtain rfl : k = j := by omega
      go_wp2_with fail
      go_ret
      exact ⟨by rw [HR.out, decide_eq_false hnot.out]; rfl, hg.out⟩
end Go.Proofs.YtgijaaklhdcgeaaGreat

/- the document's ring: meets -/
set_option linter.unusedSimpArgs false
set_option linter.unusedVariables false
namespace Go.Proofs.YtgijaaklhdcgeaaGreat
open Go.RowKit Go.Shelf Go.Geo
attribute [local go_sem] Oper.semAt_some
theorem rat_next (ao : Option Addr) (n cap : Nat) (P : List Pt) (k : Nat) (w : World) (h : IsPts w ao n cap P) (hk : k < n) (hnb : n ≤ 1000) :
    Calls Tryz.prog 38 #[.slice ao n cap, .int .i64 ((k : Int) + 1)] w fun e w' => e = .returned (ptV (atP P (k + 1))) ∧ Grew w w' := by
  have hn : 0 < n := by omega
  have hmod := Nat.mod_lt (k + 1) hn
  have h1 : Int.tmod ((k : Int) + 1) n = (((k + 1) % n : Nat) : Int) := by rw [Int.tmod_eq_emod_of_nonneg (by omega)]; rw [Int.natCast_emod]; rfl
  have h2 : Int.tmod ((((k + 1) % n : Nat) : Int) + n) n = (((k + 1) % n : Nat) : Int) := by
    rw [Int.tmod_eq_emod_of_nonneg (by omega), Int.add_emod_right, Int.emod_eq_of_lt (by omega) (by omega)]
  have hr := rat_any ao n cap P ((k : Int) + 1) _ _ w h hmod h1 (by omega) (by omega) h2 (by omega)
  unfold atP
  rw [h.1]
  exact hr
theorem four_stepB {W w1 w2 : World} {B1 B2 o1 o2 o3 o4 : Nat} {v1 v2 v3 v4 : Value} (hb : Below w1.heap.size w1 w2)
    (h1 : w1.cell? ⟨B1, o1, none⟩ = some v1) (h2 : w1.cell? ⟨B1, o2, none⟩ = some v2) (h3 : w1.cell? ⟨B2, o3, none⟩ = some v3) (h4 : w1.cell? ⟨B2, o4, none⟩ = some v4) (h7 : Below W.heap.size W w1) :
    w2.cell? ⟨B1, o1, none⟩ = some v1 ∧ w2.cell? ⟨B1, o2, none⟩ = some v2 ∧ w2.cell? ⟨B2, o3, none⟩ = some v3 ∧ w2.cell? ⟨B2, o4, none⟩ = some v4 ∧ Below W.heap.size W w2 :=
  ⟨(hb.cell (p := ⟨B1, o1, none⟩) (block_lt_of_cell h1)).trans h1, (hb.cell (p := ⟨B1, o2, none⟩) (block_lt_of_cell h2)).trans h2, (hb.cell (p := ⟨B2, o3, none⟩) (block_lt_of_cell h3)).trans h3, (hb.cell (p := ⟨B2, o4, none⟩) (block_lt_of_cell h4)).trans h4, h7.trans (hb.mono h7.size)⟩
set_option maxRecDepth 100000 in
set_option maxHeartbeats 4000000 in
theorem rmeets_any (ao : Option Addr) (n cap : Nat) (P : List Pt) (j : Nat) (w : World) (h : IsPts w ao n cap P) (hj : j < n) (hnb : n ≤ 1000) :
    Calls Tryz.prog 63 #[.slice ao n cap, .int .i64 j] w fun e w' => e = .returned (.bool (meetsP P j)) ∧ Below w.heap.size w w' := by
  have HI := Lib.hid h
  have HL : Hid (P.length = n) := h.1
  have HAT : Hid (∀ k, k < n → ∀ wX, Below w.heap.size w wX → Calls Tryz.prog 38 #[.slice ao n cap, .int .i64 ((k : Int) + 1)] wX fun e w' => e = .returned (ptV (atP P (k + 1))) ∧ Grew wX w') := Lib.hid (fun k hk wX hX => rat_next ao n cap P k wX (HI.out.later hX (Nat.le_refl _)) hk hnb)
  obtain ⟨x, hx⟩ : ∃ x, x = P.getD j p0 := ⟨_, rfl⟩
  obtain ⟨x2, hx2⟩ : ∃ x, x = atP P (j + 1) := ⟨_, rfl⟩
  have HA1 := Lib.hid (HAT.out j hj)
  rw [← hx2] at HA1
  obtain ⟨r, hr⟩ : ∃ r, r = meetsP P j := ⟨_, rfl⟩
  rw [← hr]
  have HR := Lib.hid hr
  have HX := Lib.hid hx
  have HX2 := Lib.hid hx2
  have hj0 : (0 : Int) ≤ (j : Int) := by omega
  have hj1 : (j : Int) < (n : Int) := by omega
  have hwj : IntKind.i64.wrap ((j : Int) + 1) = (j : Int) + 1 := IntWalk.i64_in _ (by omega)
  have hwj2 : IntKind.i64.wrap ((j : Int) + 2) = (j : Int) + 2 := IntWalk.i64_in _ (by omega)
  have hwn : IntKind.i64.wrap ((n : Int) - 1) = (n : Int) - 1 := IntWalk.i64_in _ (by omega)
  unfold ptV at HA1
  clear h hr hx hx2
  go_enter Tryz.func63, Tryz.ntmps63
  go_wp2_with fail
  go_loopw [5] (fun i wr => ∃ k : Nat, j + 2 ≤ k ∧ k ≤ n + 1 ∧ i = .int .i64 k ∧ Hid (∀ t, t < k → meetsAt P j t = false) ∧ Hid (Below w.heap.size w wr)) (fun i _ => n + 1 - (intOf i).toNat)
  case atStart =>
    refine ⟨j + 2, Nat.le_refl _, by omega, by go_num, Lib.hid (fun t ht => ?_), Below.refl _ _⟩
    unfold meetsAt
    rw [decide_eq_true ht]; rfl
  case round =>
    obtain ⟨k, hk1, hk2, rfl, hnot, hg⟩ := hrel
    by_cases hlt : k < n
    · have k0 : (0 : Int) ≤ (k : Int) := by omega
      have k1 : (k : Int) < (n : Int) := by omega
      have hwk : IntKind.i64.wrap ((k : Int) + 1) = (k : Int) + 1 := IntWalk.i64_in _ (by omega)
      by_cases hskip : j = 0 ∧ k + 1 = n
      · have s1 : (j : Int) = 0 := by omega
        have s2 : (k : Int) = (n : Int) - 1 := by omega
        have HSK := Lib.hid hskip
        clear hskip
        go_wp2_with fail
        go_roundw
        case rel =>
          refine ⟨k + 1, by omega, by omega, by go_num, Lib.hid (fun t ht => ?_), hg⟩
          by_cases htk : t < k
          · exact hnot.out t htk
          · obtain rfl : t = k := by omega
            unfold meetsAt
            rw [HL.out, decide_eq_true HSK.out.1, decide_eq_true HSK.out.2, Bool.and_true, Bool.or_true]; rfl
        case measure => simp [intOf]; omega
      · have hpw := HI.out.later hg.out (Nat.le_refl _)
        obtain ⟨b2, off2, rfl, e0, e1⟩ := hpw.at hj
        obtain ⟨b3, off3, hbo, f0, f1⟩ := hpw.at hlt
        cases hbo
        rw [← HX.out] at e0 e1
        obtain ⟨y, hy⟩ : ∃ y, y = P.getD k p0 := ⟨_, rfl⟩
        obtain ⟨y2, hy2⟩ : ∃ y, y = atP P (k + 1) := ⟨_, rfl⟩
        rw [← hy] at f0 f1
        have HA2 := Lib.hid (HAT.out k hlt)
        rw [← hy2] at HA2
        unfold ptV at HA2
        have HM := Lib.hid (rMeets_any x x2 y y2)
        obtain ⟨m, hm⟩ : ∃ m, m = meetK x x2 y y2 := ⟨_, rfl⟩
        rw [← hm] at HM
        have HMT : Hid (meetsAt P j k = decide (m ≠ 0)) := Lib.hid (by
          unfold meetsAt
          rw [decide_eq_false (show ¬ k < j + 2 by omega), show (decide (j = 0) && decide (k + 1 = P.length)) = false by
            rw [HL.out]
            by_cases h1 : j = 0
            · rw [decide_eq_false (fun h2 => hskip ⟨h1, h2⟩), Bool.and_false]
            · rw [decide_eq_false h1]; rfl]
          rw [hm, HX.out, HX2.out, hy, hy2]
          rfl)
        unfold ptV at HM
        have HSK := Lib.hid hskip
        clear hy hy2 hm hpw hskip
        have hcase : (j : Int) = 0 → ¬ (k : Int) = (n : Int) - 1 := fun h1 h2 => HSK.out ⟨by omega, by omega⟩
        by_cases hj00 : (j : Int) = 0
        · have hkn := hcase hj00
          have hkn2 : ((k : Int) == (n : Int) - 1) = false := by rw [beq_eq_false_iff_ne]; exact hkn
          have hjb : ((j : Int) == 0) = true := by rw [beq_iff_eq]; exact hj00
          clear hcase hj00
          go_wp2_with fail
          go_region_held3 (fun w' => w'.cell? ⟨b2, off2 + j * 2, none⟩ = some (.int .i64 x.x) ∧ w'.cell? ⟨b2, off2 + j * 2 + 1, none⟩ = some (.int .i64 x.y) ∧ w'.cell? ⟨b2, off2 + k * 2, none⟩ = some (.int .i64 y.x) ∧ w'.cell? ⟨b2, off2 + k * 2 + 1, none⟩ = some (.int .i64 y.y) ∧ Below w.heap.size w w')
            (first
              | (exact ⟨e0, e1, f0, f1, hg.out.drew⟩)
              | (go_split_ands; refine four_stepB hgr ?_ ?_ ?_ ?_ ?_; all_goals assumption))
            (first
              | (go_at_call 38; have hv := HA1; clear HA1; go_split_ands; refine (hv.out _ (by assumption)).mono ?_; rintro e wA ⟨rfl, hgr0⟩; have hgr := hgr0.1; clear hgr0)
              | (go_at_call 38; have hv := HA2; clear HA2; go_split_ands; refine (hv.out _ (by assumption)).mono ?_; rintro e wB ⟨rfl, hgr0⟩; have hgr := hgr0.1; clear hgr0)
              | (go_at_call 64; refine (HM.out _).mono ?_; rintro e wC ⟨rfl, hgr⟩))
          have HB : Hid (Below w.heap.size w wC) := Lib.hid (by first | assumption | (go_split_ands; assumption))
          clear e0 e1 f0 f1
          by_cases hm0 : m = 0
          · have hz1 : (m : Int) = 0 := by omega
            have HM0 := Lib.hid hm0
            clear hm0
            go_wp2_with fail
            go_roundw
            case rel =>
              refine ⟨k + 1, by omega, by omega, by go_num, Lib.hid (fun t ht => ?_), HB⟩
              by_cases htk : t < k
              · exact hnot.out t htk
              · obtain rfl : t = k := by omega
                rw [HMT.out, decide_eq_false (fun h => h HM0.out)]
            case measure => simp [intOf]; omega
          · have hz1 : ¬ (m : Int) = 0 := by omega
            have hz2 : ((m : Int) == 0) = false := by simp; omega
            have HM0 := Lib.hid hm0
            clear hm0
            go_wp2_with fail
            go_ret
            refine ⟨?_, HB.out⟩
            have hrt : meetsP P j = true := by
              unfold meetsP
              rw [List.any_eq_true]
              exact ⟨k, by rw [List.mem_range, HL.out]; omega, by rw [HMT.out]; exact decide_eq_true HM0.out⟩
            rw [HR.out, hrt]
            rfl
        · clear hcase
          go_wp2_with fail
          go_region_held3 (fun w' => w'.cell? ⟨b2, off2 + j * 2, none⟩ = some (.int .i64 x.x) ∧ w'.cell? ⟨b2, off2 + j * 2 + 1, none⟩ = some (.int .i64 x.y) ∧ w'.cell? ⟨b2, off2 + k * 2, none⟩ = some (.int .i64 y.x) ∧ w'.cell? ⟨b2, off2 + k * 2 + 1, none⟩ = some (.int .i64 y.y) ∧ Below w.heap.size w w')
            (first
              | (exact ⟨e0, e1, f0, f1, hg.out.drew⟩)
              | (go_split_ands; refine four_stepB hgr ?_ ?_ ?_ ?_ ?_; all_goals assumption))
            (first
              | (go_at_call 38; have hv := HA1; clear HA1; go_split_ands; refine (hv.out _ (by assumption)).mono ?_; rintro e wA ⟨rfl, hgr0⟩; have hgr := hgr0.1; clear hgr0)
              | (go_at_call 38; have hv := HA2; clear HA2; go_split_ands; refine (hv.out _ (by assumption)).mono ?_; rintro e wB ⟨rfl, hgr0⟩; have hgr := hgr0.1; clear hgr0)
              | (go_at_call 64; refine (HM.out _).mono ?_; rintro e wC ⟨rfl, hgr⟩))
          have HB : Hid (Below w.heap.size w wC) := Lib.hid (by first | assumption | (go_split_ands; assumption))
          clear e0 e1 f0 f1
          by_cases hm0 : m = 0
          · have hz1 : (m : Int) = 0 := by omega
            have HM0 := Lib.hid hm0
            clear hm0
            go_wp2_with fail
            go_roundw
            case rel =>
              refine ⟨k + 1, by omega, by omega, by go_num, Lib.hid (fun t ht => ?_), HB⟩
              by_cases htk : t < k
              · exact hnot.out t htk
              · obtain rfl : t = k := by omega
                rw [HMT.out, decide_eq_false (fun h => h HM0.out)]
            case measure => simp [intOf]; omega
          · have hz1 : ¬ (m : Int) = 0 := by omega
            have hz2 : ((m : Int) == 0) = false := by simp; omega
            have HM0 := Lib.hid hm0
            clear hm0
            go_wp2_with fail
            go_ret
            refine ⟨?_, HB.out⟩
            have hrt : meetsP P j = true := by
              unfold meetsP
              rw [List.any_eq_true]
              exact ⟨k, by rw [List.mem_range, HL.out]; omega, by rw [HMT.out]; exact decide_eq_true HM0.out⟩
            rw [HR.out, hrt]
            rfl
    · go_wp2_with fail
      go_ret
      refine ⟨?_, hg.out⟩
      have : meetsP P j = false := by
        unfold meetsP
        rw [List.any_eq_false]
        intro t ht
        rw [List.mem_range, HL.out] at ht
        rw [hnot.out t (by omega)]
        simp
      rw [HR.out, this]
      rfl
end Go.Proofs.YtgijaaklhdcgeaaGreat

/- the document's ring: Check, back's contract given -/
set_option linter.unusedSimpArgs false
set_option linter.unusedVariables false
namespace Go.Proofs.YtgijaaklhdcgeaaGreat
open Go.RowKit Go.Shelf Go.Geo
attribute [local go_sem] Oper.semAt_some
theorem ringC_0 {P : List Pt} {n k : Nat} (hl : P.length = n) (hl2 : 3 ≤ n ∧ n ≤ 200)  (hk : k < n) (hq : (fun i => !validP (P.getD i p0)) k = true) (hno : ∀ t, t < k → (fun i => !validP (P.getD i p0)) t = false) : ringCheckP P = (2, (k : Int)) := by
  unfold ringCheckP
  rw [hl, if_neg (by omega), if_neg (by omega), firstP_some hk hq hno]
theorem ringC_1 {P : List Pt} {n k : Nat} (hl : P.length = n) (hl2 : 3 ≤ n ∧ n ≤ 200) (h0 : ∀ t, t < n → (fun i => !validP (P.getD i p0)) t = false) (hk : k < n) (hq : (twiceP P) k = true) (hno : ∀ t, t < k → (twiceP P) t = false) : ringCheckP P = (191, (k : Int)) := by
  unfold ringCheckP
  rw [hl, if_neg (by omega), if_neg (by omega), firstP_none h0, firstP_some hk hq hno]
theorem ringC_2 {P : List Pt} {n k : Nat} (hl : P.length = n) (hl2 : 3 ≤ n ∧ n ≤ 200) (h0 : ∀ t, t < n → (fun i => !validP (P.getD i p0)) t = false) (h1 : ∀ t, t < n → (twiceP P) t = false) (hk : k < n) (hq : (backP P) k = true) (hno : ∀ t, t < k → (backP P) t = false) : ringCheckP P = (192, (k : Int)) := by
  unfold ringCheckP
  rw [hl, if_neg (by omega), if_neg (by omega), firstP_none h0, firstP_none h1, firstP_some hk hq hno]
theorem ringC_3 {P : List Pt} {n k : Nat} (hl : P.length = n) (hl2 : 3 ≤ n ∧ n ≤ 200) (h0 : ∀ t, t < n → (fun i => !validP (P.getD i p0)) t = false) (h1 : ∀ t, t < n → (twiceP P) t = false) (h2 : ∀ t, t < n → (backP P) t = false) (hk : k < n) (hq : (meetsP P) k = true) (hno : ∀ t, t < k → (meetsP P) t = false) : ringCheckP P = (193, (k : Int)) := by
  unfold ringCheckP
  rw [hl, if_neg (by omega), if_neg (by omega), firstP_none h0, firstP_none h1, firstP_none h2, firstP_some hk hq hno]
theorem ringC_4 {P : List Pt} {n : Nat} (hl : P.length = n) (hl2 : 3 ≤ n ∧ n ≤ 200) (h0 : ∀ t, t < n → (fun i => !validP (P.getD i p0)) t = false) (h1 : ∀ t, t < n → (twiceP P) t = false) (h2 : ∀ t, t < n → (backP P) t = false) (h3 : ∀ t, t < n → (meetsP P) t = false) : ringCheckP P = (0, 0) := by
  unfold ringCheckP
  rw [hl, if_neg (by omega), if_neg (by omega), firstP_none h0, firstP_none h1, firstP_none h2, firstP_none h3]
set_option maxRecDepth 100000 in
set_option maxHeartbeats 8000000 in
theorem rCheck_of (ao : Option Addr) (n cap : Nat) (P : List Pt) (w : World) (h : IsPts w ao n cap P)
    (hback : ∀ k, k < n → ∀ wX, IsPts wX ao n cap P → 3 ≤ n → n ≤ 1000 → Calls Tryz.prog 62 #[.slice ao n cap, .int .i64 k] wX fun e w' => e = .returned (.bool (backP P k)) ∧ Below wX.heap.size wX w') :
    Calls Tryz.prog 36 #[.slice ao n cap] w fun e w' => e = .returned (faultV (ringCheckP P)) ∧ Below w.heap.size w w' := by
  have HL : Hid (P.length = n) := h.1
  have hcm := h.2.2.1
  have hnc := h.2.1
  unfold maxLen at hcm
  have hga : Below w.heap.size w (w.alloc (.cells #[.int .i64 0, .int .i64 0] 33)) := (Below.refl _ _).alloc (Nat.le_refl _) _
  have HIW : Hid (∀ wr, Below (w.heap.size + 1) (w.alloc (.cells #[.int .i64 0, .int .i64 0] 33)) wr → IsPts wr ao n cap P) := Lib.hid (fun wr hb => h.later (hga.trans (hb.mono (by omega))) (Nat.le_refl _))
  obtain ⟨k0, k1, f0, f1, HG0⟩ := fault_cellsB (w := w) (w2 := w.alloc (.cells #[.int .i64 0, .int .i64 0] 33)) (Below.refl _ _)
  have HBK0 := Lib.hid hback
  clear h hga hback
  by_cases hlong : 200 < n
  · have hl1 : (200 : Int) < (n : Int) := by omega
    have hres : ringCheckP P = (3, 0) := by unfold ringCheckP; rw [HL.out, if_pos hlong]
    rw [hres]
    go_enter Tryz.func36, Tryz.ntmps36
    go_wp2_with fail
    first
    | exact fault_end rfl rfl rfl HG0 rfl rfl
    | exact bodyPost_ret (results_cell_row rfl _ _ _ _ _ _ _ rfl (alloc_new _ _) Tryz.underlying33 rfl (by kernel_rfl)) rfl ⟨rfl, (Below.refl _ _).alloc (Nat.le_refl _) _⟩
  · have hl1 : ¬ (200 : Int) < (n : Int) := by omega
    by_cases hfew : n < 3
    · have hl2 : (n : Int) < 3 := by omega
      have hres : ringCheckP P = (190, 0) := by unfold ringCheckP; rw [HL.out, if_neg hlong, if_pos hfew]
      rw [hres]
      go_enter Tryz.func36, Tryz.ntmps36
      go_wp2_with fail
      first
      | exact fault_end rfl rfl rfl HG0 rfl rfl
      | exact bodyPost_ret (results_cell_row rfl _ _ _ _ _ _ _ rfl (alloc_new _ _) Tryz.underlying33 rfl (by kernel_rfl)) rfl ⟨rfl, (Below.refl _ _).alloc (Nat.le_refl _) _⟩
    · have hl2 : ¬ (n : Int) < 3 := by omega
      have hlen2 : 3 ≤ n ∧ n ≤ 200 := by omega
      have hlen1 : P.length = n := HL.out
      have hn1 : n ≤ 1000 := by omega
      have HBK : Hid (∀ k, k < n → ∀ wX, IsPts wX ao n cap P → Calls Tryz.prog 62 #[.slice ao n cap, .int .i64 k] wX fun e w' => e = .returned (.bool (backP P k)) ∧ Below wX.heap.size wX w') := Lib.hid (fun k hk wX hX => HBK0.out k hk wX hX hlen2.1 hn1)
      clear hlong hfew
      go_enter Tryz.func36, Tryz.ntmps36
      go_wp2_with fail
      obtain ⟨FF0, hFF0⟩ : ∃ f : Nat → Bool, f = (fun i => !validP (P.getD i p0)) := ⟨_, rfl⟩
      have HFF0 := Lib.hid hFF0
      clear hFF0
      go_loopw [3] (fun i wr => ∃ k : Nat, k ≤ n ∧ i = .int .i64 k ∧ Hid (∀ t, t < k → FF0 t = false) ∧ Hid (Below (w.heap.size + 1) (w.alloc (.cells #[.int .i64 0, .int .i64 0] 33)) wr)) (fun i _ => n - (intOf i).toNat)
      case atStart => exact ⟨0, by omega, rfl, Lib.hid (fun t ht => absurd ht (by omega)), Below.refl _ _⟩
      case round =>
        obtain ⟨k, hk, rfl, hno, hg⟩ := hrel
        by_cases hlt : k < n
        · have i0 : (0 : Int) ≤ (k : Int) := by omega
          have i1 : (k : Int) < (n : Int) := by omega
          have hpw := HIW.out wr hg.out
          obtain ⟨b2, off2, rfl, e0, e1⟩ := hpw.at hlt
          obtain ⟨x, hx⟩ : ∃ x, x = P.getD k p0 := ⟨_, rfl⟩
          rw [← hx] at e0 e1
          have HC := Lib.hid (rValid_any x)
          obtain ⟨v, hv⟩ : ∃ v, v = validP x := ⟨_, rfl⟩
          rw [← hv] at HC
          have HQ : Hid (FF0 k = !v) := Lib.hid (by rw [HFF0.out, hv, hx])
          unfold ptV at HC
          clear hx hv hpw
          cases v with
          | false =>
            go_wp2_with fail
            refine (HC.out wr).mono ?_
            rintro e w2 ⟨rfl, hg2⟩
            have hgg : Below (w.heap.size + 1) (w.alloc (.cells #[.int .i64 0, .int .i64 0] 33)) w2 := hg.out.trans (Below.mono hg2.1 (Nat.le_trans (by simp) hg.out.size))
            obtain ⟨k0, k1, f0, f1, HG⟩ := fault_cellsB hgg
            clear hg2 hgg
            go_wp2_with fail
            refine fault_end rfl rfl rfl HG rfl ?_
            exact ringC_0 hlen1 hlen2  hlt (by rw [← HFF0.out]; exact HQ.out) (by rw [← HFF0.out]; exact hno.out)
          | true =>
            go_wp2_with fail
            refine (HC.out wr).mono ?_
            rintro e w2 ⟨rfl, hg2⟩
            have hgg : Below (w.heap.size + 1) (w.alloc (.cells #[.int .i64 0, .int .i64 0] 33)) w2 := hg.out.trans (Below.mono hg2.1 (Nat.le_trans (by simp) hg.out.size))
            have HGG := Lib.hid hgg
            clear hg2 hgg
            go_wp2_with fail
            go_roundw
            case rel =>
              refine ⟨k + 1, by omega, by go_num, Lib.hid (fun t ht => ?_), HGG⟩
              by_cases htk : t < k
              · exact hno.out t htk
              · obtain rfl : t = k := by omega
                exact HQ.out
            case measure => simp [intOf]; omega
        · have hkn : n = k := by omega
          subst hkn
          have h0 : Hid (∀ t, t < n → (fun i => !validP (P.getD i p0)) t = false) := Lib.hid (by have := hno.out; rw [HFF0.out] at this; exact this)
          clear hno
          go_wp2_with fail
          obtain ⟨FF1, hFF1⟩ : ∃ f : Nat → Bool, f = (twiceP P) := ⟨_, rfl⟩
          have HFF1 := Lib.hid hFF1
          clear hFF1
          go_loopw [4] (fun i wr => ∃ k : Nat, k ≤ n ∧ i = .int .i64 k ∧ Hid (∀ t, t < k → FF1 t = false) ∧ Hid (Below (w.heap.size + 1) (w.alloc (.cells #[.int .i64 0, .int .i64 0] 33)) wr)) (fun i _ => n - (intOf i).toNat)
          case atStart => exact ⟨0, by omega, rfl, Lib.hid (fun t ht => absurd ht (by omega)), hg⟩
          case round =>
            obtain ⟨k, hk, rfl, hno, hg⟩ := hrel
            by_cases hlt : k < n
            · have i0 : (0 : Int) ≤ (k : Int) := by omega
              have i1 : (k : Int) < (n : Int) := by omega
              have hpw := HIW.out wr hg.out
              have HC := Lib.hid (rtwice_any ao n cap P k wr hpw hlt)
              obtain ⟨v, hv⟩ : ∃ v, v = (twiceP P) k := ⟨_, rfl⟩
              rw [← hv] at HC
              have HQ : Hid (FF1 k = v) := Lib.hid (by rw [HFF1.out, hv])
              clear hv hpw
              cases v with
              | true =>
                go_wp2_with fail
                refine HC.out.mono ?_
                rintro e w2 ⟨rfl, hg2⟩
                have hgg : Below (w.heap.size + 1) (w.alloc (.cells #[.int .i64 0, .int .i64 0] 33)) w2 := hg.out.trans (Below.mono hg2.1 (Nat.le_trans (by simp) hg.out.size))
                obtain ⟨k0, k1, f0, f1, HG⟩ := fault_cellsB hgg
                clear hg2 hgg
                go_wp2_with fail
                refine fault_end rfl rfl rfl HG rfl ?_
                exact ringC_1 hlen1 hlen2 h0.out hlt (by rw [← HFF1.out]; exact HQ.out) (by rw [← HFF1.out]; exact hno.out)
              | false =>
                go_wp2_with fail
                refine HC.out.mono ?_
                rintro e w2 ⟨rfl, hg2⟩
                have hgg : Below (w.heap.size + 1) (w.alloc (.cells #[.int .i64 0, .int .i64 0] 33)) w2 := hg.out.trans (Below.mono hg2.1 (Nat.le_trans (by simp) hg.out.size))
                have HGG := Lib.hid hgg
                clear hg2 hgg
                go_wp2_with fail
                go_roundw
                case rel =>
                  refine ⟨k + 1, by omega, by go_num, Lib.hid (fun t ht => ?_), HGG⟩
                  by_cases htk : t < k
                  · exact hno.out t htk
                  · obtain rfl : t = k := by omega
                    exact HQ.out
                case measure => simp [intOf]; omega
            · have hkn : n = k := by omega
              subst hkn
              have h1 : Hid (∀ t, t < n → (twiceP P) t = false) := Lib.hid (by have := hno.out; rw [HFF1.out] at this; exact this)
              clear hno
              go_wp2_with fail
              obtain ⟨FF2, hFF2⟩ : ∃ f : Nat → Bool, f = (backP P) := ⟨_, rfl⟩
              have HFF2 := Lib.hid hFF2
              clear hFF2
              go_loopw [5] (fun i wr => ∃ k : Nat, k ≤ n ∧ i = .int .i64 k ∧ Hid (∀ t, t < k → FF2 t = false) ∧ Hid (Below (w.heap.size + 1) (w.alloc (.cells #[.int .i64 0, .int .i64 0] 33)) wr)) (fun i _ => n - (intOf i).toNat)
              case atStart => exact ⟨0, by omega, rfl, Lib.hid (fun t ht => absurd ht (by omega)), hg⟩
              case round =>
                obtain ⟨k, hk, rfl, hno, hg⟩ := hrel
                by_cases hlt : k < n
                · have i0 : (0 : Int) ≤ (k : Int) := by omega
                  have i1 : (k : Int) < (n : Int) := by omega
                  have hpw := HIW.out wr hg.out
                  have HC := Lib.hid (HBK.out k hlt wr hpw)
                  obtain ⟨v, hv⟩ : ∃ v, v = (backP P) k := ⟨_, rfl⟩
                  rw [← hv] at HC
                  have HQ : Hid (FF2 k = v) := Lib.hid (by rw [HFF2.out, hv])
                  clear hv hpw
                  cases v with
                  | true =>
                    go_wp2_with fail
                    refine HC.out.mono ?_
                    rintro e w2 ⟨rfl, hg2⟩
                    have hgg : Below (w.heap.size + 1) (w.alloc (.cells #[.int .i64 0, .int .i64 0] 33)) w2 := hg.out.trans (Below.mono hg2 (Nat.le_trans (by simp) hg.out.size))
                    obtain ⟨k0, k1, f0, f1, HG⟩ := fault_cellsB hgg
                    clear hg2 hgg
                    go_wp2_with fail
                    refine fault_end rfl rfl rfl HG rfl ?_
                    exact ringC_2 hlen1 hlen2 h0.out h1.out hlt (by rw [← HFF2.out]; exact HQ.out) (by rw [← HFF2.out]; exact hno.out)
                  | false =>
                    go_wp2_with fail
                    refine HC.out.mono ?_
                    rintro e w2 ⟨rfl, hg2⟩
                    have hgg : Below (w.heap.size + 1) (w.alloc (.cells #[.int .i64 0, .int .i64 0] 33)) w2 := hg.out.trans (Below.mono hg2 (Nat.le_trans (by simp) hg.out.size))
                    have HGG := Lib.hid hgg
                    clear hg2 hgg
                    go_wp2_with fail
                    go_roundw
                    case rel =>
                      refine ⟨k + 1, by omega, by go_num, Lib.hid (fun t ht => ?_), HGG⟩
                      by_cases htk : t < k
                      · exact hno.out t htk
                      · obtain rfl : t = k := by omega
                        exact HQ.out
                    case measure => simp [intOf]; omega
                · have hkn : n = k := by omega
                  subst hkn
                  have h2 : Hid (∀ t, t < n → (backP P) t = false) := Lib.hid (by have := hno.out; rw [HFF2.out] at this; exact this)
                  clear hno
                  go_wp2_with fail
                  obtain ⟨FF3, hFF3⟩ : ∃ f : Nat → Bool, f = (meetsP P) := ⟨_, rfl⟩
                  have HFF3 := Lib.hid hFF3
                  clear hFF3
                  go_loopw [6] (fun i wr => ∃ k : Nat, k ≤ n ∧ i = .int .i64 k ∧ Hid (∀ t, t < k → FF3 t = false) ∧ Hid (Below (w.heap.size + 1) (w.alloc (.cells #[.int .i64 0, .int .i64 0] 33)) wr)) (fun i _ => n - (intOf i).toNat)
                  case atStart => exact ⟨0, by omega, rfl, Lib.hid (fun t ht => absurd ht (by omega)), hg⟩
                  case round =>
                    obtain ⟨k, hk, rfl, hno, hg⟩ := hrel
                    by_cases hlt : k < n
                    · have i0 : (0 : Int) ≤ (k : Int) := by omega
                      have i1 : (k : Int) < (n : Int) := by omega
                      have hpw := HIW.out wr hg.out
                      have HC := Lib.hid (rmeets_any ao n cap P k wr hpw hlt hn1)
                      obtain ⟨v, hv⟩ : ∃ v, v = (meetsP P) k := ⟨_, rfl⟩
                      rw [← hv] at HC
                      have HQ : Hid (FF3 k = v) := Lib.hid (by rw [HFF3.out, hv])
                      clear hv hpw
                      cases v with
                      | true =>
                        go_wp2_with fail
                        refine HC.out.mono ?_
                        rintro e w2 ⟨rfl, hg2⟩
                        have hgg : Below (w.heap.size + 1) (w.alloc (.cells #[.int .i64 0, .int .i64 0] 33)) w2 := hg.out.trans (Below.mono hg2 (Nat.le_trans (by simp) hg.out.size))
                        obtain ⟨k0, k1, f0, f1, HG⟩ := fault_cellsB hgg
                        clear hg2 hgg
                        go_wp2_with fail
                        refine fault_end rfl rfl rfl HG rfl ?_
                        exact ringC_3 hlen1 hlen2 h0.out h1.out h2.out hlt (by rw [← HFF3.out]; exact HQ.out) (by rw [← HFF3.out]; exact hno.out)
                      | false =>
                        go_wp2_with fail
                        refine HC.out.mono ?_
                        rintro e w2 ⟨rfl, hg2⟩
                        have hgg : Below (w.heap.size + 1) (w.alloc (.cells #[.int .i64 0, .int .i64 0] 33)) w2 := hg.out.trans (Below.mono hg2 (Nat.le_trans (by simp) hg.out.size))
                        have HGG := Lib.hid hgg
                        clear hg2 hgg
                        go_wp2_with fail
                        go_roundw
                        case rel =>
                          refine ⟨k + 1, by omega, by go_num, Lib.hid (fun t ht => ?_), HGG⟩
                          by_cases htk : t < k
                          · exact hno.out t htk
                          · obtain rfl : t = k := by omega
                            exact HQ.out
                        case measure => simp [intOf]; omega
                    · have hkn : n = k := by omega
                      subst hkn
                      have h3 : Hid (∀ t, t < n → (meetsP P) t = false) := Lib.hid (by have := hno.out; rw [HFF3.out] at this; exact this)
                      clear hno
                      obtain ⟨k0, k1, f0, f1, HG⟩ := fault_cellsB hg.out
                      go_wp2_with fail
                      exact fault_end rfl rfl rfl HG rfl (ringC_4 hlen1 hlen2 h0.out h1.out h2.out h3.out)
end Go.Proofs.YtgijaaklhdcgeaaGreat

/- the document's ring: at, exact; five blocks in a row -/
set_option linter.unusedSimpArgs false
set_option linter.unusedVariables false
namespace Go.Proofs.YtgijaaklhdcgeaaGreat
open Go.RowKit Go.Shelf Go.Geo
attribute [local go_sem] Oper.semAt_some
set_option maxRecDepth 100000 in
set_option maxHeartbeats 2000000 in
theorem rat_ex (ao : Option Addr) (n cap : Nat) (P : List Pt) (i m : Int) (q : Nat) (w : World) (h : IsPts w ao n cap P) (hq : q < n) (hm : Int.tmod i n = m) (hm1 : -(n : Int) ≤ m) (hm2 : m ≤ n) (hq2 : Int.tmod (m + n) n = q) (hnb : n ≤ 1000000000000) :
    Calls Tryz.prog 38 #[.slice ao n cap, .int .i64 i] w fun e w' => e = .returned (.agg #[.int .i64 (P.getD q p0).x, .int .i64 (P.getD q p0).y]) ∧ w' = w.alloc (.cells #[.int .i64 (P.getD q p0).x, .int .i64 (P.getD q p0).y] 40) := by
  have hga : Grew w (w.alloc (.cells #[.int .i64 0, .int .i64 0] 40)) := (Grew.refl w).alloc _
  obtain ⟨b2, off2, rfl, e0, e1⟩ := (h.later hga.1 (Nat.le_refl _)).at hq
  obtain ⟨x, hx⟩ : ∃ x, x = P.getD q p0 := ⟨_, rfl⟩
  rw [← hx] at e0 e1 ⊢
  clear hga h hx
  have hq0 : (0 : Int) ≤ (q : Int) := by omega
  have hq1 : (q : Int) < (n : Int) := by omega
  have hz : ((n : Int) == 0) = false := by simp; omega
  have hz2 : ¬ (n : Int) = 0 := by omega
  have hwr : IntKind.i64.wrap (m + (n : Int)) = m + (n : Int) := IntWalk.i64_in _ (by omega)
  have hwm : IntKind.i64.wrap m = m := IntWalk.i64_in _ (by omega)
  have hwq : IntKind.i64.wrap (q : Int) = (q : Int) := IntWalk.i64_in _ (by omega)
  go_enter Tryz.func38, Tryz.ntmps38
  go_wp2_with fail
  exact bodyPost_ret (results_point rfl rfl (alloc_new _ _)) rfl ⟨rfl, rfl⟩
theorem al5 (w : World) (o1 o2 o3 o4 o5 : Obj) : (((((w.alloc o1).alloc o2).alloc o3).alloc o4).alloc o5).heap[w.heap.size]? = some o1 ∧ (((((w.alloc o1).alloc o2).alloc o3).alloc o4).alloc o5).heap[w.heap.size + 1]? = some o2 ∧ (((((w.alloc o1).alloc o2).alloc o3).alloc o4).alloc o5).heap[w.heap.size + 1 + 1]? = some o3 ∧ (((((w.alloc o1).alloc o2).alloc o3).alloc o4).alloc o5).heap[w.heap.size + 1 + 1 + 1]? = some o4 ∧ (((((w.alloc o1).alloc o2).alloc o3).alloc o4).alloc o5).heap[w.heap.size + 1 + 1 + 1 + 1]? = some o5 := by
  have step : ∀ (w : World) (j : Nat) (o o' : Obj), w.heap[j]? = some o → (w.alloc o').heap[j]? = some o := fun w j o o' h => (Below.heap_alloc _ _ _ (Array.getElem?_eq_some_iff.1 h).1).trans h
  have last : ∀ (w : World) (g : Nat) (o : Obj), w.heap.size = g → (w.alloc o).heap[g]? = some o := fun w g o h => by rw [← h]; exact alloc_new _ _
  refine ⟨step _ _ _ _ (step _ _ _ _ (step _ _ _ _ (step _ _ _ _ (last _ _ _ rfl)))), step _ _ _ _ (step _ _ _ _ (step _ _ _ _ (last _ _ _ (by simp)))), step _ _ _ _ (step _ _ _ _ (last _ _ _ (by simp))), step _ _ _ _ (last _ _ _ (by simp)), last _ _ _ (by simp)⟩
end Go.Proofs.YtgijaaklhdcgeaaGreat

/- a region in whatever order: one invariant over the listed operations, one proof for each operation -/
set_option linter.unusedSimpArgs false
set_option linter.unusedVariables false
namespace Go.Proofs.YtgijaaklhdcgeaaGreat
open Go
theorem count_lt {α : Type} {p q : α → Bool} : ∀ {l : List α}, (∀ x ∈ l, q x = true → p x = true) → (∃ x ∈ l, p x = true ∧ q x = false) → l.countP q < l.countP p
  | [], _, h => by obtain ⟨x, hx, _⟩ := h; cases hx
  | y :: l, hs, h => by
    have hle : l.countP q ≤ l.countP p := List.countP_mono_left fun x hx => hs x (List.mem_cons_of_mem _ hx)
    rw [List.countP_cons, List.countP_cons]
    obtain ⟨x, hx, h1, h2⟩ := h
    rcases List.mem_cons.1 hx with rfl | hx
    · rw [h1, h2]; simp; omega
    · have := count_lt (l := l) (fun x hx => hs x (List.mem_cons_of_mem _ hx)) ⟨x, hx, h1, h2⟩
      have hy := hs y (List.mem_cons_self ..)
      cases h3 : q y with
      | false => simp; omega
      | true => rw [hy h3]; simp; omega
variable {P : Program} {ops : Array Oper} {Q : Exit → Act → World → Prop} {md : Region.Mode}
/-- how many are not listed yet. -/
def unlisted (ops : Array Oper) (listed : Array Bool) : Nat := (List.range ops.size).countP fun i => !listed.getD i true
theorem ready_nil {listed : Array Bool} (h : unlisted ops listed = 0) : Region.ready md ops listed = [] := by
  unfold unlisted at h
  rw [List.countP_eq_zero] at h
  unfold Region.ready
  rw [List.filter_eq_nil_iff]
  intro i hi
  have := h i hi
  simp at this
  simp [this]
theorem unlisted_lt {listed : Array Bool} {i : Nat} (hl : listed.size = ops.size) (h : i ∈ Region.ready md ops listed) : unlisted ops (listed.setIfInBounds i true) < unlisted ops listed := by
  obtain ⟨h1, o, ho, _⟩ := mem_ready.1 h
  have hlt : i < ops.size := (Array.getElem?_eq_some_iff.1 ho).1
  refine count_lt (fun x hx hq => ?_) ⟨i, List.mem_range.2 hlt, by rw [h1]; rfl, ?_⟩
  · by_cases hxi : i = x
    · subst hxi
      simp [Array.getD, hl, hlt] at hq
    · rw [getD_set_ne true hxi] at hq
      exact hq
  · simp [Array.getD, hl, hlt]
theorem wpAny_inv (I : Array Bool → Act → World → Prop)
    (step : ∀ (listed : Array Bool) (a : Act) (w : World) (i : Nat) (o : Oper), ops[i]? = some o → listed.getD i true = false → (∀ e ∈ o.after, Region.binds md e = true → listed.getD e.on false = true) → I listed a w →
      wpOp P ops Q i (fun a' w' => I (listed.setIfInBounds i true) a' w') a w)
    (done : ∀ (listed : Array Bool) (a : Act) (w : World), listed.size = ops.size → Region.ready md ops listed = [] → I listed a w → Q .normal a w) :
    ∀ (fuel : Nat) (listed : Array Bool) (a : Act) (w : World), listed.size = ops.size → unlisted ops listed ≤ fuel → I listed a w → wpAny P md ops Q fuel listed a w
  | 0, listed, a, w, hl, hu, hI => ⟨ready_nil (by omega), done listed a w hl (ready_nil (by omega)) hI⟩
  | fuel + 1, listed, a, w, hl, hu, hI => by
    refine ⟨fun h => done listed a w hl h hI, fun i hi => ?_⟩
    obtain ⟨h1, o, ho, h2⟩ := mem_ready.1 hi
    have hlt := unlisted_lt hl hi
    exact wpOp_mono (fun a' w' h => wpAny_inv I step done fuel _ a' w' (by simp [hl]) (by omega) h) (step listed a w i o ho h1 h2 hI)
theorem unlisted_start : unlisted ops (Array.replicate ops.size false) ≤ ops.size := by
  unfold unlisted
  exact Nat.le_trans List.countP_le_length (by simp)
/-- the region, begun. -/
theorem wp_region_inv {id : Nat} {a : Act} {w : World} (hm : P.follows .mixedOrders = true) (I : Array Bool → Act → World → Prop)
    (start : I (Array.replicate ops.size false) a { w with drawn := w.drawn + 1 })
    (step : ∀ (listed : Array Bool) (a : Act) (w : World) (i : Nat) (o : Oper), ops[i]? = some o → listed.getD i true = false → (∀ e ∈ o.after, Region.binds .any e = true → listed.getD e.on false = true) → I listed a w →
      wpOp P ops Q i (fun a' w' => I (listed.setIfInBounds i true) a' w') a w)
    (done : ∀ (listed : Array Bool) (a : Act) (w : World), listed.size = ops.size → Region.ready .any ops listed = [] → I listed a w → Q .normal a w) :
    (Code.region id ops true).wp P Q a w :=
  wp_region_any hm (wpAny_inv I step done _ _ a _ (by simp) unlisted_start start)
end Go.Proofs.YtgijaaklhdcgeaaGreat

/- a region in whatever order: one invariant over the listed operations and their values, one proof for each operation; the frame is told apart from it -/
set_option linter.unusedSimpArgs false
set_option linter.unusedVariables false
namespace Go.Proofs.YtgijaaklhdcgeaaGreat
open Go
def upd {α : Type} (L : Nat → α) (i : Nat) (x : α) : Nat → α := fun j => if j = i then x else L j
theorem upd_at {α : Type} (L : Nat → α) (i : Nat) (x : α) : upd L i x i = x := by unfold upd; simp
theorem upd_ne {α : Type} (L : Nat → α) (i j : Nat) (x : α) (h : j ≠ i) : upd L i x j = L j := by unfold upd; simp [h]
def predsOf (o : Oper) : List Nat := (o.after.toList.filter (fun e => Region.binds .any e)).map (·.on)
def dstsOf (l : List Oper) : List Nat := l.filterMap (·.dst)
def slotsOf : Nat → List Oper → List (Nat × Nat)
  | _, [] => []
  | k, o :: l => match o.dst with
    | some d => (d, k) :: slotsOf (k + 1) l
    | none => slotsOf (k + 1) l
def AllSteps (S : Nat → Oper → Prop) : Nat → List Oper → Prop
  | _, [] => True
  | k, o :: l => S k o ∧ AllSteps S (k + 1) l
theorem AllSteps.at {S : Nat → Oper → Prop} : ∀ {l : List Oper} {k : Nat}, AllSteps S k l → ∀ {i : Nat} {o : Oper}, l[i]? = some o → S (k + i) o
  | [], _, _, i, o, h => by simp at h
  | x :: l, k, ⟨h1, h2⟩, 0, o, h => by
    rw [List.getElem?_cons_zero] at h
    cases h
    exact h1
  | x :: l, k, ⟨h1, h2⟩, i + 1, o, h => by
    rw [List.getElem?_cons_succ] at h
    have := h2.at h
    rwa [Nat.add_assoc, Nat.add_comm 1 i] at this
/-- every edge of these operations goes back. -/
def backEdges : Nat → List Oper → Bool
  | _, [] => true
  | k, o :: l => (predsOf o).all (fun j => decide (j < k)) && backEdges (k + 1) l
theorem backEdges_at : ∀ {l : List Oper} {k : Nat}, backEdges k l = true → ∀ {i : Nat} {o : Oper}, l[i]? = some o → ∀ j ∈ predsOf o, j < k + i
  | [], _, _, i, o, h => by simp at h
  | x :: l, k, hb, 0, o, h => by
    unfold backEdges at hb
    rw [Bool.and_eq_true] at hb
    rw [List.getElem?_cons_zero] at h
    cases h
    intro j hj
    have := List.all_eq_true.1 hb.1 j hj
    simpa using this
  | x :: l, k, hb, i + 1, o, h => by
    unfold backEdges at hb
    rw [Bool.and_eq_true] at hb
    rw [List.getElem?_cons_succ] at h
    intro j hj
    have := backEdges_at hb.2 h j hj
    omega
theorem mem_preds {o : Oper} {j : Nat} : j ∈ predsOf o ↔ ∃ e ∈ o.after, Region.binds .any e = true ∧ e.on = j := by
  unfold predsOf
  simp only [List.mem_map, List.mem_filter, Array.mem_toList_iff]
  constructor
  · rintro ⟨e, ⟨h1, h2⟩, h3⟩; exact ⟨e, h1, h2, h3⟩
  · rintro ⟨e, h1, h2, h3⟩; exact ⟨e, ⟨h1, h2⟩, h3⟩
theorem all_listed {l : List Oper} {listed : Array Bool} (hb : backEdges 0 l = true) (hs : listed.size = l.length) (hr : Region.ready .any l.toArray listed = []) : ∀ i, i < l.length → listed.getD i false = true := by
  intro i
  induction i using Nat.strongRecOn with
  | ind i ih =>
    intro hi
    cases hl : listed.getD i false with
    | true => rfl
    | false =>
      exfalso
      have hmem : i ∈ Region.ready .any l.toArray listed := by
        refine mem_ready.2 ⟨?_, l[i], by simp [hi], ?_⟩
        · have h2 : i < listed.size := by omega
          simp only [Array.getD, h2, dif_pos] at hl ⊢
          exact hl
        · intro e he hbd
          have hj : e.on ∈ predsOf l[i] := mem_preds.2 ⟨e, he, hbd, rfl⟩
          have := backEdges_at hb (i := i) (o := l[i]) (by simp [hi]) _ hj
          exact ih _ (by omega) (by omega)
      rw [hr] at hmem
      cases hmem
/-- the frame of a region under way: what no operation writes stays; what is listed bears its value. -/
structure Fits (l : List Oper) (a0 a : Act) (L : Nat → Bool) (V : Nat → Value) : Prop where
  defers : a.defers = a0.defers
  size : a.tmps.size = a0.tmps.size
  out : ∀ t, (dstsOf l).contains t = false → a.tmps[t]? = a0.tmps[t]?
  got : ∀ i d, (d, i) ∈ slotsOf 0 l → L i = true → a.tmps[d]? = some (V i)
  kept : ∀ i d, (d, i) ∈ slotsOf 0 l → L i = false → a.tmps[d]? = a0.tmps[d]?
theorem slots_mem : ∀ {l : List Oper} {k i : Nat} {o : Oper} {d : Nat}, l[i]? = some o → o.dst = some d → (d, k + i) ∈ slotsOf k l
  | [], _, i, _, _, h, _ => by simp at h
  | x :: l, k, 0, o, d, h, hd => by
    rw [List.getElem?_cons_zero] at h
    cases h
    unfold slotsOf
    rw [hd]
    exact List.mem_cons_self
  | x :: l, k, i + 1, o, d, h, hd => by
    rw [List.getElem?_cons_succ] at h
    have := slots_mem (k := k + 1) h hd
    rw [Nat.add_assoc, Nat.add_comm 1 i] at this
    unfold slotsOf
    split
    · exact List.mem_cons_of_mem _ this
    · exact this
theorem slots_of : ∀ {l : List Oper} {k i d : Nat}, (d, i) ∈ slotsOf k l → ∃ j o, i = k + j ∧ l[j]? = some o ∧ o.dst = some d
  | [], _, i, d, h => by cases h
  | x :: l, k, i, d, h => by
    have key : (d, i) ∈ slotsOf (k + 1) l → ∃ j o, i = k + j ∧ (x :: l)[j]? = some o ∧ o.dst = some d := fun h => by
      obtain ⟨j, o, h1, h2, h3⟩ := slots_of h
      exact ⟨j + 1, o, by omega, by rw [List.getElem?_cons_succ]; exact h2, h3⟩
    unfold slotsOf at h
    split at h
    · rename_i d' hd
      rcases List.mem_cons.1 h with e | h
      · cases e
        exact ⟨0, x, rfl, rfl, hd⟩
      · exact key h
    · exact key h
theorem dsts_nodup : ∀ {l : List Oper} {i j : Nat} {o o' : Oper} {d : Nat}, (dstsOf l).Nodup → l[i]? = some o → l[j]? = some o' → o.dst = some d → o'.dst = some d → i = j
  | [], i, _, _, _, _, _, h, _, _, _ => by simp at h
  | x :: l, 0, 0, _, _, _, _, _, _, _, _ => rfl
  | x :: l, 0, j + 1, o, o', d, hn, h, h', hd, hd' => by
    exfalso
    rw [List.getElem?_cons_zero] at h
    rw [List.getElem?_cons_succ] at h'
    cases h
    unfold dstsOf at hn
    rw [List.filterMap_cons, hd] at hn
    exact (List.nodup_cons.1 hn).1 (List.mem_filterMap.2 ⟨o', List.mem_of_getElem? h', hd'⟩)
  | x :: l, i + 1, 0, o, o', d, hn, h, h', hd, hd' => by
    exfalso
    rw [List.getElem?_cons_zero] at h'
    rw [List.getElem?_cons_succ] at h
    cases h'
    unfold dstsOf at hn
    rw [List.filterMap_cons, hd'] at hn
    exact (List.nodup_cons.1 hn).1 (List.mem_filterMap.2 ⟨o, List.mem_of_getElem? h, hd⟩)
  | x :: l, i + 1, j + 1, o, o', d, hn, h, h', hd, hd' => by
    rw [List.getElem?_cons_succ] at h h'
    have hn2 : (dstsOf l).Nodup := by
      unfold dstsOf at hn ⊢
      rw [List.filterMap_cons] at hn
      split at hn
      · exact hn
      · exact (List.nodup_cons.1 hn).2
    rw [dsts_nodup hn2 h h' hd hd']
theorem Fits.put {l : List Oper} {a0 a : Act} {L : Nat → Bool} {V : Nat → Value} (hn : (dstsOf l).Nodup) (hsz : ∀ d ∈ dstsOf l, d < a0.tmps.size) (h : Fits l a0 a L V) {i : Nat} {o : Oper} (ho : l[i]? = some o) (v : Value) :
    Fits l a0 (a.put o.dst v) (upd L i true) (upd V i v) := by
  have hmem : ∀ d, o.dst = some d → d ∈ dstsOf l := fun d hd => List.mem_filterMap.2 ⟨o, List.mem_of_getElem? ho, hd⟩
  refine ⟨?_, ?_, ?_, ?_, ?_⟩
  · cases hd : o.dst <;> exact h.defers
  · cases hd : o.dst with
    | none => exact h.size
    | some d => simp only [Act.put, Array.size_setIfInBounds]; exact h.size
  · intro t ht
    cases hd : o.dst with
    | none => exact h.out t ht
    | some d =>
      have hne : d ≠ t := fun e => by
        subst e
        have := List.contains_iff_mem.2 (hmem d hd)
        rw [ht] at this
        cases this
      simp only [Act.put, Array.getElem?_setIfInBounds_ne hne]
      exact h.out t ht
  · intro j d hj hl
    obtain ⟨j', o', e, ho', hd'⟩ := slots_of hj
    obtain rfl : j = j' := by omega
    by_cases hji : j = i
    · subst hji
      have : o' = o := by rw [ho] at ho'; exact (Option.some.inj ho').symm
      subst this
      rw [hd', upd_at]
      have hlt : d < a.tmps.size := by rw [h.size]; exact hsz d (hmem d hd')
      simp only [Act.put]
      rw [Array.getElem?_setIfInBounds_self_of_lt hlt]
    · rw [upd_ne _ _ _ _ hji] at hl ⊢
      cases hd : o.dst with
      | none => exact h.got j d hj hl
      | some d2 =>
        have hne : d2 ≠ d := fun e => by
          subst e
          exact hji (dsts_nodup hn ho' ho hd' hd)
        simp only [Act.put, Array.getElem?_setIfInBounds_ne hne]
        exact h.got j d hj hl
  · intro j d hj hl
    obtain ⟨j', o', e, ho', hd'⟩ := slots_of hj
    obtain rfl : j = j' := by omega
    have hji : j ≠ i := fun e => by subst e; rw [upd_at] at hl; cases hl
    rw [upd_ne _ _ _ _ hji] at hl
    cases hd : o.dst with
    | none => exact h.kept j d hj hl
    | some d2 =>
      have hne : d2 ≠ d := fun e => by
        subst e
        exact hji (dsts_nodup hn ho' ho hd' hd)
      simp only [Act.put, Array.getElem?_setIfInBounds_ne hne]
      exact h.kept j d hj hl
/-- what an operation reads of the frame. -/
theorem Fits.in {l : List Oper} {a0 a : Act} {L : Nat → Bool} {V : Nat → Value} (h : Fits l a0 a L V) {i d : Nat} {v : Value} (hs : (slotsOf 0 l).contains (d, i) = true) (hl : L i = true) (hv : V i = v) : a.tmps[d]? = some v :=
  (h.got i d (List.contains_iff_mem.1 hs) hl).trans (by rw [hv])
theorem Fits.old {l : List Oper} {a0 a : Act} {L : Nat → Bool} {V : Nat → Value} (h : Fits l a0 a L V) {t : Nat} {v : Value} (hs : (dstsOf l).contains t = false) (hv : a0.tmps[t]? = some v) : a.tmps[t]? = some v :=
  (h.out t hs).trans hv
theorem Fits.still {l : List Oper} {a0 a : Act} {L : Nat → Bool} {V : Nat → Value} (h : Fits l a0 a L V) (i : Nat) {t : Nat} {v : Value} (hs : (slotsOf 0 l).contains (t, i) = true) (hl : L i = false) (hv : a0.tmps[t]? = some v) : a.tmps[t]? = some v :=
  (h.kept i t (List.contains_iff_mem.1 hs) hl).trans hv
/-- the frame behind the region. -/
def puts (V : Nat → Value) : List (Nat × Nat) → Act → Act
  | [], a => a
  | (d, i) :: l, a => puts V l (a.put (some d) (V i))
theorem puts_defers (V : Nat → Value) : ∀ (l : List (Nat × Nat)) (a : Act), (puts V l a).defers = a.defers
  | [], _ => rfl
  | (d, i) :: l, a => by rw [puts, puts_defers]; rfl
theorem puts_size (V : Nat → Value) : ∀ (l : List (Nat × Nat)) (a : Act), (puts V l a).tmps.size = a.tmps.size
  | [], _ => rfl
  | (d, i) :: l, a => by rw [puts, puts_size]; simp [Act.put]
theorem puts_out (V : Nat → Value) : ∀ (l : List (Nat × Nat)) (a : Act) (t : Nat), t ∉ l.map (·.1) → (puts V l a).tmps[t]? = a.tmps[t]?
  | [], _, _, _ => rfl
  | (d, i) :: l, a, t, h => by
    rw [List.map_cons, List.mem_cons, not_or] at h
    rw [puts, puts_out V l _ t h.2]
    simp only [Act.put]
    rw [Array.getElem?_setIfInBounds_ne (fun e => h.1 e.symm)]
theorem puts_in (V : Nat → Value) : ∀ (l : List (Nat × Nat)) (a : Act) (d i : Nat), (l.map (·.1)).Nodup → (d, i) ∈ l → d < a.tmps.size → (puts V l a).tmps[d]? = some (V i)
  | [], _, _, _, _, h, _ => by cases h
  | (d', i') :: l, a, d, i, hn, h, hs => by
    rw [List.map_cons, List.nodup_cons] at hn
    rw [puts]
    rcases List.mem_cons.1 h with e | h
    · cases e
      rw [puts_out V l _ _ hn.1]
      simp only [Act.put]
      rw [Array.getElem?_setIfInBounds_self_of_lt hs]
    · exact puts_in V l _ d i hn.2 h (by simp [Act.put]; exact hs)
theorem slots_dsts : ∀ (l : List Oper) (k : Nat), (slotsOf k l).map (·.1) = dstsOf l
  | [], _ => rfl
  | o :: l, k => by
    unfold slotsOf dstsOf
    rw [List.filterMap_cons]
    cases hd : o.dst with
    | none => exact slots_dsts l (k + 1)
    | some d => simp only [List.map_cons]; rw [slots_dsts l (k + 1)]; rfl
theorem Fits.eq {l : List Oper} {a0 a : Act} {V : Nat → Value} {s : List (Nat × Nat)} (h : Fits l a0 a (fun _ => true) V) (hn : (dstsOf l).Nodup) (hsz : ∀ d ∈ dstsOf l, d < a0.tmps.size) (hs : slotsOf 0 l = s) : a = puts V s a0 := by
  subst hs
  have ht : a.tmps = (puts V (slotsOf 0 l) a0).tmps := by
    apply Array.ext_getElem?
    intro t
    by_cases hm : t ∈ dstsOf l
    · obtain ⟨o, ho, hd⟩ := List.mem_filterMap.1 hm
      obtain ⟨i, hi⟩ := List.getElem?_of_mem ho
      have hmem := slots_mem (k := 0) hi hd
      rw [Nat.zero_add] at hmem
      rw [h.got i t hmem rfl, puts_in V _ _ t i (by rw [slots_dsts]; exact hn) hmem (hsz t hm)]
    · rw [puts_out V _ _ t (by rw [slots_dsts]; exact hm)]
      refine h.out t ?_
      cases hc : (dstsOf l).contains t with
      | false => rfl
      | true => exact absurd (List.contains_iff_mem.1 hc) hm
  have hd := (h.defers).trans (puts_defers V (slotsOf 0 l) a0).symm
  cases a
  generalize puts V (slotsOf 0 l) a0 = b at ht hd ⊢
  cases b
  simp only at ht hd
  rw [ht, hd]
/-- an operation whose guard says so; one whose guard says no. -/
theorem wanted_of {l : List Oper} {tm : Array Value} {o : Oper} {g d : Nat} {b : Bool} (hg : o.guard = some (g, b)) (hd : (l[g]?).bind (·.dst) = some d) (ht : tm[d]? = some (.bool b)) : Region.wanted o (yielded l.toArray tm) = true := by
  unfold Region.wanted yielded
  rw [hg]
  simp only [List.getElem?_toArray, hd, Option.bind_some, ht, beq_self_eq_true]
theorem wanted_not {l : List Oper} {tm : Array Value} {o : Oper} {g d : Nat} {b : Bool} (hg : o.guard = some (g, b)) (hd : (l[g]?).bind (·.dst) = some d) (ht : tm[d]? = some (.bool (!b))) : Region.wanted o (yielded l.toArray tm) = false := by
  unfold Region.wanted yielded
  rw [hg]
  simp only [List.getElem?_toArray, hd, Option.bind_some, ht]
  cases b <;> rfl
theorem wanted_none {l : List Oper} {tm : Array Value} {o : Oper} {g d : Nat} {b : Bool} (hg : o.guard = some (g, b)) (hd : (l[g]?).bind (·.dst) = some d) (ht : tm[d]? = some undef) : Region.wanted o (yielded l.toArray tm) = false := by
  unfold Region.wanted yielded
  rw [hg]
  simp only [List.getElem?_toArray, hd, Option.bind_some, ht]
  cases b <;> rfl
/-- who is listed has those listed that he waits for. -/
def Closed (l : List Oper) (L : Nat → Bool) : Prop := ∀ (c : Nat) (o : Oper), l[c]? = some o → L c = true → ∀ j, (predsOf o).contains j = true → L j = true
theorem Closed.no {l : List Oper} {L : Nat → Bool} (h : Closed l L) (c : Nat) {i : Nat} (hc : ((l[c]?).map (fun o => (predsOf o).contains i)) = some true) (hl : L i = false) : L c = false := by
  cases e : L c with
  | false => rfl
  | true =>
    cases ho : l[c]? with
    | none => rw [ho] at hc; cases hc
    | some o =>
      rw [ho] at hc
      simp only [Option.map_some, Option.some.injEq] at hc
      rw [h c o ho e i hc] at hl
      cases hl
theorem Closed.yes {l : List Oper} {L : Nat → Bool} (h : Closed l L) (c : Nat) {i : Nat} (hc : ((l[c]?).map (fun o => (predsOf o).contains i)) = some true) (hl : L c = true) : L i = true := by
  cases ho : l[c]? with
  | none => rw [ho] at hc; cases hc
  | some o =>
    rw [ho] at hc
    simp only [Option.map_some, Option.some.injEq] at hc
    exact h c o ho hl i hc
/-- one operation's proof. -/
def StepJ (P : Program) (l : List Oper) (Q : Exit → Act → World → Prop) (a0 : Act) (J : (Nat → Bool) → (Nat → Value) → World → Prop) (i : Nat) (o : Oper) : Prop :=
  ∀ (L : Nat → Bool) (V : Nat → Value) (a : Act) (w : World) (K : Act → World → Prop), L i = false → (∀ j, (predsOf o).contains j = true → L j = true) → Closed l L → Fits l a0 a L V → J L V w →
    (∀ (v : Value) (w' : World), J (upd L i true) (upd V i v) w' → K (a.put o.dst v) w') → if Region.wanted o (yielded l.toArray a.tmps) then o.wp P a w K Q else K (a.put o.dst undef) w
theorem wp_region_J {P : Program} {l : List Oper} {Q : Exit → Act → World → Prop} {id : Nat} {a0 : Act} {w : World} {s : List (Nat × Nat)} (hm : P.follows .mixedOrders = true) (J : (Nat → Bool) → (Nat → Value) → World → Prop)
    (hb : backEdges 0 l = true) (hn : decide (dstsOf l).Nodup = true) (hsz : (dstsOf l).all (fun d => decide (d < a0.tmps.size)) = true) (hs : slotsOf 0 l = s)
    (V0 : Nat → Value) (start : J (fun _ => false) V0 w.drew)
    (step : AllSteps (StepJ P l Q a0 J) 0 l)
    (done : ∀ (V : Nat → Value) (w : World), J (fun i => decide (i < l.length)) V w → Q .normal (puts V s a0) w) :
    (Code.region id l.toArray true).wp P Q a0 w := by
  have hn' : (dstsOf l).Nodup := of_decide_eq_true hn
  have hsz' : ∀ d ∈ dstsOf l, d < a0.tmps.size := fun d hd => by simpa using List.all_eq_true.1 hsz d hd
  refine wp_region_inv hm (fun listed a w => ∃ L V, (∀ i, L i = listed.getD i false) ∧ Closed l L ∧ Fits l a0 a L V ∧ J L V w ∧ listed.size = l.length) ?_ ?_ ?_
  · refine ⟨fun _ => false, V0, fun i => ?_, fun _ _ _ h => (by cases h), ⟨rfl, rfl, fun _ _ => rfl, fun _ _ _ h => (by cases h), fun _ _ _ _ => rfl⟩, start, by simp⟩
    by_cases hi : i < l.length <;> simp [Array.getD, hi]
  · rintro listed a w i o ho hl hp ⟨L, V, hL, hcl, hf, hJ, hsl⟩
    have ho' : l[i]? = some o := by simpa using ho
    have hilt : i < l.length := by
      rcases List.getElem?_eq_some_iff.1 ho' with ⟨h, _⟩
      exact h
    have hstep := step.at ho'
    rw [Nat.zero_add] at hstep
    have hLi : L i = false := by
      rw [hL]
      simp only [Array.getD, show i < listed.size by omega, dif_pos] at hl ⊢
      exact hl
    have hpre : ∀ j, (predsOf o).contains j = true → L j = true := fun j hj => by
      obtain ⟨e, he, hbd, rfl⟩ := mem_preds.1 (List.contains_iff_mem.1 hj)
      rw [hL]
      exact hp e he hbd
    have hnext : ∀ (v : Value) (w' : World), J (upd L i true) (upd V i v) w' → ∃ L' V', (∀ j, L' j = (listed.setIfInBounds i true).getD j false) ∧ Closed l L' ∧ Fits l a0 (a.put o.dst v) L' V' ∧ J L' V' w' ∧ (listed.setIfInBounds i true).size = l.length := fun v w' hJ' => by
      refine ⟨_, _, fun j => ?_, fun c oc hc hlc j hj => ?_, hf.put hn' hsz' ho' v, hJ', by simp [hsl]⟩
      rotate_left
      · by_cases hji : j = i
        · rw [hji, upd_at]
        · rw [upd_ne _ _ _ _ hji]
          by_cases hci : c = i
          · subst hci
            have : oc = o := by rw [ho'] at hc; exact (Option.some.inj hc).symm
            subst this
            exact hpre j hj
          · rw [upd_ne _ _ _ _ hci] at hlc
            exact hcl c oc hc hlc j hj
      by_cases hji : j = i
      · subst hji
        rw [upd_at]
        simp [Array.getD, hsl, hilt]
      · rw [upd_ne _ _ _ _ hji, hL, getD_set_ne false (fun e => hji e.symm)]
    have := hstep L V a w (fun a' w' => ∃ L V, (∀ j, L j = (listed.setIfInBounds i true).getD j false) ∧ Closed l L ∧ Fits l a0 a' L V ∧ J L V w' ∧ (listed.setIfInBounds i true).size = l.length) hLi hpre hcl hf hJ hnext
    unfold wpOp
    rw [ho]
    simp only
    split
    · rename_i hw
      rw [if_pos hw] at this
      exact .inl this
    · rename_i hw
      rw [if_neg hw] at this
      exact this
  · rintro listed a w hsz2 hr ⟨L, V, hL, hcl, hf, hJ, hsl⟩
    have hall := all_listed hb hsl hr
    have hLe : L = fun i => decide (i < l.length) := by
      funext i
      rw [hL]
      by_cases hi : i < l.length
      · rw [hall i hi, decide_eq_true hi]
      · rw [decide_eq_false hi]
        simp [Array.getD, hsl, hi]
    rw [hLe] at hJ hf
    have hf2 : Fits l a0 a (fun _ => true) V := ⟨hf.defers, hf.size, hf.out, fun i d hm _ => hf.got i d hm (by
      obtain ⟨j, o, e, ho, _⟩ := slots_of hm
      obtain rfl : i = j := by omega
      rcases List.getElem?_eq_some_iff.1 ho with ⟨h, _⟩
      exact decide_eq_true h), fun _ _ _ h => (by cases h)⟩
    rw [hf2.eq hn' hsz' hs]
    exact done V w hJ
end Go.Proofs.YtgijaaklhdcgeaaGreat

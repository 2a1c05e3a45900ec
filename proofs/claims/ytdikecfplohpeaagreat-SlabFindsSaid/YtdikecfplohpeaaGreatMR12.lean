/- the document's ring: at, twice -/
import Derived.Test.YtdikecfplohpeaaGreatMR10b
import Derived.Test.YtdikecfplohpeaaGreatMQLaw0
import Derived.IntWalk
import Derived.Test.YtdikecfplohpeaaGreatMQCheck
import Derived.Test.YtdikecfplohpeaaGreatMR7b
import Derived.Test.YtdikecfplohpeaaGreatMRegC
import Derived.Test.YtdikecfplohpeaaGreatMQRCheck
set_option linter.unusedSimpArgs false
set_option linter.unusedVariables false
namespace Go.Proofs.YtdikecfplohpeaaGreat
open Go.RowKit Go.Shelf Go.Geo
attribute [local go_sem] Oper.semAt_some
set_option maxRecDepth 100000 in
set_option maxHeartbeats 2000000 in
theorem rat_any (ao : Option Addr) (n cap : Nat) (P : List Pt) (i m : Int) (q : Nat) (w : World) (h : IsPts w ao n cap P) (hq : q < n) (hm : Int.tmod i n = m) (hm1 : -(n : Int) ≤ m) (hm2 : m ≤ n) (hq2 : Int.tmod (m + n) n = q) (hnb : n ≤ 1000000000000) :
    Calls Tryz.prog 72 #[.slice ao n cap, .int .i64 i] w fun e w' => e = .returned (ptV (P.getD q p0)) ∧ Grew w w' := by
  have hga : Grew w (w.alloc (.cells #[.int .i64 0, .int .i64 0] 40)) := (Grew.refl w).alloc _
  obtain ⟨b2, off2, rfl, e0, e1⟩ := (h.later hga.1 (Nat.le_refl _)).at hq
  obtain ⟨x, hx⟩ : ∃ x, x = P.getD q p0 := ⟨_, rfl⟩
  rw [← hx] at e0 e1 ⊢
  clear hga h hx
  have hq0 : (0 : Int) ≤ (q : Int) := by omega
  have hq1 : (q : Int) < (n : Int) := by omega
  have hz : ((n : Int) == 0) = false := by simp; omega
  have hz2 : ¬ (n : Int) = 0 := by omega
  have hwr : IntKind.i64.wrap (m + (n : Int)) = m + (n : Int) := IntWalk.i64_in _ (by omega)
  have hwm : IntKind.i64.wrap m = m := IntWalk.i64_in _ (by omega)
  have hwq : IntKind.i64.wrap (q : Int) = (q : Int) := IntWalk.i64_in _ (by omega)
  unfold ptV
  go_enter Tryz.func72, Tryz.ntmps72
  go_wp2_with fail
  first
  | exact bodyPost_ret (results_point rfl rfl (alloc_new _ _)) rfl ⟨rfl, (Grew.refl _).alloc _⟩
set_option maxRecDepth 100000 in
set_option maxHeartbeats 2000000 in
theorem rtwice_any (ao : Option Addr) (n cap : Nat) (P : List Pt) (j : Nat) (w : World) (h : IsPts w ao n cap P) (hj : j < n) :
    Calls Tryz.prog 42 #[.slice ao n cap, .int .i64 j] w fun e w' => e = .returned (.bool (twiceP P j)) ∧ Grew w w' := by
  have HI := Lib.hid h
  have HL : Hid (P.length = n) := h.1
  have hcm := h.2.2.1
  have hnc := h.2.1
  unfold maxLen at hcm
  obtain ⟨x, hx⟩ : ∃ x, x = P.getD j p0 := ⟨_, rfl⟩
  obtain ⟨r, hr⟩ : ∃ r, r = twiceP P j := ⟨_, rfl⟩
  rw [← hr]
  unfold twiceP at hr
  rw [← hx] at hr
  have HR := Lib.hid hr
  have HX := Lib.hid hx
  have hj0 : (0 : Int) ≤ (j : Int) := by omega
  have hj1 : (j : Int) < (n : Int) := by omega
  clear h hr hx
  go_enter Tryz.func42, Tryz.ntmps42
  go_wp2
  go_loopw [5] (fun i wr => ∃ k : Nat, k ≤ j ∧ i = .int .i64 k ∧ Hid (x ∉ P.take k) ∧ Hid (Grew w wr)) (fun i _ => j - (intOf i).toNat)
  case atStart => exact ⟨0, by omega, rfl, Lib.hid (by simp), Grew.refl _⟩
  case round =>
    obtain ⟨k, hk, rfl, hnot, hg⟩ := hrel
    by_cases hlt : k < j
    · have hk0 : (0 : Int) ≤ (k : Int) := by omega
      have hk1 : (k : Int) < (n : Int) := by omega
      have hk2 : (k : Int) < (j : Int) := by omega
      have hpw := HI.out.later hg.out.1 (Nat.le_refl _)
      obtain ⟨b2, off2, rfl, e0, e1⟩ := hpw.at (show k < n by omega)
      obtain ⟨b3, off3, hbo, f0, f1⟩ := hpw.at hj
      cases hbo
      rw [← HX.out] at f0 f1
      obtain ⟨y, hy⟩ : ∃ y, y = P.getD k p0 := ⟨_, rfl⟩
      rw [← hy] at e0 e1
      have HT : Hid (P.take (k + 1) = P.take k ++ [y]) := Lib.hid (by rw [hy]; exact take_more (by rw [HL.out]; omega))
      have HTJ : Hid (y ∈ P.take j) := Lib.hid (by rw [hy]; exact List.mem_iff_getElem.2 ⟨k, by rw [List.length_take, HL.out]; omega, by rw [List.getElem_take, List.getD_eq_getElem?_getD, List.getElem?_eq_getElem (by rw [HL.out]; omega)]; rfl⟩)
      have heq := run_eq_pt y x
      obtain ⟨z, hz⟩ : ∃ z, z = decide (y = x) := ⟨_, rfl⟩
      rw [← hz] at heq
      have HZ := Lib.hid hz
      clear hy hz hpw
      cases z with
      | true =>
        go_wp2_with fail
        try go_region
        try go_wp2_with fail
        go_ret
        refine ⟨?_, by first | exact hg.out | exact hg.out.drew⟩
        rw [HR.out, decide_eq_true (by rw [← of_decide_eq_true HZ.out.symm]; exact HTJ.out)]
        rfl
      | false =>
        go_wp2_with fail
        try go_region
        try go_wp2_with fail
        go_roundw
        case rel =>
          refine ⟨k + 1, by omega, by go_num, Lib.hid ?_, by first | exact hg | exact Lib.hid hg.out.drew⟩
          rw [HT.out]
          have h1 := hnot.out
          have h2 := of_decide_eq_false HZ.out.symm
          simp only [List.mem_append, List.mem_singleton, not_or]
          exact ⟨h1, fun h => h2 h.symm⟩
        case measure => simp [intOf]; omega
    · obtain rfl : k = j := by omega
      go_wp2_with fail
      go_ret
      exact ⟨by rw [HR.out, decide_eq_false hnot.out]; rfl, hg.out⟩
end Go.Proofs.YtdikecfplohpeaaGreat

/- the document's ring: meets -/
set_option linter.unusedSimpArgs false
set_option linter.unusedVariables false
namespace Go.Proofs.YtdikecfplohpeaaGreat
open Go.RowKit Go.Shelf Go.Geo
attribute [local go_sem] Oper.semAt_some
theorem rat_next (ao : Option Addr) (n cap : Nat) (P : List Pt) (k : Nat) (w : World) (h : IsPts w ao n cap P) (hk : k < n) (hnb : n ≤ 1000) :
    Calls Tryz.prog 72 #[.slice ao n cap, .int .i64 ((k : Int) + 1)] w fun e w' => e = .returned (ptV (atP P (k + 1))) ∧ Grew w w' := by
  have hn : 0 < n := by omega
  have hmod := Nat.mod_lt (k + 1) hn
  have h1 : Int.tmod ((k : Int) + 1) n = (((k + 1) % n : Nat) : Int) := by rw [Int.tmod_eq_emod_of_nonneg (by omega)]; rw [Int.natCast_emod]; rfl
  have h2 : Int.tmod ((((k + 1) % n : Nat) : Int) + n) n = (((k + 1) % n : Nat) : Int) := by
    rw [Int.tmod_eq_emod_of_nonneg (by omega), Int.add_emod_right, Int.emod_eq_of_lt (by omega) (by omega)]
  have hr := rat_any ao n cap P ((k : Int) + 1) _ _ w h hmod h1 (by omega) (by omega) h2 (by omega)
  unfold atP
  rw [h.1]
  exact hr
theorem four_stepB {W w1 w2 : World} {B1 B2 o1 o2 o3 o4 : Nat} {v1 v2 v3 v4 : Value} (hb : Below w1.heap.size w1 w2)
    (h1 : w1.cell? ⟨B1, o1, none⟩ = some v1) (h2 : w1.cell? ⟨B1, o2, none⟩ = some v2) (h3 : w1.cell? ⟨B2, o3, none⟩ = some v3) (h4 : w1.cell? ⟨B2, o4, none⟩ = some v4) (h7 : Below W.heap.size W w1) :
    w2.cell? ⟨B1, o1, none⟩ = some v1 ∧ w2.cell? ⟨B1, o2, none⟩ = some v2 ∧ w2.cell? ⟨B2, o3, none⟩ = some v3 ∧ w2.cell? ⟨B2, o4, none⟩ = some v4 ∧ Below W.heap.size W w2 :=
  ⟨(hb.cell (p := ⟨B1, o1, none⟩) (block_lt_of_cell h1)).trans h1, (hb.cell (p := ⟨B1, o2, none⟩) (block_lt_of_cell h2)).trans h2, (hb.cell (p := ⟨B2, o3, none⟩) (block_lt_of_cell h3)).trans h3, (hb.cell (p := ⟨B2, o4, none⟩) (block_lt_of_cell h4)).trans h4, h7.trans (hb.mono h7.size)⟩
set_option maxRecDepth 100000 in
set_option maxHeartbeats 4000000 in
theorem rmeets_any (ao : Option Addr) (n cap : Nat) (P : List Pt) (j : Nat) (w : World) (h : IsPts w ao n cap P) (hj : j < n) (hnb : n ≤ 1000) :
    Calls Tryz.prog 44 #[.slice ao n cap, .int .i64 j] w fun e w' => e = .returned (.bool (meetsP P j)) ∧ Below w.heap.size w w' := by
  have HI := Lib.hid h
  have HL : Hid (P.length = n) := h.1
  have HAT : Hid (∀ k, k < n → ∀ wX, Below w.heap.size w wX → Calls Tryz.prog 72 #[.slice ao n cap, .int .i64 ((k : Int) + 1)] wX fun e w' => e = .returned (ptV (atP P (k + 1))) ∧ Grew wX w') := Lib.hid (fun k hk wX hX => rat_next ao n cap P k wX (HI.out.later hX (Nat.le_refl _)) hk hnb)
  obtain ⟨x, hx⟩ : ∃ x, x = P.getD j p0 := ⟨_, rfl⟩
  obtain ⟨x2, hx2⟩ : ∃ x, x = atP P (j + 1) := ⟨_, rfl⟩
  have HA1 := Lib.hid (HAT.out j hj)
  rw [← hx2] at HA1
  obtain ⟨r, hr⟩ : ∃ r, r = meetsP P j := ⟨_, rfl⟩
  rw [← hr]
  have HR := Lib.hid hr
  have HX := Lib.hid hx
  have HX2 := Lib.hid hx2
  have hj0 : (0 : Int) ≤ (j : Int) := by omega
  have hj1 : (j : Int) < (n : Int) := by omega
  have hwj : IntKind.i64.wrap ((j : Int) + 1) = (j : Int) + 1 := IntWalk.i64_in _ (by omega)
  have hwj2 : IntKind.i64.wrap ((j : Int) + 2) = (j : Int) + 2 := IntWalk.i64_in _ (by omega)
  have hwn : IntKind.i64.wrap ((n : Int) - 1) = (n : Int) - 1 := IntWalk.i64_in _ (by omega)
  unfold ptV at HA1
  clear h hr hx hx2
  go_enter Tryz.func44, Tryz.ntmps44
  go_wp2_with fail
  go_loopw [5] (fun i wr => ∃ k : Nat, j + 2 ≤ k ∧ k ≤ n + 1 ∧ i = .int .i64 k ∧ Hid (∀ t, t < k → meetsAt P j t = false) ∧ Hid (Below w.heap.size w wr)) (fun i _ => n + 1 - (intOf i).toNat)
  case atStart =>
    refine ⟨j + 2, Nat.le_refl _, by omega, by go_num, Lib.hid (fun t ht => ?_), Below.refl _ _⟩
    unfold meetsAt
    rw [decide_eq_true ht]; rfl
  case round =>
    obtain ⟨k, hk1, hk2, rfl, hnot, hg⟩ := hrel
    by_cases hlt : k < n
    · have k0 : (0 : Int) ≤ (k : Int) := by omega
      have k1 : (k : Int) < (n : Int) := by omega
      have hwk : IntKind.i64.wrap ((k : Int) + 1) = (k : Int) + 1 := IntWalk.i64_in _ (by omega)
      by_cases hskip : j = 0 ∧ k + 1 = n
      · have s1 : (j : Int) = 0 := by omega
        have s2 : (k : Int) = (n : Int) - 1 := by omega
        have HSK := Lib.hid hskip
        clear hskip
        go_wp2_with fail
        go_roundw
        case rel =>
          refine ⟨k + 1, by omega, by omega, by go_num, Lib.hid (fun t ht => ?_), hg⟩
          by_cases htk : t < k
          · exact hnot.out t htk
          · obtain rfl : t = k := by omega
            unfold meetsAt
            rw [HL.out, decide_eq_true HSK.out.1, decide_eq_true HSK.out.2, Bool.and_true, Bool.or_true]; rfl
        case measure => simp [intOf]; omega
      · have hpw := HI.out.later hg.out (Nat.le_refl _)
        obtain ⟨b2, off2, rfl, e0, e1⟩ := hpw.at hj
        obtain ⟨b3, off3, hbo, f0, f1⟩ := hpw.at hlt
        cases hbo
        rw [← HX.out] at e0 e1
        obtain ⟨y, hy⟩ : ∃ y, y = P.getD k p0 := ⟨_, rfl⟩
        obtain ⟨y2, hy2⟩ : ∃ y, y = atP P (k + 1) := ⟨_, rfl⟩
        rw [← hy] at f0 f1
        have HA2 := Lib.hid (HAT.out k hlt)
        rw [← hy2] at HA2
        unfold ptV at HA2
        have HM := Lib.hid (rMeets_any x x2 y y2)
        obtain ⟨m, hm⟩ : ∃ m, m = meetK x x2 y y2 := ⟨_, rfl⟩
        rw [← hm] at HM
        have HMT : Hid (meetsAt P j k = decide (m ≠ 0)) := Lib.hid (by
          unfold meetsAt
          rw [decide_eq_false (show ¬ k < j + 2 by omega), show (decide (j = 0) && decide (k + 1 = P.length)) = false by
            rw [HL.out]
            by_cases h1 : j = 0
            · rw [decide_eq_false (fun h2 => hskip ⟨h1, h2⟩), Bool.and_false]
            · rw [decide_eq_false h1]; rfl]
          rw [hm, HX.out, HX2.out, hy, hy2]
          rfl)
        unfold ptV at HM
        have HSK := Lib.hid hskip
        clear hy hy2 hm hpw hskip
        have hcase : (j : Int) = 0 → ¬ (k : Int) = (n : Int) - 1 := fun h1 h2 => HSK.out ⟨by omega, by omega⟩
        by_cases hj00 : (j : Int) = 0
        · have hkn := hcase hj00
          have hkn2 : ((k : Int) == (n : Int) - 1) = false := by rw [beq_eq_false_iff_ne]; exact hkn
          have hjb : ((j : Int) == 0) = true := by rw [beq_iff_eq]; exact hj00
          clear hcase hj00
          go_wp2_with fail
          go_region_held3 (fun w' => w'.cell? ⟨b2, off2 + j * 2, none⟩ = some (.int .i64 x.x) ∧ w'.cell? ⟨b2, off2 + j * 2 + 1, none⟩ = some (.int .i64 x.y) ∧ w'.cell? ⟨b2, off2 + k * 2, none⟩ = some (.int .i64 y.x) ∧ w'.cell? ⟨b2, off2 + k * 2 + 1, none⟩ = some (.int .i64 y.y) ∧ Below w.heap.size w w')
            (first
              | (exact ⟨e0, e1, f0, f1, hg.out.drew⟩)
              | (go_split_ands; refine four_stepB hgr ?_ ?_ ?_ ?_ ?_; all_goals assumption))
            (first
              | (go_at_call 72; have hv := HA1; clear HA1; go_split_ands; refine (hv.out _ (by assumption)).mono ?_; rintro e wA ⟨rfl, hgr0⟩; have hgr := hgr0.1; clear hgr0)
              | (go_at_call 72; have hv := HA2; clear HA2; go_split_ands; refine (hv.out _ (by assumption)).mono ?_; rintro e wB ⟨rfl, hgr0⟩; have hgr := hgr0.1; clear hgr0)
              | (go_at_call 45; refine (HM.out _).mono ?_; rintro e wC ⟨rfl, hgr⟩))
          have HB : Hid (Below w.heap.size w wC) := Lib.hid (by first | assumption | (go_split_ands; assumption))
          clear e0 e1 f0 f1
          by_cases hm0 : m = 0
          · have hz1 : (m : Int) = 0 := by omega
            have HM0 := Lib.hid hm0
            clear hm0
            go_wp2_with fail
            go_roundw
            case rel =>
              refine ⟨k + 1, by omega, by omega, by go_num, Lib.hid (fun t ht => ?_), HB⟩
              by_cases htk : t < k
              · exact hnot.out t htk
              · obtain rfl : t = k := by omega
                rw [HMT.out, decide_eq_false (fun h => h HM0.out)]
            case measure => simp [intOf]; omega
          · have hz1 : ¬ (m : Int) = 0 := by omega
            have hz2 : ((m : Int) == 0) = false := by simp; omega
            have HM0 := Lib.hid hm0
            clear hm0
            go_wp2_with fail
            go_ret
            refine ⟨?_, HB.out⟩
            have hrt : meetsP P j = true := by
              unfold meetsP
              rw [List.any_eq_true]
              exact ⟨k, by rw [List.mem_range, HL.out]; omega, by rw [HMT.out]; exact decide_eq_true HM0.out⟩
            rw [HR.out, hrt]
            rfl
        · clear hcase
          go_wp2_with fail
          go_region_held3 (fun w' => w'.cell? ⟨b2, off2 + j * 2, none⟩ = some (.int .i64 x.x) ∧ w'.cell? ⟨b2, off2 + j * 2 + 1, none⟩ = some (.int .i64 x.y) ∧ w'.cell? ⟨b2, off2 + k * 2, none⟩ = some (.int .i64 y.x) ∧ w'.cell? ⟨b2, off2 + k * 2 + 1, none⟩ = some (.int .i64 y.y) ∧ Below w.heap.size w w')
            (first
              | (exact ⟨e0, e1, f0, f1, hg.out.drew⟩)
              | (go_split_ands; refine four_stepB hgr ?_ ?_ ?_ ?_ ?_; all_goals assumption))
            (first
              | (go_at_call 72; have hv := HA1; clear HA1; go_split_ands; refine (hv.out _ (by assumption)).mono ?_; rintro e wA ⟨rfl, hgr0⟩; have hgr := hgr0.1; clear hgr0)
              | (go_at_call 72; have hv := HA2; clear HA2; go_split_ands; refine (hv.out _ (by assumption)).mono ?_; rintro e wB ⟨rfl, hgr0⟩; have hgr := hgr0.1; clear hgr0)
              | (go_at_call 45; refine (HM.out _).mono ?_; rintro e wC ⟨rfl, hgr⟩))
          have HB : Hid (Below w.heap.size w wC) := Lib.hid (by first | assumption | (go_split_ands; assumption))
          clear e0 e1 f0 f1
          by_cases hm0 : m = 0
          · have hz1 : (m : Int) = 0 := by omega
            have HM0 := Lib.hid hm0
            clear hm0
            go_wp2_with fail
            go_roundw
            case rel =>
              refine ⟨k + 1, by omega, by omega, by go_num, Lib.hid (fun t ht => ?_), HB⟩
              by_cases htk : t < k
              · exact hnot.out t htk
              · obtain rfl : t = k := by omega
                rw [HMT.out, decide_eq_false (fun h => h HM0.out)]
            case measure => simp [intOf]; omega
          · have hz1 : ¬ (m : Int) = 0 := by omega
            have hz2 : ((m : Int) == 0) = false := by simp; omega
            have HM0 := Lib.hid hm0
            clear hm0
            go_wp2_with fail
            go_ret
            refine ⟨?_, HB.out⟩
            have hrt : meetsP P j = true := by
              unfold meetsP
              rw [List.any_eq_true]
              exact ⟨k, by rw [List.mem_range, HL.out]; omega, by rw [HMT.out]; exact decide_eq_true HM0.out⟩
            rw [HR.out, hrt]
            rfl
    · go_wp2_with fail
      go_ret
      refine ⟨?_, hg.out⟩
      have : meetsP P j = false := by
        unfold meetsP
        rw [List.any_eq_false]
        intro t ht
        rw [List.mem_range, HL.out] at ht
        rw [hnot.out t (by omega)]
        simp
      rw [HR.out, this]
      rfl
end Go.Proofs.YtdikecfplohpeaaGreat

/- the document's ring: Check, back's contract given -/
set_option linter.unusedSimpArgs false
set_option linter.unusedVariables false
namespace Go.Proofs.YtdikecfplohpeaaGreat
open Go.RowKit Go.Shelf Go.Geo
attribute [local go_sem] Oper.semAt_some
theorem ringC_0 {P : List Pt} {n k : Nat} (hl : P.length = n) (hl2 : 3 ≤ n ∧ n ≤ 200)  (hk : k < n) (hq : (fun i => !validP (P.getD i p0)) k = true) (hno : ∀ t, t < k → (fun i => !validP (P.getD i p0)) t = false) : ringCheckP P = (2, (k : Int)) := by
  unfold ringCheckP
  rw [hl, if_neg (by omega), if_neg (by omega), firstP_some hk hq hno]
theorem ringC_1 {P : List Pt} {n k : Nat} (hl : P.length = n) (hl2 : 3 ≤ n ∧ n ≤ 200) (h0 : ∀ t, t < n → (fun i => !validP (P.getD i p0)) t = false) (hk : k < n) (hq : (twiceP P) k = true) (hno : ∀ t, t < k → (twiceP P) t = false) : ringCheckP P = (191, (k : Int)) := by
  unfold ringCheckP
  rw [hl, if_neg (by omega), if_neg (by omega), firstP_none h0, firstP_some hk hq hno]
theorem ringC_2 {P : List Pt} {n k : Nat} (hl : P.length = n) (hl2 : 3 ≤ n ∧ n ≤ 200) (h0 : ∀ t, t < n → (fun i => !validP (P.getD i p0)) t = false) (h1 : ∀ t, t < n → (twiceP P) t = false) (hk : k < n) (hq : (backP P) k = true) (hno : ∀ t, t < k → (backP P) t = false) : ringCheckP P = (192, (k : Int)) := by
  unfold ringCheckP
  rw [hl, if_neg (by omega), if_neg (by omega), firstP_none h0, firstP_none h1, firstP_some hk hq hno]
theorem ringC_3 {P : List Pt} {n k : Nat} (hl : P.length = n) (hl2 : 3 ≤ n ∧ n ≤ 200) (h0 : ∀ t, t < n → (fun i => !validP (P.getD i p0)) t = false) (h1 : ∀ t, t < n → (twiceP P) t = false) (h2 : ∀ t, t < n → (backP P) t = false) (hk : k < n) (hq : (meetsP P) k = true) (hno : ∀ t, t < k → (meetsP P) t = false) : ringCheckP P = (193, (k : Int)) := by
  unfold ringCheckP
  rw [hl, if_neg (by omega), if_neg (by omega), firstP_none h0, firstP_none h1, firstP_none h2, firstP_some hk hq hno]
theorem ringC_4 {P : List Pt} {n : Nat} (hl : P.length = n) (hl2 : 3 ≤ n ∧ n ≤ 200) (h0 : ∀ t, t < n → (fun i => !validP (P.getD i p0)) t = false) (h1 : ∀ t, t < n → (twiceP P) t = false) (h2 : ∀ t, t < n → (backP P) t = false) (h3 : ∀ t, t < n → (meetsP P) t = false) : ringCheckP P = (0, 0) := by
  unfold ringCheckP
  rw [hl, if_neg (by omega), if_neg (by omega), firstP_none h0, firstP_none h1, firstP_none h2, firstP_none h3]
set_option maxRecDepth 100000 in
set_option maxHeartbeats 8000000 in
theorem rCheck_of (ao : Option Addr) (n cap : Nat) (P : List Pt) (w : World) (h : IsPts w ao n cap P)
    (hback : ∀ k, k < n → ∀ wX, IsPts wX ao n cap P → 3 ≤ n → n ≤ 1000 → Calls Tryz.prog 43 #[.slice ao n cap, .int .i64 k] wX fun e w' => e = .returned (.bool (backP P k)) ∧ Below wX.heap.size wX w') :
    Calls Tryz.prog 23 #[.slice ao n cap] w fun e w' => e = .returned (faultV (ringCheckP P)) ∧ Below w.heap.size w w' := by
  have HL : Hid (P.length = n) := h.1
  have hcm := h.2.2.1
  have hnc := h.2.1
  unfold maxLen at hcm
  have hga : Below w.heap.size w (w.alloc (.cells #[.int .i64 0, .int .i64 0] 32)) := (Below.refl _ _).alloc (Nat.le_refl _) _
  have HIW : Hid (∀ wr, Below (w.heap.size + 1) (w.alloc (.cells #[.int .i64 0, .int .i64 0] 32)) wr → IsPts wr ao n cap P) := Lib.hid (fun wr hb => h.later (hga.trans (hb.mono (by omega))) (Nat.le_refl _))
  obtain ⟨k0, k1, f0, f1, HG0⟩ := fault_cellsB (w := w) (w2 := w.alloc (.cells #[.int .i64 0, .int .i64 0] 32)) (Below.refl _ _)
  have HBK0 := Lib.hid hback
  clear h hga hback
  by_cases hlong : 200 < n
  · have hl1 : (200 : Int) < (n : Int) := by omega
    have hres : ringCheckP P = (3, 0) := by unfold ringCheckP; rw [HL.out, if_pos hlong]
    rw [hres]
    go_enter Tryz.func23, Tryz.ntmps23
    go_wp2_with fail
    first
    | exact fault_end rfl rfl rfl HG0 rfl rfl
    | exact bodyPost_ret (results_cell_row rfl _ _ _ _ _ _ _ rfl (alloc_new _ _) Tryz.underlying32 rfl (by kernel_rfl)) rfl ⟨rfl, (Below.refl _ _).alloc (Nat.le_refl _) _⟩
  · have hl1 : ¬ (200 : Int) < (n : Int) := by omega
    by_cases hfew : n < 3
    · have hl2 : (n : Int) < 3 := by omega
      have hres : ringCheckP P = (190, 0) := by unfold ringCheckP; rw [HL.out, if_neg hlong, if_pos hfew]
      rw [hres]
      go_enter Tryz.func23, Tryz.ntmps23
      go_wp2_with fail
      first
      | exact fault_end rfl rfl rfl HG0 rfl rfl
      | exact bodyPost_ret (results_cell_row rfl _ _ _ _ _ _ _ rfl (alloc_new _ _) Tryz.underlying32 rfl (by kernel_rfl)) rfl ⟨rfl, (Below.refl _ _).alloc (Nat.le_refl _) _⟩
    · have hl2 : ¬ (n : Int) < 3 := by omega
      have hlen2 : 3 ≤ n ∧ n ≤ 200 := by omega
      have hlen1 : P.length = n := HL.out
      have hn1 : n ≤ 1000 := by omega
      have HBK : Hid (∀ k, k < n → ∀ wX, IsPts wX ao n cap P → Calls Tryz.prog 43 #[.slice ao n cap, .int .i64 k] wX fun e w' => e = .returned (.bool (backP P k)) ∧ Below wX.heap.size wX w') := Lib.hid (fun k hk wX hX => HBK0.out k hk wX hX hlen2.1 hn1)
      clear hlong hfew
      go_enter Tryz.func23, Tryz.ntmps23
      go_wp2_with fail
      obtain ⟨FF0, hFF0⟩ : ∃ f : Nat → Bool, f = (fun i => !validP (P.getD i p0)) := ⟨_, rfl⟩
      have HFF0 := Lib.hid hFF0
      clear hFF0
      go_loopw [3] (fun i wr => ∃ k : Nat, k ≤ n ∧ i = .int .i64 k ∧ Hid (∀ t, t < k → FF0 t = false) ∧ Hid (Below (w.heap.size + 1) (w.alloc (.cells #[.int .i64 0, .int .i64 0] 32)) wr)) (fun i _ => n - (intOf i).toNat)
      case atStart => exact ⟨0, by omega, rfl, Lib.hid (fun t ht => absurd ht (by omega)), Below.refl _ _⟩
      case round =>
        obtain ⟨k, hk, rfl, hno, hg⟩ := hrel
        by_cases hlt : k < n
        · have i0 : (0 : Int) ≤ (k : Int) := by omega
          have i1 : (k : Int) < (n : Int) := by omega
          have hpw := HIW.out wr hg.out
          obtain ⟨b2, off2, rfl, e0, e1⟩ := hpw.at hlt
          obtain ⟨x, hx⟩ : ∃ x, x = P.getD k p0 := ⟨_, rfl⟩
          rw [← hx] at e0 e1
          have HC := Lib.hid (rValid_any x)
          obtain ⟨v, hv⟩ : ∃ v, v = validP x := ⟨_, rfl⟩
          rw [← hv] at HC
          have HQ : Hid (FF0 k = !v) := Lib.hid (by rw [HFF0.out, hv, hx])
          unfold ptV at HC
          clear hx hv hpw
          cases v with
          | false =>
            go_wp2_with fail
            refine (HC.out wr).mono ?_
            rintro e w2 ⟨rfl, hg2⟩
            have hgg : Below (w.heap.size + 1) (w.alloc (.cells #[.int .i64 0, .int .i64 0] 32)) w2 := hg.out.trans (Below.mono hg2.1 (Nat.le_trans (by simp) hg.out.size))
            obtain ⟨k0, k1, f0, f1, HG⟩ := fault_cellsB hgg
            clear hg2 hgg
            go_wp2_with fail
            refine fault_end rfl rfl rfl HG rfl ?_
            exact ringC_0 hlen1 hlen2  hlt (by rw [← HFF0.out]; exact HQ.out) (by rw [← HFF0.out]; exact hno.out)
          | true =>
            go_wp2_with fail
            refine (HC.out wr).mono ?_
            rintro e w2 ⟨rfl, hg2⟩
            have hgg : Below (w.heap.size + 1) (w.alloc (.cells #[.int .i64 0, .int .i64 0] 32)) w2 := hg.out.trans (Below.mono hg2.1 (Nat.le_trans (by simp) hg.out.size))
            have HGG := Lib.hid hgg
            clear hg2 hgg
            go_wp2_with fail
            go_roundw
            case rel =>
              refine ⟨k + 1, by omega, by go_num, Lib.hid (fun t ht => ?_), HGG⟩
              by_cases htk : t < k
              · exact hno.out t htk
              · obtain rfl : t = k := by omega
                exact HQ.out
            case measure => simp [intOf]; omega
        · have hkn : n = k := by omega
          subst hkn
          have h0 : Hid (∀ t, t < n → (fun i => !validP (P.getD i p0)) t = false) := Lib.hid (by have := hno.out; rw [HFF0.out] at this; exact this)
          clear hno
          go_wp2_with fail
          obtain ⟨FF1, hFF1⟩ : ∃ f : Nat → Bool, f = (twiceP P) := ⟨_, rfl⟩
          have HFF1 := Lib.hid hFF1
          clear hFF1
          go_loopw [4] (fun i wr => ∃ k : Nat, k ≤ n ∧ i = .int .i64 k ∧ Hid (∀ t, t < k → FF1 t = false) ∧ Hid (Below (w.heap.size + 1) (w.alloc (.cells #[.int .i64 0, .int .i64 0] 32)) wr)) (fun i _ => n - (intOf i).toNat)
          case atStart => exact ⟨0, by omega, rfl, Lib.hid (fun t ht => absurd ht (by omega)), hg⟩
          case round =>
            obtain ⟨k, hk, rfl, hno, hg⟩ := hrel
            by_cases hlt : k < n
            · have i0 : (0 : Int) ≤ (k : Int) := by omega
              have i1 : (k : Int) < (n : Int) := by omega
              have hpw := HIW.out wr hg.out
              have HC := Lib.hid (rtwice_any ao n cap P k wr hpw hlt)
              obtain ⟨v, hv⟩ : ∃ v, v = (twiceP P) k := ⟨_, rfl⟩
              rw [← hv] at HC
              have HQ : Hid (FF1 k = v) := Lib.hid (by rw [HFF1.out, hv])
              clear hv hpw
              cases v with
              | true =>
                go_wp2_with fail
                refine HC.out.mono ?_
                rintro e w2 ⟨rfl, hg2⟩
                have hgg : Below (w.heap.size + 1) (w.alloc (.cells #[.int .i64 0, .int .i64 0] 32)) w2 := hg.out.trans (Below.mono hg2.1 (Nat.le_trans (by simp) hg.out.size))
                obtain ⟨k0, k1, f0, f1, HG⟩ := fault_cellsB hgg
                clear hg2 hgg
                go_wp2_with fail
                refine fault_end rfl rfl rfl HG rfl ?_
                exact ringC_1 hlen1 hlen2 h0.out hlt (by rw [← HFF1.out]; exact HQ.out) (by rw [← HFF1.out]; exact hno.out)
              | false =>
                go_wp2_with fail
                refine HC.out.mono ?_
                rintro e w2 ⟨rfl, hg2⟩
                have hgg : Below (w.heap.size + 1) (w.alloc (.cells #[.int .i64 0, .int .i64 0] 32)) w2 := hg.out.trans (Below.mono hg2.1 (Nat.le_trans (by simp) hg.out.size))
                have HGG := Lib.hid hgg
                clear hg2 hgg
                go_wp2_with fail
                go_roundw
                case rel =>
                  refine ⟨k + 1, by omega, by go_num, Lib.hid (fun t ht => ?_), HGG⟩
                  by_cases htk : t < k
                  · exact hno.out t htk
                  · obtain rfl : t = k := by omega
                    exact HQ.out
                case measure => simp [intOf]; omega
            · have hkn : n = k := by omega
              subst hkn
              have h1 : Hid (∀ t, t < n → (twiceP P) t = false) := Lib.hid (by have := hno.out; rw [HFF1.out] at this; exact this)
              clear hno
              go_wp2_with fail
              obtain ⟨FF2, hFF2⟩ : ∃ f : Nat → Bool, f = (backP P) := ⟨_, rfl⟩
              have HFF2 := Lib.hid hFF2
              clear hFF2
              go_loopw [5] (fun i wr => ∃ k : Nat, k ≤ n ∧ i = .int .i64 k ∧ Hid (∀ t, t < k → FF2 t = false) ∧ Hid (Below (w.heap.size + 1) (w.alloc (.cells #[.int .i64 0, .int .i64 0] 32)) wr)) (fun i _ => n - (intOf i).toNat)
              case atStart => exact ⟨0, by omega, rfl, Lib.hid (fun t ht => absurd ht (by omega)), hg⟩
              case round =>
                obtain ⟨k, hk, rfl, hno, hg⟩ := hrel
                by_cases hlt : k < n
                · have i0 : (0 : Int) ≤ (k : Int) := by omega
                  have i1 : (k : Int) < (n : Int) := by omega
                  have hpw := HIW.out wr hg.out
                  have HC := Lib.hid (HBK.out k hlt wr hpw)
                  obtain ⟨v, hv⟩ : ∃ v, v = (backP P) k := ⟨_, rfl⟩
                  rw [← hv] at HC
                  have HQ : Hid (FF2 k = v) := Lib.hid (by rw [HFF2.out, hv])
                  clear hv hpw
                  cases v with
                  | true =>
                    go_wp2_with fail
                    refine HC.out.mono ?_
                    rintro e w2 ⟨rfl, hg2⟩
                    have hgg : Below (w.heap.size + 1) (w.alloc (.cells #[.int .i64 0, .int .i64 0] 32)) w2 := hg.out.trans (Below.mono hg2 (Nat.le_trans (by simp) hg.out.size))
                    obtain ⟨k0, k1, f0, f1, HG⟩ := fault_cellsB hgg
                    clear hg2 hgg
                    go_wp2_with fail
                    refine fault_end rfl rfl rfl HG rfl ?_
                    exact ringC_2 hlen1 hlen2 h0.out h1.out hlt (by rw [← HFF2.out]; exact HQ.out) (by rw [← HFF2.out]; exact hno.out)
                  | false =>
                    go_wp2_with fail
                    refine HC.out.mono ?_
                    rintro e w2 ⟨rfl, hg2⟩
                    have hgg : Below (w.heap.size + 1) (w.alloc (.cells #[.int .i64 0, .int .i64 0] 32)) w2 := hg.out.trans (Below.mono hg2 (Nat.le_trans (by simp) hg.out.size))
                    have HGG := Lib.hid hgg
                    clear hg2 hgg
                    go_wp2_with fail
                    go_roundw
                    case rel =>
                      refine ⟨k + 1, by omega, by go_num, Lib.hid (fun t ht => ?_), HGG⟩
                      by_cases htk : t < k
                      · exact hno.out t htk
                      · obtain rfl : t = k := by omega
                        exact HQ.out
                    case measure => simp [intOf]; omega
                · have hkn : n = k := by omega
                  subst hkn
                  have h2 : Hid (∀ t, t < n → (backP P) t = false) := Lib.hid (by have := hno.out; rw [HFF2.out] at this; exact this)
                  clear hno
                  go_wp2_with fail
                  obtain ⟨FF3, hFF3⟩ : ∃ f : Nat → Bool, f = (meetsP P) := ⟨_, rfl⟩
                  have HFF3 := Lib.hid hFF3
                  clear hFF3
                  go_loopw [6] (fun i wr => ∃ k : Nat, k ≤ n ∧ i = .int .i64 k ∧ Hid (∀ t, t < k → FF3 t = false) ∧ Hid (Below (w.heap.size + 1) (w.alloc (.cells #[.int .i64 0, .int .i64 0] 32)) wr)) (fun i _ => n - (intOf i).toNat)
                  case atStart => exact ⟨0, by omega, rfl, Lib.hid (fun t ht => absurd ht (by omega)), hg⟩
                  case round =>
                    obtain ⟨k, hk, rfl, hno, hg⟩ := hrel
                    by_cases hlt : k < n
                    · have i0 : (0 : Int) ≤ (k : Int) := by omega
                      have i1 : (k : Int) < (n : Int) := by omega
                      have hpw := HIW.out wr hg.out
                      have HC := Lib.hid (rmeets_any ao n cap P k wr hpw hlt hn1)
                      obtain ⟨v, hv⟩ : ∃ v, v = (meetsP P) k := ⟨_, rfl⟩
                      rw [← hv] at HC
                      have HQ : Hid (FF3 k = v) := Lib.hid (by rw [HFF3.out, hv])
                      clear hv hpw
                      cases v with
                      | true =>
                        go_wp2_with fail
                        refine HC.out.mono ?_
                        rintro e w2 ⟨rfl, hg2⟩
                        have hgg : Below (w.heap.size + 1) (w.alloc (.cells #[.int .i64 0, .int .i64 0] 32)) w2 := hg.out.trans (Below.mono hg2 (Nat.le_trans (by simp) hg.out.size))
                        obtain ⟨k0, k1, f0, f1, HG⟩ := fault_cellsB hgg
                        clear hg2 hgg
                        go_wp2_with fail
                        refine fault_end rfl rfl rfl HG rfl ?_
                        exact ringC_3 hlen1 hlen2 h0.out h1.out h2.out hlt (by rw [← HFF3.out]; exact HQ.out) (by rw [← HFF3.out]; exact hno.out)
                      | false =>
                        go_wp2_with fail
                        refine HC.out.mono ?_
                        rintro e w2 ⟨rfl, hg2⟩
                        have hgg : Below (w.heap.size + 1) (w.alloc (.cells #[.int .i64 0, .int .i64 0] 32)) w2 := hg.out.trans (Below.mono hg2 (Nat.le_trans (by simp) hg.out.size))
                        have HGG := Lib.hid hgg
                        clear hg2 hgg
                        go_wp2_with fail
                        go_roundw
                        case rel =>
                          refine ⟨k + 1, by omega, by go_num, Lib.hid (fun t ht => ?_), HGG⟩
                          by_cases htk : t < k
                          · exact hno.out t htk
                          · obtain rfl : t = k := by omega
                            exact HQ.out
                        case measure => simp [intOf]; omega
                    · have hkn : n = k := by omega
                      subst hkn
                      have h3 : Hid (∀ t, t < n → (meetsP P) t = false) := Lib.hid (by have := hno.out; rw [HFF3.out] at this; exact this)
                      clear hno
                      obtain ⟨k0, k1, f0, f1, HG⟩ := fault_cellsB hg.out
                      go_wp2_with fail
                      exact fault_end rfl rfl rfl HG rfl (ringC_4 hlen1 hlen2 h0.out h1.out h2.out h3.out)
end Go.Proofs.YtdikecfplohpeaaGreat

/- the document's ring: at, exact; five blocks in a row -/
set_option linter.unusedSimpArgs false
set_option linter.unusedVariables false
namespace Go.Proofs.YtdikecfplohpeaaGreat
open Go.RowKit Go.Shelf Go.Geo
attribute [local go_sem] Oper.semAt_some
set_option maxRecDepth 100000 in
set_option maxHeartbeats 2000000 in
theorem rat_ex (ao : Option Addr) (n cap : Nat) (P : List Pt) (i m : Int) (q : Nat) (w : World) (h : IsPts w ao n cap P) (hq : q < n) (hm : Int.tmod i n = m) (hm1 : -(n : Int) ≤ m) (hm2 : m ≤ n) (hq2 : Int.tmod (m + n) n = q) (hnb : n ≤ 1000000000000) :
    Calls Tryz.prog 72 #[.slice ao n cap, .int .i64 i] w fun e w' => e = .returned (.agg #[.int .i64 (P.getD q p0).x, .int .i64 (P.getD q p0).y]) ∧ w' = w.alloc (.cells #[.int .i64 (P.getD q p0).x, .int .i64 (P.getD q p0).y] 40) := by
  have hga : Grew w (w.alloc (.cells #[.int .i64 0, .int .i64 0] 40)) := (Grew.refl w).alloc _
  obtain ⟨b2, off2, rfl, e0, e1⟩ := (h.later hga.1 (Nat.le_refl _)).at hq
  obtain ⟨x, hx⟩ : ∃ x, x = P.getD q p0 := ⟨_, rfl⟩
  rw [← hx] at e0 e1 ⊢
  clear hga h hx
  have hq0 : (0 : Int) ≤ (q : Int) := by omega
  have hq1 : (q : Int) < (n : Int) := by omega
  have hz : ((n : Int) == 0) = false := by simp; omega
  have hz2 : ¬ (n : Int) = 0 := by omega
  have hwr : IntKind.i64.wrap (m + (n : Int)) = m + (n : Int) := IntWalk.i64_in _ (by omega)
  have hwm : IntKind.i64.wrap m = m := IntWalk.i64_in _ (by omega)
  have hwq : IntKind.i64.wrap (q : Int) = (q : Int) := IntWalk.i64_in _ (by omega)
  go_enter Tryz.func72, Tryz.ntmps72
  go_wp2_with fail
  exact bodyPost_ret (results_point rfl rfl (alloc_new _ _)) rfl ⟨rfl, rfl⟩
theorem al5 (w : World) (o1 o2 o3 o4 o5 : Obj) : (((((w.alloc o1).alloc o2).alloc o3).alloc o4).alloc o5).heap[w.heap.size]? = some o1 ∧ (((((w.alloc o1).alloc o2).alloc o3).alloc o4).alloc o5).heap[w.heap.size + 1]? = some o2 ∧ (((((w.alloc o1).alloc o2).alloc o3).alloc o4).alloc o5).heap[w.heap.size + 1 + 1]? = some o3 ∧ (((((w.alloc o1).alloc o2).alloc o3).alloc o4).alloc o5).heap[w.heap.size + 1 + 1 + 1]? = some o4 ∧ (((((w.alloc o1).alloc o2).alloc o3).alloc o4).alloc o5).heap[w.heap.size + 1 + 1 + 1 + 1]? = some o5 := by
  have step : ∀ (w : World) (j : Nat) (o o' : Obj), w.heap[j]? = some o → (w.alloc o').heap[j]? = some o := fun w j o o' h => (Below.heap_alloc _ _ _ (Array.getElem?_eq_some_iff.1 h).1).trans h
  have last : ∀ (w : World) (g : Nat) (o : Obj), w.heap.size = g → (w.alloc o).heap[g]? = some o := fun w g o h => by rw [← h]; exact alloc_new _ _
  refine ⟨step _ _ _ _ (step _ _ _ _ (step _ _ _ _ (step _ _ _ _ (last _ _ _ rfl)))), step _ _ _ _ (step _ _ _ _ (step _ _ _ _ (last _ _ _ (by simp)))), step _ _ _ _ (step _ _ _ _ (last _ _ _ (by simp))), step _ _ _ _ (last _ _ _ (by simp)), last _ _ _ (by simp)⟩
end Go.Proofs.YtdikecfplohpeaaGreat

/- the document's ring: back -/
set_option linter.unusedSimpArgs false
set_option linter.unusedVariables false
namespace Go.Proofs.YtdikecfplohpeaaGreat
open Go.RowKit Go.Shelf Go.Geo
attribute [local go_sem] Oper.semAt_some
theorem of_below {w w' : World} {b o1 o2 : Nat} {v1 v2 : Value} (hb : Below w.heap.size w w') (e0 : w.cell? ⟨b, o1, none⟩ = some v1) (e1 : w.cell? ⟨b, o2, none⟩ = some v2) : w'.cell? ⟨b, o1, none⟩ = some v1 ∧ w'.cell? ⟨b, o2, none⟩ = some v2 ∧ Below w.heap.size w w' :=
  ⟨(hb.cell (p := ⟨b, o1, none⟩) (block_lt_of_cell e0)).trans e0, (hb.cell (p := ⟨b, o2, none⟩) (block_lt_of_cell e1)).trans e1, hb⟩
set_option maxRecDepth 100000 in
set_option maxHeartbeats 8000000 in
theorem rback_any (ao : Option Addr) (n cap : Nat) (P : List Pt) (k : Nat) (w : World) (h : IsPts w ao n cap P) (hk : k < n) (h3 : 3 ≤ n) (hnb : n ≤ 1000) :
    Calls Tryz.prog 43 #[.slice ao n cap, .int .i64 k] w fun e w' => e = .returned (.bool (backP P k)) ∧ Below w.heap.size w w' := by
  have HI := Lib.hid h
  have HL : Hid (P.length = n) := h.1
  have hn : 0 < n := by omega
  have q1 := Nat.mod_lt (k + n - 1) hn
  have q2 := Nat.mod_lt (k + 1) hn
  have HA : Hid (∀ wX, Below w.heap.size w wX → Calls Tryz.prog 72 #[.slice ao n cap, .int .i64 ((k : Int) - 1)] wX fun e w' => e = .returned (.agg #[.int .i64 (atP P (k + n - 1)).x, .int .i64 (atP P (k + n - 1)).y]) ∧ w' = wX.alloc (.cells #[.int .i64 (atP P (k + n - 1)).x, .int .i64 (atP P (k + n - 1)).y] 40)) := Lib.hid (fun wX hX => by
    unfold atP
    rw [HL.out]
    by_cases h0 : k = 0
    · subst h0
      refine rat_ex ao n cap P _ (-1) _ wX (h.later hX (Nat.le_refl _)) q1 ?_ (by omega) (by omega) ?_ (by omega)
      · rw [show ((0 : Nat) : Int) - 1 = -1 from rfl, Int.neg_tmod, Int.tmod_eq_emod_of_nonneg (by omega), Int.emod_eq_of_lt (by omega) (by omega)]
      · rw [Int.tmod_eq_emod_of_nonneg (by omega), Int.emod_eq_of_lt (by omega) (by omega), Nat.mod_eq_of_lt (by omega)]; omega
    · refine rat_ex ao n cap P _ ((k : Int) - 1) _ wX (h.later hX (Nat.le_refl _)) q1 ?_ (by omega) (by omega) ?_ (by omega)
      · rw [Int.tmod_eq_emod_of_nonneg (by omega), Int.emod_eq_of_lt (by omega) (by omega)]
      · rw [Int.tmod_eq_emod_of_nonneg (by omega), show ((k : Int) - 1 + n) = ((k + n - 1 : Nat) : Int) by omega, Int.natCast_emod])
  have HC : Hid (∀ wX, Below w.heap.size w wX → Calls Tryz.prog 72 #[.slice ao n cap, .int .i64 ((k : Int) + 1)] wX fun e w' => e = .returned (.agg #[.int .i64 (atP P (k + 1)).x, .int .i64 (atP P (k + 1)).y]) ∧ w' = wX.alloc (.cells #[.int .i64 (atP P (k + 1)).x, .int .i64 (atP P (k + 1)).y] 40)) := Lib.hid (fun wX hX => by
    unfold atP
    rw [HL.out]
    refine rat_ex ao n cap P _ (((k + 1) % n : Nat) : Int) _ wX (h.later hX (Nat.le_refl _)) q2 ?_ (by omega) (by omega) ?_ (by omega)
    · rw [Int.tmod_eq_emod_of_nonneg (by omega), Int.natCast_emod]; rfl
    · rw [Int.tmod_eq_emod_of_nonneg (by omega), Int.add_emod_right, Int.emod_eq_of_lt (by omega) (by omega)])
  obtain ⟨b2, off2, rfl, e0, e1⟩ := h.at hk
  obtain ⟨r, hr⟩ : ∃ r, r = backP P k := ⟨_, rfl⟩
  rw [← hr]
  unfold backP at hr
  rw [HL.out] at hr
  obtain ⟨a, ha⟩ : ∃ x, x = atP P (k + n - 1) := ⟨_, rfl⟩
  obtain ⟨b, hb⟩ : ∃ x, x = P.getD k p0 := ⟨_, rfl⟩
  obtain ⟨c, hc⟩ : ∃ x, x = atP P (k + 1) := ⟨_, rfl⟩
  rw [← ha] at HA hr
  rw [← hb] at e0 e1 hr
  rw [← hc] at HC hr
  have HR := Lib.hid hr
  have k0 : (0 : Int) ≤ (k : Int) := by omega
  have k1 : (k : Int) < (n : Int) := by omega
  have w1 : IntKind.i64.wrap ((k : Int) - 1) = (k : Int) - 1 := IntWalk.i64_in _ (by omega)
  have w2 : IntKind.i64.wrap ((k : Int) + 1) = (k : Int) + 1 := IntWalk.i64_in _ (by omega)
  have HE := Lib.hid (And.intro e0 e1)
  clear h hr ha hb hc q1 q2
  go_enter Tryz.func43, Tryz.ntmps43
  go_upto_region 2 with fail
  go_cut [5, 6, 7] (fun s5 s6 s7 wc => ∃ g5 g6 g7, s5 = .pointer (some ⟨g5, 0, none⟩) ∧ s6 = .pointer (some ⟨g6, 0, none⟩) ∧ s7 = .pointer (some ⟨g7, 0, none⟩) ∧ Hid (wc.heap[g5]? = some (.cells #[.int .i64 a.x, .int .i64 a.y] 40 (0, 0)) ∧ wc.heap[g6]? = some (.cells #[.int .i64 b.x, .int .i64 b.y] 40 (0, 0)) ∧ wc.heap[g7]? = some (.cells #[.int .i64 c.x, .int .i64 c.y] 40 (0, 0)) ∧ Below w.heap.size w wc))
  case first =>
    go_wp2_with fail
    refine wp_region_J (s := [(8, 0), (9, 1), (10, 2), (11, 3), (12, 4), (13, 5), (14, 6), (15, 7), (16, 8), (17, 9), (18, 10), (19, 11), (5, 12), (6, 13), (7, 14)]) (by kernel_rfl) (StdJ w (fun iX => match iX with | 0 => some (.slice (some ⟨b2, off2, none⟩) n cap) | 1 => some (.int .i64 (k : Int)) | 2 => some (.int .i64 ((k : Int) - 1)) | 3 => some (.agg #[.int .i64 a.x, .int .i64 a.y]) | 4 => some (.slice (some ⟨b2, off2, none⟩) n cap) | 5 => some (.int .i64 (k : Int)) | 6 => some (.pointer (some ⟨b2, off2 + k * 2, none⟩)) | 7 => some (.agg #[.int .i64 b.x, .int .i64 b.y]) | 8 => some (.slice (some ⟨b2, off2, none⟩) n cap) | 9 => some (.int .i64 (k : Int)) | 10 => some (.int .i64 ((k : Int) + 1)) | 11 => some (.agg #[.int .i64 c.x, .int .i64 c.y]) | _ => none) [⟨12, 15, 40, #[.int .i64 0, .int .i64 0], #[.int .i64 a.x, .int .i64 a.y]⟩, ⟨13, 16, 40, #[.int .i64 0, .int .i64 0], #[.int .i64 b.x, .int .i64 b.y]⟩, ⟨14, 17, 40, #[.int .i64 0, .int .i64 0], #[.int .i64 c.x, .int .i64 c.y]⟩]) (by kernel_rfl) (by kernel_rfl) (by kernel_rfl) (by kernel_rfl) (fun _ => undef) ?start ?step ?done
    case start => exact StdJ.start ((Below.refl _ _).drew)
    case step =>
      refine ⟨?o0, ?o1, ?o2, ?o3, ?o4, ?o5, ?o6, ?o7, ?o8, ?o9, ?o10, ?o11, ?o12, ?o13, ?o14, ?o15, ?o16, ?o17, trivial⟩
      case o0 =>
        intro L V aX wX K hl hp hcl hf hJ hK
        have t0 : aX.tmps[0]? = some (.slice (some ⟨b2, off2, none⟩) n cap) := hf.old (by kernel_rfl) rfl
        rw [if_pos (by rfl)]
        go_simp
        exact hK _ _ (hJ.val (Below.refl _ _) 0 _ (by kernel_rfl) rfl)
      case o1 =>
        intro L V aX wX K hl hp hcl hf hJ hK
        have t1 : aX.tmps[1]? = some (.int .i64 (k : Int)) := hf.old (by kernel_rfl) rfl
        rw [if_pos (by rfl)]
        go_simp
        exact hK _ _ (hJ.val (Below.refl _ _) 1 _ (by kernel_rfl) rfl)
      case o2 =>
        intro L V aX wX K hl hp hcl hf hJ hK
        have t9 := hf.in (i := 1) (d := 9) (by kernel_rfl) (hp 1 (by kernel_rfl)) (hJ.vals 1 _ rfl (hp 1 (by kernel_rfl)))
        rw [if_pos (by rfl)]
        go_simp
        exact hK _ _ (hJ.val (Below.refl _ _) 2 _ (by kernel_rfl) rfl)
      case o3 =>
        intro L V aX wX K hl hp hcl hf hJ hK
        have t8 := hf.in (i := 0) (d := 8) (by kernel_rfl) (hp 0 (by kernel_rfl)) (hJ.vals 0 _ rfl (hp 0 (by kernel_rfl)))
        have t10 := hf.in (i := 2) (d := 10) (by kernel_rfl) (hp 2 (by kernel_rfl)) (hJ.vals 2 _ rfl (hp 2 (by kernel_rfl)))
        rw [if_pos (by rfl)]
        go_simp
        refine (HA.out _ hJ.below).mono ?_
        rintro e wA ⟨rfl, rfl⟩
        exact hK _ _ (hJ.val ((Below.refl _ _).alloc (Nat.le_refl _) _) 3 _ (by kernel_rfl) rfl)
      case o4 =>
        intro L V aX wX K hl hp hcl hf hJ hK
        have t0 : aX.tmps[0]? = some (.slice (some ⟨b2, off2, none⟩) n cap) := hf.old (by kernel_rfl) rfl
        rw [if_pos (by rfl)]
        go_simp
        exact hK _ _ (hJ.val (Below.refl _ _) 4 _ (by kernel_rfl) rfl)
      case o5 =>
        intro L V aX wX K hl hp hcl hf hJ hK
        have t1 : aX.tmps[1]? = some (.int .i64 (k : Int)) := hf.old (by kernel_rfl) rfl
        rw [if_pos (by rfl)]
        go_simp
        exact hK _ _ (hJ.val (Below.refl _ _) 5 _ (by kernel_rfl) rfl)
      case o6 =>
        intro L V aX wX K hl hp hcl hf hJ hK
        have t12 := hf.in (i := 4) (d := 12) (by kernel_rfl) (hp 4 (by kernel_rfl)) (hJ.vals 4 _ rfl (hp 4 (by kernel_rfl)))
        have t13 := hf.in (i := 5) (d := 13) (by kernel_rfl) (hp 5 (by kernel_rfl)) (hJ.vals 5 _ rfl (hp 5 (by kernel_rfl)))
        rw [if_pos (by rfl)]
        go_simp
        exact hK _ _ (hJ.val (Below.refl _ _) 6 _ (by kernel_rfl) rfl)
      case o7 =>
        intro L V aX wX K hl hp hcl hf hJ hK
        have t14 := hf.in (i := 6) (d := 14) (by kernel_rfl) (hp 6 (by kernel_rfl)) (hJ.vals 6 _ rfl (hp 6 (by kernel_rfl)))
        obtain ⟨c0, c1, _⟩ := of_below hJ.below HE.out.1 HE.out.2
        rw [if_pos (by rfl)]
        go_simp
        exact hK _ _ (hJ.val (Below.refl _ _) 7 _ (by kernel_rfl) rfl)
      case o8 =>
        intro L V aX wX K hl hp hcl hf hJ hK
        have t0 : aX.tmps[0]? = some (.slice (some ⟨b2, off2, none⟩) n cap) := hf.old (by kernel_rfl) rfl
        rw [if_pos (by rfl)]
        go_simp
        exact hK _ _ (hJ.val (Below.refl _ _) 8 _ (by kernel_rfl) rfl)
      case o9 =>
        intro L V aX wX K hl hp hcl hf hJ hK
        have t1 : aX.tmps[1]? = some (.int .i64 (k : Int)) := hf.old (by kernel_rfl) rfl
        rw [if_pos (by rfl)]
        go_simp
        exact hK _ _ (hJ.val (Below.refl _ _) 9 _ (by kernel_rfl) rfl)
      case o10 =>
        intro L V aX wX K hl hp hcl hf hJ hK
        have t17 := hf.in (i := 9) (d := 17) (by kernel_rfl) (hp 9 (by kernel_rfl)) (hJ.vals 9 _ rfl (hp 9 (by kernel_rfl)))
        rw [if_pos (by rfl)]
        go_simp
        exact hK _ _ (hJ.val (Below.refl _ _) 10 _ (by kernel_rfl) rfl)
      case o11 =>
        intro L V aX wX K hl hp hcl hf hJ hK
        have t16 := hf.in (i := 8) (d := 16) (by kernel_rfl) (hp 8 (by kernel_rfl)) (hJ.vals 8 _ rfl (hp 8 (by kernel_rfl)))
        have t18 := hf.in (i := 10) (d := 18) (by kernel_rfl) (hp 10 (by kernel_rfl)) (hJ.vals 10 _ rfl (hp 10 (by kernel_rfl)))
        rw [if_pos (by rfl)]
        go_simp
        refine (HC.out _ hJ.below).mono ?_
        rintro e wA ⟨rfl, rfl⟩
        exact hK _ _ (hJ.val ((Below.refl _ _).alloc (Nat.le_refl _) _) 11 _ (by kernel_rfl) rfl)
      case o12 =>
        intro L V aX wX K hl hp hcl hf hJ hK
        rw [if_pos (by rfl)]
        go_simp
        exact hK _ _ (hJ.alloc (by kernel_rfl) ⟨12, 15, 40, #[.int .i64 0, .int .i64 0], #[.int .i64 a.x, .int .i64 a.y]⟩ (by simp) hl rfl)
      case o13 =>
        intro L V aX wX K hl hp hcl hf hJ hK
        rw [if_pos (by rfl)]
        go_simp
        exact hK _ _ (hJ.alloc (by kernel_rfl) ⟨13, 16, 40, #[.int .i64 0, .int .i64 0], #[.int .i64 b.x, .int .i64 b.y]⟩ (by simp) hl rfl)
      case o14 =>
        intro L V aX wX K hl hp hcl hf hJ hK
        rw [if_pos (by rfl)]
        go_simp
        exact hK _ _ (hJ.alloc (by kernel_rfl) ⟨14, 17, 40, #[.int .i64 0, .int .i64 0], #[.int .i64 c.x, .int .i64 c.y]⟩ (by simp) hl rfl)
      case o15 =>
        intro L V aX wX K hl hp hcl hf hJ hK
        have t11 := hf.in (i := 3) (d := 11) (by kernel_rfl) (hp 3 (by kernel_rfl)) (hJ.vals 3 _ rfl (hp 3 (by kernel_rfl)))
        rw [if_pos (by rfl)]
        obtain ⟨g, hg, hg2⟩ := hJ.ptr ⟨12, 15, 40, #[.int .i64 0, .int .i64 0], #[.int .i64 a.x, .int .i64 a.y]⟩ (by simp) (hp 12 (by kernel_rfl)) hl
        have tp := hf.in (i := 12) (d := 5) (by kernel_rfl) (hp 12 (by kernel_rfl)) hg
        refine wp_store_row _ _ _ rfl g #[.int .i64 a.x, .int .i64 a.y] (by simp [Act.eval, tp]) (by simp [Act.eval, t11]) _ _ hg2 (by kernel_rfl) rfl (by kernel_rfl) ?_
        exact hK _ _ (hJ.fill (by kernel_rfl) ⟨12, 15, 40, #[.int .i64 0, .int .i64 0], #[.int .i64 a.x, .int .i64 a.y]⟩ (by simp) (hp 12 (by kernel_rfl)) hl rfl g hg _)
      case o16 =>
        intro L V aX wX K hl hp hcl hf hJ hK
        have t15 := hf.in (i := 7) (d := 15) (by kernel_rfl) (hp 7 (by kernel_rfl)) (hJ.vals 7 _ rfl (hp 7 (by kernel_rfl)))
        rw [if_pos (by rfl)]
        obtain ⟨g, hg, hg2⟩ := hJ.ptr ⟨13, 16, 40, #[.int .i64 0, .int .i64 0], #[.int .i64 b.x, .int .i64 b.y]⟩ (by simp) (hp 13 (by kernel_rfl)) hl
        have tp := hf.in (i := 13) (d := 6) (by kernel_rfl) (hp 13 (by kernel_rfl)) hg
        refine wp_store_row _ _ _ rfl g #[.int .i64 b.x, .int .i64 b.y] (by simp [Act.eval, tp]) (by simp [Act.eval, t15]) _ _ hg2 (by kernel_rfl) rfl (by kernel_rfl) ?_
        exact hK _ _ (hJ.fill (by kernel_rfl) ⟨13, 16, 40, #[.int .i64 0, .int .i64 0], #[.int .i64 b.x, .int .i64 b.y]⟩ (by simp) (hp 13 (by kernel_rfl)) hl rfl g hg _)
      case o17 =>
        intro L V aX wX K hl hp hcl hf hJ hK
        have t19 := hf.in (i := 11) (d := 19) (by kernel_rfl) (hp 11 (by kernel_rfl)) (hJ.vals 11 _ rfl (hp 11 (by kernel_rfl)))
        rw [if_pos (by rfl)]
        obtain ⟨g, hg, hg2⟩ := hJ.ptr ⟨14, 17, 40, #[.int .i64 0, .int .i64 0], #[.int .i64 c.x, .int .i64 c.y]⟩ (by simp) (hp 14 (by kernel_rfl)) hl
        have tp := hf.in (i := 14) (d := 7) (by kernel_rfl) (hp 14 (by kernel_rfl)) hg
        refine wp_store_row _ _ _ rfl g #[.int .i64 c.x, .int .i64 c.y] (by simp [Act.eval, tp]) (by simp [Act.eval, t19]) _ _ hg2 (by kernel_rfl) rfl (by kernel_rfl) ?_
        exact hK _ _ (hJ.fill (by kernel_rfl) ⟨14, 17, 40, #[.int .i64 0, .int .i64 0], #[.int .i64 c.x, .int .i64 c.y]⟩ (by simp) (hp 14 (by kernel_rfl)) hl rfl g hg _)
    intro V wZ hJ
    obtain ⟨g5, hv5, _, hg5⟩ := hJ.got ⟨12, 15, 40, #[.int .i64 0, .int .i64 0], #[.int .i64 a.x, .int .i64 a.y]⟩ (by simp) (by kernel_rfl) (by kernel_rfl)
    obtain ⟨g6, hv6, _, hg6⟩ := hJ.got ⟨13, 16, 40, #[.int .i64 0, .int .i64 0], #[.int .i64 b.x, .int .i64 b.y]⟩ (by simp) (by kernel_rfl) (by kernel_rfl)
    obtain ⟨g7, hv7, _, hg7⟩ := hJ.got ⟨14, 17, 40, #[.int .i64 0, .int .i64 0], #[.int .i64 c.x, .int .i64 c.y]⟩ (by simp) (by kernel_rfl) (by kernel_rfl)
    have HZ : Hid (wZ.heap[g5]? = some (.cells #[.int .i64 a.x, .int .i64 a.y] 40 (0, 0)) ∧ wZ.heap[g6]? = some (.cells #[.int .i64 b.x, .int .i64 b.y] 40 (0, 0)) ∧ wZ.heap[g7]? = some (.cells #[.int .i64 c.x, .int .i64 c.y] 40 (0, 0)) ∧ Below w.heap.size w wZ) := Lib.hid ⟨hg5, hg6, hg7, hJ.below⟩
    simp only [puts, Act.put, List.setIfInBounds_toArray, List.set_cons_zero, List.set_cons_succ]
    rw [hv5, hv6, hv7]
    clear hJ hv5 hv6 hv7 hg5 hg6 hg7
    go_wp2_with fail
    go_meet
    exact ⟨g5, g6, g7, rfl, rfl, rfl, HZ⟩
  case rest =>
    obtain ⟨g5, g6, g7, rfl, rfl, rfl, HZ⟩ := hcut
    obtain ⟨a0, a1, _, _⟩ := pt_cells HZ.out.1
    obtain ⟨b0, b1, _, _⟩ := pt_cells HZ.out.2.1
    obtain ⟨c0, c1, _, _⟩ := pt_cells HZ.out.2.2.1
    have HT := Lib.hid (rTurn_any a b c)
    have HO := Lib.hid (rOn_any b a c)
    obtain ⟨t, ht⟩ : ∃ t, t = turnP a b c := ⟨_, rfl⟩
    obtain ⟨o, ho⟩ : ∃ t, t = onP b a c := ⟨_, rfl⟩
    rw [← ht] at HT
    rw [← ho] at HO
    have HRR : Hid (r = (decide (t = 0) && !o)) := Lib.hid (by rw [HR.out, ht, ho])
    unfold ptV at HT HO
    clear ht ho e0 e1
    by_cases ht : t = 0
    · subst ht
      go_wp2_with fail
      refine (HT.out _).mono ?_
      rintro e w2 ⟨rfl, hg2⟩
      have e2 := cell_of_row
      have HZ2 : Hid (w2.heap[g5]? = some (.cells #[.int .i64 a.x, .int .i64 a.y] 40 (0, 0)) ∧ w2.heap[g6]? = some (.cells #[.int .i64 b.x, .int .i64 b.y] 40 (0, 0)) ∧ w2.heap[g7]? = some (.cells #[.int .i64 c.x, .int .i64 c.y] 40 (0, 0)) ∧ Below w.heap.size w w2) := Lib.hid ⟨(hg2.1.block _ (heap_lt' HZ.out.1)).trans HZ.out.1, (hg2.1.block _ (heap_lt' HZ.out.2.1)).trans HZ.out.2.1, (hg2.1.block _ (heap_lt' HZ.out.2.2.1)).trans HZ.out.2.2.1, HZ.out.2.2.2.trans (hg2.1.mono HZ.out.2.2.2.size)⟩
      clear a0 a1 b0 b1 c0 c1 hg2 e2
      obtain ⟨a0, a1, _, _⟩ := pt_cells HZ2.out.1
      obtain ⟨b0, b1, _, _⟩ := pt_cells HZ2.out.2.1
      obtain ⟨c0, c1, _, _⟩ := pt_cells HZ2.out.2.2.1
      go_wp2_with fail
      refine (HO.out _).mono ?_
      rintro e w3 ⟨rfl, hg3⟩
      have HB : Hid (Below w.heap.size w w3) := Lib.hid (HZ2.out.2.2.2.trans (hg3.1.mono HZ2.out.2.2.2.size))
      clear hg3 a0 a1 b0 b1 c0 c1
      go_wp2_with fail
      go_ret
      exact ⟨by rw [HRR.out]; rfl, HB.out⟩
    · have hz1 : (t == 0) = false := by simp [ht]
      have HT0 := Lib.hid ht
      clear ht
      go_wp2_with fail
      refine (HT.out _).mono ?_
      rintro e w2 ⟨rfl, hg2⟩
      have HB : Hid (Below w.heap.size w w2) := Lib.hid (HZ.out.2.2.2.trans (hg2.1.mono HZ.out.2.2.2.size))
      clear hg2 a0 a1 b0 b1 c0 c1
      go_wp2_with fail
      go_ret
      exact ⟨by rw [HRR.out, decide_eq_false HT0.out]; rfl, HB.out⟩
end Go.Proofs.YtdikecfplohpeaaGreat

/- the document's region: meet -/
set_option linter.unusedSimpArgs false
set_option linter.unusedVariables false
namespace Go.Proofs.YtdikecfplohpeaaGreat
open Go.RowKit Go.Shelf Go.Geo
attribute [local go_sem] Oper.semAt_some
theorem meetK_le (a b c d : Pt) : meetK a b c d ≤ 3 := by
  unfold meetK
  split
  · split
    · split <;> omega
    · omega
    · omega
  · omega
theorem eight_stepB {W w1 w2 : World} {B1 B2 o1 o2 o3 o4 o5 o6 o7 o8 : Nat} {v1 v2 v3 v4 v5 v6 v7 v8 : Value} (hb : Below w1.heap.size w1 w2)
    (h1 : w1.cell? ⟨B1, o1, none⟩ = some v1) (h2 : w1.cell? ⟨B1, o2, none⟩ = some v2) (h3 : w1.cell? ⟨B1, o3, none⟩ = some v3) (h4 : w1.cell? ⟨B1, o4, none⟩ = some v4)
    (h5 : w1.cell? ⟨B2, o5, none⟩ = some v5) (h6 : w1.cell? ⟨B2, o6, none⟩ = some v6) (h7 : w1.cell? ⟨B2, o7, none⟩ = some v7) (h8 : w1.cell? ⟨B2, o8, none⟩ = some v8) (h9 : Below W.heap.size W w1) :
    w2.cell? ⟨B1, o1, none⟩ = some v1 ∧ w2.cell? ⟨B1, o2, none⟩ = some v2 ∧ w2.cell? ⟨B1, o3, none⟩ = some v3 ∧ w2.cell? ⟨B1, o4, none⟩ = some v4 ∧ w2.cell? ⟨B2, o5, none⟩ = some v5 ∧ w2.cell? ⟨B2, o6, none⟩ = some v6 ∧ w2.cell? ⟨B2, o7, none⟩ = some v7 ∧ w2.cell? ⟨B2, o8, none⟩ = some v8 ∧ Below W.heap.size W w2 := by
  have k : ∀ {B o : Nat} {v : Value}, w1.cell? ⟨B, o, none⟩ = some v → w2.cell? ⟨B, o, none⟩ = some v := fun {B o v} h => (hb.cell (p := ⟨B, o, none⟩) (block_lt_of_cell h)).trans h
  exact ⟨k h1, k h2, k h3, k h4, k h5, k h6, k h7, k h8, h9.trans (hb.mono h9.size)⟩
set_option maxRecDepth 100000 in
set_option maxHeartbeats 4000000 in
theorem rmeet_any (ao : Option Addr) (n cap : Nat) (P : List Pt) (bo : Option Addr) (m cap2 : Nat) (Q : List Pt) (w : World) (h : IsPts w ao n cap P) (h2 : IsPts w bo m cap2 Q) :
    Calls Tryz.prog 24 #[.slice ao n cap, .slice bo m cap2] w fun e w' => e = .returned (.bool (ringsMeet P Q)) ∧ Below w.heap.size w w' := by
  have HI := Lib.hid h
  have HI2 := Lib.hid h2
  have HL : Hid (P.length = n) := h.1
  have HL2 : Hid (Q.length = m) := h2.1
  have hcm := h.2.2.1
  have hnc := h.2.1
  have hcm2 := h2.2.2.1
  have hnc2 := h2.2.1
  unfold maxLen at hcm hcm2
  obtain ⟨f, hf⟩ : ∃ f : Nat → Nat → Bool, f = fun i k => decide (2 ≤ meetK (P.getD i p0) (atP P (i + 1)) (Q.getD k p0) (atP Q (k + 1))) := ⟨_, rfl⟩
  obtain ⟨r, hr⟩ : ∃ r, r = ringsMeet P Q := ⟨_, rfl⟩
  rw [← hr]
  have hr2 : r = (List.range n).any fun i => (List.range m).any fun k => f i k := by rw [hr, hf, ← HL.out, ← HL2.out]; rfl
  have HR := Lib.hid hr2
  have HF := Lib.hid hf
  clear h h2 hr hf hr2
  go_enter Tryz.func24, Tryz.ntmps24
  go_wp2
  go_loopw [5] (fun i wr => ∃ k : Nat, k ≤ n ∧ i = .int .i64 k ∧ Hid (∀ s t, s < k → t < m → f s t = false) ∧ Hid (Below w.heap.size w wr)) (fun i _ => n - (intOf i).toNat)
  case atStart => exact ⟨0, by omega, rfl, Lib.hid (fun s t hs => absurd hs (by omega)), Below.refl _ _⟩
  case round =>
    obtain ⟨i, hi, rfl, hno, hg⟩ := hrel
    obtain ⟨wo, hwo⟩ : ∃ wo, wo = wr := ⟨_, rfl⟩
    subst hwo
    by_cases hlt : i < n
    · have i0 : (0 : Int) ≤ (i : Int) := by omega
      have i1 : (i : Int) < (n : Int) := by omega
      go_wp2_with fail
      go_loopw [6] (fun j wi => ∃ k : Nat, k ≤ m ∧ j = .int .i64 k ∧ Hid (∀ t, t < k → f i t = false) ∧ Hid (Below w.heap.size w wi)) (fun j _ => m - (intOf j).toNat)
      case atStart => exact ⟨0, by omega, rfl, Lib.hid (fun t ht => absurd ht (by omega)), hg⟩
      case round =>
        obtain ⟨k, hk, rfl, hno2, hg2⟩ := hrel
        by_cases hlt2 : k < m
        · have k0 : (0 : Int) ≤ (k : Int) := by omega
          have k1 : (k : Int) < (m : Int) := by omega
          have hp1 := HI.out.later hg2.out (Nat.le_refl _)
          have hp2 := HI2.out.later hg2.out (Nat.le_refl _)
          have hm1 : (i + 1) % n < n := Nat.mod_lt _ (by omega)
          have hm2 : (k + 1) % m < m := Nat.mod_lt _ (by omega)
          obtain ⟨b2, off2, rfl, e0, e1⟩ := hp1.at hlt
          obtain ⟨b3, off3, hbo, e2, e3⟩ := hp1.at hm1
          cases hbo
          obtain ⟨b4, off4, rfl, f0, f1⟩ := hp2.at hlt2
          obtain ⟨b5, off5, hbo, f2, f3⟩ := hp2.at hm2
          cases hbo
          obtain ⟨x, hx⟩ : ∃ x, x = P.getD i p0 := ⟨_, rfl⟩
          obtain ⟨x2, hx2⟩ : ∃ x, x = atP P (i + 1) := ⟨_, rfl⟩
          obtain ⟨y, hy⟩ : ∃ y, y = Q.getD k p0 := ⟨_, rfl⟩
          obtain ⟨y2, hy2⟩ : ∃ y, y = atP Q (k + 1) := ⟨_, rfl⟩
          have hxe : P.getD ((i + 1) % n) p0 = x2 := by rw [hx2]; unfold atP; rw [HL.out]
          have hye : Q.getD ((k + 1) % m) p0 = y2 := by rw [hy2]; unfold atP; rw [HL2.out]
          rw [← hx] at e0 e1
          rw [hxe] at e2 e3
          rw [← hy] at f0 f1
          rw [hye] at f2 f3
          obtain ⟨q, hq⟩ : ∃ q, q = (i + 1) % n := ⟨_, rfl⟩
          obtain ⟨u, hu⟩ : ∃ q, q = (k + 1) % m := ⟨_, rfl⟩
          rw [← hq] at e2 e3 hm1
          rw [← hu] at f2 f3 hm2
          have hq0 : (0 : Int) ≤ (q : Int) := by omega
          have hq1 : (q : Int) < (n : Int) := by omega
          have hu0 : (0 : Int) ≤ (u : Int) := by omega
          have hu1 : (u : Int) < (m : Int) := by omega
          have hrem : Int.tmod ((i : Int) + 1) (n : Int) = (q : Int) := by
            rw [Int.tmod_eq_emod_of_nonneg (by omega), hq, Int.natCast_emod]; rfl
          have hrem2 : ((i : Int) + 1) % (n : Int) = (q : Int) := by rw [hq, Int.natCast_emod]; rfl
          have hrem3 : Int.tmod ((k : Int) + 1) (m : Int) = (u : Int) := by
            rw [Int.tmod_eq_emod_of_nonneg (by omega), hu, Int.natCast_emod]; rfl
          have hrem4 : ((k : Int) + 1) % (m : Int) = (u : Int) := by rw [hu, Int.natCast_emod]; rfl
          have hz : ((n : Int) == 0) = false := by simp; omega
          have hz2 : ¬ (n : Int) = 0 := by omega
          have hz3 : ((m : Int) == 0) = false := by simp; omega
          have hz4 : ¬ (m : Int) = 0 := by omega
          have hwr : IntKind.i64.wrap ((i : Int) + 1) = (i : Int) + 1 := IntWalk.i64_in _ (by omega)
          have hwk : IntKind.i64.wrap ((k : Int) + 1) = (k : Int) + 1 := IntWalk.i64_in _ (by omega)
          have hkp : (0 : Int) ≤ (i : Int) + 1 := by omega
          have hkp2 : (0 : Int) ≤ (k : Int) + 1 := by omega
          have HM := Lib.hid (rMeets_any x x2 y y2)
          have hle := meetK_le x x2 y y2
          obtain ⟨c, hc⟩ : ∃ m, m = meetK x x2 y y2 := ⟨_, rfl⟩
          rw [← hc] at HM hle
          have HFC : Hid (f i k = decide (2 ≤ c)) := Lib.hid (by rw [HF.out, hc, hx, hx2, hy, hy2])
          unfold ptV at HM
          have HIK := Lib.hid (And.intro hlt hlt2)
          clear hx hx2 hy hy2 hxe hye hq hu hc hp1 hp2 hm1 hm2
          go_wp2_with fail
          have HCELLS : Hid (∀ wX, Below wr.heap.size wr wX → wX.cell? ⟨b2, off2 + i * 2, none⟩ = some (.int .i64 x.x) ∧ wX.cell? ⟨b2, off2 + i * 2 + 1, none⟩ = some (.int .i64 x.y) ∧ wX.cell? ⟨b2, off2 + q * 2, none⟩ = some (.int .i64 x2.x) ∧ wX.cell? ⟨b2, off2 + q * 2 + 1, none⟩ = some (.int .i64 x2.y) ∧ wX.cell? ⟨b4, off4 + k * 2, none⟩ = some (.int .i64 y.x) ∧ wX.cell? ⟨b4, off4 + k * 2 + 1, none⟩ = some (.int .i64 y.y) ∧ wX.cell? ⟨b4, off4 + u * 2, none⟩ = some (.int .i64 y2.x) ∧ wX.cell? ⟨b4, off4 + u * 2 + 1, none⟩ = some (.int .i64 y2.y)) := Lib.hid (fun wX hX => by
            have kk : ∀ {B o : Nat} {v : Value}, wr.cell? ⟨B, o, none⟩ = some v → wX.cell? ⟨B, o, none⟩ = some v := fun {B o v} h => (hX.cell (p := ⟨B, o, none⟩) (block_lt_of_cell h)).trans h
            exact ⟨kk e0, kk e1, kk e2, kk e3, kk f0, kk f1, kk f2, kk f3⟩)
          clear e0 e1 e2 e3 f0 f1 f2 f3
          refine wp_region_J (s := [(20, 0), (21, 1), (22, 2), (23, 3), (24, 4), (25, 5), (26, 6), (27, 7), (28, 8), (29, 9), (30, 10), (31, 11), (32, 12), (33, 13), (34, 14), (35, 15), (36, 16), (37, 17), (38, 18), (39, 19), (40, 20), (41, 21), (42, 22), (43, 23), (44, 24), (7, 25)]) (by kernel_rfl) (StdJ wr (fun iX => match iX with | 0 => some (.slice (some ⟨b2, off2, none⟩) n cap) | 1 => some (.int .i64 (i : Int)) | 2 => some (.pointer (some ⟨b2, off2 + i * 2, none⟩)) | 3 => some (.agg #[.int .i64 x.x, .int .i64 x.y]) | 4 => some (.slice (some ⟨b2, off2, none⟩) n cap) | 5 => some (.int .i64 (i : Int)) | 6 => some (.int .i64 ((i : Int) + 1)) | 7 => some (.slice (some ⟨b2, off2, none⟩) n cap) | 8 => some (.int .i64 (n : Int)) | 9 => some (.int .i64 (q : Int)) | 10 => some (.pointer (some ⟨b2, off2 + q * 2, none⟩)) | 11 => some (.agg #[.int .i64 x2.x, .int .i64 x2.y]) | 12 => some (.slice (some ⟨b4, off4, none⟩) m cap2) | 13 => some (.int .i64 (k : Int)) | 14 => some (.pointer (some ⟨b4, off4 + k * 2, none⟩)) | 15 => some (.agg #[.int .i64 y.x, .int .i64 y.y]) | 16 => some (.slice (some ⟨b4, off4, none⟩) m cap2) | 17 => some (.int .i64 (k : Int)) | 18 => some (.int .i64 ((k : Int) + 1)) | 19 => some (.slice (some ⟨b4, off4, none⟩) m cap2) | 20 => some (.int .i64 (m : Int)) | 21 => some (.int .i64 (u : Int)) | 22 => some (.pointer (some ⟨b4, off4 + u * 2, none⟩)) | 23 => some (.agg #[.int .i64 y2.x, .int .i64 y2.y]) | 24 => some (.int .i64 (c : Int)) | 25 => some (.int .i64 (c : Int)) | _ => none) []) (by kernel_rfl) (by kernel_rfl) (by kernel_rfl) (by kernel_rfl) (fun _ => undef) ?start ?step ?done
          case start => exact StdJ.start ((Below.refl _ _).drew)
          case step =>
            refine ⟨?o0, ?o1, ?o2, ?o3, ?o4, ?o5, ?o6, ?o7, ?o8, ?o9, ?o10, ?o11, ?o12, ?o13, ?o14, ?o15, ?o16, ?o17, ?o18, ?o19, ?o20, ?o21, ?o22, ?o23, ?o24, ?o25, trivial⟩
            case o0 =>
              intro L V aX wX K hl hp hcl hf hJ hK
              have t0 : aX.tmps[0]? = some (.slice (some ⟨b2, off2, none⟩) n cap) := hf.old (by kernel_rfl) rfl
              rw [if_pos (by rfl)]
              go_simp
              exact hK _ _ (hJ.val (Below.refl _ _) 0 _ (by kernel_rfl) rfl)
            case o1 =>
              intro L V aX wX K hl hp hcl hf hJ hK
              have t5 : aX.tmps[5]? = some (.int .i64 (i : Int)) := hf.old (by kernel_rfl) rfl
              rw [if_pos (by rfl)]
              go_simp
              exact hK _ _ (hJ.val (Below.refl _ _) 1 _ (by kernel_rfl) rfl)
            case o2 =>
              intro L V aX wX K hl hp hcl hf hJ hK
              have t20 := hf.in (i := 0) (d := 20) (by kernel_rfl) (hp 0 (by kernel_rfl)) (hJ.vals 0 _ rfl (hp 0 (by kernel_rfl)))
              have t21 := hf.in (i := 1) (d := 21) (by kernel_rfl) (hp 1 (by kernel_rfl)) (hJ.vals 1 _ rfl (hp 1 (by kernel_rfl)))
              rw [if_pos (by rfl)]
              go_simp
              exact hK _ _ (hJ.val (Below.refl _ _) 2 _ (by kernel_rfl) rfl)
            case o3 =>
              intro L V aX wX K hl hp hcl hf hJ hK
              have t22 := hf.in (i := 2) (d := 22) (by kernel_rfl) (hp 2 (by kernel_rfl)) (hJ.vals 2 _ rfl (hp 2 (by kernel_rfl)))
              obtain ⟨c0, c1, c2, c3, c4, c5, c6, c7⟩ := HCELLS.out wX hJ.below
              rw [if_pos (by rfl)]
              go_simp
              exact hK _ _ (hJ.val (Below.refl _ _) 3 _ (by kernel_rfl) rfl)
            case o4 =>
              intro L V aX wX K hl hp hcl hf hJ hK
              have t0 : aX.tmps[0]? = some (.slice (some ⟨b2, off2, none⟩) n cap) := hf.old (by kernel_rfl) rfl
              rw [if_pos (by rfl)]
              go_simp
              exact hK _ _ (hJ.val (Below.refl _ _) 4 _ (by kernel_rfl) rfl)
            case o5 =>
              intro L V aX wX K hl hp hcl hf hJ hK
              have t5 : aX.tmps[5]? = some (.int .i64 (i : Int)) := hf.old (by kernel_rfl) rfl
              rw [if_pos (by rfl)]
              go_simp
              exact hK _ _ (hJ.val (Below.refl _ _) 5 _ (by kernel_rfl) rfl)
            case o6 =>
              intro L V aX wX K hl hp hcl hf hJ hK
              have t25 := hf.in (i := 5) (d := 25) (by kernel_rfl) (hp 5 (by kernel_rfl)) (hJ.vals 5 _ rfl (hp 5 (by kernel_rfl)))
              rw [if_pos (by rfl)]
              go_simp
              exact hK _ _ (hJ.val (Below.refl _ _) 6 _ (by kernel_rfl) rfl)
            case o7 =>
              intro L V aX wX K hl hp hcl hf hJ hK
              have t0 : aX.tmps[0]? = some (.slice (some ⟨b2, off2, none⟩) n cap) := hf.old (by kernel_rfl) rfl
              rw [if_pos (by rfl)]
              go_simp
              exact hK _ _ (hJ.val (Below.refl _ _) 7 _ (by kernel_rfl) rfl)
            case o8 =>
              intro L V aX wX K hl hp hcl hf hJ hK
              have t27 := hf.in (i := 7) (d := 27) (by kernel_rfl) (hp 7 (by kernel_rfl)) (hJ.vals 7 _ rfl (hp 7 (by kernel_rfl)))
              rw [if_pos (by rfl)]
              go_simp
              exact hK _ _ (hJ.val (Below.refl _ _) 8 _ (by kernel_rfl) rfl)
            case o9 =>
              intro L V aX wX K hl hp hcl hf hJ hK
              have t26 := hf.in (i := 6) (d := 26) (by kernel_rfl) (hp 6 (by kernel_rfl)) (hJ.vals 6 _ rfl (hp 6 (by kernel_rfl)))
              have t28 := hf.in (i := 8) (d := 28) (by kernel_rfl) (hp 8 (by kernel_rfl)) (hJ.vals 8 _ rfl (hp 8 (by kernel_rfl)))
              have hnz : ¬ n = 0 := by omega
              rw [if_pos (by rfl)]
              go_simp
              exact hK _ _ (hJ.val (Below.refl _ _) 9 _ (by kernel_rfl) rfl)
            case o10 =>
              intro L V aX wX K hl hp hcl hf hJ hK
              have t24 := hf.in (i := 4) (d := 24) (by kernel_rfl) (hp 4 (by kernel_rfl)) (hJ.vals 4 _ rfl (hp 4 (by kernel_rfl)))
              have t29 := hf.in (i := 9) (d := 29) (by kernel_rfl) (hp 9 (by kernel_rfl)) (hJ.vals 9 _ rfl (hp 9 (by kernel_rfl)))
              rw [if_pos (by rfl)]
              go_simp
              exact hK _ _ (hJ.val (Below.refl _ _) 10 _ (by kernel_rfl) rfl)
            case o11 =>
              intro L V aX wX K hl hp hcl hf hJ hK
              have t30 := hf.in (i := 10) (d := 30) (by kernel_rfl) (hp 10 (by kernel_rfl)) (hJ.vals 10 _ rfl (hp 10 (by kernel_rfl)))
              obtain ⟨c0, c1, c2, c3, c4, c5, c6, c7⟩ := HCELLS.out wX hJ.below
              rw [if_pos (by rfl)]
              go_simp
              exact hK _ _ (hJ.val (Below.refl _ _) 11 _ (by kernel_rfl) rfl)
            case o12 =>
              intro L V aX wX K hl hp hcl hf hJ hK
              have t1 : aX.tmps[1]? = some (.slice (some ⟨b4, off4, none⟩) m cap2) := hf.old (by kernel_rfl) rfl
              rw [if_pos (by rfl)]
              go_simp
              exact hK _ _ (hJ.val (Below.refl _ _) 12 _ (by kernel_rfl) rfl)
            case o13 =>
              intro L V aX wX K hl hp hcl hf hJ hK
              have t6 : aX.tmps[6]? = some (.int .i64 (k : Int)) := hf.old (by kernel_rfl) rfl
              rw [if_pos (by rfl)]
              go_simp
              exact hK _ _ (hJ.val (Below.refl _ _) 13 _ (by kernel_rfl) rfl)
            case o14 =>
              intro L V aX wX K hl hp hcl hf hJ hK
              have t32 := hf.in (i := 12) (d := 32) (by kernel_rfl) (hp 12 (by kernel_rfl)) (hJ.vals 12 _ rfl (hp 12 (by kernel_rfl)))
              have t33 := hf.in (i := 13) (d := 33) (by kernel_rfl) (hp 13 (by kernel_rfl)) (hJ.vals 13 _ rfl (hp 13 (by kernel_rfl)))
              rw [if_pos (by rfl)]
              go_simp
              exact hK _ _ (hJ.val (Below.refl _ _) 14 _ (by kernel_rfl) rfl)
            case o15 =>
              intro L V aX wX K hl hp hcl hf hJ hK
              have t34 := hf.in (i := 14) (d := 34) (by kernel_rfl) (hp 14 (by kernel_rfl)) (hJ.vals 14 _ rfl (hp 14 (by kernel_rfl)))
              obtain ⟨c0, c1, c2, c3, c4, c5, c6, c7⟩ := HCELLS.out wX hJ.below
              rw [if_pos (by rfl)]
              go_simp
              exact hK _ _ (hJ.val (Below.refl _ _) 15 _ (by kernel_rfl) rfl)
            case o16 =>
              intro L V aX wX K hl hp hcl hf hJ hK
              have t1 : aX.tmps[1]? = some (.slice (some ⟨b4, off4, none⟩) m cap2) := hf.old (by kernel_rfl) rfl
              rw [if_pos (by rfl)]
              go_simp
              exact hK _ _ (hJ.val (Below.refl _ _) 16 _ (by kernel_rfl) rfl)
            case o17 =>
              intro L V aX wX K hl hp hcl hf hJ hK
              have t6 : aX.tmps[6]? = some (.int .i64 (k : Int)) := hf.old (by kernel_rfl) rfl
              rw [if_pos (by rfl)]
              go_simp
              exact hK _ _ (hJ.val (Below.refl _ _) 17 _ (by kernel_rfl) rfl)
            case o18 =>
              intro L V aX wX K hl hp hcl hf hJ hK
              have t37 := hf.in (i := 17) (d := 37) (by kernel_rfl) (hp 17 (by kernel_rfl)) (hJ.vals 17 _ rfl (hp 17 (by kernel_rfl)))
              rw [if_pos (by rfl)]
              go_simp
              exact hK _ _ (hJ.val (Below.refl _ _) 18 _ (by kernel_rfl) rfl)
            case o19 =>
              intro L V aX wX K hl hp hcl hf hJ hK
              have t1 : aX.tmps[1]? = some (.slice (some ⟨b4, off4, none⟩) m cap2) := hf.old (by kernel_rfl) rfl
              rw [if_pos (by rfl)]
              go_simp
              exact hK _ _ (hJ.val (Below.refl _ _) 19 _ (by kernel_rfl) rfl)
            case o20 =>
              intro L V aX wX K hl hp hcl hf hJ hK
              have t39 := hf.in (i := 19) (d := 39) (by kernel_rfl) (hp 19 (by kernel_rfl)) (hJ.vals 19 _ rfl (hp 19 (by kernel_rfl)))
              rw [if_pos (by rfl)]
              go_simp
              exact hK _ _ (hJ.val (Below.refl _ _) 20 _ (by kernel_rfl) rfl)
            case o21 =>
              intro L V aX wX K hl hp hcl hf hJ hK
              have t38 := hf.in (i := 18) (d := 38) (by kernel_rfl) (hp 18 (by kernel_rfl)) (hJ.vals 18 _ rfl (hp 18 (by kernel_rfl)))
              have t40 := hf.in (i := 20) (d := 40) (by kernel_rfl) (hp 20 (by kernel_rfl)) (hJ.vals 20 _ rfl (hp 20 (by kernel_rfl)))
              have hnz : ¬ m = 0 := by omega
              rw [if_pos (by rfl)]
              go_simp
              exact hK _ _ (hJ.val (Below.refl _ _) 21 _ (by kernel_rfl) rfl)
            case o22 =>
              intro L V aX wX K hl hp hcl hf hJ hK
              have t36 := hf.in (i := 16) (d := 36) (by kernel_rfl) (hp 16 (by kernel_rfl)) (hJ.vals 16 _ rfl (hp 16 (by kernel_rfl)))
              have t41 := hf.in (i := 21) (d := 41) (by kernel_rfl) (hp 21 (by kernel_rfl)) (hJ.vals 21 _ rfl (hp 21 (by kernel_rfl)))
              rw [if_pos (by rfl)]
              go_simp
              exact hK _ _ (hJ.val (Below.refl _ _) 22 _ (by kernel_rfl) rfl)
            case o23 =>
              intro L V aX wX K hl hp hcl hf hJ hK
              have t42 := hf.in (i := 22) (d := 42) (by kernel_rfl) (hp 22 (by kernel_rfl)) (hJ.vals 22 _ rfl (hp 22 (by kernel_rfl)))
              obtain ⟨c0, c1, c2, c3, c4, c5, c6, c7⟩ := HCELLS.out wX hJ.below
              rw [if_pos (by rfl)]
              go_simp
              exact hK _ _ (hJ.val (Below.refl _ _) 23 _ (by kernel_rfl) rfl)
            case o24 =>
              intro L V aX wX K hl hp hcl hf hJ hK
              have t23 := hf.in (i := 3) (d := 23) (by kernel_rfl) (hp 3 (by kernel_rfl)) (hJ.vals 3 _ rfl (hp 3 (by kernel_rfl)))
              have t31 := hf.in (i := 11) (d := 31) (by kernel_rfl) (hp 11 (by kernel_rfl)) (hJ.vals 11 _ rfl (hp 11 (by kernel_rfl)))
              have t35 := hf.in (i := 15) (d := 35) (by kernel_rfl) (hp 15 (by kernel_rfl)) (hJ.vals 15 _ rfl (hp 15 (by kernel_rfl)))
              have t43 := hf.in (i := 23) (d := 43) (by kernel_rfl) (hp 23 (by kernel_rfl)) (hJ.vals 23 _ rfl (hp 23 (by kernel_rfl)))
              rw [if_pos (by rfl)]
              go_simp
              refine (HM.out _).mono ?_
              rintro e wA ⟨rfl, hgr⟩
              exact hK _ _ (hJ.val (hgr) 24 _ (by kernel_rfl) rfl)
            case o25 =>
              intro L V aX wX K hl hp hcl hf hJ hK
              have t44 := hf.in (i := 24) (d := 44) (by kernel_rfl) (hp 24 (by kernel_rfl)) (hJ.vals 24 _ rfl (hp 24 (by kernel_rfl)))
              rw [if_pos (by rfl)]
              go_simp
              exact hK _ _ (hJ.val (Below.refl _ _) 25 _ (by kernel_rfl) rfl)
          intro V wC hJ
          have hv := hJ.vals 25 _ rfl (by kernel_rfl)
          have HBW := Lib.hid hJ.below
          simp only [puts, Act.put, List.setIfInBounds_toArray, List.set_cons_zero, List.set_cons_succ]
          rw [hv]
          clear hJ hv
          have HB : Hid (Below w.heap.size w wC) := Lib.hid (hg2.out.trans (HBW.out.mono hg2.out.size))
          clear HCELLS HBW
          have hcs : c = 0 ∨ c = 1 ∨ c = 2 ∨ c = 3 := by omega
          have hlast : ∀ b, f i k = b → b = false → ∀ t, t < k + 1 → f i t = false := fun b h1 h2 t ht => by
            by_cases htk : t < k
            · exact hno2.out t htk
            · obtain rfl : t = k := by omega
              rw [h1, h2]
          have HLA := Lib.hid hlast
          clear hlast hle
          rcases hcs with rfl | rfl | rfl | rfl
          · go_wp2_with fail
            go_roundw
            case rel => exact ⟨k + 1, by omega, by go_num, Lib.hid (HLA.out _ HFC.out rfl), HB⟩
            case measure => simp [intOf]; omega
          · go_wp2_with fail
            go_roundw
            case rel => exact ⟨k + 1, by omega, by go_num, Lib.hid (HLA.out _ HFC.out rfl), HB⟩
            case measure => simp [intOf]; omega
          · go_wp2_with fail
            go_ret
            exact ⟨by rw [HR.out, List.any_eq_true.2 ⟨i, List.mem_range.2 HIK.out.1, List.any_eq_true.2 ⟨k, List.mem_range.2 HIK.out.2, HFC.out⟩⟩]; rfl, HB.out⟩
          · go_wp2_with fail
            go_ret
            exact ⟨by rw [HR.out, List.any_eq_true.2 ⟨i, List.mem_range.2 HIK.out.1, List.any_eq_true.2 ⟨k, List.mem_range.2 HIK.out.2, HFC.out⟩⟩]; rfl, HB.out⟩
        · obtain rfl : k = m := by omega
          go_wp2_with fail
          refine ⟨⟨i + 1, by omega, by go_num, Lib.hid (fun s t hs ht => ?_), hg2⟩, by simp [intOf]; omega⟩
          by_cases hsi : s < i
          · exact hno.out s t hsi ht
          · obtain rfl : s = i := by omega
            exact hno2.out t ht
    · obtain rfl : i = n := by omega
      go_wp2_with fail
      go_ret
      refine ⟨?_, hg.out⟩
      have : r = false := by
        rw [HR.out, List.any_eq_false]
        intro s hs
        rw [Bool.not_eq_true, List.any_eq_false]
        intro t ht
        rw [hno.out s t (List.mem_range.1 hs) (List.mem_range.1 ht)]
        simp
      rw [this]
      rfl
end Go.Proofs.YtdikecfplohpeaaGreat

/- the document's region: Check, the ring's Check given -/
set_option linter.unusedSimpArgs false
set_option linter.unusedVariables false
namespace Go.Proofs.YtdikecfplohpeaaGreat
open Go.RowKit Go.Shelf Go.Geo
attribute [local go_sem] Oper.semAt_some
theorem badPair_true {R : List (List Pt)} {i k : Nat} (h1 : i < k) (h2 : k < R.length) (h : ringsMeet (R.getD i []) (R.getD k []) = true) : badPair R i = true := by
  unfold badPair
  rw [List.any_eq_true]
  refine ⟨R.getD k [], ?_, h⟩
  rw [List.getD_eq_getElem?_getD, List.getElem?_eq_getElem h2, Option.getD_some]
  rw [List.mem_iff_getElem]
  refine ⟨k - (i + 1), by rw [List.length_drop]; omega, ?_⟩
  rw [List.getElem_drop]
  congr 1
  omega
theorem badPair_false {R : List (List Pt)} {i : Nat} (h : ∀ k, i < k → k < R.length → ringsMeet (R.getD i []) (R.getD k []) = false) : badPair R i = false := by
  unfold badPair
  rw [List.any_eq_false]
  intro s hs
  obtain ⟨j, hj, rfl⟩ := List.mem_iff_getElem.1 hs
  rw [List.length_drop] at hj
  rw [List.getElem_drop]
  have := h (i + 1 + j) (by omega) (by omega)
  rw [List.getD_eq_getElem?_getD (l := R) (i := i + 1 + j), List.getElem?_eq_getElem (by omega), Option.getD_some] at this
  rw [this]
  simp
theorem three_stepB {W w1 w2 : World} {B1 B2 B3 o1 o2 o3 : Nat} {v1 v2 v3 : Value} (hb : Below w1.heap.size w1 w2)
    (h1 : w1.cell? ⟨B1, o1, none⟩ = some v1) (h2 : w1.cell? ⟨B2, o2, none⟩ = some v2) (h3 : w1.cell? ⟨B3, o3, none⟩ = some v3) (h7 : Below W.heap.size W w1) :
    w2.cell? ⟨B1, o1, none⟩ = some v1 ∧ w2.cell? ⟨B2, o2, none⟩ = some v2 ∧ w2.cell? ⟨B3, o3, none⟩ = some v3 ∧ Below W.heap.size W w2 :=
  ⟨(hb.cell (p := ⟨B1, o1, none⟩) (block_lt_of_cell h1)).trans h1, (hb.cell (p := ⟨B2, o2, none⟩) (block_lt_of_cell h2)).trans h2, (hb.cell (p := ⟨B3, o3, none⟩) (block_lt_of_cell h3)).trans h3, h7.trans (hb.mono h7.size)⟩
set_option maxRecDepth 100000 in
set_option maxHeartbeats 8000000 in
theorem rRegionCheck_of (hring : ∀ (ao : Option Addr) (n cap : Nat) (P : List Pt) (w : World), IsPts w ao n cap P → Calls Tryz.prog 23 #[.slice ao n cap] w fun e w' => e = .returned (faultV (ringCheckP P)) ∧ Below w.heap.size w w')
    (ao : Option Addr) (n cap : Nat) (R : List (List Pt)) (w : World) (h : IsRings w ao n cap R) (hs : sumLen R ≤ 1000000000000) :
    Calls Tryz.prog 8 #[.agg #[.slice ao n cap]] w fun e w' => e = .returned (faultV (regionCheckP R)) ∧ Below w.heap.size w w' := by
  have HI := Lib.hid h
  have HRI := Lib.hid hring
  have HS := Lib.hid hs
  have hcm := h.2.2.1
  have hnc := h.2.1
  have HL := Lib.hid h.1
  unfold maxLen at hcm
  obtain ⟨W0, hW0⟩ : ∃ W, W = (w.alloc (.cells #[.slice ao n cap] 24)).alloc (.cells #[.int .i64 0, .int .i64 0] 32) := ⟨_, rfl⟩
  have a0 : W0.heap[w.heap.size]? = some (.cells #[.slice ao n cap] 24 (0, 0)) := by rw [hW0]; exact (Below.heap_alloc _ _ _ (by simp)).trans (alloc_new _ _)
  have a1 : W0.heap[w.heap.size + 1]? = some (.cells #[.int .i64 0, .int .i64 0] 32 (0, 0)) := by rw [hW0]; exact alloc_new2 _ _ _
  have hs0 : W0.heap.size = w.heap.size + 2 := by rw [hW0]; simp
  have hg0 : Below w.heap.size w W0 := by rw [hW0]; exact ((Below.refl _ _).alloc (Nat.le_refl _) _).alloc (by simp) _
  have H0 := Lib.hid (And.intro a0 (And.intro a1 (And.intro hs0 hg0)))
  have c0 : W0.cell? ⟨w.heap.size, 0, none⟩ = some (.slice ao n cap) := cell_of_row _ _ _ _ _ _ a0
  have HC : Hid (∀ wr, Below W0.heap.size W0 wr → wr.cell? ⟨w.heap.size, 0, none⟩ = some (.slice ao n cap)) := Lib.hid (fun wr hb => cell_of_row _ _ _ _ _ _ ((hb.block w.heap.size (by omega)).trans a0))
  have HIW : Hid (∀ wr, Below W0.heap.size W0 wr → IsRings wr ao n cap R) := Lib.hid (fun wr hb => (h.later hg0 (Nat.le_refl _)).later hb (Nat.le_refl _))
  rw [hW0] at c0
  clear h hs a0 a1 hs0 hg0 hring
  obtain ⟨fx, hfx⟩ : ∃ f, f = regionCheckP R := ⟨_, rfl⟩
  rw [← hfx]
  have HFX := Lib.hid hfx
  clear hfx
  by_cases hlong : 20 < n
  · have hl1 : (20 : Int) < (n : Int) := by omega
    have hres : Hid (fx = (3, 0)) := Lib.hid (by rw [HFX.out]; unfold regionCheckP; rw [HL.out, if_pos hlong])
    clear hW0
    go_enter Tryz.func8, Tryz.ntmps8
    go_wp2_with fail
    first
    | exact bodyPost_ret (results_cell_row rfl _ _ _ _ _ _ _ rfl (alloc_new2 _ _ _) Tryz.underlying32 rfl (by kernel_rfl)) rfl ⟨by rw [hres.out]; rfl, ((Below.refl _ _).alloc (Nat.le_refl _) _).alloc (by simp) _⟩
    | (trace_state; sorry)
  · have hl1 : ¬ (20 : Int) < (n : Int) := by omega
    by_cases hzero : n = 0
    · subst hzero
      have hres : Hid (fx = (2, 0)) := Lib.hid (by rw [HFX.out]; unfold regionCheckP; rw [HL.out]; rfl)
      clear hW0
      go_enter Tryz.func8, Tryz.ntmps8
      go_wp2_with fail
      first
      | exact bodyPost_ret (results_cell_row rfl _ _ _ _ _ _ _ rfl (alloc_new2 _ _ _) Tryz.underlying32 rfl (by kernel_rfl)) rfl ⟨by rw [hres.out]; rfl, ((Below.refl _ _).alloc (Nat.le_refl _) _).alloc (by simp) _⟩
      | (trace_state; sorry)
    · have hl2 : ((n : Int) == 0) = false := by simp; omega
      have hn0 : 0 < n := by omega
      have HN : Hid (¬ 20 < n ∧ ¬ n = 0) := Lib.hid ⟨hlong, hzero⟩
      clear hlong hzero
      go_enter Tryz.func8, Tryz.ntmps8
      go_wp2_with fail
      rw [← hW0]
      clear hW0 c0
      go_loopw [3, 4] (fun s i wr => ∃ k : Nat, k ≤ n ∧ i = .int .i64 k ∧ (∃ t : Nat, s = .int .i64 t ∧ Hid (t = sumLen (R.take k))) ∧ wr = W0) (fun s i _ => n - (intOf i).toNat)
      case atStart => exact ⟨0, by omega, rfl, ⟨0, rfl, rfl⟩, rfl⟩
      case round =>
        obtain ⟨k, hk, rfl, ⟨t, rfl, ht⟩, rfl⟩ := hrel
        have htb : (t : Int) ≤ 1000000000000 := by have h1 := sumLen_take_le R k; have h2 := HS.out; have h3 := ht.out; omega
        have ht0 : (0 : Int) ≤ (t : Int) := by omega
        have c1 := HC.out wr (Below.refl _ _)
        by_cases hlt : k < n
        · have hi0 : (0 : Int) ≤ (k : Int) := by omega
          have hi5 : (k : Int) < (n : Int) := by omega
          obtain ⟨b, off, x, y, z, rfl, e0, hp⟩ := (HIW.out wr (Below.refl _ _)).2.2.2.2 k hlt
          have hy : (y : Int) ≤ 1000000000000 := by
            have h1 := hp.1
            have h2 := sumLen_get (g := R) (k := k) (by rw [HL.out]; exact hlt)
            have h3 := HS.out
            omega
          have hy0 : (0 : Int) ≤ (y : Int) := by omega
          have HT : Hid (t + y = sumLen (R.take (k + 1))) := Lib.hid (by rw [sumLen_take (by rw [HL.out]; exact hlt), ← ht.out, hp.1])
          clear hp
          go_wp2_with fail
          go_roundw
          case rel => exact ⟨k + 1, by omega, by go_num, ⟨t + y, by go_num, HT⟩, by first | trivial | rfl⟩
          case measure => simp [intOf]; omega
        · obtain rfl : n = k := by omega
          have hi5 : ¬ ((n : Int) < (n : Int)) := by omega
          have HT : Hid (t = sumLen R) := Lib.hid (by have := ht.out; rw [List.take_of_length_le (by rw [HL.out]; exact Nat.le_refl _)] at this; exact this)
          clear ht
          by_cases h3 : 400 < t
          · have t3 : (400 : Int) < (t : Int) := by omega
            have hres : Hid (fx = (211, 0)) := Lib.hid (by rw [HFX.out]; unfold regionCheckP; rw [HL.out, if_neg HN.out.1, if_neg HN.out.2, ← HT.out, if_pos h3])
            obtain ⟨k0, k1, f0, f1, HG⟩ := fault_cellsR H0.out.2.2.1 H0.out.2.2.2 H0.out.2.1 (Below.refl _ _)
            clear h3
            go_wp2_with fail
            exact fault_endG (Nat.le_succ _) rfl rfl rfl HG rfl hres.out
          · have t3 : ¬ (400 : Int) < (t : Int) := by omega
            have HSZ : Hid (sizeRP R.length (sumLen R) = 0) := Lib.hid (by unfold sizeRP; rw [HL.out, if_neg HN.out.1, if_neg HN.out.2, ← HT.out, if_neg h3])
            clear h3
            go_wp2_with fail
            obtain ⟨wA, hwA⟩ : ∃ x, x = wr := ⟨_, rfl⟩
            subst hwA
            go_loopw [5] (fun i wr => ∃ k : Nat, k ≤ n ∧ i = .int .i64 k ∧ Hid (∀ j, j < k → badRing R j = false) ∧ Hid (Below wA.heap.size wA wr)) (fun i _ => n - (intOf i).toNat)
            case atStart => exact ⟨0, by omega, rfl, Lib.hid (fun j hj => absurd hj (by omega)), Below.refl _ _⟩
            case round =>
              clear c1
              obtain ⟨k, hk, rfl, hq, hb⟩ := hrel
              have c1 := HC.out wr hb.out
              by_cases hlt : k < n
              · have hi0 : (0 : Int) ≤ (k : Int) := by omega
                have hi5 : (k : Int) < (n : Int) := by omega
                obtain ⟨b, off, x, y, z, rfl, e0, hp⟩ := (HIW.out wr hb.out).2.2.2.2 k hlt
                have HCR := Lib.hid (HRI.out x y z (R.getD k []) wr hp)
                have hbr : badRing R k = decide ((ringCheckP (R.getD k [])).1 ≠ 0) := rfl
                obtain ⟨f, hf⟩ : ∃ f, f = ringCheckP (R.getD k []) := ⟨_, rfl⟩
                rw [← hf] at HCR hbr
                have HBR := Lib.hid hbr
                have HF := Lib.hid hf
                obtain ⟨f, g⟩ := f
                clear hp hbr hf
                unfold faultV at HCR
                dsimp only at HCR
                go_wp2_with fail
                refine HCR.out.mono ?_
                rintro e w2 ⟨rfl, hb2⟩
                have hb3 : Below wA.heap.size wA (w2.alloc (.cells #[.int .i64 f, .int .i64 g] 32)) := (hb.out.trans (hb2.mono hb.out.size)).alloc (Nat.le_trans hb.out.size hb2.size) _
                have HB3 := Lib.hid hb3
                clear hb2 e0 c1
                by_cases hz : f = 0
                · subst hz
                  clear hb3
                  go_wp2_with fail
                  go_roundw
                  case rel =>
                    refine ⟨k + 1, by omega, by go_num, Lib.hid fun j hj => ?_, HB3⟩
                    by_cases hik : j < k
                    · exact hq.out j hik
                    · obtain rfl : j = k := by omega
                      rw [HBR.out]; rfl
                  case measure => simp [intOf]; omega
                · obtain ⟨k0, k1, f0, f1, HG⟩ := fault_cellsR H0.out.2.2.1 H0.out.2.2.2 H0.out.2.1 hb3
                  have hzz : (f == 0) = false := by simp [hz]
                  have hzz2 : (f != 0) = true := by simp [hz]
                  have HNZ := Lib.hid hz
                  clear hz hb3
                  go_wp2_with fail
                  refine fault_endG (Nat.le_succ _) rfl rfl rfl HG rfl ?_
                  rw [HFX.out, regionCheck_ring HSZ.out (by rw [HL.out]; exact hlt) hq.out (by rw [HBR.out]; exact decide_eq_true HNZ.out), ← HF.out]
              · have hkn : n = k := by omega
                subst hkn
                have HRC : Hid (fx = match firstP R.length (badPair R) with
                  | some i => (210, (i : Int))
                  | none => (0, 0)) := Lib.hid (by rw [HFX.out]; exact regionCheck_rest HSZ.out (by rw [HL.out]; exact hq.out))
                clear hq
                go_wp2_with fail
                go_loopw [7] (fun i wr => ∃ j : Nat, j ≤ n ∧ i = .int .i64 j ∧ Hid (∀ t, t < j → badPair R t = false) ∧ Hid (Below wA.heap.size wA wr)) (fun i _ => n - (intOf i).toNat)
                case atStart => exact ⟨0, by omega, rfl, Lib.hid (fun j hj => absurd hj (by omega)), hb⟩
                case round =>
                  clear c1 hb
                  obtain ⟨j, hj, rfl, hq, hb⟩ := hrel
                  have c1 := HC.out wr hb.out
                  by_cases hlt : j < n
                  · have hj0 : (0 : Int) ≤ (j : Int) := by omega
                    have hj5 : (j : Int) < (n : Int) := by omega
                    have hwj : IntKind.i64.wrap ((j : Int) + 1) = (j : Int) + 1 := IntWalk.i64_in _ (by omega)
                    go_wp2_with fail
                    obtain ⟨wB, hwB⟩ : ∃ x, x = wr := ⟨_, rfl⟩
                    subst hwB
                    go_loopw [8] (fun i wr => ∃ k : Nat, j + 1 ≤ k ∧ k ≤ n ∧ i = .int .i64 k ∧ Hid (∀ t, j < t → t < k → ringsMeet (R.getD j []) (R.getD t []) = false) ∧ Hid (Below wA.heap.size wA wr)) (fun i _ => n - (intOf i).toNat)
                    case atStart => exact ⟨j + 1, Nat.le_refl _, by omega, by go_num, Lib.hid (fun t h1 h2 => absurd h2 (by omega)), hb⟩
                    case round =>
                      clear c1
                      obtain ⟨k, hk1, hk2, rfl, hno, hb2⟩ := hrel
                      have c1 := HC.out wr hb2.out
                      by_cases hlt2 : k < n
                      · have hk0 : (0 : Int) ≤ (k : Int) := by omega
                        have hk5 : (k : Int) < (n : Int) := by omega
                        have hrs := HIW.out wr hb2.out
                        obtain ⟨b, off, x, y, z, rfl, e0, hp⟩ := hrs.2.2.2.2 j hlt
                        obtain ⟨b', off', x', y', z', hbo, e1, hp'⟩ := hrs.2.2.2.2 k hlt2
                        cases hbo
                        have hM : ∀ wX, Below wr.heap.size wr wX → _ := fun wX hX => rmeet_any x y z (R.getD j []) x' y' z' (R.getD k []) wX (hp.later hX (Nat.le_refl _)) (hp'.later hX (Nat.le_refl _))
                        obtain ⟨v, hv⟩ : ∃ v, v = ringsMeet (R.getD j []) (R.getD k []) := ⟨_, rfl⟩
                        rw [← hv] at hM
                        have HM := Lib.hid hM
                        have HV := Lib.hid hv
                        clear hM hv hrs hp hp'
                        go_wp2_with fail
                        go_region_held3 (fun w' => w'.cell? ⟨w.heap.size, 0, none⟩ = some (.slice (some ⟨b, off, none⟩) n cap) ∧ w'.cell? ⟨b, off + j, none⟩ = some (.slice x y z) ∧ w'.cell? ⟨b, off + k, none⟩ = some (.slice x' y' z') ∧ Below wr.heap.size wr w')
                          (first
                            | (exact ⟨c1, e0, e1, (Below.refl _ _).drew⟩)
                            | (go_split_ands; refine three_stepB hgr ?_ ?_ ?_ ?_; all_goals assumption))
                          (first
                            | (go_at_call 24; go_split_ands; refine (HM.out _ (by assumption)).mono ?_; rintro e wC ⟨rfl, hgr⟩)
                            | fail)
                        have HB : Hid (Below wr.heap.size wr wC) := Lib.hid (by first | assumption | (go_split_ands; assumption))
                        have HBA : Hid (Below wA.heap.size wA wC) := Lib.hid (hb2.out.trans (HB.out.mono hb2.out.size))
                        clear e0 e1 c1 HB
                        cases v with
                        | true =>
                          obtain ⟨k0, k1, f0, f1, HG⟩ := fault_cellsR H0.out.2.2.1 H0.out.2.2.2 H0.out.2.1 HBA.out
                          go_wp2_with fail
                          refine fault_endG (Nat.le_succ _) rfl rfl rfl HG rfl ?_
                          rw [HRC.out, firstP_some (by rw [HL.out]; exact hlt) (badPair_true (show j < k by omega) (by rw [HL.out]; exact hlt2) HV.out.symm) hq.out]
                        | false =>
                          go_wp2_with fail
                          go_roundw
                          case rel =>
                            refine ⟨k + 1, by omega, by omega, by go_num, Lib.hid fun t h1 h2 => ?_, HBA⟩
                            by_cases hik : t < k
                            · exact hno.out t h1 hik
                            · obtain rfl : t = k := by omega
                              exact HV.out.symm
                          case measure => simp [intOf]; omega
                      · have hkn : n = k := by omega
                        subst hkn
                        have HBP : Hid (badPair R j = false) := Lib.hid (badPair_false (fun k h1 h2 => hno.out k h1 (by rw [← HL.out]; exact h2)))
                        clear hno
                        go_wp2_with fail
                        go_roundw
                        case rel =>
                          refine ⟨j + 1, by omega, by go_num, Lib.hid fun t ht => ?_, hb2⟩
                          by_cases hik : t < j
                          · exact hq.out t hik
                          · obtain rfl : t = j := by omega
                            exact HBP.out
                        case measure => simp [intOf]; omega
                  · have hjn : n = j := by omega
                    subst hjn
                    obtain ⟨k0, k1, f0, f1, HG⟩ := fault_cellsR H0.out.2.2.1 H0.out.2.2.2 H0.out.2.1 hb.out
                    go_wp2_with fail
                    refine fault_endG (Nat.le_succ _) rfl rfl rfl HG rfl ?_
                    rw [HRC.out, firstP_none (by rw [HL.out]; exact hq.out)]
end Go.Proofs.YtdikecfplohpeaaGreat

/- the law's at, box, of, s, t, u -/
import Derived.Test.YtjiiikeniocmfaaGreatMQRCheck
import Derived.Test.YtjiiikeniocmfaaGreatMR10b
import Derived.IntWalk
import Derived.Test.YtjiiikeniocmfaaGreatMRegS
set_option linter.unusedSimpArgs false
set_option linter.unusedVariables false
namespace Go.Proofs.YtjiiikeniocmfaaGreat
open Go.RowKit Go.Geo
attribute [local go_sem] Oper.semAt_some
end Go.Proofs.YtjiiikeniocmfaaGreat

/- the document's ring: at, twice -/
set_option linter.unusedSimpArgs false
set_option linter.unusedVariables false
namespace Go.Proofs.YtjiiikeniocmfaaGreat
open Go.RowKit Go.Shelf Go.Geo
attribute [local go_sem] Oper.semAt_some
set_option maxRecDepth 100000 in
set_option maxHeartbeats 2000000 in
theorem rat_any (ao : Option Addr) (n cap : Nat) (P : List Pt) (i m : Int) (q : Nat) (w : World) (h : IsPts w ao n cap P) (hq : q < n) (hm : Int.tmod i n = m) (hm1 : -(n : Int) ≤ m) (hm2 : m ≤ n) (hq2 : Int.tmod (m + n) n = q) (hnb : n ≤ 1000000000000) :
    Calls Tryz.prog 122 #[.slice ao n cap, .int .i64 i] w fun e w' => e = .returned (ptV (P.getD q p0)) ∧ Grew w w' := by
  have hga : Grew w (w.alloc (.cells #[.int .i64 0, .int .i64 0] 24)) := (Grew.refl w).alloc _
  obtain ⟨b2, off2, rfl, e0, e1⟩ := (h.later hga.1 (Nat.le_refl _)).at hq
  obtain ⟨x, hx⟩ : ∃ x, x = P.getD q p0 := ⟨_, rfl⟩
  rw [← hx] at e0 e1 ⊢
  clear hga h hx
  have hq0 : (0 : Int) ≤ (q : Int) := by omega
  have hq1 : (q : Int) < (n : Int) := by omega
  have hz : ((n : Int) == 0) = false := by simp; omega
  have hz2 : ¬ (n : Int) = 0 := by omega
  have hwr : IntKind.i64.wrap (m + (n : Int)) = m + (n : Int) := IntWalk.i64_in _ (by omega)
  have hwm : IntKind.i64.wrap m = m := IntWalk.i64_in _ (by omega)
  have hwq : IntKind.i64.wrap (q : Int) = (q : Int) := IntWalk.i64_in _ (by omega)
  unfold ptV
  go_enter Tryz.func122, Tryz.ntmps122
  go_wp2_with fail
  first
  | exact bodyPost_ret (results_point rfl rfl (alloc_new _ _)) rfl ⟨rfl, (Grew.refl _).alloc _⟩
set_option maxRecDepth 100000 in
set_option maxHeartbeats 2000000 in
theorem rtwice_any (ao : Option Addr) (n cap : Nat) (P : List Pt) (j : Nat) (w : World) (h : IsPts w ao n cap P) (hj : j < n) :
    Calls Tryz.prog 92 #[.slice ao n cap, .int .i64 j] w fun e w' => e = .returned (.bool (twiceP P j)) ∧ Grew w w' := by
  have HI := Lib.hid h
  have HL : Hid (P.length = n) := h.1
  have hcm := h.2.2.1
  have hnc := h.2.1
  unfold maxLen at hcm
  obtain ⟨x, hx⟩ : ∃ x, x = P.getD j p0 := ⟨_, rfl⟩
  obtain ⟨r, hr⟩ : ∃ r, r = twiceP P j := ⟨_, rfl⟩
  rw [← hr]
  unfold twiceP at hr
  rw [← hx] at hr
  have HR := Lib.hid hr
  have HX := Lib.hid hx
  have hj0 : (0 : Int) ≤ (j : Int) := by omega
  have hj1 : (j : Int) < (n : Int) := by omega
  clear h hr hx
  go_enter Tryz.func92, Tryz.ntmps92
  go_wp2
  go_loopw [5] (fun i wr => ∃ k : Nat, k ≤ j ∧ i = .int .i64 k ∧ Hid (x ∉ P.take k) ∧ Hid (Grew w wr)) (fun i _ => j - (intOf i).toNat)
  case atStart => exact ⟨0, by omega, rfl, Lib.hid (by simp), Grew.refl _⟩
  case round =>
    obtain ⟨k, hk, rfl, hnot, hg⟩ := hrel
    by_cases hlt : k < j
    · have hk0 : (0 : Int) ≤ (k : Int) := by omega
      have hk1 : (k : Int) < (n : Int) := by omega
      have hk2 : (k : Int) < (j : Int) := by omega
      have hpw := HI.out.later hg.out.1 (Nat.le_refl _)
      obtain ⟨b2, off2, rfl, e0, e1⟩ := hpw.at (show k < n by omega)
      obtain ⟨b3, off3, hbo, f0, f1⟩ := hpw.at hj
      cases hbo
      rw [← HX.out] at f0 f1
      obtain ⟨y, hy⟩ : ∃ y, y = P.getD k p0 := ⟨_, rfl⟩
      rw [← hy] at e0 e1
      have HT : Hid (P.take (k + 1) = P.take k ++ [y]) := Lib.hid (by rw [hy]; exact take_more (by rw [HL.out]; omega))
      have HTJ : Hid (y ∈ P.take j) := Lib.hid (by rw [hy]; exact List.mem_iff_getElem.2 ⟨k, by rw [List.length_take, HL.out]; omega, by rw [List.getElem_take, List.getD_eq_getElem?_getD, List.getElem?_eq_getElem (by rw [HL.out]; omega)]; rfl⟩)
      have heq := run_eq_pt y x
      obtain ⟨z, hz⟩ : ∃ z, z = decide (y = x) := ⟨_, rfl⟩
      rw [← hz] at heq
      have HZ := Lib.hid hz
      clear hy hz hpw
      cases z with
      | true =>
        go_wp2_with fail
        try go_region
        try go_wp2_with fail
        go_ret
        refine ⟨?_, by first | exact hg.out | exact hg.out.drew⟩
        rw [HR.out, decide_eq_true (by rw [← of_decide_eq_true HZ.out.symm]; exact HTJ.out)]
        rfl
      | false =>
        go_wp2_with fail
        try go_region
        try go_wp2_with fail
        go_roundw
        case rel =>
          refine ⟨k + 1, by omega, by go_num, Lib.hid ?_, by first | exact hg | exact Lib.hid hg.out.drew⟩
          rw [HT.out]
          have h1 := hnot.out
          have h2 := of_decide_eq_false HZ.out.symm
          simp only [List.mem_append, List.mem_singleton, not_or]
          exact ⟨h1, fun h => h2 h.symm⟩
        case measure => simp [intOf]; omega
    · obtain rfl : k = j := by omega
      go_wp2_with fail
      go_ret
      exact ⟨by rw [HR.out, decide_eq_false hnot.out]; rfl, hg.out⟩
end Go.Proofs.YtjiiikeniocmfaaGreat

/- the document's ring: meets -/
set_option linter.unusedSimpArgs false
set_option linter.unusedVariables false
namespace Go.Proofs.YtjiiikeniocmfaaGreat
open Go.RowKit Go.Shelf Go.Geo
attribute [local go_sem] Oper.semAt_some
theorem rat_next (ao : Option Addr) (n cap : Nat) (P : List Pt) (k : Nat) (w : World) (h : IsPts w ao n cap P) (hk : k < n) (hnb : n ≤ 1000) :
    Calls Tryz.prog 122 #[.slice ao n cap, .int .i64 ((k : Int) + 1)] w fun e w' => e = .returned (ptV (atP P (k + 1))) ∧ Grew w w' := by
  have hn : 0 < n := by omega
  have hmod := Nat.mod_lt (k + 1) hn
  have h1 : Int.tmod ((k : Int) + 1) n = (((k + 1) % n : Nat) : Int) := by rw [Int.tmod_eq_emod_of_nonneg (by omega)]; rw [Int.natCast_emod]; rfl
  have h2 : Int.tmod ((((k + 1) % n : Nat) : Int) + n) n = (((k + 1) % n : Nat) : Int) := by
    rw [Int.tmod_eq_emod_of_nonneg (by omega), Int.add_emod_right, Int.emod_eq_of_lt (by omega) (by omega)]
  have hr := rat_any ao n cap P ((k : Int) + 1) _ _ w h hmod h1 (by omega) (by omega) h2 (by omega)
  unfold atP
  rw [h.1]
  exact hr
theorem four_stepB {W w1 w2 : World} {B1 B2 o1 o2 o3 o4 : Nat} {v1 v2 v3 v4 : Value} (hb : Below w1.heap.size w1 w2)
    (h1 : w1.cell? ⟨B1, o1, none⟩ = some v1) (h2 : w1.cell? ⟨B1, o2, none⟩ = some v2) (h3 : w1.cell? ⟨B2, o3, none⟩ = some v3) (h4 : w1.cell? ⟨B2, o4, none⟩ = some v4) (h7 : Below W.heap.size W w1) :
    w2.cell? ⟨B1, o1, none⟩ = some v1 ∧ w2.cell? ⟨B1, o2, none⟩ = some v2 ∧ w2.cell? ⟨B2, o3, none⟩ = some v3 ∧ w2.cell? ⟨B2, o4, none⟩ = some v4 ∧ Below W.heap.size W w2 :=
  ⟨(hb.cell (p := ⟨B1, o1, none⟩) (block_lt_of_cell h1)).trans h1, (hb.cell (p := ⟨B1, o2, none⟩) (block_lt_of_cell h2)).trans h2, (hb.cell (p := ⟨B2, o3, none⟩) (block_lt_of_cell h3)).trans h3, (hb.cell (p := ⟨B2, o4, none⟩) (block_lt_of_cell h4)).trans h4, h7.trans (hb.mono h7.size)⟩
set_option maxRecDepth 100000 in
set_option maxHeartbeats 4000000 in
theorem rmeets_any (ao : Option Addr) (n cap : Nat) (P : List Pt) (j : Nat) (w : World) (h : IsPts w ao n cap P) (hj : j < n) (hnb : n ≤ 1000) :
    Calls Tryz.prog 94 #[.slice ao n cap, .int .i64 j] w fun e w' => e = .returned (.bool (meetsP P j)) ∧ Below w.heap.size w w' := by
  have HI := Lib.hid h
  have HL : Hid (P.length = n) := h.1
  have HAT : Hid (∀ k, k < n → ∀ wX, Below w.heap.size w wX → Calls Tryz.prog 122 #[.slice ao n cap, .int .i64 ((k : Int) + 1)] wX fun e w' => e = .returned (ptV (atP P (k + 1))) ∧ Grew wX w') := Lib.hid (fun k hk wX hX => rat_next ao n cap P k wX (HI.out.later hX (Nat.le_refl _)) hk hnb)
  obtain ⟨x, hx⟩ : ∃ x, x = P.getD j p0 := ⟨_, rfl⟩
  obtain ⟨x2, hx2⟩ : ∃ x, x = atP P (j + 1) := ⟨_, rfl⟩
  have HA1 := Lib.hid (HAT.out j hj)
  rw [← hx2] at HA1
  obtain ⟨r, hr⟩ : ∃ r, r = meetsP P j := ⟨_, rfl⟩
  rw [← hr]
  have HR := Lib.hid hr
  have HX := Lib.hid hx
  have HX2 := Lib.hid hx2
  have hj0 : (0 : Int) ≤ (j : Int) := by omega
  have hj1 : (j : Int) < (n : Int) := by omega
  have hwj : IntKind.i64.wrap ((j : Int) + 1) = (j : Int) + 1 := IntWalk.i64_in _ (by omega)
  have hwj2 : IntKind.i64.wrap ((j : Int) + 2) = (j : Int) + 2 := IntWalk.i64_in _ (by omega)
  have hwn : IntKind.i64.wrap ((n : Int) - 1) = (n : Int) - 1 := IntWalk.i64_in _ (by omega)
  unfold ptV at HA1
  clear h hr hx hx2
  go_enter Tryz.func94, Tryz.ntmps94
  go_wp2_with fail
  go_loopw [5] (fun i wr => ∃ k : Nat, j + 2 ≤ k ∧ k ≤ n + 1 ∧ i = .int .i64 k ∧ Hid (∀ t, t < k → meetsAt P j t = false) ∧ Hid (Below w.heap.size w wr)) (fun i _ => n + 1 - (intOf i).toNat)
  case atStart =>
    refine ⟨j + 2, Nat.le_refl _, by omega, by go_num, Lib.hid (fun t ht => ?_), Below.refl _ _⟩
    unfold meetsAt
    rw [decide_eq_true ht]; rfl
  case round =>
    obtain ⟨k, hk1, hk2, rfl, hnot, hg⟩ := hrel
    by_cases hlt : k < n
    · have k0 : (0 : Int) ≤ (k : Int) := by omega
      have k1 : (k : Int) < (n : Int) := by omega
      have hwk : IntKind.i64.wrap ((k : Int) + 1) = (k : Int) + 1 := IntWalk.i64_in _ (by omega)
      by_cases hskip : j = 0 ∧ k + 1 = n
      · have s1 : (j : Int) = 0 := by omega
        have s2 : (k : Int) = (n : Int) - 1 := by omega
        have HSK := Lib.hid hskip
        clear hskip
        go_wp2_with fail
        go_roundw
        case rel =>
          refine ⟨k + 1, by omega, by omega, by go_num, Lib.hid (fun t ht => ?_), hg⟩
          by_cases htk : t < k
          · exact hnot.out t htk
          · obtain rfl : t = k := by omega
            unfold meetsAt
            rw [HL.out, decide_eq_true HSK.out.1, decide_eq_true HSK.out.2, Bool.and_true, Bool.or_true]; rfl
        case measure => simp [intOf]; omega
      · have hpw := HI.out.later hg.out (Nat.le_refl _)
        obtain ⟨b2, off2, rfl, e0, e1⟩ := hpw.at hj
        obtain ⟨b3, off3, hbo, f0, f1⟩ := hpw.at hlt
        cases hbo
        rw [← HX.out] at e0 e1
        obtain ⟨y, hy⟩ : ∃ y, y = P.getD k p0 := ⟨_, rfl⟩
        obtain ⟨y2, hy2⟩ : ∃ y, y = atP P (k + 1) := ⟨_, rfl⟩
        rw [← hy] at f0 f1
        have HA2 := Lib.hid (HAT.out k hlt)
        rw [← hy2] at HA2
        unfold ptV at HA2
        have HM := Lib.hid (rMeets_any x x2 y y2)
        obtain ⟨m, hm⟩ : ∃ m, m = meetK x x2 y y2 := ⟨_, rfl⟩
        rw [← hm] at HM
        have HMT : Hid (meetsAt P j k = decide (m ≠ 0)) := Lib.hid (by
          unfold meetsAt
          rw [decide_eq_false (show ¬ k < j + 2 by omega), show (decide (j = 0) && decide (k + 1 = P.length)) = false by
            rw [HL.out]
            by_cases h1 : j = 0
            · rw [decide_eq_false (fun h2 => hskip ⟨h1, h2⟩), Bool.and_false]
            · rw [decide_eq_false h1]; rfl]
          rw [hm, HX.out, HX2.out, hy, hy2]
          rfl)
        unfold ptV at HM
        have HSK := Lib.hid hskip
        clear hy hy2 hm hpw hskip
        have hcase : (j : Int) = 0 → ¬ (k : Int) = (n : Int) - 1 := fun h1 h2 => HSK.out ⟨by omega, by omega⟩
        by_cases hj00 : (j : Int) = 0
        · have hkn := hcase hj00
          have hkn2 : ((k : Int) == (n : Int) - 1) = false := by rw [beq_eq_false_iff_ne]; exact hkn
          have hjb : ((j : Int) == 0) = true := by rw [beq_iff_eq]; exact hj00
          clear hcase hj00
          go_wp2_with fail
          go_region_held3 (fun w' => w'.cell? ⟨b2, off2 + j * 2, none⟩ = some (.int .i64 x.x) ∧ w'.cell? ⟨b2, off2 + j * 2 + 1, none⟩ = some (.int .i64 x.y) ∧ w'.cell? ⟨b2, off2 + k * 2, none⟩ = some (.int .i64 y.x) ∧ w'.cell? ⟨b2, off2 + k * 2 + 1, none⟩ = some (.int .i64 y.y) ∧ Below w.heap.size w w')
            (first
              | (exact ⟨e0, e1, f0, f1, hg.out.drew⟩)
              | (go_split_ands; refine four_stepB hgr ?_ ?_ ?_ ?_ ?_; all_goals assumption))
            (first
              | (go_at_call 122; have hv := HA1; clear HA1; go_split_ands; refine (hv.out _ (by assumption)).mono ?_; rintro e wA ⟨rfl, hgr0⟩; have hgr := hgr0.1; clear hgr0)
              | (go_at_call 122; have hv := HA2; clear HA2; go_split_ands; refine (hv.out _ (by assumption)).mono ?_; rintro e wB ⟨rfl, hgr0⟩; have hgr := hgr0.1; clear hgr0)
              | (go_at_call 95; refine (HM.out _).mono ?_; rintro e wC ⟨rfl, hgr⟩))
          have HB : Hid (Below w.heap.size w wC) := Lib.hid (by first | assumption | (go_split_ands; assumption))
          clear e0 e1 f0 f1
          by_cases hm0 : m = 0
          · have hz1 : (m : Int) = 0 := by omega
            have HM0 := Lib.hid hm0
            clear hm0
            go_wp2_with fail
            go_roundw
            case rel =>
              refine ⟨k + 1, by omega, by omega, by go_num, Lib.hid (fun t ht => ?_), HB⟩
              by_cases htk : t < k
              · exact hnot.out t htk
              · obtain rfl : t = k := by omega
                rw [HMT.out, decide_eq_false (fun h => h HM0.out)]
            case measure => simp [intOf]; omega
          · have hz1 : ¬ (m : Int) = 0 := by omega
            have hz2 : ((m : Int) == 0) = false := by simp; omega
            have HM0 := Lib.hid hm0
            clear hm0
            go_wp2_with fail
            go_ret
            refine ⟨?_, HB.out⟩
            have hrt : meetsP P j = true := by
              unfold meetsP
              rw [List.any_eq_true]
              exact ⟨k, by rw [List.mem_range, HL.out]; omega, by rw [HMT.out]; exact decide_eq_true HM0.out⟩
            rw [HR.out, hrt]
            rfl
        · clear hcase
          go_wp2_with fail
          go_region_held3 (fun w' => w'.cell? ⟨b2, off2 + j * 2, none⟩ = some (.int .i64 x.x) ∧ w'.cell? ⟨b2, off2 + j * 2 + 1, none⟩ = some (.int .i64 x.y) ∧ w'.cell? ⟨b2, off2 + k * 2, none⟩ = some (.int .i64 y.x) ∧ w'.cell? ⟨b2, off2 + k * 2 + 1, none⟩ = some (.int .i64 y.y) ∧ Below w.heap.size w w')
            (first
              | (exact ⟨e0, e1, f0, f1, hg.out.drew⟩)
              | (go_split_ands; refine four_stepB hgr ?_ ?_ ?_ ?_ ?_; all_goals assumption))
            (first
              | (go_at_call 122; have hv := HA1; clear HA1; go_split_ands; refine (hv.out _ (by assumption)).mono ?_; rintro e wA ⟨rfl, hgr0⟩; have hgr := hgr0.1; clear hgr0)
              | (go_at_call 122; have hv := HA2; clear HA2; go_split_ands; refine (hv.out _ (by assumption)).mono ?_; rintro e wB ⟨rfl, hgr0⟩; have hgr := hgr0.1; clear hgr0)
              | (go_at_call 95; refine (HM.out _).mono ?_; rintro e wC ⟨rfl, hgr⟩))
          have HB : Hid (Below w.heap.size w wC) := Lib.hid (by first | assumption | (go_split_ands; assumption))
          clear e0 e1 f0 f1
          by_cases hm0 : m = 0
          · have hz1 : (m : Int) = 0 := by omega
            have HM0 := Lib.hid hm0
            clear hm0
            go_wp2_with fail
            go_roundw
            case rel =>
              refine ⟨k + 1, by omega, by omega, by go_num, Lib.hid (fun t ht => ?_), HB⟩
              by_cases htk : t < k
              · exact hnot.out t htk
              · obtain rfl : t = k := by omega
                rw [HMT.out, decide_eq_false (fun h => h HM0.out)]
            case measure => simp [intOf]; omega
          · have hz1 : ¬ (m : Int) = 0 := by omega
            have hz2 : ((m : Int) == 0) = false := by simp; omega
            have HM0 := Lib.hid hm0
            clear hm0
            go_wp2_with fail
            go_ret
            refine ⟨?_, HB.out⟩
            have hrt : meetsP P j = true := by
              unfold meetsP
              rw [List.any_eq_true]
              exact ⟨k, by rw [List.mem_range, HL.out]; omega, by rw [HMT.out]; exact decide_eq_true HM0.out⟩
            rw [HR.out, hrt]
            rfl
    · go_wp2_with fail
      go_ret
      refine ⟨?_, hg.out⟩
      have : meetsP P j = false := by
        unfold meetsP
        rw [List.any_eq_false]
        intro t ht
        rw [List.mem_range, HL.out] at ht
        rw [hnot.out t (by omega)]
        simp
      rw [HR.out, this]
      rfl
end Go.Proofs.YtjiiikeniocmfaaGreat

/- the document's region: meet -/
set_option linter.unusedSimpArgs false
set_option linter.unusedVariables false
namespace Go.Proofs.YtjiiikeniocmfaaGreat
open Go.RowKit Go.Shelf Go.Geo
attribute [local go_sem] Oper.semAt_some
theorem meetK_le (a b c d : Pt) : meetK a b c d ≤ 3 := by
  unfold meetK
  split
  · split
    · split <;> omega
    · omega
    · omega
  · omega
set_option maxRecDepth 100000 in
set_option maxHeartbeats 4000000 in
theorem rmeet_any (ao : Option Addr) (n cap : Nat) (P : List Pt) (bo : Option Addr) (m cap2 : Nat) (Q : List Pt) (w : World) (h : IsPts w ao n cap P) (h2 : IsPts w bo m cap2 Q) :
    Calls Tryz.prog 58 #[.slice ao n cap, .slice bo m cap2] w fun e w' => e = .returned (.bool (ringsMeet P Q)) ∧ Below w.heap.size w w' := by
  have HI := Lib.hid h
  have HI2 := Lib.hid h2
  have HL : Hid (P.length = n) := h.1
  have HL2 : Hid (Q.length = m) := h2.1
  have hcm := h.2.2.1
  have hnc := h.2.1
  have hcm2 := h2.2.2.1
  have hnc2 := h2.2.1
  unfold maxLen at hcm hcm2
  obtain ⟨f, hf⟩ : ∃ f : Nat → Nat → Bool, f = fun i k => decide (2 ≤ meetK (P.getD i p0) (atP P (i + 1)) (Q.getD k p0) (atP Q (k + 1))) := ⟨_, rfl⟩
  obtain ⟨r, hr⟩ : ∃ r, r = ringsMeet P Q := ⟨_, rfl⟩
  rw [← hr]
  have hr2 : r = (List.range n).any fun i => (List.range m).any fun k => f i k := by rw [hr, hf, ← HL.out, ← HL2.out]; rfl
  have HR := Lib.hid hr2
  have HF := Lib.hid hf
  clear h h2 hr hf hr2
  go_enter Tryz.func58, Tryz.ntmps58
  go_wp2
  go_loopw [5] (fun i wr => ∃ k : Nat, k ≤ n ∧ i = .int .i64 k ∧ Hid (∀ s t, s < k → t < m → f s t = false) ∧ Hid (Below w.heap.size w wr)) (fun i _ => n - (intOf i).toNat)
  case atStart => exact ⟨0, by omega, rfl, Lib.hid (fun s t hs => absurd hs (by omega)), Below.refl _ _⟩
  case round =>
    obtain ⟨i, hi, rfl, hno, hg⟩ := hrel
    obtain ⟨wo, hwo⟩ : ∃ wo, wo = wr := ⟨_, rfl⟩
    subst hwo
    by_cases hlt : i < n
    · have i0 : (0 : Int) ≤ (i : Int) := by omega
      have i1 : (i : Int) < (n : Int) := by omega
      go_wp2_with fail
      go_loopw [6] (fun j wi => ∃ k : Nat, k ≤ m ∧ j = .int .i64 k ∧ Hid (∀ t, t < k → f i t = false) ∧ Hid (Below w.heap.size w wi)) (fun j _ => m - (intOf j).toNat)
      case atStart => exact ⟨0, by omega, rfl, Lib.hid (fun t ht => absurd ht (by omega)), hg⟩
      case round =>
        obtain ⟨k, hk, rfl, hno2, hg2⟩ := hrel
        by_cases hlt2 : k < m
        · have k0 : (0 : Int) ≤ (k : Int) := by omega
          have k1 : (k : Int) < (m : Int) := by omega
          have hp1 := HI.out.later hg2.out (Nat.le_refl _)
          have hp2 := HI2.out.later hg2.out (Nat.le_refl _)
          have hm1 : (i + 1) % n < n := Nat.mod_lt _ (by omega)
          have hm2 : (k + 1) % m < m := Nat.mod_lt _ (by omega)
          obtain ⟨b2, off2, rfl, e0, e1⟩ := hp1.at hlt
          obtain ⟨b3, off3, hbo, e2, e3⟩ := hp1.at hm1
          cases hbo
          obtain ⟨b4, off4, rfl, f0, f1⟩ := hp2.at hlt2
          obtain ⟨b5, off5, hbo, f2, f3⟩ := hp2.at hm2
          cases hbo
          obtain ⟨x, hx⟩ : ∃ x, x = P.getD i p0 := ⟨_, rfl⟩
          obtain ⟨x2, hx2⟩ : ∃ x, x = atP P (i + 1) := ⟨_, rfl⟩
          obtain ⟨y, hy⟩ : ∃ y, y = Q.getD k p0 := ⟨_, rfl⟩
          obtain ⟨y2, hy2⟩ : ∃ y, y = atP Q (k + 1) := ⟨_, rfl⟩
          have hxe : P.getD ((i + 1) % n) p0 = x2 := by rw [hx2]; unfold atP; rw [HL.out]
          have hye : Q.getD ((k + 1) % m) p0 = y2 := by rw [hy2]; unfold atP; rw [HL2.out]
          rw [← hx] at e0 e1
          rw [hxe] at e2 e3
          rw [← hy] at f0 f1
          rw [hye] at f2 f3
          obtain ⟨q, hq⟩ : ∃ q, q = (i + 1) % n := ⟨_, rfl⟩
          obtain ⟨u, hu⟩ : ∃ q, q = (k + 1) % m := ⟨_, rfl⟩
          rw [← hq] at e2 e3 hm1
          rw [← hu] at f2 f3 hm2
          have hq0 : (0 : Int) ≤ (q : Int) := by omega
          have hq1 : (q : Int) < (n : Int) := by omega
          have hu0 : (0 : Int) ≤ (u : Int) := by omega
          have hu1 : (u : Int) < (m : Int) := by omega
          have hrem : Int.tmod ((i : Int) + 1) (n : Int) = (q : Int) := by
            rw [Int.tmod_eq_emod_of_nonneg (by omega), hq, Int.natCast_emod]; rfl
          have hrem2 : ((i : Int) + 1) % (n : Int) = (q : Int) := by rw [hq, Int.natCast_emod]; rfl
          have hrem3 : Int.tmod ((k : Int) + 1) (m : Int) = (u : Int) := by
            rw [Int.tmod_eq_emod_of_nonneg (by omega), hu, Int.natCast_emod]; rfl
          have hrem4 : ((k : Int) + 1) % (m : Int) = (u : Int) := by rw [hu, Int.natCast_emod]; rfl
          have hz : ((n : Int) == 0) = false := by simp; omega
          have hz2 : ¬ (n : Int) = 0 := by omega
          have hz3 : ((m : Int) == 0) = false := by simp; omega
          have hz4 : ¬ (m : Int) = 0 := by omega
          have hwr : IntKind.i64.wrap ((i : Int) + 1) = (i : Int) + 1 := IntWalk.i64_in _ (by omega)
          have hwk : IntKind.i64.wrap ((k : Int) + 1) = (k : Int) + 1 := IntWalk.i64_in _ (by omega)
          have hkp : (0 : Int) ≤ (i : Int) + 1 := by omega
          have hkp2 : (0 : Int) ≤ (k : Int) + 1 := by omega
          have HM := Lib.hid (rMeets_any x x2 y y2)
          have hle := meetK_le x x2 y y2
          obtain ⟨c, hc⟩ : ∃ m, m = meetK x x2 y y2 := ⟨_, rfl⟩
          rw [← hc] at HM hle
          have HFC : Hid (f i k = decide (2 ≤ c)) := Lib.hid (by rw [HF.out, hc, hx, hx2, hy, hy2])
          unfold ptV at HM
          have HIK := Lib.hid (And.intro hlt hlt2)
          clear hx hx2 hy hy2 hxe hye hq hu hc hp1 hp2 hm1 hm2
          go_wp2_with fail
          have HCELLS : Hid (∀ wX, Below wr.heap.size wr wX → wX.cell? ⟨b2, off2 + i * 2, none⟩ = some (.int .i64 x.x) ∧ wX.cell? ⟨b2, off2 + i * 2 + 1, none⟩ = some (.int .i64 x.y) ∧ wX.cell? ⟨b2, off2 + q * 2, none⟩ = some (.int .i64 x2.x) ∧ wX.cell? ⟨b2, off2 + q * 2 + 1, none⟩ = some (.int .i64 x2.y) ∧ wX.cell? ⟨b4, off4 + k * 2, none⟩ = some (.int .i64 y.x) ∧ wX.cell? ⟨b4, off4 + k * 2 + 1, none⟩ = some (.int .i64 y.y) ∧ wX.cell? ⟨b4, off4 + u * 2, none⟩ = some (.int .i64 y2.x) ∧ wX.cell? ⟨b4, off4 + u * 2 + 1, none⟩ = some (.int .i64 y2.y)) := Lib.hid (fun wX hX => by
            have kk : ∀ {B o : Nat} {v : Value}, wr.cell? ⟨B, o, none⟩ = some v → wX.cell? ⟨B, o, none⟩ = some v := fun {B o v} h => (hX.cell (p := ⟨B, o, none⟩) (block_lt_of_cell h)).trans h
            exact ⟨kk e0, kk e1, kk e2, kk e3, kk f0, kk f1, kk f2, kk f3⟩)
          clear e0 e1 e2 e3 f0 f1 f2 f3
          refine wp_region_J (s := [(20, 0), (21, 1), (22, 2), (23, 3), (24, 4), (25, 5), (26, 6), (27, 7), (28, 8), (29, 9), (30, 10), (31, 11), (32, 12), (33, 13), (34, 14), (35, 15), (36, 16), (37, 17), (38, 18), (39, 19), (40, 20), (41, 21), (42, 22), (43, 23), (44, 24), (7, 25)]) (by kernel_rfl) (StdJ wr (fun iX => match iX with | 0 => some (.slice (some ⟨b2, off2, none⟩) n cap) | 1 => some (.int .i64 (i : Int)) | 2 => some (.pointer (some ⟨b2, off2 + i * 2, none⟩)) | 3 => some (.agg #[.int .i64 x.x, .int .i64 x.y]) | 4 => some (.slice (some ⟨b2, off2, none⟩) n cap) | 5 => some (.int .i64 (i : Int)) | 6 => some (.int .i64 ((i : Int) + 1)) | 7 => some (.slice (some ⟨b2, off2, none⟩) n cap) | 8 => some (.int .i64 (n : Int)) | 9 => some (.int .i64 (q : Int)) | 10 => some (.pointer (some ⟨b2, off2 + q * 2, none⟩)) | 11 => some (.agg #[.int .i64 x2.x, .int .i64 x2.y]) | 12 => some (.slice (some ⟨b4, off4, none⟩) m cap2) | 13 => some (.int .i64 (k : Int)) | 14 => some (.pointer (some ⟨b4, off4 + k * 2, none⟩)) | 15 => some (.agg #[.int .i64 y.x, .int .i64 y.y]) | 16 => some (.slice (some ⟨b4, off4, none⟩) m cap2) | 17 => some (.int .i64 (k : Int)) | 18 => some (.int .i64 ((k : Int) + 1)) | 19 => some (.slice (some ⟨b4, off4, none⟩) m cap2) | 20 => some (.int .i64 (m : Int)) | 21 => some (.int .i64 (u : Int)) | 22 => some (.pointer (some ⟨b4, off4 + u * 2, none⟩)) | 23 => some (.agg #[.int .i64 y2.x, .int .i64 y2.y]) | 24 => some (.int .i64 (c : Int)) | 25 => some (.int .i64 (c : Int)) | _ => none) []) (by kernel_rfl) (by kernel_rfl) (by kernel_rfl) (by kernel_rfl) (fun _ => undef) ?start ?step ?done
          case start => exact StdJ.start ((Below.refl _ _).drew)
          case step =>
            refine ⟨?o0, ?o1, ?o2, ?o3, ?o4, ?o5, ?o6, ?o7, ?o8, ?o9, ?o10, ?o11, ?o12, ?o13, ?o14, ?o15, ?o16, ?o17, ?o18, ?o19, ?o20, ?o21, ?o22, ?o23, ?o24, ?o25, trivial⟩
            case o0 =>
              intro L V aX wX K hl hp hcl hf hJ hK
              have t0 : aX.tmps[0]? = some (.slice (some ⟨b2, off2, none⟩) n cap) := hf.old (by kernel_rfl) rfl
              rw [if_pos (by rfl)]
              go_simp
              exact hK _ _ (hJ.val (Below.refl _ _) 0 _ (by kernel_rfl) rfl)
            case o1 =>
              intro L V aX wX K hl hp hcl hf hJ hK
              have t5 : aX.tmps[5]? = some (.int .i64 (i : Int)) := hf.old (by kernel_rfl) rfl
              rw [if_pos (by rfl)]
              go_simp
              exact hK _ _ (hJ.val (Below.refl _ _) 1 _ (by kernel_rfl) rfl)
            case o2 =>
              intro L V aX wX K hl hp hcl hf hJ hK
              have t20 := hf.in (i := 0) (d := 20) (by kernel_rfl) (hp 0 (by kernel_rfl)) (hJ.vals 0 _ rfl (hp 0 (by kernel_rfl)))
              have t21 := hf.in (i := 1) (d := 21) (by kernel_rfl) (hp 1 (by kernel_rfl)) (hJ.vals 1 _ rfl (hp 1 (by kernel_rfl)))
              rw [if_pos (by rfl)]
              go_simp
              exact hK _ _ (hJ.val (Below.refl _ _) 2 _ (by kernel_rfl) rfl)
            case o3 =>
              intro L V aX wX K hl hp hcl hf hJ hK
              have t22 := hf.in (i := 2) (d := 22) (by kernel_rfl) (hp 2 (by kernel_rfl)) (hJ.vals 2 _ rfl (hp 2 (by kernel_rfl)))
              obtain ⟨c0, c1, c2, c3, c4, c5, c6, c7⟩ := HCELLS.out wX hJ.below
              rw [if_pos (by rfl)]
              go_simp
              exact hK _ _ (hJ.val (Below.refl _ _) 3 _ (by kernel_rfl) rfl)
            case o4 =>
              intro L V aX wX K hl hp hcl hf hJ hK
              have t0 : aX.tmps[0]? = some (.slice (some ⟨b2, off2, none⟩) n cap) := hf.old (by kernel_rfl) rfl
              rw [if_pos (by rfl)]
              go_simp
              exact hK _ _ (hJ.val (Below.refl _ _) 4 _ (by kernel_rfl) rfl)
            case o5 =>
              intro L V aX wX K hl hp hcl hf hJ hK
              have t5 : aX.tmps[5]? = some (.int .i64 (i : Int)) := hf.old (by kernel_rfl) rfl
              rw [if_pos (by rfl)]
              go_simp
              exact hK _ _ (hJ.val (Below.refl _ _) 5 _ (by kernel_rfl) rfl)
            case o6 =>
              intro L V aX wX K hl hp hcl hf hJ hK
              have t25 := hf.in (i := 5) (d := 25) (by kernel_rfl) (hp 5 (by kernel_rfl)) (hJ.vals 5 _ rfl (hp 5 (by kernel_rfl)))
              rw [if_pos (by rfl)]
              go_simp
              exact hK _ _ (hJ.val (Below.refl _ _) 6 _ (by kernel_rfl) rfl)
            case o7 =>
              intro L V aX wX K hl hp hcl hf hJ hK
              have t0 : aX.tmps[0]? = some (.slice (some ⟨b2, off2, none⟩) n cap) := hf.old (by kernel_rfl) rfl
              rw [if_pos (by rfl)]
              go_simp
              exact hK _ _ (hJ.val (Below.refl _ _) 7 _ (by kernel_rfl) rfl)
            case o8 =>
              intro L V aX wX K hl hp hcl hf hJ hK
              have t27 := hf.in (i := 7) (d := 27) (by kernel_rfl) (hp 7 (by kernel_rfl)) (hJ.vals 7 _ rfl (hp 7 (by kernel_rfl)))
              rw [if_pos (by rfl)]
              go_simp
              exact hK _ _ (hJ.val (Below.refl _ _) 8 _ (by kernel_rfl) rfl)
            case o9 =>
              intro L V aX wX K hl hp hcl hf hJ hK
              have t26 := hf.in (i := 6) (d := 26) (by kernel_rfl) (hp 6 (by kernel_rfl)) (hJ.vals 6 _ rfl (hp 6 (by kernel_rfl)))
              have t28 := hf.in (i := 8) (d := 28) (by kernel_rfl) (hp 8 (by kernel_rfl)) (hJ.vals 8 _ rfl (hp 8 (by kernel_rfl)))
              have hnz : ¬ n = 0 := by omega
              rw [if_pos (by rfl)]
              go_simp
              exact hK _ _ (hJ.val (Below.refl _ _) 9 _ (by kernel_rfl) rfl)
            case o10 =>
              intro L V aX wX K hl hp hcl hf hJ hK
              have t24 := hf.in (i := 4) (d := 24) (by kernel_rfl) (hp 4 (by kernel_rfl)) (hJ.vals 4 _ rfl (hp 4 (by kernel_rfl)))
              have t29 := hf.in (i := 9) (d := 29) (by kernel_rfl) (hp 9 (by kernel_rfl)) (hJ.vals 9 _ rfl (hp 9 (by kernel_rfl)))
              rw [if_pos (by rfl)]
              go_simp
              exact hK _ _ (hJ.val (Below.refl _ _) 10 _ (by kernel_rfl) rfl)
            case o11 =>
              intro L V aX wX K hl hp hcl hf hJ hK
              have t30 := hf.in (i := 10) (d := 30) (by kernel_rfl) (hp 10 (by kernel_rfl)) (hJ.vals 10 _ rfl (hp 10 (by kernel_rfl)))
              obtain ⟨c0, c1, c2, c3, c4, c5, c6, c7⟩ := HCELLS.out wX hJ.below
              rw [if_pos (by rfl)]
              go_simp
              exact hK _ _ (hJ.val (Below.refl _ _) 11 _ (by kernel_rfl) rfl)
            case o12 =>
              intro L V aX wX K hl hp hcl hf hJ hK
              have t1 : aX.tmps[1]? = some (.slice (some ⟨b4, off4, none⟩) m cap2) := hf.old (by kernel_rfl) rfl
              rw [if_pos (by rfl)]
              go_simp
              exact hK _ _ (hJ.val (Below.refl _ _) 12 _ (by kernel_rfl) rfl)
            case o13 =>
              intro L V aX wX K hl hp hcl hf hJ hK
              have t6 : aX.tmps[6]? = some (.int .i64 (k : Int)) := hf.old (by kernel_rfl) rfl
              rw [if_pos (by rfl)]
              go_simp
              exact hK _ _ (hJ.val (Below.refl _ _) 13 _ (by kernel_rfl) rfl)
            case o14 =>
              intro L V aX wX K hl hp hcl hf hJ hK
              have t32 := hf.in (i := 12) (d := 32) (by kernel_rfl) (hp 12 (by kernel_rfl)) (hJ.vals 12 _ rfl (hp 12 (by kernel_rfl)))
              have t33 := hf.in (i := 13) (d := 33) (by kernel_rfl) (hp 13 (by kernel_rfl)) (hJ.vals 13 _ rfl (hp 13 (by kernel_rfl)))
              rw [if_pos (by rfl)]
              go_simp
              exact hK _ _ (hJ.val (Below.refl _ _) 14 _ (by kernel_rfl) rfl)
            case o15 =>
              intro L V aX wX K hl hp hcl hf hJ hK
              have t34 := hf.in (i := 14) (d := 34) (by kernel_rfl) (hp 14 (by kernel_rfl)) (hJ.vals 14 _ rfl (hp 14 (by kernel_rfl)))
              obtain ⟨c0, c1, c2, c3, c4, c5, c6, c7⟩ := HCELLS.out wX hJ.below
              rw [if_pos (by rfl)]
              go_simp
              exact hK _ _ (hJ.val (Below.refl _ _) 15 _ (by kernel_rfl) rfl)
            case o16 =>
              intro L V aX wX K hl hp hcl hf hJ hK
              have t1 : aX.tmps[1]? = some (.slice (some ⟨b4, off4, none⟩) m cap2) := hf.old (by kernel_rfl) rfl
              rw [if_pos (by rfl)]
              go_simp
              exact hK _ _ (hJ.val (Below.refl _ _) 16 _ (by kernel_rfl) rfl)
            case o17 =>
              intro L V aX wX K hl hp hcl hf hJ hK
              have t6 : aX.tmps[6]? = some (.int .i64 (k : Int)) := hf.old (by kernel_rfl) rfl
              rw [if_pos (by rfl)]
              go_simp
              exact hK _ _ (hJ.val (Below.refl _ _) 17 _ (by kernel_rfl) rfl)
            case o18 =>
              intro L V aX wX K hl hp hcl hf hJ hK
              have t37 := hf.in (i := 17) (d := 37) (by kernel_rfl) (hp 17 (by kernel_rfl)) (hJ.vals 17 _ rfl (hp 17 (by kernel_rfl)))
              rw [if_pos (by rfl)]
              go_simp
              exact hK _ _ (hJ.val (Below.refl _ _) 18 _ (by kernel_rfl) rfl)
            case o19 =>
              intro L V aX wX K hl hp hcl hf hJ hK
              have t1 : aX.tmps[1]? = some (.slice (some ⟨b4, off4, none⟩) m cap2) := hf.old (by kernel_rfl) rfl
              rw [if_pos (by rfl)]
              go_simp
              exact hK _ _ (hJ.val (Below.refl _ _) 19 _ (by kernel_rfl) rfl)
            case o20 =>
              intro L V aX wX K hl hp hcl hf hJ hK
              have t39 := hf.in (i := 19) (d := 39) (by kernel_rfl) (hp 19 (by kernel_rfl)) (hJ.vals 19 _ rfl (hp 19 (by kernel_rfl)))
              rw [if_pos (by rfl)]
              go_simp
              exact hK _ _ (hJ.val (Below.refl _ _) 20 _ (by kernel_rfl) rfl)
            case o21 =>
              intro L V aX wX K hl hp hcl hf hJ hK
              have t38 := hf.in (i := 18) (d := 38) (by kernel_rfl) (hp 18 (by kernel_rfl)) (hJ.vals 18 _ rfl (hp 18 (by kernel_rfl)))
              have t40 := hf.in (i := 20) (d := 40) (by kernel_rfl) (hp 20 (by kernel_rfl)) (hJ.vals 20 _ rfl (hp 20 (by kernel_rfl)))
              have hnz : ¬ m = 0 := by omega
              rw [if_pos (by rfl)]
              go_simp
              exact hK _ _ (hJ.val (Below.refl _ _) 21 _ (by kernel_rfl) rfl)
            case o22 =>
              intro L V aX wX K hl hp hcl hf hJ hK
              have t36 := hf.in (i := 16) (d := 36) (by kernel_rfl) (hp 16 (by kernel_rfl)) (hJ.vals 16 _ rfl (hp 16 (by kernel_rfl)))
              have t41 := hf.in (i := 21) (d := 41) (by kernel_rfl) (hp 21 (by kernel_rfl)) (hJ.vals 21 _ rfl (hp 21 (by kernel_rfl)))
              rw [if_pos (by rfl)]
              go_simp
              exact hK _ _ (hJ.val (Below.refl _ _) 22 _ (by kernel_rfl) rfl)
            case o23 =>
              intro L V aX wX K hl hp hcl hf hJ hK
              have t42 := hf.in (i := 22) (d := 42) (by kernel_rfl) (hp 22 (by kernel_rfl)) (hJ.vals 22 _ rfl (hp 22 (by kernel_rfl)))
              obtain ⟨c0, c1, c2, c3, c4, c5, c6, c7⟩ := HCELLS.out wX hJ.below
              rw [if_pos (by rfl)]
              go_simp
              exact hK _ _ (hJ.val (Below.refl _ _) 23 _ (by kernel_rfl) rfl)
            case o24 =>
              intro L V aX wX K hl hp hcl hf hJ hK
              have t23 := hf.in (i := 3) (d := 23) (by kernel_rfl) (hp 3 (by kernel_rfl)) (hJ.vals 3 _ rfl (hp 3 (by kernel_rfl)))
              have t31 := hf.in (i := 11) (d := 31) (by kernel_rfl) (hp 11 (by kernel_rfl)) (hJ.vals 11 _ rfl (hp 11 (by kernel_rfl)))
              have t35 := hf.in (i := 15) (d := 35) (by kernel_rfl) (hp 15 (by kernel_rfl)) (hJ.vals 15 _ rfl (hp 15 (by kernel_rfl)))
              have t43 := hf.in (i := 23) (d := 43) (by kernel_rfl) (hp 23 (by kernel_rfl)) (hJ.vals 23 _ rfl (hp 23 (by kernel_rfl)))
              rw [if_pos (by rfl)]
              go_simp
              refine (HM.out _).mono ?_
              rintro e wA ⟨rfl, hgr⟩
              exact hK _ _ (hJ.val (hgr) 24 _ (by kernel_rfl) rfl)
            case o25 =>
              intro L V aX wX K hl hp hcl hf hJ hK
              have t44 := hf.in (i := 24) (d := 44) (by kernel_rfl) (hp 24 (by kernel_rfl)) (hJ.vals 24 _ rfl (hp 24 (by kernel_rfl)))
              rw [if_pos (by rfl)]
              go_simp
              exact hK _ _ (hJ.val (Below.refl _ _) 25 _ (by kernel_rfl) rfl)
          intro V wC hJ
          have hv := hJ.vals 25 _ rfl (by kernel_rfl)
          have HBW := Lib.hid hJ.below
          simp only [puts, Act.put, List.setIfInBounds_toArray, List.set_cons_zero, List.set_cons_succ]
          rw [hv]
          clear hJ hv
          have HB : Hid (Below w.heap.size w wC) := Lib.hid (hg2.out.trans (HBW.out.mono hg2.out.size))
          clear HCELLS HBW
          have hcs : c = 0 ∨ c = 1 ∨ c = 2 ∨ c = 3 := by omega
          have hlast : ∀ b, f i k = b → b = false → ∀ t, t < k + 1 → f i t = false := fun b h1 h2 t ht => by
            by_cases htk : t < k
            · exact hno2.out t htk
            · obtain rfl : t = k := by omega
              rw [h1, h2]
          have HLA := Lib.hid hlast
          clear hlast hle
          rcases hcs with rfl | rfl | rfl | rfl
          · go_wp2_with fail
            go_roundw
            case rel => exact ⟨k + 1, by omega, by go_num, Lib.hid (HLA.out _ HFC.out rfl), HB⟩
            case measure => simp [intOf]; omega
          · go_wp2_with fail
            go_roundw
            case rel => exact ⟨k + 1, by omega, by go_num, Lib.hid (HLA.out _ HFC.out rfl), HB⟩
            case measure => simp [intOf]; omega
          · go_wp2_with fail
            go_ret
            exact ⟨by rw [HR.out, List.any_eq_true.2 ⟨i, List.mem_range.2 HIK.out.1, List.any_eq_true.2 ⟨k, List.mem_range.2 HIK.out.2, HFC.out⟩⟩]; rfl, HB.out⟩
          · go_wp2_with fail
            go_ret
            exact ⟨by rw [HR.out, List.any_eq_true.2 ⟨i, List.mem_range.2 HIK.out.1, List.any_eq_true.2 ⟨k, List.mem_range.2 HIK.out.2, HFC.out⟩⟩]; rfl, HB.out⟩
        · obtain rfl : k = m := by omega
          go_wp2_with fail
          refine ⟨⟨i + 1, by omega, by go_num, Lib.hid (fun s t hs ht => ?_), hg2⟩, by simp [intOf]; omega⟩
          by_cases hsi : s < i
          · exact hno.out s t hsi ht
          · obtain rfl : s = i := by omega
            exact hno2.out t ht
    · obtain rfl : i = n := by omega
      go_wp2_with fail
      go_ret
      refine ⟨?_, hg.out⟩
      have : r = false := by
        rw [HR.out, List.any_eq_false]
        intro s hs
        rw [Bool.not_eq_true, List.any_eq_false]
        intro t ht
        rw [hno.out s t (List.mem_range.1 hs) (List.mem_range.1 ht)]
        simp
      rw [this]
      rfl
end Go.Proofs.YtjiiikeniocmfaaGreat

/- SlabFinds: the walk (printed by mkfinds13.py) -/
import Derived.Test.YtdikecfplohpeaaGreatMSAwake
import Derived.Test.YtdikecfplohpeaaGreatMQRCheck
import Derived.Test.YtdikecfplohpeaaGreatMQIn2
import Derived.Test.YtdikecfplohpeaaGreatMR11
set_option linter.unusedSimpArgs false
set_option linter.unusedVariables false
namespace Go.Proofs.YtdikecfplohpeaaGreat
open Go.RowKit Go.Geo
attribute [local go_sem] Oper.semAt_some
theorem check_zero {g : List (List Pt)} (h : (regionCheckP g).1 = 0) : (regionCheckP g).2 = 0 := by
  unfold regionCheckP at h ⊢
  split
  · rfl
  · split
    · rfl
    · split
      · rfl
      · rename_i h1 h2 h3
        rw [if_neg h1, if_neg h2, if_neg h3] at h
        split at h
        · rename_i i hi
          exact absurd h (by have := (firstP_eq_some hi).2.1; simpa using this)
        · split at h
          · cases h
          · rfl
theorem small_of {R : List (List Pt)} (h1 : R.length ≤ 22) (h2 : sumLen R ≤ 120) : Small R := ⟨by omega, fun k hk => by have := sumLen_get hk; omega⟩
set_option maxRecDepth 100000 in
set_option maxHeartbeats 16000000 in
theorem SlabFinds_any (ao : Option Addr) (n cap : Nat) (R : List (List Pt)) (ap : Option Addr) (np cp : Nat) (P : List Pt) (w : World) (h : IsRings w ao n cap R) (hk : Kept R) (hP : IsPts w ap np cp P) :
    Calls Tryz.prog 3 #[.agg #[.slice ao n cap], .slice ap np cp] w fun e w' => e = .returned (.bool true) ∧ Below w.heap.size w w' := by
  have HL := Lib.hid h.1
  have hcm := h.2.2.1
  have hnc := h.2.1
  have hcp := hP.2.2.1
  have hnp := hP.2.1
  unfold maxLen at hcm hcp
  obtain ⟨W0, hW0⟩ : ∃ W, W = w.alloc (.cells #[.slice ao n cap] 24) := ⟨_, rfl⟩
  have hg0 : Below w.heap.size w W0 := by rw [hW0]; exact (Below.refl _ _).alloc (Nat.le_refl _) _
  have k0 : W0.heap[w.heap.size]? = some (.cells #[.slice ao n cap] 24 (0, 0)) := by rw [hW0]; exact alloc_new _ _
  have HI := Lib.hid (h.later hg0 (Nat.le_refl _))
  have HIP := Lib.hid (hP.later hg0 (Nat.le_refl _))
  have H0 := Lib.hid hg0
  have HC : Hid (∀ wr, Below W0.heap.size W0 wr → wr.cell? ⟨w.heap.size, 0, none⟩ = some (.slice ao n cap)) := Lib.hid (fun wr hb => cell_of_row _ _ _ _ _ _ ((hb.block _ (heap_lt' k0)).trans k0))
  have HBG := Lib.hid (BigRegion_any ao n cap R 120 W0 HI.out hk (by omega))
  have c0 := HC.out W0 (Below.refl _ _)
  rw [hW0] at c0
  clear h hk hP hg0 k0
  go_enter Tryz.func3, Tryz.ntmps3
  go_wp2_with fail
  rw [← hW0]
  clear hW0 c0
  refine HBG.out.mono ?_
  rintro e w1 ⟨q, rfl, hq, hb1⟩
  have HB1 := Lib.hid hb1
  have c0 := HC.out w1 hb1
  have HQB := Lib.hid hq
  clear hb1 hq
  have hbig : ∀ wX, Below W0.heap.size W0 wX → Calls Tryz.prog 5 #[] wX fun e w' => e = .returned (.bool true) ∧ Below w.heap.size w w' := fun wX hX => (awake_any wX).mono fun e w' ⟨he, hb⟩ => ⟨he, H0.out.trans ((hX.trans (hb.mono hX.size)).mono H0.out.size)⟩
  have HAW := Lib.hid hbig
  clear hbig
  cases q with
  | true =>
    go_wp2_with fail
    refine (HAW.out w1 HB1.out).mono ?_
    rintro e w2 ⟨rfl, hb2⟩
    have HB2 := Lib.hid hb2
    clear hb2
    go_wp2_with fail
    go_ret
    exact ⟨rfl, HB2.out⟩
  | false =>
  by_cases hp30 : 30 < np
  · have hp31 : (30 : Int) < (np : Int) := by omega
    go_wp2_with fail
    refine (HAW.out w1 HB1.out).mono ?_
    rintro e w2 ⟨rfl, hb2⟩
    have HB2 := Lib.hid hb2
    clear hb2
    go_wp2_with fail
    go_ret
    exact ⟨rfl, HB2.out⟩
  · have hp31 : ¬ (30 : Int) < (np : Int) := by omega
    obtain ⟨hq1, hq2⟩ := HQB.out rfl
    have HS := Lib.hid hq2
    have HSM := Lib.hid (small_of hq1 hq2)
    have hn22 : n ≤ 22 := by rw [← HL.out]; exact hq1
    have HCP0 := Lib.hid (CopyRegion_any ao n cap R w1 (HI.out.later HB1.out (Nat.le_refl _)) HSM.out)
    clear hq1 hq2 HQB
    go_wp2_with fail
    refine HCP0.out.mono ?_
    rintro e w2 ⟨v, rfl, ho2, hb2⟩
    obtain ⟨ai, ci, hv2, hri2⟩ := ho2.rings
    rw [HL.out] at hv2 hri2
    subst hv2
    have HO2 := Lib.hid ho2
    have HRI2 := Lib.hid hri2
    have HB2 := Lib.hid (HB1.out.trans (hb2.mono HB1.out.size))
    have HSZ2 := Lib.hid hb2.size
    have HB12 := Lib.hid hb2
    obtain ⟨W3, hW3⟩ : ∃ W, W = w2.alloc (.cells #[.slice ai n ci] 24) := ⟨_, rfl⟩
    have hb3 : Below w2.heap.size w2 W3 := by rw [hW3]; exact (Below.refl _ _).alloc (Nat.le_refl _) _
    obtain ⟨gi, hgi⟩ : ∃ g, g = w2.heap.size := ⟨_, rfl⟩
    have HGI := Lib.hid hgi
    have hk3 : W3.heap[gi]? = some (.cells #[.slice ai n ci] 24 (0, 0)) := by rw [hW3, hgi]; exact alloc_new _ _
    have HK3 := Lib.hid hk3
    have HB3 := Lib.hid (HB2.out.trans (hb3.mono HB2.out.size))
    have HB23 := Lib.hid hb3
    have hci := hri2.2.2.1
    unfold maxLen at hci
    have ci3 : W3.cell? ⟨gi, 0, none⟩ = some (.slice ai n ci) := cell_of_row _ _ _ _ _ _ hk3
    have HBU := Lib.hid (Build_any ai n ci R W3 (hri2.later hb3 (Nat.le_refl _)) (by have := HS.out; omega))
    rw [hW3, hgi] at ci3
    clear ho2 hri2 hb2 hb3 hk3
    go_wp2_with fail
    rw [← hW3]
    clear ci3 c0
    refine HBU.out.mono ?_
    rintro e w3 ⟨hb4, hok, hno⟩
    have HB4 := Lib.hid (HB3.out.trans (hb4.mono HB3.out.size))
    have HB34 := Lib.hid hb4
    have hkf := (hb4.block gi (heap_lt' HK3.out)).trans HK3.out
    obtain ⟨fx, hfx⟩ : ∃ f, f = regionCheckP R := ⟨_, rfl⟩
    obtain ⟨f, fa⟩ := fx
    -- what Build told
    have hbt : ∃ sv : Value, e = .returned (.tuple #[sv, .agg #[.int .i64 f, .int .i64 fa]]) ∧ ((f = 0 ∧ fa = 0 ∧ ∃ g, sv = .pointer (some ⟨g, 0, none⟩) ∧ W3.heap.size ≤ g ∧ SlabOwn w3 g (heightsP R) (slabsR R)) ∨ (f ≠ 0 ∧ sv = .pointer none)) := by
      by_cases hz : (regionCheckP R).1 = 0
      · obtain ⟨g, he, hgs, how⟩ := hok hz
        have hf0 : f = 0 := by rw [← hfx] at hz; exact hz
        have hfa : fa = 0 := by
          have := check_zero hz
          rw [← hfx] at this
          exact this
        subst hf0 hfa
        exact ⟨_, he, .inl ⟨rfl, rfl, g, rfl, hgs, how⟩⟩
      · have he := hno hz
        rw [← hfx] at he hz
        exact ⟨_, he, .inr ⟨hz, rfl⟩⟩
    obtain ⟨sv, rfl, hcase⟩ := hbt
    have hsp : ∃ o, sv = .pointer o := by
      rcases hcase with ⟨_, _, g, h, _⟩ | ⟨_, h⟩
      · exact ⟨_, h⟩
      · exact ⟨_, h⟩
    obtain ⟨so, rfl⟩ := hsp
    have HCASE := Lib.hid hcase
    have HFX := Lib.hid hfx
    clear hok hno hb4 hcase hfx
    obtain ⟨W4, hW4⟩ : ∃ W, W = w3.alloc (.cells #[.int .i64 f, .int .i64 fa] 32) := ⟨_, rfl⟩
    have hb5 : Below w3.heap.size w3 W4 := by rw [hW4]; exact (Below.refl _ _).alloc (Nat.le_refl _) _
    obtain ⟨gf, hgf⟩ : ∃ g, g = w3.heap.size := ⟨_, rfl⟩
    have hf4 : W4.heap[gf]? = some (.cells #[.int .i64 f, .int .i64 fa] 32 (0, 0)) := by rw [hW4, hgf]; exact alloc_new _ _
    have hi4 : W4.heap[gi]? = some (.cells #[.slice ai n ci] 24 (0, 0)) := (hb5.block gi (heap_lt' hkf)).trans hkf
    have HB5 := Lib.hid (HB4.out.trans (hb5.mono HB4.out.size))
    have HB35 := Lib.hid (HB34.out.trans (hb5.mono HB34.out.size))
    have HB45 := Lib.hid hb5
    have HF4 := Lib.hid hf4
    have HI4 := Lib.hid hi4
    have HCE : Hid (∀ wX, Below W4.heap.size W4 wX → wX.cell? ⟨w.heap.size, 0, none⟩ = some (.slice ao n cap) ∧ wX.cell? ⟨gi, 0, none⟩ = some (.slice ai n ci) ∧ wX.cell? ⟨gf, 0, none⟩ = some (.int .i64 f) ∧ wX.cell? ⟨gf, 1, none⟩ = some (.int .i64 fa)) := Lib.hid (fun wX hX => by
      have a1 := (hX.block gi (heap_lt' HI4.out)).trans HI4.out
      have a2 := (hX.block gf (heap_lt' HF4.out)).trans HF4.out
      exact ⟨HC.out wX (HB5.out.trans (hX.mono HB5.out.size)), cell_of_row _ _ _ _ _ _ a1, cell_of_row _ _ _ _ _ _ a2, cell_of_row _ _ _ _ _ _ a2⟩)
    have HRC : Hid (∀ wX, Below W4.heap.size W4 wX → Calls Tryz.prog 8 #[.agg #[.slice ao n cap]] wX fun e w' => e = .returned (.agg #[.int .i64 f, .int .i64 fa]) ∧ Below wX.heap.size wX w') := Lib.hid (fun wX hX => by
      have h := rCheck_region ao n cap R wX (HI.out.later (HB5.out.trans (hX.mono HB5.out.size)) (Nat.le_refl _)) (by have := HS.out; omega)
      rw [← HFX.out] at h
      exact h)
    have HSR : Hid (∀ wX, Below W4.heap.size W4 wX → Calls Tryz.prog 9 #[.slice ai n ci, .slice ao n cap] wX fun e w' => e = .returned (.bool true) ∧ Below wX.heap.size wX w') := Lib.hid (fun wX hX => by
      have hX3 : Below w2.heap.size w2 wX := (HB23.out.trans ((HB35.out.trans (hX.mono HB35.out.size)).mono HB23.out.size))
      refine (SameRings_any ai n ci ao cap R wX (HRI2.out.later hX3 (Nat.le_refl _)) (HI.out.later (HB5.out.trans (hX.mono HB5.out.size)) (Nat.le_refl _))).mono ?_
      rintro e w' ⟨he, q, rfl⟩
      exact ⟨he, below_drewN (Below.refl _ _) q⟩)
    clear hb5 hf4 hi4 hkf hgi hW3
    go_wp2_with fail
    rw [← hW4, ← hgf, ← HGI.out]
    clear hW4 hgf
    have HOK : ∀ f ∈ ([] : List Fct), FctOk f := by
      intro f hf; cases hf
    refine wp_region_J (s := [(24, 0), (25, 1), (26, 2), (27, 3), (28, 4), (29, 5), (30, 6), (31, 7), (32, 8), (33, 9), (34, 10), (35, 11)]) (by kernel_rfl) (GrowJ W4 (fun iX => match iX with | 0 => some (.agg #[.int .i64 f, .int .i64 fa]) | 1 => some (.agg #[.slice ao n cap]) | 2 => some (.agg #[.int .i64 f, .int .i64 fa]) | 3 => some (.bool false) | 4 => some (.bool false) | 5 => some (.pointer (some ⟨gi, 0, none⟩)) | 6 => some (.slice ai n ci) | 7 => some (.pointer (some ⟨w.heap.size, 0, none⟩)) | 8 => some (.slice ao n cap) | 9 => some (.bool true) | 10 => some (.bool false) | 11 => some (.bool false) | _ => none) []) (by kernel_rfl) (by kernel_rfl) (by kernel_rfl) (by kernel_rfl) (fun _ => undef) ?start5 ?step5 ?done5
    case start5 => exact GrowJ.start ((Below.refl _ _).drew)
    case step5 =>
      refine ⟨?o5_0, ?o5_1, ?o5_2, ?o5_3, ?o5_4, ?o5_5, ?o5_6, ?o5_7, ?o5_8, ?o5_9, ?o5_10, ?o5_11, trivial⟩
      case o5_0 =>
        intro LX V aX wX K hl hp hcl hf hJ hK
        have t7 : aX.tmps[7]? = some (.pointer (some ⟨gf, 0, none⟩)) := hf.old (by kernel_rfl) rfl
        obtain ⟨c0, c1, c2, c3⟩ := HCE.out wX hJ.below
        rw [if_pos (by rfl)]
        go_simp
        exact hK _ _ (hJ.val HOK 0 _ (by kernel_rfl) rfl (Below.refl _ _))
      case o5_1 =>
        intro LX V aX wX K hl hp hcl hf hJ hK
        have t2 : aX.tmps[2]? = some (.pointer (some ⟨w.heap.size, 0, none⟩)) := hf.old (by kernel_rfl) rfl
        obtain ⟨c0, c1, c2, c3⟩ := HCE.out wX hJ.below
        rw [if_pos (by rfl)]
        go_simp
        exact hK _ _ (hJ.val HOK 1 _ (by kernel_rfl) rfl (Below.refl _ _))
      case o5_2 =>
        intro LX V aX wX K hl hp hcl hf hJ hK
        have t25 := hf.in (i := 1) (d := 25) (by kernel_rfl) (hp 1 (by kernel_rfl)) (hJ.vals 1 _ rfl (hp 1 (by kernel_rfl)))
        rw [if_pos (by rfl)]
        go_simp
        refine (HRC.out _ hJ.below).mono ?_
        rintro e wA ⟨rfl, hbA⟩
        exact hK _ _ (hJ.val HOK 2 _ (by kernel_rfl) rfl (hbA))
      case o5_3 =>
        intro LX V aX wX K hl hp hcl hf hJ hK
        have t24 := hf.in (i := 0) (d := 24) (by kernel_rfl) (hp 0 (by kernel_rfl)) (hJ.vals 0 _ rfl (hp 0 (by kernel_rfl)))
        have t26 := hf.in (i := 2) (d := 26) (by kernel_rfl) (hp 2 (by kernel_rfl)) (hJ.vals 2 _ rfl (hp 2 (by kernel_rfl)))
        have he : ∀ w, _ := run_neF f fa
        rw [if_pos (by rfl)]
        go_simp
        exact hK _ _ (hJ.val HOK 3 _ (by kernel_rfl) rfl (Below.refl _ _))
      case o5_4 =>
        intro LX V aX wX K hl hp hcl hf hJ hK
        have t27 := hf.in (i := 3) (d := 27) (by kernel_rfl) (hp 3 (by kernel_rfl)) (hJ.vals 3 _ rfl (hp 3 (by kernel_rfl)))
        rw [if_pos (by rfl)]
        go_simp
        exact hK _ _ (hJ.val HOK 4 _ (by kernel_rfl) rfl (Below.refl _ _))
      case o5_5 =>
        intro LX V aX wX K hl hp hcl hf hJ hK
        have t5 : aX.tmps[5]? = some (.pointer (some ⟨gi, 0, none⟩)) := hf.old (by kernel_rfl) rfl
        have t28 := hf.in (i := 4) (d := 28) (by kernel_rfl) (hp 4 (by kernel_rfl)) (hJ.vals 4 _ rfl (hp 4 (by kernel_rfl)))
        rw [if_pos (wanted_of rfl rfl t28)]
        go_simp
        exact hK _ _ (hJ.val HOK 5 _ (by kernel_rfl) rfl (Below.refl _ _))
      case o5_6 =>
        intro LX V aX wX K hl hp hcl hf hJ hK
        have t29 := hf.in (i := 5) (d := 29) (by kernel_rfl) (hp 5 (by kernel_rfl)) (hJ.vals 5 _ rfl (hp 5 (by kernel_rfl)))
        have t28 := hf.in (i := 4) (d := 28) (by kernel_rfl) (hp 4 (by kernel_rfl)) (hJ.vals 4 _ rfl (hp 4 (by kernel_rfl)))
        obtain ⟨c0, c1, c2, c3⟩ := HCE.out wX hJ.below
        rw [if_pos (wanted_of rfl rfl t28)]
        go_simp
        exact hK _ _ (hJ.val HOK 6 _ (by kernel_rfl) rfl (Below.refl _ _))
      case o5_7 =>
        intro LX V aX wX K hl hp hcl hf hJ hK
        have t2 : aX.tmps[2]? = some (.pointer (some ⟨w.heap.size, 0, none⟩)) := hf.old (by kernel_rfl) rfl
        have t28 := hf.in (i := 4) (d := 28) (by kernel_rfl) (hp 4 (by kernel_rfl)) (hJ.vals 4 _ rfl (hp 4 (by kernel_rfl)))
        rw [if_pos (wanted_of rfl rfl t28)]
        go_simp
        exact hK _ _ (hJ.val HOK 7 _ (by kernel_rfl) rfl (Below.refl _ _))
      case o5_8 =>
        intro LX V aX wX K hl hp hcl hf hJ hK
        have t31 := hf.in (i := 7) (d := 31) (by kernel_rfl) (hp 7 (by kernel_rfl)) (hJ.vals 7 _ rfl (hp 7 (by kernel_rfl)))
        have t28 := hf.in (i := 4) (d := 28) (by kernel_rfl) (hp 4 (by kernel_rfl)) (hJ.vals 4 _ rfl (hp 4 (by kernel_rfl)))
        obtain ⟨c0, c1, c2, c3⟩ := HCE.out wX hJ.below
        rw [if_pos (wanted_of rfl rfl t28)]
        go_simp
        exact hK _ _ (hJ.val HOK 8 _ (by kernel_rfl) rfl (Below.refl _ _))
      case o5_9 =>
        intro LX V aX wX K hl hp hcl hf hJ hK
        have t30 := hf.in (i := 6) (d := 30) (by kernel_rfl) (hp 6 (by kernel_rfl)) (hJ.vals 6 _ rfl (hp 6 (by kernel_rfl)))
        have t32 := hf.in (i := 8) (d := 32) (by kernel_rfl) (hp 8 (by kernel_rfl)) (hJ.vals 8 _ rfl (hp 8 (by kernel_rfl)))
        have t28 := hf.in (i := 4) (d := 28) (by kernel_rfl) (hp 4 (by kernel_rfl)) (hJ.vals 4 _ rfl (hp 4 (by kernel_rfl)))
        rw [if_pos (wanted_of rfl rfl t28)]
        go_simp
        refine (HSR.out _ hJ.below).mono ?_
        rintro e wA ⟨rfl, hbA⟩
        exact hK _ _ (hJ.val HOK 9 _ (by kernel_rfl) rfl (hbA))
      case o5_10 =>
        intro LX V aX wX K hl hp hcl hf hJ hK
        have t33 := hf.in (i := 9) (d := 33) (by kernel_rfl) (hp 9 (by kernel_rfl)) (hJ.vals 9 _ rfl (hp 9 (by kernel_rfl)))
        have t28 := hf.in (i := 4) (d := 28) (by kernel_rfl) (hp 4 (by kernel_rfl)) (hJ.vals 4 _ rfl (hp 4 (by kernel_rfl)))
        rw [if_pos (wanted_of rfl rfl t28)]
        go_simp
        exact hK _ _ (hJ.val HOK 10 _ (by kernel_rfl) rfl (Below.refl _ _))
      case o5_11 =>
        intro LX V aX wX K hl hp hcl hf hJ hK
        have t28 := hf.in (i := 4) (d := 28) (by kernel_rfl) (hp 4 (by kernel_rfl)) (hJ.vals 4 _ rfl (hp 4 (by kernel_rfl)))
        have t34 := hf.in (i := 10) (d := 34) (by kernel_rfl) (hp 10 (by kernel_rfl)) (hJ.vals 10 _ rfl (hp 10 (by kernel_rfl)))
        rw [if_pos (by rfl)]
        go_simp
        exact hK _ _ (hJ.val HOK 11 _ (by kernel_rfl) rfl (Below.refl _ _))
    intro V w5 hJ
    have hv := hJ.vals 11 _ rfl (by kernel_rfl)
    have HB5' := Lib.hid hJ.below
    simp only [puts, Act.put, List.setIfInBounds_toArray, List.set_cons_zero, List.set_cons_succ]
    rw [hv]
    clear hJ HOK hv
    obtain ⟨c0, c1, c2, c3⟩ := HCE.out w5 HB5'.out
    rcases HCASE.out with ⟨hf0, hfa0, g, hso, hgs, how⟩ | ⟨hf0, hso⟩
    · subst hf0 hfa0
      injection hso with hso
      subst hso
      have HOW := Lib.hid how
      have HGS := Lib.hid hgs
      have HZ : Hid ((regionCheckP R).1 = 0) := Lib.hid (by rw [← HFX.out])
      have hX5 : Below w2.heap.size w2 w5 := HB23.out.trans ((HB35.out.trans (HB5'.out.mono HB35.out.size)).mono HB23.out.size)
      have HOV := Lib.hid (OverRegion_any w1.heap.size ai n ci R w2 w5 HO2.out HSM.out hX5 HSZ2.out)
      have HX5 := Lib.hid hX5
      clear how hgs hX5 c0 c3
      go_wp2_with fail
      refine HOV.out.mono ?_
      rintro e w6 ⟨W, rfl, hbW, hmid⟩
      have hbA : Below w1.heap.size w1 w6 := HB12.out.trans (((HX5.out.mono HSZ2.out).trans ((hbW.mono (Nat.le_trans HSZ2.out HX5.out.size)).trans hmid.low)))
      have HB6 := Lib.hid (HB1.out.trans (hbA.mono HB1.out.size))
      have how6 : SlabOwn w6 g (heightsP R) (slabsR R) := HOW.out.move fun k hk1 hk2 => by
        have h1 : w2.heap.size ≤ k := Nat.le_trans HB23.out.size (Nat.le_trans HGS.out hk1)
        have h35 : Below w3.heap.size w3 w5 := HB45.out.trans (HB5'.out.mono HB45.out.size)
        exact (hmid.high k h1).trans ((hbW.block k (Nat.lt_of_lt_of_le hk2 h35.size)).trans (h35.block k hk2))
      have HSI := Lib.hid (slabs_is HZ.out how6)
      clear hbA how6 hbW hmid c1 c2
      go_wp2_with fail
      go_loopw [8] (fun i wr => ∃ k : Nat, k ≤ np ∧ i = .int .i64 k ∧ Hid (Below w6.heap.size w6 wr)) (fun i _ => np - (intOf i).toNat)
      case atStart => exact ⟨0, by omega, rfl, Below.refl _ _⟩
      case round =>
        obtain ⟨i, hi, rfl, hbi⟩ := hrel
        have hi0 : (0 : Int) ≤ (i : Int) := by omega
        by_cases hip : i < np
        · have hip5 : (i : Int) < (np : Int) := by omega
          have hwi : IntKind.i64.wrap ((i : Int) + 1) = (i : Int) + 1 := IntWalk.i64_in _ (by omega)
          have HBR2 : Hid (Below W0.heap.size W0 wr) := Lib.hid (HB6.out.trans (hbi.out.mono HB6.out.size))
          obtain ⟨bp, op, hx, e0, e1⟩ := (HIP.out.later HBR2.out (Nat.le_refl _)).at hip
          subst hx
          obtain ⟨q, hq⟩ : ∃ q, q = P.getD i p0 := ⟨_, rfl⟩
          rw [← hq] at e0 e1
          obtain ⟨a, ha⟩ : ∃ a, a = inR q R := ⟨_, rfl⟩
          obtain ⟨cN, hcN⟩ : ∃ c, c = crossR q R := ⟨_, rfl⟩
          have HIS : Hid (∀ wX, Below wr.heap.size wr wX → Calls Tryz.prog 11 #[.pointer (some ⟨g, 0, none⟩), .agg #[.int .i64 q.x, .int .i64 q.y]] wX fun e w' => e = .returned (.bool a) ∧ Below wX.heap.size wX w') := Lib.hid (fun wX hX => by
            have h := SIn_any g _ _ q wX ((HSI.out.later hbi.out).later hX) (heights_sorted R)
            rw [inR_slab, ← ha] at h
            exact h)
          have HIR : Hid (∀ wX, Below wr.heap.size wr wX → Calls Tryz.prog 12 #[.agg #[.int .i64 q.x, .int .i64 q.y], .agg #[.slice ao n cap]] wX fun e w' => e = .returned (.bool a) ∧ Below wX.heap.size wX w') := Lib.hid (fun wX hX => by
            have h := (rIn_region q ao n cap R wX (HI.out.later (HBR2.out.trans (hX.mono HBR2.out.size)) (Nat.le_refl _))).mono (R' := fun e w' => e = .returned (.bool a) ∧ Below wX.heap.size wX w') (fun e w' ⟨he, hb⟩ => ⟨by rw [ha]; exact he, hb.1⟩)
            exact h)
          have HCR : Hid (∀ wX, Below wr.heap.size wr wX → Calls Tryz.prog 13 #[.pointer (some ⟨g, 0, none⟩), .agg #[.int .i64 q.x, .int .i64 q.y]] wX fun e w' => e = .returned (.int .i64 (cN : Int)) ∧ Below wX.heap.size wX w') := Lib.hid (fun wX hX => by
            have h := Crossings_any g _ _ q wX ((HSI.out.later hbi.out).later hX) (heights_sorted R)
            rw [crossE_R, ← hcN] at h
            exact h)
          have HCS : Hid (∀ wX, Below wr.heap.size wr wX → Calls Tryz.prog 14 #[.agg #[.int .i64 q.x, .int .i64 q.y], .agg #[.slice ao n cap]] wX fun e w' => e = .returned (.int .i64 (cN : Int)) ∧ Below wX.heap.size wX w') := Lib.hid (fun wX hX => by
            have h := rCross_any q ao n cap R wX (HI.out.later (HBR2.out.trans (hX.mono HBR2.out.size)) (Nat.le_refl _)) (by have := HS.out; omega)
            rw [← hcN] at h
            exact h)
          have HAA : Hid ((a != a) = false) := Lib.hid (by simp)
          have HCC : Hid (((cN : Int) != (cN : Int)) = false) := Lib.hid (by simp)
          have HQI : Hid ((0 : Int) ≤ (i : Int) ∧ (i : Int) < (np : Int)) := Lib.hid ⟨hi0, hip5⟩
          have HCP : Hid (∀ wX, Below wr.heap.size wr wX → wX.cell? ⟨bp, op + i * 2, none⟩ = some (.int .i64 q.x) ∧ wX.cell? ⟨bp, op + i * 2 + 1, none⟩ = some (.int .i64 q.y) ∧ wX.cell? ⟨w.heap.size, 0, none⟩ = some (.slice ao n cap)) := Lib.hid (fun wX hX => ⟨(hX.cell (p := ⟨bp, op + i * 2, none⟩) (block_lt_of_cell e0)).trans e0, (hX.cell (p := ⟨bp, op + i * 2 + 1, none⟩) (block_lt_of_cell e1)).trans e1, HC.out wX (HBR2.out.trans (hX.mono HBR2.out.size))⟩)
          clear ha hcN hq e0 e1
          go_wp2_with fail
          have HOK : ∀ f ∈ ([] : List Fct), FctOk f := by
            intro f hf; cases hf
          refine wp_region_J (s := [(54, 0), (55, 1), (56, 2), (57, 3), (58, 4), (59, 5), (60, 6), (61, 7), (62, 8), (63, 9), (64, 10), (65, 11), (66, 12), (67, 13), (68, 14), (69, 15), (70, 16), (71, 17), (72, 18), (73, 19), (74, 20), (75, 21), (76, 22), (77, 23), (78, 24), (79, 25), (80, 26), (81, 27)]) (by kernel_rfl) (GrowJ wr (fun iX => match iX with | 0 => some (.pointer (some ⟨g, 0, none⟩)) | 1 => some (.slice (some ⟨bp, op, none⟩) np cp) | 2 => some (.int .i64 (i : Int)) | 3 => some (.pointer (some ⟨bp, op + i * 2, none⟩)) | 4 => some (.agg #[.int .i64 q.x, .int .i64 q.y]) | 5 => some (.bool a) | 6 => some (.slice (some ⟨bp, op, none⟩) np cp) | 7 => some (.int .i64 (i : Int)) | 8 => some (.pointer (some ⟨bp, op + i * 2, none⟩)) | 9 => some (.agg #[.int .i64 q.x, .int .i64 q.y]) | 10 => some (.agg #[.slice ao n cap]) | 11 => some (.bool a) | 12 => some (.bool false) | 13 => some (.bool false) | 14 => some (.pointer (some ⟨g, 0, none⟩)) | 15 => some (.slice (some ⟨bp, op, none⟩) np cp) | 16 => some (.int .i64 (i : Int)) | 17 => some (.pointer (some ⟨bp, op + i * 2, none⟩)) | 18 => some (.agg #[.int .i64 q.x, .int .i64 q.y]) | 19 => some (.int .i64 (cN : Int)) | 20 => some (.slice (some ⟨bp, op, none⟩) np cp) | 21 => some (.int .i64 (i : Int)) | 22 => some (.pointer (some ⟨bp, op + i * 2, none⟩)) | 23 => some (.agg #[.int .i64 q.x, .int .i64 q.y]) | 24 => some (.agg #[.slice ao n cap]) | 25 => some (.int .i64 (cN : Int)) | 26 => some (.bool false) | 27 => some (.bool false) | _ => none) []) (by kernel_rfl) (by kernel_rfl) (by kernel_rfl) (by kernel_rfl) (fun _ => undef) ?start15 ?step15 ?done15
          case start15 => exact GrowJ.start ((Below.refl _ _).drew)
          case step15 =>
            refine ⟨?o15_0, ?o15_1, ?o15_2, ?o15_3, ?o15_4, ?o15_5, ?o15_6, ?o15_7, ?o15_8, ?o15_9, ?o15_10, ?o15_11, ?o15_12, ?o15_13, ?o15_14, ?o15_15, ?o15_16, ?o15_17, ?o15_18, ?o15_19, ?o15_20, ?o15_21, ?o15_22, ?o15_23, ?o15_24, ?o15_25, ?o15_26, ?o15_27, trivial⟩
            case o15_0 =>
              intro LX V aX wX K hl hp hcl hf hJ hK
              have t6 : aX.tmps[6]? = some (.pointer (some ⟨g, 0, none⟩)) := hf.old (by kernel_rfl) rfl
              rw [if_pos (by rfl)]
              go_simp
              exact hK _ _ (hJ.val HOK 0 _ (by kernel_rfl) rfl (Below.refl _ _))
            case o15_1 =>
              intro LX V aX wX K hl hp hcl hf hJ hK
              have t1 : aX.tmps[1]? = some (.slice (some ⟨bp, op, none⟩) np cp) := hf.old (by kernel_rfl) rfl
              rw [if_pos (by rfl)]
              go_simp
              exact hK _ _ (hJ.val HOK 1 _ (by kernel_rfl) rfl (Below.refl _ _))
            case o15_2 =>
              intro LX V aX wX K hl hp hcl hf hJ hK
              have t8 : aX.tmps[8]? = some (.int .i64 (i : Int)) := hf.old (by kernel_rfl) rfl
              rw [if_pos (by rfl)]
              go_simp
              exact hK _ _ (hJ.val HOK 2 _ (by kernel_rfl) rfl (Below.refl _ _))
            case o15_3 =>
              intro LX V aX wX K hl hp hcl hf hJ hK
              have t55 := hf.in (i := 1) (d := 55) (by kernel_rfl) (hp 1 (by kernel_rfl)) (hJ.vals 1 _ rfl (hp 1 (by kernel_rfl)))
              have t56 := hf.in (i := 2) (d := 56) (by kernel_rfl) (hp 2 (by kernel_rfl)) (hJ.vals 2 _ rfl (hp 2 (by kernel_rfl)))
              obtain ⟨c0, c1, c2⟩ := HCP.out wX hJ.below
              have q0 := HQI.out
              rw [if_pos (by rfl)]
              go_simp
              exact hK _ _ (hJ.val HOK 3 _ (by kernel_rfl) rfl (Below.refl _ _))
            case o15_4 =>
              intro LX V aX wX K hl hp hcl hf hJ hK
              have t57 := hf.in (i := 3) (d := 57) (by kernel_rfl) (hp 3 (by kernel_rfl)) (hJ.vals 3 _ rfl (hp 3 (by kernel_rfl)))
              obtain ⟨c0, c1, c2⟩ := HCP.out wX hJ.below
              have q0 := HQI.out
              rw [if_pos (by rfl)]
              go_simp
              exact hK _ _ (hJ.val HOK 4 _ (by kernel_rfl) rfl (Below.refl _ _))
            case o15_5 =>
              intro LX V aX wX K hl hp hcl hf hJ hK
              have t54 := hf.in (i := 0) (d := 54) (by kernel_rfl) (hp 0 (by kernel_rfl)) (hJ.vals 0 _ rfl (hp 0 (by kernel_rfl)))
              have t58 := hf.in (i := 4) (d := 58) (by kernel_rfl) (hp 4 (by kernel_rfl)) (hJ.vals 4 _ rfl (hp 4 (by kernel_rfl)))
              rw [if_pos (by rfl)]
              go_simp
              refine (HIS.out _ hJ.below).mono ?_
              rintro e wA ⟨rfl, hbA⟩
              exact hK _ _ (hJ.val HOK 5 _ (by kernel_rfl) rfl (hbA))
            case o15_6 =>
              intro LX V aX wX K hl hp hcl hf hJ hK
              have t1 : aX.tmps[1]? = some (.slice (some ⟨bp, op, none⟩) np cp) := hf.old (by kernel_rfl) rfl
              rw [if_pos (by rfl)]
              go_simp
              exact hK _ _ (hJ.val HOK 6 _ (by kernel_rfl) rfl (Below.refl _ _))
            case o15_7 =>
              intro LX V aX wX K hl hp hcl hf hJ hK
              have t8 : aX.tmps[8]? = some (.int .i64 (i : Int)) := hf.old (by kernel_rfl) rfl
              rw [if_pos (by rfl)]
              go_simp
              exact hK _ _ (hJ.val HOK 7 _ (by kernel_rfl) rfl (Below.refl _ _))
            case o15_8 =>
              intro LX V aX wX K hl hp hcl hf hJ hK
              have t60 := hf.in (i := 6) (d := 60) (by kernel_rfl) (hp 6 (by kernel_rfl)) (hJ.vals 6 _ rfl (hp 6 (by kernel_rfl)))
              have t61 := hf.in (i := 7) (d := 61) (by kernel_rfl) (hp 7 (by kernel_rfl)) (hJ.vals 7 _ rfl (hp 7 (by kernel_rfl)))
              obtain ⟨c0, c1, c2⟩ := HCP.out wX hJ.below
              have q0 := HQI.out
              rw [if_pos (by rfl)]
              go_simp
              exact hK _ _ (hJ.val HOK 8 _ (by kernel_rfl) rfl (Below.refl _ _))
            case o15_9 =>
              intro LX V aX wX K hl hp hcl hf hJ hK
              have t62 := hf.in (i := 8) (d := 62) (by kernel_rfl) (hp 8 (by kernel_rfl)) (hJ.vals 8 _ rfl (hp 8 (by kernel_rfl)))
              obtain ⟨c0, c1, c2⟩ := HCP.out wX hJ.below
              have q0 := HQI.out
              rw [if_pos (by rfl)]
              go_simp
              exact hK _ _ (hJ.val HOK 9 _ (by kernel_rfl) rfl (Below.refl _ _))
            case o15_10 =>
              intro LX V aX wX K hl hp hcl hf hJ hK
              have t2 : aX.tmps[2]? = some (.pointer (some ⟨w.heap.size, 0, none⟩)) := hf.old (by kernel_rfl) rfl
              obtain ⟨c0, c1, c2⟩ := HCP.out wX hJ.below
              have q0 := HQI.out
              rw [if_pos (by rfl)]
              go_simp
              exact hK _ _ (hJ.val HOK 10 _ (by kernel_rfl) rfl (Below.refl _ _))
            case o15_11 =>
              intro LX V aX wX K hl hp hcl hf hJ hK
              have t63 := hf.in (i := 9) (d := 63) (by kernel_rfl) (hp 9 (by kernel_rfl)) (hJ.vals 9 _ rfl (hp 9 (by kernel_rfl)))
              have t64 := hf.in (i := 10) (d := 64) (by kernel_rfl) (hp 10 (by kernel_rfl)) (hJ.vals 10 _ rfl (hp 10 (by kernel_rfl)))
              rw [if_pos (by rfl)]
              go_simp
              refine (HIR.out _ hJ.below).mono ?_
              rintro e wA ⟨rfl, hbA⟩
              exact hK _ _ (hJ.val HOK 11 _ (by kernel_rfl) rfl (hbA))
            case o15_12 =>
              intro LX V aX wX K hl hp hcl hf hJ hK
              have t59 := hf.in (i := 5) (d := 59) (by kernel_rfl) (hp 5 (by kernel_rfl)) (hJ.vals 5 _ rfl (hp 5 (by kernel_rfl)))
              have t65 := hf.in (i := 11) (d := 65) (by kernel_rfl) (hp 11 (by kernel_rfl)) (hJ.vals 11 _ rfl (hp 11 (by kernel_rfl)))
              have ha := HAA.out
              rw [if_pos (by rfl)]
              go_simp
              exact hK _ _ (hJ.val HOK 12 _ (by kernel_rfl) rfl (Below.refl _ _))
            case o15_13 =>
              intro LX V aX wX K hl hp hcl hf hJ hK
              have t66 := hf.in (i := 12) (d := 66) (by kernel_rfl) (hp 12 (by kernel_rfl)) (hJ.vals 12 _ rfl (hp 12 (by kernel_rfl)))
              rw [if_pos (by rfl)]
              go_simp
              exact hK _ _ (hJ.val HOK 13 _ (by kernel_rfl) rfl (Below.refl _ _))
            case o15_14 =>
              intro LX V aX wX K hl hp hcl hf hJ hK
              have t6 : aX.tmps[6]? = some (.pointer (some ⟨g, 0, none⟩)) := hf.old (by kernel_rfl) rfl
              have t67 := hf.in (i := 13) (d := 67) (by kernel_rfl) (hp 13 (by kernel_rfl)) (hJ.vals 13 _ rfl (hp 13 (by kernel_rfl)))
              rw [if_pos (wanted_of rfl rfl t67)]
              go_simp
              exact hK _ _ (hJ.val HOK 14 _ (by kernel_rfl) rfl (Below.refl _ _))
            case o15_15 =>
              intro LX V aX wX K hl hp hcl hf hJ hK
              have t1 : aX.tmps[1]? = some (.slice (some ⟨bp, op, none⟩) np cp) := hf.old (by kernel_rfl) rfl
              have t67 := hf.in (i := 13) (d := 67) (by kernel_rfl) (hp 13 (by kernel_rfl)) (hJ.vals 13 _ rfl (hp 13 (by kernel_rfl)))
              rw [if_pos (wanted_of rfl rfl t67)]
              go_simp
              exact hK _ _ (hJ.val HOK 15 _ (by kernel_rfl) rfl (Below.refl _ _))
            case o15_16 =>
              intro LX V aX wX K hl hp hcl hf hJ hK
              have t8 : aX.tmps[8]? = some (.int .i64 (i : Int)) := hf.old (by kernel_rfl) rfl
              have t67 := hf.in (i := 13) (d := 67) (by kernel_rfl) (hp 13 (by kernel_rfl)) (hJ.vals 13 _ rfl (hp 13 (by kernel_rfl)))
              rw [if_pos (wanted_of rfl rfl t67)]
              go_simp
              exact hK _ _ (hJ.val HOK 16 _ (by kernel_rfl) rfl (Below.refl _ _))
            case o15_17 =>
              intro LX V aX wX K hl hp hcl hf hJ hK
              have t69 := hf.in (i := 15) (d := 69) (by kernel_rfl) (hp 15 (by kernel_rfl)) (hJ.vals 15 _ rfl (hp 15 (by kernel_rfl)))
              have t70 := hf.in (i := 16) (d := 70) (by kernel_rfl) (hp 16 (by kernel_rfl)) (hJ.vals 16 _ rfl (hp 16 (by kernel_rfl)))
              have t67 := hf.in (i := 13) (d := 67) (by kernel_rfl) (hp 13 (by kernel_rfl)) (hJ.vals 13 _ rfl (hp 13 (by kernel_rfl)))
              obtain ⟨c0, c1, c2⟩ := HCP.out wX hJ.below
              have q0 := HQI.out
              rw [if_pos (wanted_of rfl rfl t67)]
              go_simp
              exact hK _ _ (hJ.val HOK 17 _ (by kernel_rfl) rfl (Below.refl _ _))
            case o15_18 =>
              intro LX V aX wX K hl hp hcl hf hJ hK
              have t71 := hf.in (i := 17) (d := 71) (by kernel_rfl) (hp 17 (by kernel_rfl)) (hJ.vals 17 _ rfl (hp 17 (by kernel_rfl)))
              have t67 := hf.in (i := 13) (d := 67) (by kernel_rfl) (hp 13 (by kernel_rfl)) (hJ.vals 13 _ rfl (hp 13 (by kernel_rfl)))
              obtain ⟨c0, c1, c2⟩ := HCP.out wX hJ.below
              have q0 := HQI.out
              rw [if_pos (wanted_of rfl rfl t67)]
              go_simp
              exact hK _ _ (hJ.val HOK 18 _ (by kernel_rfl) rfl (Below.refl _ _))
            case o15_19 =>
              intro LX V aX wX K hl hp hcl hf hJ hK
              have t68 := hf.in (i := 14) (d := 68) (by kernel_rfl) (hp 14 (by kernel_rfl)) (hJ.vals 14 _ rfl (hp 14 (by kernel_rfl)))
              have t72 := hf.in (i := 18) (d := 72) (by kernel_rfl) (hp 18 (by kernel_rfl)) (hJ.vals 18 _ rfl (hp 18 (by kernel_rfl)))
              have t67 := hf.in (i := 13) (d := 67) (by kernel_rfl) (hp 13 (by kernel_rfl)) (hJ.vals 13 _ rfl (hp 13 (by kernel_rfl)))
              rw [if_pos (wanted_of rfl rfl t67)]
              go_simp
              refine (HCR.out _ hJ.below).mono ?_
              rintro e wA ⟨rfl, hbA⟩
              exact hK _ _ (hJ.val HOK 19 _ (by kernel_rfl) rfl (hbA))
            case o15_20 =>
              intro LX V aX wX K hl hp hcl hf hJ hK
              have t1 : aX.tmps[1]? = some (.slice (some ⟨bp, op, none⟩) np cp) := hf.old (by kernel_rfl) rfl
              have t67 := hf.in (i := 13) (d := 67) (by kernel_rfl) (hp 13 (by kernel_rfl)) (hJ.vals 13 _ rfl (hp 13 (by kernel_rfl)))
              rw [if_pos (wanted_of rfl rfl t67)]
              go_simp
              exact hK _ _ (hJ.val HOK 20 _ (by kernel_rfl) rfl (Below.refl _ _))
            case o15_21 =>
              intro LX V aX wX K hl hp hcl hf hJ hK
              have t8 : aX.tmps[8]? = some (.int .i64 (i : Int)) := hf.old (by kernel_rfl) rfl
              have t67 := hf.in (i := 13) (d := 67) (by kernel_rfl) (hp 13 (by kernel_rfl)) (hJ.vals 13 _ rfl (hp 13 (by kernel_rfl)))
              rw [if_pos (wanted_of rfl rfl t67)]
              go_simp
              exact hK _ _ (hJ.val HOK 21 _ (by kernel_rfl) rfl (Below.refl _ _))
            case o15_22 =>
              intro LX V aX wX K hl hp hcl hf hJ hK
              have t74 := hf.in (i := 20) (d := 74) (by kernel_rfl) (hp 20 (by kernel_rfl)) (hJ.vals 20 _ rfl (hp 20 (by kernel_rfl)))
              have t75 := hf.in (i := 21) (d := 75) (by kernel_rfl) (hp 21 (by kernel_rfl)) (hJ.vals 21 _ rfl (hp 21 (by kernel_rfl)))
              have t67 := hf.in (i := 13) (d := 67) (by kernel_rfl) (hp 13 (by kernel_rfl)) (hJ.vals 13 _ rfl (hp 13 (by kernel_rfl)))
              obtain ⟨c0, c1, c2⟩ := HCP.out wX hJ.below
              have q0 := HQI.out
              rw [if_pos (wanted_of rfl rfl t67)]
              go_simp
              exact hK _ _ (hJ.val HOK 22 _ (by kernel_rfl) rfl (Below.refl _ _))
            case o15_23 =>
              intro LX V aX wX K hl hp hcl hf hJ hK
              have t76 := hf.in (i := 22) (d := 76) (by kernel_rfl) (hp 22 (by kernel_rfl)) (hJ.vals 22 _ rfl (hp 22 (by kernel_rfl)))
              have t67 := hf.in (i := 13) (d := 67) (by kernel_rfl) (hp 13 (by kernel_rfl)) (hJ.vals 13 _ rfl (hp 13 (by kernel_rfl)))
              obtain ⟨c0, c1, c2⟩ := HCP.out wX hJ.below
              have q0 := HQI.out
              rw [if_pos (wanted_of rfl rfl t67)]
              go_simp
              exact hK _ _ (hJ.val HOK 23 _ (by kernel_rfl) rfl (Below.refl _ _))
            case o15_24 =>
              intro LX V aX wX K hl hp hcl hf hJ hK
              have t2 : aX.tmps[2]? = some (.pointer (some ⟨w.heap.size, 0, none⟩)) := hf.old (by kernel_rfl) rfl
              have t67 := hf.in (i := 13) (d := 67) (by kernel_rfl) (hp 13 (by kernel_rfl)) (hJ.vals 13 _ rfl (hp 13 (by kernel_rfl)))
              obtain ⟨c0, c1, c2⟩ := HCP.out wX hJ.below
              have q0 := HQI.out
              rw [if_pos (wanted_of rfl rfl t67)]
              go_simp
              exact hK _ _ (hJ.val HOK 24 _ (by kernel_rfl) rfl (Below.refl _ _))
            case o15_25 =>
              intro LX V aX wX K hl hp hcl hf hJ hK
              have t77 := hf.in (i := 23) (d := 77) (by kernel_rfl) (hp 23 (by kernel_rfl)) (hJ.vals 23 _ rfl (hp 23 (by kernel_rfl)))
              have t78 := hf.in (i := 24) (d := 78) (by kernel_rfl) (hp 24 (by kernel_rfl)) (hJ.vals 24 _ rfl (hp 24 (by kernel_rfl)))
              have t67 := hf.in (i := 13) (d := 67) (by kernel_rfl) (hp 13 (by kernel_rfl)) (hJ.vals 13 _ rfl (hp 13 (by kernel_rfl)))
              rw [if_pos (wanted_of rfl rfl t67)]
              go_simp
              refine (HCS.out _ hJ.below).mono ?_
              rintro e wA ⟨rfl, hbA⟩
              exact hK _ _ (hJ.val HOK 25 _ (by kernel_rfl) rfl (hbA))
            case o15_26 =>
              intro LX V aX wX K hl hp hcl hf hJ hK
              have t73 := hf.in (i := 19) (d := 73) (by kernel_rfl) (hp 19 (by kernel_rfl)) (hJ.vals 19 _ rfl (hp 19 (by kernel_rfl)))
              have t79 := hf.in (i := 25) (d := 79) (by kernel_rfl) (hp 25 (by kernel_rfl)) (hJ.vals 25 _ rfl (hp 25 (by kernel_rfl)))
              have t67 := hf.in (i := 13) (d := 67) (by kernel_rfl) (hp 13 (by kernel_rfl)) (hJ.vals 13 _ rfl (hp 13 (by kernel_rfl)))
              have ha := HCC.out
              rw [if_pos (wanted_of rfl rfl t67)]
              go_simp
              exact hK _ _ (hJ.val HOK 26 _ (by kernel_rfl) rfl (Below.refl _ _))
            case o15_27 =>
              intro LX V aX wX K hl hp hcl hf hJ hK
              have t67 := hf.in (i := 13) (d := 67) (by kernel_rfl) (hp 13 (by kernel_rfl)) (hJ.vals 13 _ rfl (hp 13 (by kernel_rfl)))
              have t80 := hf.in (i := 26) (d := 80) (by kernel_rfl) (hp 26 (by kernel_rfl)) (hJ.vals 26 _ rfl (hp 26 (by kernel_rfl)))
              rw [if_pos (by rfl)]
              go_simp
              exact hK _ _ (hJ.val HOK 27 _ (by kernel_rfl) rfl (Below.refl _ _))
          intro V wk hJ
          have hv := hJ.vals 27 _ rfl (by kernel_rfl)
          have hbk := hJ.below
          simp only [puts, Act.put, List.setIfInBounds_toArray, List.set_cons_zero, List.set_cons_succ]
          rw [hv]
          clear hJ HOK hv
          have HBK := Lib.hid (hbi.out.trans (hbk.mono hbi.out.size))
          clear hbk
          go_wp2_with fail
          go_roundw
          case rel => exact ⟨i + 1, by omega, by go_num, HBK⟩
          case measure => simp [intOf]; omega
        · have hip2 : np = i := by omega
          subst hip2
          have hip5 : ¬ (np : Int) < (np : Int) := by omega
          go_wp2_with fail
          refine (HAW.out wr (HB6.out.trans (hbi.out.mono HB6.out.size))).mono ?_
          rintro e w7 ⟨rfl, hb7⟩
          have HB7 := Lib.hid hb7
          clear hb7
          go_wp2_with fail
          go_ret
          exact ⟨rfl, HB7.out⟩
    · injection hso with hso
      subst hso
      have hzz : (f == 0) = false := by simpa using hf0
      have hzz2 : (f != 0) = true := by simpa using hf0
      clear hf0 c0 c1 c3
      go_wp2_with fail
      refine (HAW.out w5 (HB5.out.trans (HB5'.out.mono HB5.out.size))).mono ?_
      rintro e w7 ⟨rfl, hb7⟩
      have HB7 := Lib.hid hb7
      clear hb7
      go_wp2_with fail
      go_ret
      exact ⟨rfl, HB7.out⟩
theorem SlabFinds_z {w : World} (g : Rg) (hg : ∃ R, IsRings w g.a g.n g.c R ∧ Kept R) {ap : Option Addr} {np cp : Nat} {P : List Pt} (hp : IsPts w ap np cp P) :
    Calls Tryz.prog 3 #[g.val, .slice ap np cp] w fun e w' => e = .returned (.bool true) ∧ Below w.heap.size w w' := by
  obtain ⟨R, hr, hk⟩ := hg
  exact SlabFinds_any _ _ _ R _ _ _ P w hr hk hp
end Go.Proofs.YtdikecfplohpeaaGreat

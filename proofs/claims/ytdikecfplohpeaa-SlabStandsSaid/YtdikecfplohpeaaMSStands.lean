/- SlabStands: the walk (printed by mkstands.py) -/
import Derived.Test.YtdikecfplohpeaaMSAwake
import Derived.Test.YtdikecfplohpeaaMSRHeights
import Derived.Test.YtdikecfplohpeaaMQRCheck
import Derived.Test.YtdikecfplohpeaaMQIn2
set_option linter.unusedSimpArgs false
set_option linter.unusedVariables false
namespace Go.Proofs.Ytdikecfplohpeaa
open Go.RowKit Go.Geo
attribute [local go_sem] Oper.semAt_some
set_option maxRecDepth 100000 in
set_option maxHeartbeats 8000000 in
theorem SlabStands_any (ao : Option Addr) (n cap : Nat) (R : List (List Pt)) (at_ : Int) (w : World) (h : IsRings w ao n cap R) (hk : Kept R) :
    Calls Try.prog 3 #[.agg #[.slice ao n cap], .int .i64 at_] w fun e w' => e = .returned (.bool true) ∧ Below w.heap.size w w' := by
  have HL := Lib.hid h.1
  obtain ⟨W0, hW0⟩ : ∃ W, W = w.alloc (.cells #[.slice ao n cap] 24) := ⟨_, rfl⟩
  have hg0 : Below w.heap.size w W0 := by rw [hW0]; exact (Below.refl _ _).alloc (Nat.le_refl _) _
  have k0 : W0.heap[w.heap.size]? = some (.cells #[.slice ao n cap] 24 (0, 0)) := by rw [hW0]; exact alloc_new _ _
  have HI := Lib.hid (h.later hg0 (Nat.le_refl _))
  have H0 := Lib.hid hg0
  have HC : Hid (∀ wr, Below W0.heap.size W0 wr → wr.cell? ⟨w.heap.size, 0, none⟩ = some (.slice ao n cap)) := Lib.hid (fun wr hb => cell_of_row _ _ _ _ _ _ ((hb.block _ (heap_lt' k0)).trans k0))
  have HBG := Lib.hid (BigRegion_any ao n cap R 120 W0 HI.out hk (by omega))
  have c0 := HC.out W0 (Below.refl _ _)
  rw [hW0] at c0
  clear h hk hg0 k0
  go_enter Try.func3, Try.ntmps3
  go_wp2_with fail
  rw [← hW0]
  clear hW0 c0
  refine HBG.out.mono ?_
  rintro e w1 ⟨q, rfl, hq, hb1⟩
  have HB1 := Lib.hid hb1
  have c0 := HC.out w1 hb1
  have HQ := Lib.hid hq
  clear hb1 hq
  cases q with
  | true =>
    go_wp2_with fail
    refine (awake_any w1).mono ?_
    rintro e w2 ⟨rfl, hb2⟩
    have HB2 := Lib.hid (H0.out.trans ((HB1.out.trans (hb2.mono HB1.out.size)).mono H0.out.size))
    clear hb2
    go_wp2_with fail
    go_ret
    exact ⟨rfl, HB2.out⟩
  | false =>
    obtain ⟨hq1, hq2⟩ := HQ.out rfl
    have HS := Lib.hid hq2
    have hn22 : n ≤ 22 := by rw [← HL.out]; exact hq1
    have HBU := Lib.hid (Build_any ao n cap R w1 (HI.out.later HB1.out (Nat.le_refl _)) (by omega))
    clear hq1 hq2 HQ
    go_wp2_with fail
    refine HBU.out.mono ?_
    rintro e w2 ⟨hb2, hok, hno⟩
    have HB2 := Lib.hid (HB1.out.trans (hb2.mono HB1.out.size))
    by_cases hz : (regionCheckP R).1 = 0
    · obtain ⟨g, rfl, hgs, how⟩ := hok hz
      have HSI := Lib.hid (slabs_is hz how)
      have h2H := heights_two hz
      have hHL := heights_len R
      have HZ := Lib.hid hz
      clear hok hno hgs how hb2 hz c0
      obtain ⟨W3, hW3⟩ : ∃ W, W = w2.alloc (.cells #[.int .i64 0, .int .i64 0] 30) := ⟨_, rfl⟩
      have hb3 : Below w2.heap.size w2 W3 := by rw [hW3]; exact (Below.refl _ _).alloc (Nat.le_refl _) _
      have HB3 := Lib.hid (HB2.out.trans (hb3.mono HB2.out.size))
      have HS3 := Lib.hid (HSI.out.later hb3)
      have c0 := HC.out W3 HB3.out
      rw [hW3] at c0
      have HRH := Lib.hid (rHeights_any ao n cap R W3 (HI.out.later HB3.out (Nat.le_refl _)) (by have := HS.out; omega) (by omega))
      clear hb3
      go_wp2_with fail
      rw [← hW3]
      clear hW3 c0
      refine HRH.out.mono ?_
      rintro e w4 ⟨v4, rfl, ho4, hb4⟩
      obtain ⟨ah, ch, hv4, hi4⟩ := ho4.ints
      have HB4 := Lib.hid (HB3.out.trans (hb4.mono HB3.out.size))
      have HS4 := Lib.hid (HS3.out.later hb4)
      obtain ⟨m, hm⟩ : ∃ m, (heightsP R).length = m + 1 := ⟨(heightsP R).length - 1, by omega⟩
      rw [hm] at hv4 hi4
      have hEs : (slabsR R).length = m := by rw [slabsR_len, hm]; rfl
      obtain ⟨bh, oh, hah, _⟩ := hi4.at (i := 0) (by omega)
      subst hah
      subst hv4
      have HI4 := Lib.hid hi4
      have HM := Lib.hid hm
      have HES := Lib.hid hEs
      have hchm := hi4.2.2.1
      unfold maxLen at hchm
      have hm1 : 1 ≤ m := by omega
      have hm4 : m ≤ 120 := by have := HS.out; omega
      have hLE := Len_any g _ _ w4 HS4.out
      rw [hEs] at hLE
      have HLE := Lib.hid hLE
      have hmi : (m : Int) + 1 - 1 = (m : Int) := by omega
      have hmi2 : ((m + 1 : Nat) : Int) - 1 = (m : Int) := by omega
      have hwm : IntKind.i64.wrap (m : Int) = (m : Int) := IntWalk.i64_in _ (by omega)
      have hmm : ((m : Int) == (m : Int)) = true := by simp
      have hmm2 : ((m : Int) != (m : Int)) = false := by simp
      clear ho4 hb4 hi4 hm hEs hLE h2H hHL
      go_wp2_with fail
      refine HLE.out.mono ?_
      rintro e w5 ⟨rfl, rfl⟩
      go_wp2_with fail
      go_loopw [8, 9] (fun s i wr => ∃ k : Nat, k ≤ m ∧ i = .int .i64 k ∧ (∃ t : Nat, t ≤ 1000000 ∧ s = .int .i64 t ∧ Hid (t = mostE ((slabsR R).take k))) ∧ Hid (Below w5.heap.size w5 wr)) (fun _ i _ => m - (intOf i).toNat)
      case atStart => exact ⟨0, by omega, rfl, ⟨0, by omega, rfl, Lib.hid rfl⟩, Below.refl _ _⟩
      case round =>
        obtain ⟨k, hk, rfl, ⟨t, htb, rfl, ht⟩, hbl⟩ := hrel
        by_cases hlt : k < m
        · have hk0 : (0 : Int) ≤ (k : Int) := by omega
          have hk5 : (k : Int) + 1 < (m : Int) + 1 := by omega
          have hk6 : (k : Int) + 1 < ((m + 1 : Nat) : Int) := by omega
          have hk7 : (k : Int) < (m : Int) + 1 := by omega
          have hk8 : (0 : Int) ≤ (k : Int) + 1 := by omega
          have hwk : IntKind.i64.wrap ((k : Int) + 1) = (k : Int) + 1 := IntWalk.i64_in _ (by omega)
          have hSB := Slab_any g k _ _ wr (HS4.out.later hbl.out) (by rw [HES.out]; exact hlt)
          obtain ⟨lo, hlo⟩ : ∃ x, x = (heightsP R).getD k 0 := ⟨_, rfl⟩
          obtain ⟨hi, hhi⟩ : ∃ x, x = (heightsP R).getD (k + 1) 0 := ⟨_, rfl⟩
          obtain ⟨ei, hei⟩ : ∃ x, x = ((slabsR R).getD k []).length := ⟨_, rfl⟩
          rw [← hlo, ← hhi, ← hei] at hSB
          have HSB := Lib.hid hSB
          have hei6 : ei ≤ 1000000 := by
            rw [hei]
            exact Nat.le_trans (flat_le _ (by rw [HES.out]; exact hlt)) HS4.out.small2
          have HRF : Hid (refE R lo hi = ei) := Lib.hid (by rw [hei, slabsR_get (by rw [HM.out]; omega), hlo, hhi]; exact (slab_ref (by rw [HM.out]; omega)).symm)
          have HST : Hid (mostE ((slabsR R).take (k + 1)) = max t ei) := Lib.hid (by rw [mostE_take (by rw [HES.out]; exact hlt), ← ht.out, hei])
          have HCK : Hid (∀ wX, Below w5.heap.size w5 wX → wX.cell? ⟨bh, oh + k, none⟩ = some (.int .i64 lo) ∧ wX.cell? ⟨bh, oh + (k + 1), none⟩ = some (.int .i64 hi) ∧ wX.cell? ⟨w.heap.size, 0, none⟩ = some (.slice ao n cap)) := Lib.hid (fun wX hX => by
            obtain ⟨b', o', e', q1⟩ := (HI4.out.later hX (Nat.le_refl _)).at (i := k) (by omega)
            cases e'
            obtain ⟨b', o', e', q2⟩ := (HI4.out.later hX (Nat.le_refl _)).at (i := k + 1) (by omega)
            cases e'
            rw [hlo, hhi]
            exact ⟨q1, q2, HC.out wX (HB4.out.trans (hX.mono HB4.out.size))⟩)
          clear hSB hlo hhi hei ht
          go_wp2_with fail
          refine HSB.out.mono ?_
          rintro e w7 ⟨rfl, hb7⟩
          have HB7 := Lib.hid (hbl.out.trans (hb7.mono hbl.out.size))
          have HCELLS : Hid (∀ wX, Below w7.heap.size w7 wX → wX.cell? ⟨bh, oh + k, none⟩ = some (.int .i64 lo) ∧ wX.cell? ⟨bh, oh + (k + 1), none⟩ = some (.int .i64 hi) ∧ wX.cell? ⟨w.heap.size, 0, none⟩ = some (.slice ao n cap)) := Lib.hid (fun wX hX => HCK.out wX (HB7.out.trans (hX.mono HB7.out.size)))
          have hRE : ∀ wX, Below w7.heap.size w7 wX → Calls Try.prog 14 #[.agg #[.slice ao n cap], .int .i64 lo, .int .i64 hi] wX fun e w' => e = .returned (.int .i64 (ei : Int)) ∧ Below wX.heap.size wX w' := fun wX hX => by
            have hx := rEdges_any ao n cap R lo hi wX (HI.out.later (HB4.out.trans ((HB7.out.trans (hX.mono HB7.out.size)).mono HB4.out.size)) (Nat.le_refl _)) (by have := HS.out; omega) (by omega)
            rw [HRF.out] at hx
            exact hx
          have HRE := Lib.hid hRE
          clear hb7 hRE
          go_wp2_with fail
          have HOK : ∀ f ∈ ([] : List Fct), FctOk f := by
            intro f hf; cases hf
          refine wp_region_J (s := [(61, 0), (62, 1), (63, 2), (64, 3), (65, 4), (66, 5), (67, 6), (68, 7), (69, 8), (70, 9), (71, 10), (72, 11), (73, 12), (74, 13), (75, 14), (76, 15), (77, 16), (78, 17), (79, 18), (80, 19), (81, 20), (82, 21), (83, 22), (84, 23), (85, 24), (86, 25), (87, 26), (88, 27), (89, 28), (90, 29), (91, 30), (92, 31), (93, 32), (94, 33)]) (by kernel_rfl) (GrowJ w7 (fun iX => match iX with | 0 => some (.int .i64 (lo)) | 1 => some (.slice (some ⟨bh, oh, none⟩) (m + 1) ch) | 2 => some (.int .i64 (k : Int)) | 3 => some (.pointer (some ⟨bh, oh + k, none⟩)) | 4 => some (.int .i64 (lo)) | 5 => some (.bool false) | 6 => some (.bool false) | 7 => some (.int .i64 (hi)) | 8 => some (.slice (some ⟨bh, oh, none⟩) (m + 1) ch) | 9 => some (.int .i64 (k : Int)) | 10 => some (.int .i64 ((k : Int) + 1)) | 11 => some (.pointer (some ⟨bh, oh + (k + 1), none⟩)) | 12 => some (.int .i64 (hi)) | 13 => some (.bool false) | 14 => some (.bool false) | 15 => some (.bool false) | 16 => some (.int .i64 (ei : Int)) | 17 => some (.agg #[.slice ao n cap]) | 18 => some (.slice (some ⟨bh, oh, none⟩) (m + 1) ch) | 19 => some (.int .i64 (k : Int)) | 20 => some (.pointer (some ⟨bh, oh + k, none⟩)) | 21 => some (.int .i64 (lo)) | 22 => some (.slice (some ⟨bh, oh, none⟩) (m + 1) ch) | 23 => some (.int .i64 (k : Int)) | 24 => some (.int .i64 ((k : Int) + 1)) | 25 => some (.pointer (some ⟨bh, oh + (k + 1), none⟩)) | 26 => some (.int .i64 (hi)) | 27 => some (.int .i64 (ei : Int)) | 28 => some (.bool false) | 29 => some (.bool false) | 30 => some (.bool false) | 31 => some (.int .i64 0) | 32 => some (.bool false) | 33 => some (.bool false) | _ => none) []) (by kernel_rfl) (by kernel_rfl) (by kernel_rfl) (by kernel_rfl) (fun _ => undef) ?start14 ?step14 ?done14
          case start14 => exact GrowJ.start ((Below.refl _ _).drew)
          case step14 =>
            refine ⟨?o14_0, ?o14_1, ?o14_2, ?o14_3, ?o14_4, ?o14_5, ?o14_6, ?o14_7, ?o14_8, ?o14_9, ?o14_10, ?o14_11, ?o14_12, ?o14_13, ?o14_14, ?o14_15, ?o14_16, ?o14_17, ?o14_18, ?o14_19, ?o14_20, ?o14_21, ?o14_22, ?o14_23, ?o14_24, ?o14_25, ?o14_26, ?o14_27, ?o14_28, ?o14_29, ?o14_30, ?o14_31, ?o14_32, ?o14_33, trivial⟩
            case o14_0 =>
              intro LX V aX wX K hl hp hcl hf hJ hK
              have t10 : aX.tmps[10]? = some (.int .i64 (lo)) := hf.old (by kernel_rfl) rfl
              rw [if_pos (by rfl)]
              go_simp
              exact hK _ _ (hJ.val HOK 0 _ (by kernel_rfl) rfl (Below.refl _ _))
            case o14_1 =>
              intro LX V aX wX K hl hp hcl hf hJ hK
              have t7 : aX.tmps[7]? = some (.slice (some ⟨bh, oh, none⟩) (m + 1) ch) := hf.old (by kernel_rfl) rfl
              rw [if_pos (by rfl)]
              go_simp
              exact hK _ _ (hJ.val HOK 1 _ (by kernel_rfl) rfl (Below.refl _ _))
            case o14_2 =>
              intro LX V aX wX K hl hp hcl hf hJ hK
              have t9 : aX.tmps[9]? = some (.int .i64 (k : Int)) := hf.old (by kernel_rfl) rfl
              rw [if_pos (by rfl)]
              go_simp
              exact hK _ _ (hJ.val HOK 2 _ (by kernel_rfl) rfl (Below.refl _ _))
            case o14_3 =>
              intro LX V aX wX K hl hp hcl hf hJ hK
              have t62 := hf.in (i := 1) (d := 62) (by kernel_rfl) (hp 1 (by kernel_rfl)) (hJ.vals 1 _ rfl (hp 1 (by kernel_rfl)))
              have t63 := hf.in (i := 2) (d := 63) (by kernel_rfl) (hp 2 (by kernel_rfl)) (hJ.vals 2 _ rfl (hp 2 (by kernel_rfl)))
              rw [if_pos (by rfl)]
              go_simp
              exact hK _ _ (hJ.val HOK 3 _ (by kernel_rfl) rfl (Below.refl _ _))
            case o14_4 =>
              intro LX V aX wX K hl hp hcl hf hJ hK
              have t64 := hf.in (i := 3) (d := 64) (by kernel_rfl) (hp 3 (by kernel_rfl)) (hJ.vals 3 _ rfl (hp 3 (by kernel_rfl)))
              obtain ⟨c0, c1, c2⟩ := HCELLS.out wX hJ.below
              rw [if_pos (by rfl)]
              go_simp
              exact hK _ _ (hJ.val HOK 4 _ (by kernel_rfl) rfl (Below.refl _ _))
            case o14_5 =>
              intro LX V aX wX K hl hp hcl hf hJ hK
              have t61 := hf.in (i := 0) (d := 61) (by kernel_rfl) (hp 0 (by kernel_rfl)) (hJ.vals 0 _ rfl (hp 0 (by kernel_rfl)))
              have t65 := hf.in (i := 4) (d := 65) (by kernel_rfl) (hp 4 (by kernel_rfl)) (hJ.vals 4 _ rfl (hp 4 (by kernel_rfl)))
              have he : (lo == lo) = true := by simp
              have he2 : (lo != lo) = false := by simp
              rw [if_pos (by rfl)]
              go_simp
              exact hK _ _ (hJ.val HOK 5 _ (by kernel_rfl) rfl (Below.refl _ _))
            case o14_6 =>
              intro LX V aX wX K hl hp hcl hf hJ hK
              have t66 := hf.in (i := 5) (d := 66) (by kernel_rfl) (hp 5 (by kernel_rfl)) (hJ.vals 5 _ rfl (hp 5 (by kernel_rfl)))
              rw [if_pos (by rfl)]
              go_simp
              exact hK _ _ (hJ.val HOK 6 _ (by kernel_rfl) rfl (Below.refl _ _))
            case o14_7 =>
              intro LX V aX wX K hl hp hcl hf hJ hK
              have t11 : aX.tmps[11]? = some (.int .i64 (hi)) := hf.old (by kernel_rfl) rfl
              have t67 := hf.in (i := 6) (d := 67) (by kernel_rfl) (hp 6 (by kernel_rfl)) (hJ.vals 6 _ rfl (hp 6 (by kernel_rfl)))
              rw [if_pos (wanted_of rfl rfl t67)]
              go_simp
              exact hK _ _ (hJ.val HOK 7 _ (by kernel_rfl) rfl (Below.refl _ _))
            case o14_8 =>
              intro LX V aX wX K hl hp hcl hf hJ hK
              have t7 : aX.tmps[7]? = some (.slice (some ⟨bh, oh, none⟩) (m + 1) ch) := hf.old (by kernel_rfl) rfl
              have t67 := hf.in (i := 6) (d := 67) (by kernel_rfl) (hp 6 (by kernel_rfl)) (hJ.vals 6 _ rfl (hp 6 (by kernel_rfl)))
              rw [if_pos (wanted_of rfl rfl t67)]
              go_simp
              exact hK _ _ (hJ.val HOK 8 _ (by kernel_rfl) rfl (Below.refl _ _))
            case o14_9 =>
              intro LX V aX wX K hl hp hcl hf hJ hK
              have t9 : aX.tmps[9]? = some (.int .i64 (k : Int)) := hf.old (by kernel_rfl) rfl
              have t67 := hf.in (i := 6) (d := 67) (by kernel_rfl) (hp 6 (by kernel_rfl)) (hJ.vals 6 _ rfl (hp 6 (by kernel_rfl)))
              rw [if_pos (wanted_of rfl rfl t67)]
              go_simp
              exact hK _ _ (hJ.val HOK 9 _ (by kernel_rfl) rfl (Below.refl _ _))
            case o14_10 =>
              intro LX V aX wX K hl hp hcl hf hJ hK
              have t70 := hf.in (i := 9) (d := 70) (by kernel_rfl) (hp 9 (by kernel_rfl)) (hJ.vals 9 _ rfl (hp 9 (by kernel_rfl)))
              have t67 := hf.in (i := 6) (d := 67) (by kernel_rfl) (hp 6 (by kernel_rfl)) (hJ.vals 6 _ rfl (hp 6 (by kernel_rfl)))
              rw [if_pos (wanted_of rfl rfl t67)]
              go_simp
              exact hK _ _ (hJ.val HOK 10 _ (by kernel_rfl) rfl (Below.refl _ _))
            case o14_11 =>
              intro LX V aX wX K hl hp hcl hf hJ hK
              have t69 := hf.in (i := 8) (d := 69) (by kernel_rfl) (hp 8 (by kernel_rfl)) (hJ.vals 8 _ rfl (hp 8 (by kernel_rfl)))
              have t71 := hf.in (i := 10) (d := 71) (by kernel_rfl) (hp 10 (by kernel_rfl)) (hJ.vals 10 _ rfl (hp 10 (by kernel_rfl)))
              have t67 := hf.in (i := 6) (d := 67) (by kernel_rfl) (hp 6 (by kernel_rfl)) (hJ.vals 6 _ rfl (hp 6 (by kernel_rfl)))
              rw [if_pos (wanted_of rfl rfl t67)]
              go_simp
              exact hK _ _ (hJ.val HOK 11 _ (by kernel_rfl) rfl (Below.refl _ _))
            case o14_12 =>
              intro LX V aX wX K hl hp hcl hf hJ hK
              have t72 := hf.in (i := 11) (d := 72) (by kernel_rfl) (hp 11 (by kernel_rfl)) (hJ.vals 11 _ rfl (hp 11 (by kernel_rfl)))
              have t67 := hf.in (i := 6) (d := 67) (by kernel_rfl) (hp 6 (by kernel_rfl)) (hJ.vals 6 _ rfl (hp 6 (by kernel_rfl)))
              obtain ⟨c0, c1, c2⟩ := HCELLS.out wX hJ.below
              rw [if_pos (wanted_of rfl rfl t67)]
              go_simp
              exact hK _ _ (hJ.val HOK 12 _ (by kernel_rfl) rfl (Below.refl _ _))
            case o14_13 =>
              intro LX V aX wX K hl hp hcl hf hJ hK
              have t68 := hf.in (i := 7) (d := 68) (by kernel_rfl) (hp 7 (by kernel_rfl)) (hJ.vals 7 _ rfl (hp 7 (by kernel_rfl)))
              have t73 := hf.in (i := 12) (d := 73) (by kernel_rfl) (hp 12 (by kernel_rfl)) (hJ.vals 12 _ rfl (hp 12 (by kernel_rfl)))
              have t67 := hf.in (i := 6) (d := 67) (by kernel_rfl) (hp 6 (by kernel_rfl)) (hJ.vals 6 _ rfl (hp 6 (by kernel_rfl)))
              have he : (hi == hi) = true := by simp
              have he2 : (hi != hi) = false := by simp
              rw [if_pos (wanted_of rfl rfl t67)]
              go_simp
              exact hK _ _ (hJ.val HOK 13 _ (by kernel_rfl) rfl (Below.refl _ _))
            case o14_14 =>
              intro LX V aX wX K hl hp hcl hf hJ hK
              have t67 := hf.in (i := 6) (d := 67) (by kernel_rfl) (hp 6 (by kernel_rfl)) (hJ.vals 6 _ rfl (hp 6 (by kernel_rfl)))
              have t74 := hf.in (i := 13) (d := 74) (by kernel_rfl) (hp 13 (by kernel_rfl)) (hJ.vals 13 _ rfl (hp 13 (by kernel_rfl)))
              rw [if_pos (by rfl)]
              go_simp
              exact hK _ _ (hJ.val HOK 14 _ (by kernel_rfl) rfl (Below.refl _ _))
            case o14_15 =>
              intro LX V aX wX K hl hp hcl hf hJ hK
              have t75 := hf.in (i := 14) (d := 75) (by kernel_rfl) (hp 14 (by kernel_rfl)) (hJ.vals 14 _ rfl (hp 14 (by kernel_rfl)))
              rw [if_pos (by rfl)]
              go_simp
              exact hK _ _ (hJ.val HOK 15 _ (by kernel_rfl) rfl (Below.refl _ _))
            case o14_16 =>
              intro LX V aX wX K hl hp hcl hf hJ hK
              have t12 : aX.tmps[12]? = some (.int .i64 (ei : Int)) := hf.old (by kernel_rfl) rfl
              have t76 := hf.in (i := 15) (d := 76) (by kernel_rfl) (hp 15 (by kernel_rfl)) (hJ.vals 15 _ rfl (hp 15 (by kernel_rfl)))
              rw [if_pos (wanted_of rfl rfl t76)]
              go_simp
              exact hK _ _ (hJ.val HOK 16 _ (by kernel_rfl) rfl (Below.refl _ _))
            case o14_17 =>
              intro LX V aX wX K hl hp hcl hf hJ hK
              have t2 : aX.tmps[2]? = some (.pointer (some ⟨w.heap.size, 0, none⟩)) := hf.old (by kernel_rfl) rfl
              have t76 := hf.in (i := 15) (d := 76) (by kernel_rfl) (hp 15 (by kernel_rfl)) (hJ.vals 15 _ rfl (hp 15 (by kernel_rfl)))
              obtain ⟨c0, c1, c2⟩ := HCELLS.out wX hJ.below
              rw [if_pos (wanted_of rfl rfl t76)]
              go_simp
              exact hK _ _ (hJ.val HOK 17 _ (by kernel_rfl) rfl (Below.refl _ _))
            case o14_18 =>
              intro LX V aX wX K hl hp hcl hf hJ hK
              have t7 : aX.tmps[7]? = some (.slice (some ⟨bh, oh, none⟩) (m + 1) ch) := hf.old (by kernel_rfl) rfl
              have t76 := hf.in (i := 15) (d := 76) (by kernel_rfl) (hp 15 (by kernel_rfl)) (hJ.vals 15 _ rfl (hp 15 (by kernel_rfl)))
              rw [if_pos (wanted_of rfl rfl t76)]
              go_simp
              exact hK _ _ (hJ.val HOK 18 _ (by kernel_rfl) rfl (Below.refl _ _))
            case o14_19 =>
              intro LX V aX wX K hl hp hcl hf hJ hK
              have t9 : aX.tmps[9]? = some (.int .i64 (k : Int)) := hf.old (by kernel_rfl) rfl
              have t76 := hf.in (i := 15) (d := 76) (by kernel_rfl) (hp 15 (by kernel_rfl)) (hJ.vals 15 _ rfl (hp 15 (by kernel_rfl)))
              rw [if_pos (wanted_of rfl rfl t76)]
              go_simp
              exact hK _ _ (hJ.val HOK 19 _ (by kernel_rfl) rfl (Below.refl _ _))
            case o14_20 =>
              intro LX V aX wX K hl hp hcl hf hJ hK
              have t79 := hf.in (i := 18) (d := 79) (by kernel_rfl) (hp 18 (by kernel_rfl)) (hJ.vals 18 _ rfl (hp 18 (by kernel_rfl)))
              have t80 := hf.in (i := 19) (d := 80) (by kernel_rfl) (hp 19 (by kernel_rfl)) (hJ.vals 19 _ rfl (hp 19 (by kernel_rfl)))
              have t76 := hf.in (i := 15) (d := 76) (by kernel_rfl) (hp 15 (by kernel_rfl)) (hJ.vals 15 _ rfl (hp 15 (by kernel_rfl)))
              rw [if_pos (wanted_of rfl rfl t76)]
              go_simp
              exact hK _ _ (hJ.val HOK 20 _ (by kernel_rfl) rfl (Below.refl _ _))
            case o14_21 =>
              intro LX V aX wX K hl hp hcl hf hJ hK
              have t81 := hf.in (i := 20) (d := 81) (by kernel_rfl) (hp 20 (by kernel_rfl)) (hJ.vals 20 _ rfl (hp 20 (by kernel_rfl)))
              have t76 := hf.in (i := 15) (d := 76) (by kernel_rfl) (hp 15 (by kernel_rfl)) (hJ.vals 15 _ rfl (hp 15 (by kernel_rfl)))
              obtain ⟨c0, c1, c2⟩ := HCELLS.out wX hJ.below
              rw [if_pos (wanted_of rfl rfl t76)]
              go_simp
              exact hK _ _ (hJ.val HOK 21 _ (by kernel_rfl) rfl (Below.refl _ _))
            case o14_22 =>
              intro LX V aX wX K hl hp hcl hf hJ hK
              have t7 : aX.tmps[7]? = some (.slice (some ⟨bh, oh, none⟩) (m + 1) ch) := hf.old (by kernel_rfl) rfl
              have t76 := hf.in (i := 15) (d := 76) (by kernel_rfl) (hp 15 (by kernel_rfl)) (hJ.vals 15 _ rfl (hp 15 (by kernel_rfl)))
              rw [if_pos (wanted_of rfl rfl t76)]
              go_simp
              exact hK _ _ (hJ.val HOK 22 _ (by kernel_rfl) rfl (Below.refl _ _))
            case o14_23 =>
              intro LX V aX wX K hl hp hcl hf hJ hK
              have t9 : aX.tmps[9]? = some (.int .i64 (k : Int)) := hf.old (by kernel_rfl) rfl
              have t76 := hf.in (i := 15) (d := 76) (by kernel_rfl) (hp 15 (by kernel_rfl)) (hJ.vals 15 _ rfl (hp 15 (by kernel_rfl)))
              rw [if_pos (wanted_of rfl rfl t76)]
              go_simp
              exact hK _ _ (hJ.val HOK 23 _ (by kernel_rfl) rfl (Below.refl _ _))
            case o14_24 =>
              intro LX V aX wX K hl hp hcl hf hJ hK
              have t84 := hf.in (i := 23) (d := 84) (by kernel_rfl) (hp 23 (by kernel_rfl)) (hJ.vals 23 _ rfl (hp 23 (by kernel_rfl)))
              have t76 := hf.in (i := 15) (d := 76) (by kernel_rfl) (hp 15 (by kernel_rfl)) (hJ.vals 15 _ rfl (hp 15 (by kernel_rfl)))
              rw [if_pos (wanted_of rfl rfl t76)]
              go_simp
              exact hK _ _ (hJ.val HOK 24 _ (by kernel_rfl) rfl (Below.refl _ _))
            case o14_25 =>
              intro LX V aX wX K hl hp hcl hf hJ hK
              have t83 := hf.in (i := 22) (d := 83) (by kernel_rfl) (hp 22 (by kernel_rfl)) (hJ.vals 22 _ rfl (hp 22 (by kernel_rfl)))
              have t85 := hf.in (i := 24) (d := 85) (by kernel_rfl) (hp 24 (by kernel_rfl)) (hJ.vals 24 _ rfl (hp 24 (by kernel_rfl)))
              have t76 := hf.in (i := 15) (d := 76) (by kernel_rfl) (hp 15 (by kernel_rfl)) (hJ.vals 15 _ rfl (hp 15 (by kernel_rfl)))
              rw [if_pos (wanted_of rfl rfl t76)]
              go_simp
              exact hK _ _ (hJ.val HOK 25 _ (by kernel_rfl) rfl (Below.refl _ _))
            case o14_26 =>
              intro LX V aX wX K hl hp hcl hf hJ hK
              have t86 := hf.in (i := 25) (d := 86) (by kernel_rfl) (hp 25 (by kernel_rfl)) (hJ.vals 25 _ rfl (hp 25 (by kernel_rfl)))
              have t76 := hf.in (i := 15) (d := 76) (by kernel_rfl) (hp 15 (by kernel_rfl)) (hJ.vals 15 _ rfl (hp 15 (by kernel_rfl)))
              obtain ⟨c0, c1, c2⟩ := HCELLS.out wX hJ.below
              rw [if_pos (wanted_of rfl rfl t76)]
              go_simp
              exact hK _ _ (hJ.val HOK 26 _ (by kernel_rfl) rfl (Below.refl _ _))
            case o14_27 =>
              intro LX V aX wX K hl hp hcl hf hJ hK
              have t78 := hf.in (i := 17) (d := 78) (by kernel_rfl) (hp 17 (by kernel_rfl)) (hJ.vals 17 _ rfl (hp 17 (by kernel_rfl)))
              have t82 := hf.in (i := 21) (d := 82) (by kernel_rfl) (hp 21 (by kernel_rfl)) (hJ.vals 21 _ rfl (hp 21 (by kernel_rfl)))
              have t87 := hf.in (i := 26) (d := 87) (by kernel_rfl) (hp 26 (by kernel_rfl)) (hJ.vals 26 _ rfl (hp 26 (by kernel_rfl)))
              have t76 := hf.in (i := 15) (d := 76) (by kernel_rfl) (hp 15 (by kernel_rfl)) (hJ.vals 15 _ rfl (hp 15 (by kernel_rfl)))
              rw [if_pos (wanted_of rfl rfl t76)]
              go_simp
              refine (HRE.out _ hJ.below).mono ?_
              rintro e wA ⟨rfl, hbA⟩
              exact hK _ _ (hJ.val HOK 27 _ (by kernel_rfl) rfl (hbA))
            case o14_28 =>
              intro LX V aX wX K hl hp hcl hf hJ hK
              have t77 := hf.in (i := 16) (d := 77) (by kernel_rfl) (hp 16 (by kernel_rfl)) (hJ.vals 16 _ rfl (hp 16 (by kernel_rfl)))
              have t88 := hf.in (i := 27) (d := 88) (by kernel_rfl) (hp 27 (by kernel_rfl)) (hJ.vals 27 _ rfl (hp 27 (by kernel_rfl)))
              have t76 := hf.in (i := 15) (d := 76) (by kernel_rfl) (hp 15 (by kernel_rfl)) (hJ.vals 15 _ rfl (hp 15 (by kernel_rfl)))
              have he : ((ei : Int) == (ei : Int)) = true := by simp
              have he2 : ((ei : Int) != (ei : Int)) = false := by simp
              rw [if_pos (wanted_of rfl rfl t76)]
              go_simp
              exact hK _ _ (hJ.val HOK 28 _ (by kernel_rfl) rfl (Below.refl _ _))
            case o14_29 =>
              intro LX V aX wX K hl hp hcl hf hJ hK
              have t76 := hf.in (i := 15) (d := 76) (by kernel_rfl) (hp 15 (by kernel_rfl)) (hJ.vals 15 _ rfl (hp 15 (by kernel_rfl)))
              have t89 := hf.in (i := 28) (d := 89) (by kernel_rfl) (hp 28 (by kernel_rfl)) (hJ.vals 28 _ rfl (hp 28 (by kernel_rfl)))
              rw [if_pos (by rfl)]
              go_simp
              exact hK _ _ (hJ.val HOK 29 _ (by kernel_rfl) rfl (Below.refl _ _))
            case o14_30 =>
              intro LX V aX wX K hl hp hcl hf hJ hK
              have t90 := hf.in (i := 29) (d := 90) (by kernel_rfl) (hp 29 (by kernel_rfl)) (hJ.vals 29 _ rfl (hp 29 (by kernel_rfl)))
              rw [if_pos (by rfl)]
              go_simp
              exact hK _ _ (hJ.val HOK 30 _ (by kernel_rfl) rfl (Below.refl _ _))
            case o14_31 =>
              intro LX V aX wX K hl hp hcl hf hJ hK
              have t13 : aX.tmps[13]? = some (.int .i64 0) := hf.old (by kernel_rfl) rfl
              have t91 := hf.in (i := 30) (d := 91) (by kernel_rfl) (hp 30 (by kernel_rfl)) (hJ.vals 30 _ rfl (hp 30 (by kernel_rfl)))
              rw [if_pos (wanted_of rfl rfl t91)]
              go_simp
              exact hK _ _ (hJ.val HOK 31 _ (by kernel_rfl) rfl (Below.refl _ _))
            case o14_32 =>
              intro LX V aX wX K hl hp hcl hf hJ hK
              have t92 := hf.in (i := 31) (d := 92) (by kernel_rfl) (hp 31 (by kernel_rfl)) (hJ.vals 31 _ rfl (hp 31 (by kernel_rfl)))
              have t91 := hf.in (i := 30) (d := 91) (by kernel_rfl) (hp 30 (by kernel_rfl)) (hJ.vals 30 _ rfl (hp 30 (by kernel_rfl)))
              rw [if_pos (wanted_of rfl rfl t91)]
              go_simp
              exact hK _ _ (hJ.val HOK 32 _ (by kernel_rfl) rfl (Below.refl _ _))
            case o14_33 =>
              intro LX V aX wX K hl hp hcl hf hJ hK
              have t91 := hf.in (i := 30) (d := 91) (by kernel_rfl) (hp 30 (by kernel_rfl)) (hJ.vals 30 _ rfl (hp 30 (by kernel_rfl)))
              have t93 := hf.in (i := 32) (d := 93) (by kernel_rfl) (hp 32 (by kernel_rfl)) (hJ.vals 32 _ rfl (hp 32 (by kernel_rfl)))
              rw [if_pos (by rfl)]
              go_simp
              exact hK _ _ (hJ.val HOK 33 _ (by kernel_rfl) rfl (Below.refl _ _))
          intro V wZ hJ
          have hv := hJ.vals 33 _ rfl (by kernel_rfl)
          have HBZ := Lib.hid hJ.below
          simp only [puts, Act.put, List.setIfInBounds_toArray, List.set_cons_zero, List.set_cons_succ]
          rw [hv]
          clear hJ HOK hv
          by_cases hc : t ≤ ei
          · have hc2 : (t : Int) ≤ (ei : Int) := by omega
            have hc3 : max (t : Int) (ei : Int) = (ei : Int) := by omega
            go_wp2_with fail
            go_roundw
            case rel => exact ⟨k + 1, by omega, by go_num, ⟨ei, hei6, by go_num, Lib.hid (by rw [HST.out]; omega)⟩, Lib.hid (HB7.out.trans (HBZ.out.mono HB7.out.size))⟩
            case measure => simp [intOf]; omega
          · have hc2 : ¬ (t : Int) ≤ (ei : Int) := by omega
            have hc3 : max (t : Int) (ei : Int) = (t : Int) := by omega
            go_wp2_with fail
            go_roundw
            case rel => exact ⟨k + 1, by omega, by go_num, ⟨t, htb, by go_num, Lib.hid (by rw [HST.out]; omega)⟩, Lib.hid (HB7.out.trans (HBZ.out.mono HB7.out.size))⟩
            case measure => simp [intOf]; omega
        · have hkm : m = k := by omega
          subst hkm
          have hk5 : ¬ (m : Int) + 1 < (m : Int) + 1 := by omega
          have HT : Hid (mostE (slabsR R) = t) := Lib.hid (by rw [ht.out, List.take_of_length_le (by rw [HES.out]; exact Nat.le_refl _)])
          have HSL := Lib.hid (HS4.out.later hbl.out)
          clear ht
          have hmost : ∀ wX, SlabIs wX g (heightsP R) (slabsR R) → Calls Try.prog 15 #[.pointer (some ⟨g, 0, none⟩)] wX fun e w' => e = .returned (.int .i64 (t : Int)) ∧ Below wX.heap.size wX w' := fun wX hX => by
            have h := Most_any g _ _ wX hX
            rw [HT.out] at h
            exact h
          have HMOST := Lib.hid hmost
          have htt : ((t : Int) == (t : Int)) = true := by simp
          clear hmost
          by_cases hin : 0 ≤ at_ ∧ at_ < (m : Int)
          · obtain ⟨hat0, hat5⟩ := hin
            obtain ⟨j, rfl⟩ : ∃ j : Nat, at_ = (j : Int) := ⟨at_.toNat, by omega⟩
            have hjm : j < m := by omega
            have hneg : ¬ (j : Int) < 0 := by omega
            have hge : ¬ (m : Int) ≤ (j : Int) := by omega
            have HSB := Lib.hid (Slab_any g j _ _ wr HSL.out (by rw [HES.out]; exact hjm))
            go_wp2_with fail
            refine HSB.out.mono ?_
            rintro e w7 ⟨rfl, hb7⟩
            have HS7 := Lib.hid (HSL.out.later hb7)
            have HB7 := Lib.hid (hbl.out.trans (hb7.mono hbl.out.size))
            clear hb7
            go_wp2_with fail
            refine (HMOST.out w7 HS7.out).mono ?_
            rintro e w8 ⟨rfl, hb8⟩
            have HB8 := Lib.hid (HB7.out.trans (hb8.mono HB7.out.size))
            clear hb8
            go_wp2_with fail
            refine (awake_any w8).mono ?_
            rintro e w9 ⟨rfl, hb9⟩
            have HB9 := Lib.hid (H0.out.trans ((HB4.out.trans ((HB8.out.trans (hb9.mono HB8.out.size)).mono HB4.out.size)).mono H0.out.size))
            clear hb9
            go_wp2_with fail
            go_ret
            exact ⟨rfl, HB9.out⟩
          · have HSB := Lib.hid (Slab_out g at_ _ _ wr HSL.out (by rw [HES.out]; omega))
            by_cases hneg : at_ < 0
            · clear hin
              go_wp2_with fail
              refine HSB.out.mono ?_
              rintro e w7 ⟨rfl, hb7⟩
              have HS7 := Lib.hid (HSL.out.later hb7)
              have HB7 := Lib.hid (hbl.out.trans (hb7.mono hbl.out.size))
              clear hb7
              go_wp2_with fail
              refine (HMOST.out w7 HS7.out).mono ?_
              rintro e w8 ⟨rfl, hb8⟩
              have HB8 := Lib.hid (HB7.out.trans (hb8.mono HB7.out.size))
              clear hb8
              go_wp2_with fail
              refine (awake_any w8).mono ?_
              rintro e w9 ⟨rfl, hb9⟩
              have HB9 := Lib.hid (H0.out.trans ((HB4.out.trans ((HB8.out.trans (hb9.mono HB8.out.size)).mono HB4.out.size)).mono H0.out.size))
              clear hb9
              go_wp2_with fail
              go_ret
              exact ⟨rfl, HB9.out⟩
            · have hge : (m : Int) ≤ at_ := by omega
              clear hin
              go_wp2_with fail
              refine HSB.out.mono ?_
              rintro e w7 ⟨rfl, hb7⟩
              have HS7 := Lib.hid (HSL.out.later hb7)
              have HB7 := Lib.hid (hbl.out.trans (hb7.mono hbl.out.size))
              clear hb7
              go_wp2_with fail
              refine (HMOST.out w7 HS7.out).mono ?_
              rintro e w8 ⟨rfl, hb8⟩
              have HB8 := Lib.hid (HB7.out.trans (hb8.mono HB7.out.size))
              clear hb8
              go_wp2_with fail
              refine (awake_any w8).mono ?_
              rintro e w9 ⟨rfl, hb9⟩
              have HB9 := Lib.hid (H0.out.trans ((HB4.out.trans ((HB8.out.trans (hb9.mono HB8.out.size)).mono HB4.out.size)).mono H0.out.size))
              clear hb9
              go_wp2_with fail
              go_ret
              exact ⟨rfl, HB9.out⟩
    · have he := hno hz
      subst he
      obtain ⟨fx, hfx⟩ : ∃ f, f = regionCheckP R := ⟨_, rfl⟩
      rw [← hfx] at hz ⊢
      obtain ⟨f, fa⟩ := fx
      have hzz : (f == 0) = false := by simpa using hz
      have hzz2 : (f != 0) = true := by simpa using hz
      clear hok hno hb2 hz hfx c0
      unfold faultV
      dsimp only
      go_wp2_with fail
      refine (awake_any _).mono ?_
      rintro e w9 ⟨rfl, hb9⟩
      have HB9 := Lib.hid (H0.out.trans (((HB2.out.alloc HB2.out.size _).trans (hb9.mono (Nat.le_trans HB2.out.size (by simp)))).mono H0.out.size))
      clear hb9
      go_wp2_with fail
      go_ret
      exact ⟨rfl, HB9.out⟩
theorem SlabStands_z {w : World} (g : Rg) (hg : ∃ R, IsRings w g.a g.n g.c R ∧ Kept R) (i : Int) :
    Calls Try.prog 3 #[g.val, .int .i64 i] w fun e w' => e = .returned (.bool true) ∧ Below w.heap.size w w' := by
  obtain ⟨R, hr, hk⟩ := hg
  exact SlabStands_any _ _ _ R i w hr hk
end Go.Proofs.Ytdikecfplohpeaa

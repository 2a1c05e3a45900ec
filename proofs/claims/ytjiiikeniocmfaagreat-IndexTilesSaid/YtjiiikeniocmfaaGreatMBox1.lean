/- a *Slabs: Slab, Crossings, In, Most (printed by mkslab2.py) -/
import Derived.Test.YtjiiikeniocmfaaGreatMSlabW
import Derived.Test.YtjiiikeniocmfaaGreatMSBuild
import Derived.Test.YtjiiikeniocmfaaGreatMGeo8
set_option linter.unusedSimpArgs false
set_option linter.unusedVariables false
namespace Go.Proofs.YtjiiikeniocmfaaGreat
open Go.RowKit Go.Geo
attribute [local go_sem] Oper.semAt_some
theorem take_countP {α : Type} (q : α → Bool) {E : List α} {k : Nat} (d : α) (h : k < E.length) : (E.take (k + 1)).countP q = (E.take k).countP q + (if q (E.getD k d) = true then 1 else 0) := by
  rw [take_more (d := d) h, List.countP_append, List.countP_singleton]
set_option maxRecDepth 100000 in
set_option maxHeartbeats 4000000 in
theorem Crossings_any (g : Nat) (H : List Int) (Es : List (List Edg)) (p : Pt) (w : World) (h : SlabIs w g H Es) (hsorted : H.Pairwise (· < ·)) :
    Calls Tryz.prog 53 #[.pointer (some ⟨g, 0, none⟩), ptV p] w fun e w' => e = .returned (.int .i64 (crossE H Es p : Int)) ∧ Below w.heap.size w w' := by
  obtain ⟨W, hW⟩ : ∃ W, W = w.alloc (.cells #[.int .i64 p.x, .int .i64 p.y] 24) := ⟨_, rfl⟩
  have hg0 : Below w.heap.size w W := by rw [hW]; exact (Below.refl _ _).alloc (Nat.le_refl _) _
  have ap : W.heap[w.heap.size]? = some (.cells #[.int .i64 p.x, .int .i64 p.y] 24 (0, 0)) := by rw [hW]; exact alloc_new _ _
  have HSI := Lib.hid (h.later hg0)
  have H0 := Lib.hid hg0
  have hex := HSI.out
  obtain ⟨⟨ah, ch, ao, co, ae, ce, h1, h2, h3, h4⟩, h5, h6, h7, h8⟩ := hex
  have HS : Hid (∀ wX, Below W.heap.size W wX → SlabIs wX g H Es) := Lib.hid (fun wX hX => HSI.out.later hX)
  have HVA := Lib.hid (Valid_any p)
  obtain ⟨n, hn⟩ : ∃ n, n = H.length := ⟨_, rfl⟩
  obtain ⟨m, hm⟩ : ∃ m, m = Es.length := ⟨_, rfl⟩
  rw [← hn] at h1 h2 h7
  have HCELLS : Hid (∀ wX, Below W.heap.size W wX → wX.cell? ⟨g, 0, none⟩ = some (.bool true) ∧ wX.cell? ⟨g, 1, none⟩ = some (.slice ah n ch) ∧ wX.cell? ⟨w.heap.size, 0, none⟩ = some (.int .i64 p.x) ∧ wX.cell? ⟨w.heap.size, 1, none⟩ = some (.int .i64 p.y)) := Lib.hid (fun wX hX => by
    have k := (hX.block _ (heap_lt' h1)).trans h1
    have kp := (hX.block _ (heap_lt' ap)).trans ap
    exact ⟨cell_of_row _ _ _ _ _ _ k, cell_of_row _ _ _ _ _ _ k, cell_of_row _ _ _ _ _ _ kp, cell_of_row _ _ _ _ _ _ kp⟩)
  obtain ⟨k0, k1, kx, ky⟩ := HCELLS.out W (Below.refl _ _)
  rw [hW] at k0 k1 kx ky
  obtain ⟨r, hr⟩ : ∃ r, r = crossE H Es p := ⟨_, rfl⟩
  rw [← hr]
  have HR := Lib.hid hr
  have HSRT := Lib.hid hsorted
  have HNM : Hid (n = m + 1) := Lib.hid (by omega)
  have hn6 : n ≤ 1000000 := h7
  have hsle : H.Pairwise (· ≤ ·) := hsorted.imp fun h => Int.le_of_lt h
  have HSE : Hid (∀ wX, Below W.heap.size W wX → Calls Tryz.prog 86 #[.slice ah n ch, .int .i64 p.y] wX fun e w' => e = .returned (.tuple #[.int .i64 (H.countP (· < p.y) : Nat), .bool (H.contains p.y)]) ∧ ∃ q, w' = wX.drewN q) := Lib.hid (fun wX hX => Search_ints ah n ch H p.y wX (h2.later hX (Nat.le_refl _)) (by omega) hn6 hsle)
  obtain ⟨c, hc⟩ : ∃ c, c = H.countP (fun h => decide (h < p.y)) := ⟨_, rfl⟩
  obtain ⟨ct, hct⟩ : ∃ c, c = H.contains p.y := ⟨_, rfl⟩
  rw [← hc, ← hct] at HSE
  have hK : kH H p.y = c + (if ct = true then 1 else 0) := by rw [hc, hct]; exact kH_search hsorted p.y
  have HK := Lib.hid hK
  have HN := Lib.hid hn
  have HM := Lib.hid hm
  have hcn : c ≤ n := by rw [hc, hn]; exact List.countP_le_length
  clear h h1 h2 h3 h4 h5 h6 h7 h8 ap hg0 hr hsorted hsle hc hct hK hn hm
  unfold ptV at HVA ⊢
  obtain ⟨vl, hvl⟩ : ∃ v, v = validP p := ⟨_, rfl⟩
  rw [← hvl] at HVA
  have HVL := Lib.hid hvl
  clear hvl
  go_enter Tryz.func53, Tryz.ntmps53
  go_wp2_with fail
  rw [← hW]
  clear hW k0 k1 kx ky
  refine (HVA.out W).mono ?_
  rintro e w1 ⟨rfl, hgv⟩
  have HB1 := Lib.hid hgv.1
  clear hgv
  cases vl with
  | false =>
    have HRF : Hid (r = 0) := Lib.hid (by rw [HR.out]; unfold crossE; rw [if_pos (.inl HVL.out.symm)])
    go_wp2_with fail
    go_ret
    exact ⟨by rw [HRF.out]; rfl, H0.out.trans (HB1.out.mono H0.out.size)⟩
  | true =>
    replace HCELLS : Hid (∀ wX, Below w1.heap.size w1 wX → wX.cell? ⟨g, 0, none⟩ = some (.bool true) ∧ wX.cell? ⟨g, 1, none⟩ = some (.slice ah n ch) ∧ wX.cell? ⟨w.heap.size, 0, none⟩ = some (.int .i64 p.x) ∧ wX.cell? ⟨w.heap.size, 1, none⟩ = some (.int .i64 p.y)) := Lib.hid (fun wX hX => HCELLS.out wX (HB1.out.trans (hX.mono HB1.out.size)))
    replace HSE : Hid (∀ wX, Below w1.heap.size w1 wX → Calls Tryz.prog 86 #[.slice ah n ch, .int .i64 p.y] wX fun e w' => e = .returned (.tuple #[.int .i64 (c : Nat), .bool ct]) ∧ ∃ q, w' = wX.drewN q) := Lib.hid (fun wX hX => HSE.out wX (HB1.out.trans (hX.mono HB1.out.size)))
    replace HS : Hid (∀ wX, Below w1.heap.size w1 wX → SlabIs wX g H Es) := Lib.hid (fun wX hX => HS.out wX (HB1.out.trans (hX.mono HB1.out.size)))
    have HW1 := Lib.hid (H0.out.trans (HB1.out.mono H0.out.size))
    clear H0 HB1 HVA
    go_wp2_with fail
    have HOK : ∀ f ∈ ([] : List Fct), FctOk f := by
      intro f hf; cases hf
    refine wp_region_J (s := [(25, 0), (26, 1), (27, 2), (28, 3), (29, 4), (30, 5), (31, 6), (24, 7), (32, 8), (33, 9), (5, 10), (6, 11)]) (by kernel_rfl) (GrowJ w1 (fun iX => match iX with | 0 => some (.pointer (some ⟨g, 0, none⟩)) | 1 => some (.pointer (some ⟨g, 0, none⟩)) | 2 => some (.pointer (some ⟨g, 1, none⟩)) | 3 => some (.slice ah n ch) | 4 => some (.pointer (some ⟨w.heap.size, 1, none⟩)) | 5 => some (.int .i64 (p.y)) | 6 => some (.tuple #[.int .i64 (c : Int), .bool ct]) | 7 => some (.tuple #[.int .i64 (c : Int), .bool ct]) | 8 => some (.int .i64 (c : Int)) | 9 => some (.bool ct) | 10 => some (.int .i64 (c : Int)) | 11 => some (.bool ct) | _ => none) []) (by kernel_rfl) (by kernel_rfl) (by kernel_rfl) (by kernel_rfl) (fun _ => undef) ?start3 ?step3 ?done3
    case start3 => exact GrowJ.start ((Below.refl _ _).drew)
    case step3 =>
      refine ⟨?o3_0, ?o3_1, ?o3_2, ?o3_3, ?o3_4, ?o3_5, ?o3_6, ?o3_7, ?o3_8, ?o3_9, ?o3_10, ?o3_11, trivial⟩
      case o3_0 =>
        intro LX V aX wX K hl hp hcl hf hJ hK
        have t0 : aX.tmps[0]? = some (.pointer (some ⟨g, 0, none⟩)) := hf.old (by kernel_rfl) rfl
        rw [if_pos (by rfl)]
        go_simp
        exact hK _ _ (hJ.val HOK 0 _ (by kernel_rfl) rfl (Below.refl _ _))
      case o3_1 =>
        intro LX V aX wX K hl hp hcl hf hJ hK
        have t25 := hf.in (i := 0) (d := 25) (by kernel_rfl) (hp 0 (by kernel_rfl)) (hJ.vals 0 _ rfl (hp 0 (by kernel_rfl)))
        rw [if_pos (by rfl)]
        go_simp
        exact hK _ _ (hJ.val HOK 1 _ (by kernel_rfl) rfl (Below.refl _ _))
      case o3_2 =>
        intro LX V aX wX K hl hp hcl hf hJ hK
        have t26 := hf.in (i := 1) (d := 26) (by kernel_rfl) (hp 1 (by kernel_rfl)) (hJ.vals 1 _ rfl (hp 1 (by kernel_rfl)))
        rw [if_pos (by rfl)]
        go_simp
        exact hK _ _ (hJ.val HOK 2 _ (by kernel_rfl) rfl (Below.refl _ _))
      case o3_3 =>
        intro LX V aX wX K hl hp hcl hf hJ hK
        have t27 := hf.in (i := 2) (d := 27) (by kernel_rfl) (hp 2 (by kernel_rfl)) (hJ.vals 2 _ rfl (hp 2 (by kernel_rfl)))
        obtain ⟨c0, c1, c2, c3⟩ := HCELLS.out wX hJ.below
        rw [if_pos (by rfl)]
        go_simp
        exact hK _ _ (hJ.val HOK 3 _ (by kernel_rfl) rfl (Below.refl _ _))
      case o3_4 =>
        intro LX V aX wX K hl hp hcl hf hJ hK
        have t3 : aX.tmps[3]? = some (.pointer (some ⟨w.heap.size, 0, none⟩)) := hf.old (by kernel_rfl) rfl
        rw [if_pos (by rfl)]
        go_simp
        exact hK _ _ (hJ.val HOK 4 _ (by kernel_rfl) rfl (Below.refl _ _))
      case o3_5 =>
        intro LX V aX wX K hl hp hcl hf hJ hK
        have t29 := hf.in (i := 4) (d := 29) (by kernel_rfl) (hp 4 (by kernel_rfl)) (hJ.vals 4 _ rfl (hp 4 (by kernel_rfl)))
        obtain ⟨c0, c1, c2, c3⟩ := HCELLS.out wX hJ.below
        rw [if_pos (by rfl)]
        go_simp
        exact hK _ _ (hJ.val HOK 5 _ (by kernel_rfl) rfl (Below.refl _ _))
      case o3_6 =>
        intro LX V aX wX K hl hp hcl hf hJ hK
        have t28 := hf.in (i := 3) (d := 28) (by kernel_rfl) (hp 3 (by kernel_rfl)) (hJ.vals 3 _ rfl (hp 3 (by kernel_rfl)))
        have t30 := hf.in (i := 5) (d := 30) (by kernel_rfl) (hp 5 (by kernel_rfl)) (hJ.vals 5 _ rfl (hp 5 (by kernel_rfl)))
        rw [if_pos (by rfl)]
        go_simp
        refine (HSE.out _ hJ.below).mono ?_
        rintro e wA ⟨rfl, q, rfl⟩
        exact hK _ _ (hJ.val HOK 6 _ (by kernel_rfl) rfl (below_drewN (Below.refl _ _) q))
      case o3_7 =>
        intro LX V aX wX K hl hp hcl hf hJ hK
        have t31 := hf.in (i := 6) (d := 31) (by kernel_rfl) (hp 6 (by kernel_rfl)) (hJ.vals 6 _ rfl (hp 6 (by kernel_rfl)))
        rw [if_pos (by rfl)]
        go_simp
        exact hK _ _ (hJ.val HOK 7 _ (by kernel_rfl) rfl (Below.refl _ _))
      case o3_8 =>
        intro LX V aX wX K hl hp hcl hf hJ hK
        have t24 := hf.in (i := 7) (d := 24) (by kernel_rfl) (hp 7 (by kernel_rfl)) (hJ.vals 7 _ rfl (hp 7 (by kernel_rfl)))
        rw [if_pos (by rfl)]
        go_simp
        exact hK _ _ (hJ.val HOK 8 _ (by kernel_rfl) rfl (Below.refl _ _))
      case o3_9 =>
        intro LX V aX wX K hl hp hcl hf hJ hK
        have t24 := hf.in (i := 7) (d := 24) (by kernel_rfl) (hp 7 (by kernel_rfl)) (hJ.vals 7 _ rfl (hp 7 (by kernel_rfl)))
        rw [if_pos (by rfl)]
        go_simp
        exact hK _ _ (hJ.val HOK 9 _ (by kernel_rfl) rfl (Below.refl _ _))
      case o3_10 =>
        intro LX V aX wX K hl hp hcl hf hJ hK
        have t32 := hf.in (i := 8) (d := 32) (by kernel_rfl) (hp 8 (by kernel_rfl)) (hJ.vals 8 _ rfl (hp 8 (by kernel_rfl)))
        rw [if_pos (by rfl)]
        go_simp
        exact hK _ _ (hJ.val HOK 10 _ (by kernel_rfl) rfl (Below.refl _ _))
      case o3_11 =>
        intro LX V aX wX K hl hp hcl hf hJ hK
        have t33 := hf.in (i := 9) (d := 33) (by kernel_rfl) (hp 9 (by kernel_rfl)) (hJ.vals 9 _ rfl (hp 9 (by kernel_rfl)))
        rw [if_pos (by rfl)]
        go_simp
        exact hK _ _ (hJ.val HOK 11 _ (by kernel_rfl) rfl (Below.refl _ _))
    intro V wZ hJ
    have hv5 := hJ.vals 10 _ rfl (by kernel_rfl)
    have hv6 := hJ.vals 11 _ rfl (by kernel_rfl)
    have HBZ := Lib.hid hJ.below
    simp only [puts, Act.put, List.setIfInBounds_toArray, List.set_cons_zero, List.set_cons_succ]
    rw [hv5, hv6]
    clear hJ HOK hv5 hv6
    cases ct with
    | true =>
      have HKJ : Hid (kH H p.y = c + 1) := Lib.hid (by rw [HK.out]; rfl)
      by_cases hjm : c < m
      · have hj0 : (0 : Int) ≤ (c : Int) := by omega
        have hneg : ¬ (c : Int) < 0 := by omega
        have hjm2 : ¬ (m : Int) ≤ (c : Int) := by omega
        have HLE := Lib.hid (Len_any g H Es wZ (HS.out wZ HBZ.out))
        have hrs : r = (Es.getD c []).countP (fun e => decide (turnP e.1 e.2 p = 1)) := by
          rw [HR.out]; unfold crossE
          rw [if_neg (by
            rintro (h | h | h)
            · rw [← HVL.out] at h; cases h
            · have := HKJ.out; omega
            · have h1 := HKJ.out; have h2 := HN.out; have h3 := HNM.out; omega), HKJ.out]
          rfl
        have HRS := Lib.hid hrs
        have HSB : Hid (∀ wX, Below wZ.heap.size wZ wX → _) := Lib.hid (fun wX hX => slab_any g c H Es wX (HS.out wX (HBZ.out.trans (hX.mono HBZ.out.size))) (by have := HM.out; omega))
        rw [← HM.out] at HLE
        clear hrs hjm
        go_wp2_with fail
        refine HLE.out.mono ?_
        rintro e w3 ⟨rfl, rfl⟩
        go_wp2_with fail
        refine (HSB.out _ (Below.refl _ _)).mono ?_
        rintro e w4 ⟨a, ne, ce, rfl, hE, hb4⟩
        have HE := Lib.hid hE
        have HB4 := Lib.hid (HBZ.out.trans (hb4.mono HBZ.out.size))
        obtain ⟨E, hEq⟩ : ∃ E, E = Es.getD c [] := ⟨_, rfl⟩
        rw [← hEq] at HE HRS
        have hnece := HE.out.2.1
        have hcem := HE.out.2.2.1
        unfold maxLen at hcem
        clear hE hb4 hEq hj0 hneg hjm2
        go_wp2_with fail
        obtain ⟨wA, hwA⟩ : ∃ x, x = w4 := ⟨_, rfl⟩
        subst hwA
        go_loopw [7, 50] (fun s i wr => ∃ k : Nat, k ≤ ne ∧ i = .int .i64 k ∧ (∃ t : Nat, s = .int .i64 t ∧ Hid (t = (E.take k).countP (fun e => decide (turnP e.1 e.2 p = 1)))) ∧ Hid (Below wA.heap.size wA wr)) (fun _ i _ => ne - (intOf i).toNat)
        case atStart => exact ⟨0, by omega, rfl, ⟨0, rfl, Lib.hid rfl⟩, Below.refl _ _⟩
        case round =>
          obtain ⟨k, hk, rfl, ⟨t, rfl, ht⟩, hbl⟩ := hrel
          have htb : t ≤ k := by rw [ht.out]; exact Nat.le_trans List.countP_le_length (by rw [List.length_take]; omega)
          by_cases hlt : k < ne
          · have hk0 : (0 : Int) ≤ (k : Int) := by omega
            have hk5 : (k : Int) < (ne : Int) := by omega
            obtain ⟨be, oe, rfl, d0, d1, d2, d3⟩ := (HE.out.later hbl.out (Nat.le_refl _)).at hlt
            obtain ⟨ed, hed⟩ : ∃ e, e = E.getD k ed0 := ⟨_, rfl⟩
            rw [← hed] at d0 d1 d2 d3
            obtain ⟨lo, hi⟩ := ed
            obtain ⟨W9, hW9⟩ : ∃ W, W = wr.alloc (.cells #[.int .i64 lo.x, .int .i64 lo.y, .int .i64 hi.x, .int .i64 hi.y] 139) := ⟨_, rfl⟩
            have hb9 : Below wA.heap.size wA W9 := by rw [hW9]; exact hbl.out.alloc hbl.out.size _
            have hb9' := HB4.out.trans (hb9.mono HB4.out.size)
            obtain ⟨_, _, kx, ky⟩ := HCELLS.out W9 hb9'
            have HB9 := Lib.hid hb9
            rw [hW9] at kx ky
            have HT := Lib.hid (Turn_any lo hi p W9)
            obtain ⟨tn, htn⟩ : ∃ t, t = turnP lo hi p := ⟨_, rfl⟩
            rw [← htn] at HT
            have HST : Hid ((E.take (k + 1)).countP (fun e => decide (turnP e.1 e.2 p = 1)) = t + (if tn = 1 then 1 else 0)) := Lib.hid (by
              rw [take_countP _ ed0 (by rw [HE.out.1]; exact hlt), ← ht.out, ← hed, htn]
              simp only [decide_eq_true_eq])
            unfold ptV at HT
            clear hed htn ht hb9 hb9'
            dsimp only at d0 d1 d2 d3
            go_wp2_with fail
            rw [← hW9]
            clear hW9 kx ky d0 d1 d2 d3
            refine HT.out.mono ?_
            rintro e w5 ⟨rfl, hg5⟩
            have HB5 := Lib.hid (HB9.out.trans (hg5.1.mono HB9.out.size))
            clear hg5
            by_cases ht1 : tn = 1
            · subst ht1
              go_wp2_with fail
              go_roundw
              case rel => exact ⟨k + 1, by omega, by go_num, ⟨t + 1, by go_num, Lib.hid (by rw [HST.out]; rfl)⟩, HB5⟩
              case measure => simp [intOf]; omega
            · have hne : (tn == 1) = false := by simp [ht1]
              have HST2 : Hid ((E.take (k + 1)).countP (fun e => decide (turnP e.1 e.2 p = 1)) = t) := Lib.hid (by rw [HST.out, if_neg ht1]; rfl)
              clear ht1
              go_wp2_with fail
              go_roundw
              case rel => exact ⟨k + 1, by omega, by go_num, ⟨t, rfl, Lib.hid HST2.out.symm⟩, HB5⟩
              case measure => simp [intOf]; omega
          · have hkn : ne = k := by omega
            subst hkn
            have hk5 : ¬ (ne : Int) < (ne : Int) := by omega
            have HRT : Hid (r = t) := Lib.hid (by rw [HRS.out, ht.out, List.take_of_length_le (by rw [HE.out.1]; exact Nat.le_refl _)])
            clear ht
            go_wp2_with fail
            go_ret
            exact ⟨by rw [HRT.out]; rfl, HW1.out.trans ((HB4.out.trans (hbl.out.mono HB4.out.size)).mono HW1.out.size)⟩
      · have hneg : ¬ (c : Int) < 0 := by omega
        have hjm2 : (m : Int) ≤ (c : Int) := by omega
        have HLE := Lib.hid (Len_any g H Es wZ (HS.out wZ HBZ.out))
        rw [← HM.out] at HLE
        have HRF : Hid (r = 0) := Lib.hid (by
          rw [HR.out]; unfold crossE
          rw [if_pos (.inr (.inr (by have h1 := HKJ.out; have h2 := HN.out; have h3 := HNM.out; have h4 := kH_le H p.y; omega)))])
        clear hjm
        go_wp2_with fail
        refine HLE.out.mono ?_
        rintro e w3 ⟨rfl, rfl⟩
        go_wp2_with fail
        go_ret
        exact ⟨by rw [HRF.out]; rfl, HW1.out.trans (HBZ.out.mono HW1.out.size)⟩
    | false =>
      by_cases hc0 : c = 0
      · subst hc0
        have HRF : Hid (r = 0) := Lib.hid (by rw [HR.out]; unfold crossE; rw [if_pos (.inr (.inl HK.out))])
        go_wp2_with fail
        go_ret
        exact ⟨by rw [HRF.out]; rfl, HW1.out.trans (HBZ.out.mono HW1.out.size)⟩
      · obtain ⟨d, rfl⟩ : ∃ d, c = d + 1 := ⟨c - 1, by omega⟩
        have hcd : ((d + 1 : Nat) : Int) - 1 = (d : Int) := by omega
        have hcd2 : (d : Int) + 1 - 1 = (d : Int) := by omega
        have hdn : d ≤ 1000000 := by omega
        have HKJ : Hid (kH H p.y = d + 1) := Lib.hid (by rw [HK.out]; rfl)
        clear hc0
        by_cases hjm : d < m
        · have hj0 : (0 : Int) ≤ (d : Int) := by omega
          have hneg : ¬ (d : Int) < 0 := by omega
          have hjm2 : ¬ (m : Int) ≤ (d : Int) := by omega
          have HLE := Lib.hid (Len_any g H Es wZ (HS.out wZ HBZ.out))
          have hrs : r = (Es.getD d []).countP (fun e => decide (turnP e.1 e.2 p = 1)) := by
            rw [HR.out]; unfold crossE
            rw [if_neg (by
              rintro (h | h | h)
              · rw [← HVL.out] at h; cases h
              · have := HKJ.out; omega
              · have h1 := HKJ.out; have h2 := HN.out; have h3 := HNM.out; omega), HKJ.out]
            rfl
          have HRS := Lib.hid hrs
          have HSB : Hid (∀ wX, Below wZ.heap.size wZ wX → _) := Lib.hid (fun wX hX => slab_any g d H Es wX (HS.out wX (HBZ.out.trans (hX.mono HBZ.out.size))) (by have := HM.out; omega))
          rw [← HM.out] at HLE
          clear hrs hjm
          go_wp2_with fail
          refine HLE.out.mono ?_
          rintro e w3 ⟨rfl, rfl⟩
          go_wp2_with fail
          refine (HSB.out _ (Below.refl _ _)).mono ?_
          rintro e w4 ⟨a, ne, ce, rfl, hE, hb4⟩
          have HE := Lib.hid hE
          have HB4 := Lib.hid (HBZ.out.trans (hb4.mono HBZ.out.size))
          obtain ⟨E, hEq⟩ : ∃ E, E = Es.getD d [] := ⟨_, rfl⟩
          rw [← hEq] at HE HRS
          have hnece := HE.out.2.1
          have hcem := HE.out.2.2.1
          unfold maxLen at hcem
          clear hE hb4 hEq hj0 hneg hjm2
          go_wp2_with fail
          obtain ⟨wA, hwA⟩ : ∃ x, x = w4 := ⟨_, rfl⟩
          subst hwA
          go_loopw [7, 50] (fun s i wr => ∃ k : Nat, k ≤ ne ∧ i = .int .i64 k ∧ (∃ t : Nat, s = .int .i64 t ∧ Hid (t = (E.take k).countP (fun e => decide (turnP e.1 e.2 p = 1)))) ∧ Hid (Below wA.heap.size wA wr)) (fun _ i _ => ne - (intOf i).toNat)
          case atStart => exact ⟨0, by omega, rfl, ⟨0, rfl, Lib.hid rfl⟩, Below.refl _ _⟩
          case round =>
            obtain ⟨k, hk, rfl, ⟨t, rfl, ht⟩, hbl⟩ := hrel
            have htb : t ≤ k := by rw [ht.out]; exact Nat.le_trans List.countP_le_length (by rw [List.length_take]; omega)
            by_cases hlt : k < ne
            · have hk0 : (0 : Int) ≤ (k : Int) := by omega
              have hk5 : (k : Int) < (ne : Int) := by omega
              obtain ⟨be, oe, rfl, d0, d1, d2, d3⟩ := (HE.out.later hbl.out (Nat.le_refl _)).at hlt
              obtain ⟨ed, hed⟩ : ∃ e, e = E.getD k ed0 := ⟨_, rfl⟩
              rw [← hed] at d0 d1 d2 d3
              obtain ⟨lo, hi⟩ := ed
              obtain ⟨W9, hW9⟩ : ∃ W, W = wr.alloc (.cells #[.int .i64 lo.x, .int .i64 lo.y, .int .i64 hi.x, .int .i64 hi.y] 139) := ⟨_, rfl⟩
              have hb9 : Below wA.heap.size wA W9 := by rw [hW9]; exact hbl.out.alloc hbl.out.size _
              have hb9' := HB4.out.trans (hb9.mono HB4.out.size)
              obtain ⟨_, _, kx, ky⟩ := HCELLS.out W9 hb9'
              have HB9 := Lib.hid hb9
              rw [hW9] at kx ky
              have HT := Lib.hid (Turn_any lo hi p W9)
              obtain ⟨tn, htn⟩ : ∃ t, t = turnP lo hi p := ⟨_, rfl⟩
              rw [← htn] at HT
              have HST : Hid ((E.take (k + 1)).countP (fun e => decide (turnP e.1 e.2 p = 1)) = t + (if tn = 1 then 1 else 0)) := Lib.hid (by
                rw [take_countP _ ed0 (by rw [HE.out.1]; exact hlt), ← ht.out, ← hed, htn]
                simp only [decide_eq_true_eq])
              unfold ptV at HT
              clear hed htn ht hb9 hb9'
              dsimp only at d0 d1 d2 d3
              go_wp2_with fail
              rw [← hW9]
              clear hW9 kx ky d0 d1 d2 d3
              refine HT.out.mono ?_
              rintro e w5 ⟨rfl, hg5⟩
              have HB5 := Lib.hid (HB9.out.trans (hg5.1.mono HB9.out.size))
              clear hg5
              by_cases ht1 : tn = 1
              · subst ht1
                go_wp2_with fail
                go_roundw
                case rel => exact ⟨k + 1, by omega, by go_num, ⟨t + 1, by go_num, Lib.hid (by rw [HST.out]; rfl)⟩, HB5⟩
                case measure => simp [intOf]; omega
              · have hne : (tn == 1) = false := by simp [ht1]
                have HST2 : Hid ((E.take (k + 1)).countP (fun e => decide (turnP e.1 e.2 p = 1)) = t) := Lib.hid (by rw [HST.out, if_neg ht1]; rfl)
                clear ht1
                go_wp2_with fail
                go_roundw
                case rel => exact ⟨k + 1, by omega, by go_num, ⟨t, rfl, Lib.hid HST2.out.symm⟩, HB5⟩
                case measure => simp [intOf]; omega
            · have hkn : ne = k := by omega
              subst hkn
              have hk5 : ¬ (ne : Int) < (ne : Int) := by omega
              have HRT : Hid (r = t) := Lib.hid (by rw [HRS.out, ht.out, List.take_of_length_le (by rw [HE.out.1]; exact Nat.le_refl _)])
              clear ht
              go_wp2_with fail
              go_ret
              exact ⟨by rw [HRT.out]; rfl, HW1.out.trans ((HB4.out.trans (hbl.out.mono HB4.out.size)).mono HW1.out.size)⟩
        · have hneg : ¬ (d : Int) < 0 := by omega
          have hjm2 : (m : Int) ≤ (d : Int) := by omega
          have HLE := Lib.hid (Len_any g H Es wZ (HS.out wZ HBZ.out))
          rw [← HM.out] at HLE
          have HRF : Hid (r = 0) := Lib.hid (by
            rw [HR.out]; unfold crossE
            rw [if_pos (.inr (.inr (by have h1 := HKJ.out; have h2 := HN.out; have h3 := HNM.out; have h4 := kH_le H p.y; omega)))])
          clear hjm
          go_wp2_with fail
          refine HLE.out.mono ?_
          rintro e w3 ⟨rfl, rfl⟩
          go_wp2_with fail
          go_ret
          exact ⟨by rw [HRF.out]; rfl, HW1.out.trans (HBZ.out.mono HW1.out.size)⟩
end Go.Proofs.YtjiiikeniocmfaaGreat

/- a *Slabs: In, Most -/
set_option linter.unusedSimpArgs false
set_option linter.unusedVariables false
namespace Go.Proofs.YtjiiikeniocmfaaGreat
open Go.RowKit Go.Geo
attribute [local go_sem] Oper.semAt_some
set_option maxRecDepth 100000 in
set_option maxHeartbeats 1000000 in
theorem SIn_any (g : Nat) (H : List Int) (Es : List (List Edg)) (p : Pt) (w : World) (h : SlabIs w g H Es) (hsorted : H.Pairwise (· < ·)) :
    Calls Tryz.prog 32 #[.pointer (some ⟨g, 0, none⟩), ptV p] w fun e w' => e = .returned (.bool (oddB (crossE H Es p))) ∧ Below w.heap.size w w' := by
  obtain ⟨W, hW⟩ : ∃ W, W = w.alloc (.cells #[.int .i64 p.x, .int .i64 p.y] 24) := ⟨_, rfl⟩
  have hg0 : Below w.heap.size w W := by rw [hW]; exact (Below.refl _ _).alloc (Nat.le_refl _) _
  have HC := Lib.hid (Crossings_any g H Es p W (h.later hg0) hsorted)
  have H0 := Lib.hid hg0
  obtain ⟨c, hc⟩ : ∃ c, c = crossE H Es p := ⟨_, rfl⟩
  rw [← hc] at HC ⊢
  obtain ⟨z, hz⟩ : ∃ z : Nat, z = c % 2 := ⟨_, rfl⟩
  have hrem : Int.tmod (c : Int) 2 = (z : Int) := by rw [Int.tmod_eq_emod_of_nonneg (by omega), hz, Int.natCast_emod]; rfl
  have hrem2 : (c : Int) % 2 = (z : Int) := by rw [hz, Int.natCast_emod]; rfl
  have hz2 : z < 2 := by omega
  have HO : Hid (oddB c = decide (z = 1)) := Lib.hid (by rw [hz]; rfl)
  clear h hsorted hg0 hc hz
  unfold ptV at HC ⊢
  rcases (show z = 0 ∨ z = 1 by omega) with rfl | rfl
  · go_enter Tryz.func32, Tryz.ntmps32
    go_wp2_with fail
    rw [← hW]
    clear hW
    refine HC.out.mono ?_
    rintro e w1 ⟨rfl, hb⟩
    have HB := Lib.hid hb
    clear hb
    go_wp2_with fail
    go_ret
    exact ⟨by rw [HO.out]; rfl, H0.out.trans (HB.out.mono H0.out.size)⟩
  · go_enter Tryz.func32, Tryz.ntmps32
    go_wp2_with fail
    rw [← hW]
    clear hW
    refine HC.out.mono ?_
    rintro e w1 ⟨rfl, hb⟩
    have HB := Lib.hid hb
    clear hb
    go_wp2_with fail
    go_ret
    exact ⟨by rw [HO.out]; rfl, H0.out.trans (HB.out.mono H0.out.size)⟩
theorem flat_le (Es : List (List Edg)) {k : Nat} (h : k < Es.length) : (Es.getD k []).length ≤ Es.flatten.length := by
  have := flat_part Es h
  omega
end Go.Proofs.YtjiiikeniocmfaaGreat

/- law13: what Build's slabs are; square, sample, is, awake -/
set_option linter.unusedSimpArgs false
set_option linter.unusedVariables false
namespace Go.Proofs.YtjiiikeniocmfaaGreat
open Go.RowKit Go.Geo
attribute [local go_sem] Oper.semAt_some
theorem slabsR_len {R : List (List Pt)} : (slabsR R).length = (heightsP R).length - 1 := slabsK_len _ _
theorem slabsR_get {R : List (List Pt)} {i : Nat} (h : i + 1 < (heightsP R).length) : (slabsR R).getD i [] = slabI R i := by
  unfold slabsR slabsK
  rw [List.getD_eq_getElem?_getD, List.getElem?_map, List.getElem?_range (by omega)]; rfl
theorem heights_len (R : List (List Pt)) : (heightsP R).length ≤ sumLen R := by
  have key : ∀ (L : List Pt) (H : List Int), (L.foldl (fun H p => insH p.y H) H).length ≤ H.length + L.length := by
    intro L
    induction L with
    | nil => intro H; simp
    | cons p L ih =>
      intro H
      have h1 := ih (insH p.y H)
      have h2 : ∀ H : List Int, (insH p.y H).length ≤ H.length + 1 := by
        intro H
        induction H with
        | nil => simp [insH]
        | cons h t ih => unfold insH; split <;> (try split) <;> simp <;> omega
      have h3 := h2 H
      simp only [List.foldl_cons, List.length_cons]
      omega
  have h1 := key R.flatten []
  rw [sumLen_flatten] at h1
  simpa [heightsP] using h1
theorem slabs_is {w : World} {g : Nat} {R : List (List Pt)} (hc : (regionCheckP R).1 = 0) (h : SlabOwn w g (heightsP R) (slabsR R)) : SlabIs w g (heightsP R) (slabsR R) := by
  have h2 := heights_two hc
  have hs := (region_ok hc).2.2.1
  have hl := heights_len R
  refine h.is (by rw [slabsR_len]; omega) ?_ (by omega) ?_
  · have h3 := slab_first hc
    have h4 := flat_le (slabsR R) (k := 0) (by rw [slabsR_len]; omega)
    rw [slabsR_get (by omega)] at h4
    omega
  · have h5 := slabsK_bound R ((heightsP R).length - 1)
    have h6 := edgesP_len R
    refine Nat.le_trans h5 (Nat.le_trans (Nat.mul_le_mul (show _ ≤ 400 by omega) (show _ ≤ 400 by omega)) (by omega))
theorem crossE_R (R : List (List Pt)) (p : Pt) : crossE (heightsP R) (slabsR R) p = crossR p R := by
  rw [← cross_slab]
  unfold crossE crossS
  have hk := kH_le (heightsP R) p.y
  by_cases h : validP p = false ∨ kH (heightsP R) p.y = 0 ∨ kH (heightsP R) p.y = (heightsP R).length
  · rw [if_pos h, if_pos h]
  · rw [if_neg h, if_neg h, slabsR_get (by omega)]; rfl
theorem inR_slab (R : List (List Pt)) (p : Pt) : oddB (crossE (heightsP R) (slabsR R) p) = inR p R := by rw [crossE_R, inR_cross]
end Go.Proofs.YtjiiikeniocmfaaGreat

/- plain law: boxes in a tree (order, parts, what is told): no program in sight -/
namespace Go.Geo
abbrev Bx := Pt × Pt
def bx0 : Bx := (p0, p0)
/-- the box of a place. -/
def bxI (L : List Bx) (x : Int) : Bx := L.getD x.toNat bx0
/-- by what boxes are ordered on a level. -/
def keyB (ac : Bool) (b : Bx) : Int := if ac then b.1.x + b.2.x else b.1.y + b.2.y
def ltI (L : List Bx) (ac : Bool) (x y : Int) : Prop := keyB ac (bxI L x) < keyB ac (bxI L y) ∨ (keyB ac (bxI L x) = keyB ac (bxI L y) ∧ x < y)
theorem ltI_irrefl (L : List Bx) (ac : Bool) (x : Int) : ¬ ltI L ac x x := by unfold ltI; omega
theorem ltI_trans {L : List Bx} {ac : Bool} {x y z : Int} (h : ltI L ac x y) (k : ltI L ac y z) : ltI L ac x z := by unfold ltI at *; omega
theorem ltI_total (L : List Bx) (ac : Bool) (x y : Int) : ltI L ac x y ∨ x = y ∨ ltI L ac y x := by unfold ltI; omega
def halfN (n : Nat) : Nat := (n + 1) / 2
/-- the order of a part, from a level on. -/
inductive Laid (L : List Bx) : Bool → List Int → List Int → Prop
  | few {ac : Bool} {p : List Int} (h : p.length < 2) : Laid L ac p p
  | cut {ac : Bool} {p s a b : List Int} (h : 2 ≤ p.length) (hp : s.Perm p) (hs : s.Pairwise (ltI L ac)) (ha : Laid L (!ac) (s.take (halfN s.length)) a) (hb : Laid L (!ac) (s.drop (halfN s.length)) b) : Laid L ac p (a ++ b)
theorem Laid.perm {L : List Bx} {ac : Bool} {p o : List Int} (h : Laid L ac p o) : o.Perm p := by
  induction h with
  | few h => exact List.Perm.refl _
  | cut h hp hs ha hb iha ihb => exact (iha.append ihb).trans (by rw [List.take_append_drop]; exact hp)
theorem sortedI_unique {L : List Bx} {ac : Bool} {s t : List Int} (hs : s.Pairwise (ltI L ac)) (ht : t.Pairwise (ltI L ac)) (h : s.Perm t) : s = t :=
  List.Perm.eq_of_pairwise (le := ltI L ac) (fun _ _ _ _ h1 h2 => absurd (ltI_trans h1 h2) (ltI_irrefl _ _ _)) hs ht h
/-- there is one such order. -/
theorem Laid.same {L : List Bx} {ac : Bool} {p o : List Int} (h : Laid L ac p o) : ∀ {q u : List Int}, Laid L ac q u → p.Perm q → o = u := by
  induction h with
  | few h =>
    intro q u hu hpq
    have hl := hpq.length_eq
    cases hu with
    | few h2 =>
      rename_i p0
      match p0, q, h, h2, hpq with
      | [], [], _, _, _ => rfl
      | [a], [b], _, _, hpq => exact (List.singleton_perm_singleton.1 hpq) ▸ rfl
      | [], _ :: _, _, _, hpq => exact absurd hpq.length_eq (by simp)
      | _ :: _, [], _, _, hpq => exact absurd hpq.length_eq (by simp)
      | _ :: _ :: _, _, h, _, _ => exact absurd h (by simp)
      | _, _ :: _ :: _, _, h2, _ => exact absurd h2 (by simp)
    | cut h2 _ _ _ _ => omega
  | cut h hp hs ha hb iha ihb =>
    intro q u hu hpq
    have hl := hpq.length_eq
    cases hu with
    | few h2 => omega
    | cut h2 hp2 hs2 ha2 hb2 =>
      have e := sortedI_unique hs hs2 (hp.trans (hpq.trans hp2.symm))
      subst e
      rw [iha ha2 (List.Perm.refl _), ihb hb2 (List.Perm.refl _)]
/-- a part of a tree. -/
structure Nd where
  from_ : Nat
  to_ : Nat
  all : Bx
def nd0 : Nd := ⟨0, 0, bx0⟩
/-- a box that holds all of another one. -/
def Within (b c : Bx) : Prop := c.1.x ≤ b.1.x ∧ c.1.y ≤ b.1.y ∧ b.2.x ≤ c.2.x ∧ b.2.y ≤ c.2.y
theorem Within.refl (b : Bx) : Within b b := ⟨Int.le_refl _, Int.le_refl _, Int.le_refl _, Int.le_refl _⟩
def Around (L : List Bx) (p : List Int) (c : Bx) : Prop := ∀ x ∈ p, Within (bxI L x) c
/-- the places from one to another. -/
def seg (O : List Int) (f t : Nat) : List Int := (O.drop f).take (t - f)
theorem seg_length {O : List Int} {f t : Nat} (h : t ≤ O.length) : (seg O f t).length = t - f := by unfold seg; rw [List.length_take, List.length_drop]; omega
theorem seg_cut {O : List Int} {f m t : Nat} (h1 : f ≤ m) (h2 : m ≤ t) : seg O f t = seg O f m ++ seg O m t := by
  unfold seg
  rw [show t - f = (m - f) + (t - m) by omega, List.take_add, List.drop_drop, show f + (m - f) = m by omega]
theorem seg_one {O : List Int} {f : Nat} (h : f < O.length) : seg O f (f + 1) = [O.getD f 0] := by
  unfold seg
  rw [show f + 1 - f = 1 by omega, List.drop_eq_getElem_cons h, List.getD_eq_getElem?_getD, List.getElem?_eq_getElem h]; rfl
theorem seg_congr {O O' : List Int} {f t : Nat} (hl : O.length = O'.length) (h : ∀ k, f ≤ k → k < t → O'.getD k 0 = O.getD k 0) : seg O' f t = seg O f t := by
  unfold seg
  apply List.ext_getElem?
  intro i
  rw [List.getElem?_take, List.getElem?_take]
  split
  · rename_i hi
    rw [List.getElem?_drop, List.getElem?_drop]
    have := h (f + i) (by omega) (by omega)
    rw [List.getD_eq_getElem?_getD, List.getD_eq_getElem?_getD] at this
    by_cases hb : f + i < O.length
    · rw [List.getElem?_eq_getElem hb, List.getElem?_eq_getElem (by omega)] at this ⊢
      exact congrArg some this
    · rw [List.getElem?_eq_none (by omega), List.getElem?_eq_none (by omega)]
  · rfl
/-- a tree stands: from a part on. -/
inductive TreeAt (L : List Bx) (N : List Nd) (O : List Int) : Nat → Nat → Nat → Prop
  | leaf {i f : Nat} (h : N[i]? = some ⟨f, f + 1, bxI L (O.getD f 0)⟩) : TreeAt L N O i f (f + 1)
  | node {i f t : Nat} {b : Bx} (h : f + 2 ≤ t) (hn : N[i]? = some ⟨f, t, b⟩) (hb : Around L (seg O f t) b) (hl : TreeAt L N O (2 * i + 1) f (f + halfN (t - f))) (hr : TreeAt L N O (2 * i + 2) (f + halfN (t - f)) t) : TreeAt L N O i f t
theorem halfN_bounds {n : Nat} (h : 2 ≤ n) : 1 ≤ halfN n ∧ halfN n < n ∧ halfN n ≤ n - 1 ∧ n ≤ 2 * halfN n := by unfold halfN; omega
theorem TreeAt.lt {L : List Bx} {N : List Nd} {O : List Int} {i f t : Nat} (h : TreeAt L N O i f t) : f < t := by
  cases h with
  | leaf h => omega
  | node h => omega
/-- the parts below a part. -/
inductive Desc : Nat → Nat → Prop
  | self (i : Nat) : Desc i i
  | left {i j : Nat} (h : Desc (2 * i + 1) j) : Desc i j
  | right {i j : Nat} (h : Desc (2 * i + 2) j) : Desc i j
theorem Desc.span {i j : Nat} (h : Desc i j) : ∃ d, (i + 1) * 2 ^ d ≤ j + 1 ∧ j + 1 < (i + 2) * 2 ^ d := by
  have low : ∀ i P : Nat, (2 * i + 1 + 1) * P = (i + 1) * (P * 2) := fun i P => by rw [Nat.mul_comm P 2, ← Nat.mul_assoc]; congr 1; omega
  have high : ∀ i P : Nat, (2 * i + 2 + 2) * P = (i + 2) * (P * 2) := fun i P => by rw [Nat.mul_comm P 2, ← Nat.mul_assoc]; congr 1; omega
  induction h with
  | self i => exact ⟨0, by omega, by omega⟩
  | left h ih =>
    rename_i i j
    obtain ⟨d, h1, h2⟩ := ih
    refine ⟨d + 1, ?_, ?_⟩
    · rw [Nat.pow_succ, ← low]; exact h1
    · rw [Nat.pow_succ, ← high]
      exact Nat.lt_of_lt_of_le h2 (Nat.mul_le_mul_right _ (by omega))
  | right h ih =>
    rename_i i j
    obtain ⟨d, h1, h2⟩ := ih
    refine ⟨d + 1, ?_, ?_⟩
    · rw [Nat.pow_succ, ← low]
      exact Nat.le_trans (Nat.mul_le_mul_right _ (by omega)) h1
    · rw [Nat.pow_succ, ← high]; exact h2
theorem Desc.apart {i j : Nat} (h1 : Desc (2 * i + 1) j) (h2 : Desc (2 * i + 2) j) : False := by
  obtain ⟨d, a1, a2⟩ := h1.span
  obtain ⟨e, b1, b2⟩ := h2.span
  rcases Nat.lt_trichotomy d e with h | h | h
  · have h3 := Nat.mul_le_mul_left (2 * i + 2 + 1) (Nat.pow_le_pow_right (show 0 < 2 by omega) (Nat.le_of_lt h))
    exact absurd (Nat.lt_of_lt_of_le a2 (Nat.le_trans h3 b1)) (Nat.lt_irrefl _)
  · subst h
    exact absurd (Nat.lt_of_lt_of_le a2 b1) (Nat.lt_irrefl _)
  · have h3 : 2 ^ e * 2 ≤ 2 ^ d := by rw [← Nat.pow_succ]; exact Nat.pow_le_pow_right (by omega) h
    have h4 := Nat.mul_le_mul_left (2 * i + 1 + 1) h3
    have h5 : (2 * i + 2 + 2) * 2 ^ e ≤ (2 * i + 1 + 1) * (2 ^ e * 2) := by
      rw [Nat.mul_comm (2 ^ e) 2, ← Nat.mul_assoc]
      exact Nat.mul_le_mul_right _ (by omega)
    exact absurd (Nat.lt_of_lt_of_le b2 (Nat.le_trans h5 (Nat.le_trans h4 a1))) (Nat.lt_irrefl _)
theorem Desc.ge {i j : Nat} (h : Desc i j) : i ≤ j := by
  induction h with
  | self => exact Nat.le_refl _
  | left _ ih => omega
  | right _ ih => omega
theorem TreeAt.keep {L : List Bx} {N N' : List Nd} {O O' : List Int} {i f t : Nat} (h : TreeAt L N O i f t) (hl : O.length = O'.length) (hN : ∀ j, Desc i j → j < N.length → N'[j]? = N[j]?) (hO : ∀ k, f ≤ k → k < t → O'.getD k 0 = O.getD k 0) : TreeAt L N' O' i f t := by
  have inb : ∀ {N : List Nd} {j : Nat} {x : Nd}, N[j]? = some x → j < N.length := fun {N j x} h => (List.getElem?_eq_some_iff.1 h).1
  induction h with
  | leaf h => exact .leaf ((hN _ (.self _) (inb h)).trans (by rw [h, hO _ (Nat.le_refl _) (Nat.lt_succ_self _)]))
  | node h hn hb hl' hr ih1 ih2 =>
    rename_i i f t b
    have hm := halfN_bounds (n := t - f) (by omega)
    refine .node h ((hN _ (.self _) (inb hn)).trans hn) ?_ (ih1 (fun j hj => hN j (.left hj)) fun k h1 h2 => hO k h1 (by omega)) (ih2 (fun j hj => hN j (.right hj)) fun k h1 h2 => hO k (by omega) h2)
    rw [seg_congr hl hO]
    exact hb
/-- what is asked is so of a box, if it is of one that it holds. -/
def MonoB (q : Bx → Bool) : Prop := ∀ b c, Within b c → q b = true → q c = true
theorem filter_none {L : List Bx} {q : Bx → Bool} (hq : MonoB q) {p : List Int} {b : Bx} (hb : Around L p b) (h : q b = false) : p.filter (fun x => q (bxI L x)) = [] := by
  rw [List.filter_eq_nil_iff]
  intro x hx h1
  rw [hq _ _ (hb x hx) h1] at h
  cases h
theorem mono_in (p : Pt) : MonoB (fun b => boxIn p b.1 b.2) := by
  intro b c ⟨h1, h2, h3, h4⟩ h
  simp only [boxIn, Bool.and_eq_true, decide_eq_true_eq] at h ⊢
  omega
/-- the places of all boxes of which something is so, rising. -/
def askB (q : Bx → Bool) (L : List Bx) : List Int := ((List.range L.length).filter (fun i => q (L.getD i bx0))).map fun (i : Nat) => (i : Int)
def allI (n : Nat) : List Int := (List.range n).map fun (i : Nat) => (i : Int)
theorem allI_len (n : Nat) : (allI n).length = n := by simp [allI]
theorem allI_succ (n : Nat) : allI (n + 1) = allI n ++ [(n : Int)] := by unfold allI; rw [List.range_succ, List.map_append]; rfl
theorem allI_mem {n : Nat} {x : Int} : x ∈ allI n ↔ 0 ≤ x ∧ x < n := by
  unfold allI
  rw [List.mem_map]
  constructor
  · rintro ⟨i, hi, rfl⟩
    have := List.mem_range.1 hi
    omega
  · rintro ⟨h1, h2⟩
    exact ⟨x.toNat, List.mem_range.2 (by omega), by omega⟩
theorem allI_sorted (n : Nat) : (allI n).Pairwise (· < ·) := by
  unfold allI
  rw [List.pairwise_map]
  exact List.pairwise_lt_range.imp fun h => by omega
theorem askB_filter (q : Bx → Bool) (L : List Bx) : askB q L = (allI L.length).filter (fun x => q (bxI L x)) := by
  unfold askB allI
  rw [List.filter_map]
  rfl
theorem askB_sorted (q : Bx → Bool) (L : List Bx) : (askB q L).Pairwise (· < ·) := by rw [askB_filter]; exact (allI_sorted _).filter _
theorem askB_mem {q : Bx → Bool} {L : List Bx} {x : Int} : x ∈ askB q L ↔ (0 ≤ x ∧ x < L.length) ∧ q (bxI L x) = true := by rw [askB_filter, List.mem_filter, allI_mem]
/-- sorted, what is told is that. -/
theorem ask_sorted {q : Bx → Bool} {L : List Bx} {O M : List Int} (hO : O.Perm (allI L.length)) (hp : M.Perm (O.filter (fun x => q (bxI L x)))) (hs : M.Pairwise (· ≤ ·)) : M = askB q L := by
  have h1 : M.Perm (askB q L) := by rw [askB_filter]; exact hp.trans (hO.filter _)
  refine List.Perm.eq_of_pairwise (le := fun (a b : Int) => a ≤ b) (fun _ _ _ _ h1 h2 => Int.le_antisymm h1 h2) hs ((askB_sorted q L).imp fun h => Int.le_of_lt h) h1
end Go.Geo

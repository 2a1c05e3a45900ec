/- IndexNone (printed by mknone14.py) -/
import Derived.Test.YtjiiikeniocmfaaGreatMINil
import Derived.Test.YtjiiikeniocmfaaGreatMSlabW
set_option linter.unusedSimpArgs false
set_option linter.unusedVariables false
namespace Go.Proofs.YtjiiikeniocmfaaGreat
open Go.RowKit Go.Geo
attribute [local go_sem] Oper.semAt_some
set_option maxRecDepth 100000 in
set_option maxHeartbeats 8000000 in
theorem IndexNone_any (i : Int) (p : Pt) (w : World) : Calls Tryz.prog 6 #[.int .i64 i, ptV p] w fun e w' => e = .returned (.bool true) ∧ Below w.heap.size w w' := by
  obtain ⟨W0, hW0⟩ : ∃ W, W = w.alloc (.cells #[.int .i64 p.x, .int .i64 p.y] 24) := ⟨_, rfl⟩
  obtain ⟨W2, hW2⟩ : ∃ W, W = W0.alloc (.cells #[.bool false, .slice none 0 0, .pointer none, .slice none 0 0, .slice none 0 0] 57) := ⟨_, rfl⟩
  obtain ⟨g, hg⟩ : ∃ g, g = W0.heap.size := ⟨_, rfl⟩
  obtain ⟨W3, hW3⟩ : ∃ W, W = W2.alloc (.cells #[.pointer none, .pointer (some ⟨g, 0, none⟩)] 32) := ⟨_, rfl⟩
  obtain ⟨bl, hbl⟩ : ∃ g, g = W2.heap.size := ⟨_, rfl⟩
  have hb0 : Below w.heap.size w W0 := by rw [hW0]; exact (Below.refl _ _).alloc (Nat.le_refl _) _
  have hb2 : Below W0.heap.size W0 W2 := by rw [hW2]; exact (Below.refl _ _).alloc (Nat.le_refl _) _
  have hb3 : Below W2.heap.size W2 W3 := by rw [hW3]; exact (Below.refl _ _).alloc (Nat.le_refl _) _
  have k0 : W0.heap[w.heap.size]? = some (.cells #[.int .i64 p.x, .int .i64 p.y] 24 (0, 0)) := by rw [hW0]; exact alloc_new _ _
  have k2 : Idx0 W2 g := by rw [hW2, hg]; exact alloc_new _ _
  have k3 : W3.heap[bl]? = some (.cells #[.pointer none, .pointer (some ⟨g, 0, none⟩)] 32 (0, 0)) := by rw [hW3, hbl]; exact alloc_new _ _
  have hg1 : g = w.heap.size + 1 := by rw [hg, hW0]; simp
  have hbl1 : bl = w.heap.size + 1 + 1 := by rw [hbl, hW2]; simp; rw [hW0]; simp
  have k0' := (hb3.block _ (heap_lt2 ((hb2.block _ (heap_lt2 k0)).trans k0))).trans ((hb2.block _ (heap_lt2 k0)).trans k0)
  have k2' := k2.later hb3
  have HB3 := Lib.hid (hb0.trans ((hb2.trans (hb3.mono hb2.size)).mono hb0.size))
  have HALL : Hid (∀ wX, Below W3.heap.size W3 wX → wX.cell? ⟨bl, 0, none⟩ = some (.pointer none) ∧ wX.cell? ⟨bl, 1, none⟩ = some (.pointer (some ⟨g, 0, none⟩)) ∧ wX.heap[w.heap.size]? = some (.cells #[.int .i64 p.x, .int .i64 p.y] 24 (0, 0)) ∧ Idx0 wX g) := Lib.hid (fun wX hX => by
    have q0 := (hX.block _ (heap_lt2 k0')).trans k0'
    have q3 := (hX.block _ (heap_lt2 k3)).trans k3
    exact ⟨cell_of_row _ _ _ _ _ _ q3, cell_of_row _ _ _ _ _ _ q3, q0, k2'.later hX⟩)
  clear hb0 hb2 hb3 k0 k2 k3 k0' k2' hg hbl
  rw [hW0] at hW2
  rw [hW2, hg1] at hW3
  unfold ptV
  go_enter Tryz.func6, Tryz.ntmps6
  go_wp2_with fail
  rw [← hW3, ← hbl1]
  clear hW3 hW2 hW0 hbl1 hg1
  go_loopw [7] (fun j wr => ∃ k : Nat, k ≤ 2 ∧ j = .int .i64 k ∧ Hid (Below W3.heap.size W3 wr)) (fun j _ => 2 - (intOf j).toNat)
  case atStart => exact ⟨0, by omega, rfl, Below.refl _ _⟩
  case round =>
    obtain ⟨k, hk, rfl, hb⟩ := hrel
    by_cases hlt : k < 2
    · have hk0 : (0 : Int) ≤ (k : Int) := by omega
      have hk5 : (k : Int) < 2 := by omega
      have hsv : ∃ sv : Value, (∀ wX, Below W3.heap.size W3 wX → wX.cell? ⟨bl, k, none⟩ = some sv) ∧ ∀ wX, Below W3.heap.size W3 wX → NoIdx wX sv := by
        rcases (show k = 0 ∨ k = 1 by omega) with rfl | rfl
        · exact ⟨_, fun wX hX => (HALL.out wX hX).1, fun wX hX => .inl rfl⟩
        · exact ⟨_, fun wX hX => (HALL.out wX hX).2.1, fun wX hX => .inr ⟨g, rfl, (HALL.out wX hX).2.2.2⟩⟩
      obtain ⟨sv, hc, hno⟩ := hsv
      have HCC := Lib.hid hc
      have HNO := Lib.hid hno
      have HCELL3 : Hid (∀ wX, Below W3.heap.size W3 wX → wX.cell? ⟨bl, k, none⟩ = some sv ∧ wX.cell? ⟨w.heap.size, 0, none⟩ = some (.int .i64 p.x) ∧ wX.cell? ⟨w.heap.size, 1, none⟩ = some (.int .i64 p.y)) := Lib.hid (fun wX hX => ⟨HCC.out wX hX, cell_of_row _ _ _ _ _ _ (HALL.out wX hX).2.2.1, cell_of_row _ _ _ _ _ _ (HALL.out wX hX).2.2.1⟩)
      have HCELLS : Hid (∀ wX, Below wr.heap.size wr wX → wX.cell? ⟨bl, k, none⟩ = some sv ∧ wX.cell? ⟨w.heap.size, 0, none⟩ = some (.int .i64 p.x) ∧ wX.cell? ⟨w.heap.size, 1, none⟩ = some (.int .i64 p.y)) := Lib.hid (fun wX hX => HCELL3.out wX (hb.out.trans (hX.mono hb.out.size)))
      have HIN : Hid (∀ wX, Below wr.heap.size wr wX → Calls Tryz.prog 15 #[sv, .int .i64 i, .agg #[.int .i64 p.x, .int .i64 p.y]] wX fun e w' => e = .returned (.tuple #[.bool false, .int .i64 1]) ∧ Below wX.heap.size wX w') := Lib.hid (fun wX hX => In_no sv i p wX (HNO.out wX (hb.out.trans (hX.mono hb.out.size))))
      clear hc hno
      go_wp2_with fail
      have HOK : ∀ f ∈ ([] : List Fct), FctOk f := by
        intro f hf; cases hf
      refine wp_region_J (s := [(19, 0), (20, 1), (21, 2), (22, 3), (23, 4), (24, 5), (25, 6), (18, 7), (26, 8), (27, 9), (8, 10), (9, 11)]) (by kernel_rfl) (GrowJ wr (fun iX => match iX with | 0 => some (.slice (some ⟨bl, 0, none⟩) 2 2) | 1 => some (.int .i64 (k : Int)) | 2 => some (.pointer (some ⟨bl, k, none⟩)) | 3 => some (sv) | 4 => some (.int .i64 i) | 5 => some (.agg #[.int .i64 p.x, .int .i64 p.y]) | 6 => some (.tuple #[.bool false, .int .i64 1]) | 7 => some (.tuple #[.bool false, .int .i64 1]) | 8 => some (.bool false) | 9 => some (.int .i64 1) | 10 => some (.bool false) | 11 => some (.int .i64 1) | _ => none) []) (by kernel_rfl) (by kernel_rfl) (by kernel_rfl) (by kernel_rfl) (fun _ => undef) ?start6 ?step6 ?done6
      case start6 => exact GrowJ.start ((Below.refl _ _).drew)
      case step6 =>
        refine ⟨?o6_0, ?o6_1, ?o6_2, ?o6_3, ?o6_4, ?o6_5, ?o6_6, ?o6_7, ?o6_8, ?o6_9, ?o6_10, ?o6_11, trivial⟩
        case o6_0 =>
          intro LX V aX wX K hl hp hcl hf hJ hK
          have t6 : aX.tmps[6]? = some (.slice (some ⟨bl, 0, none⟩) 2 2) := hf.old (by kernel_rfl) rfl
          rw [if_pos (by rfl)]
          go_simp
          exact hK _ _ (hJ.val HOK 0 _ (by kernel_rfl) rfl (Below.refl _ _))
        case o6_1 =>
          intro LX V aX wX K hl hp hcl hf hJ hK
          have t7 : aX.tmps[7]? = some (.int .i64 (k : Int)) := hf.old (by kernel_rfl) rfl
          rw [if_pos (by rfl)]
          go_simp
          exact hK _ _ (hJ.val HOK 1 _ (by kernel_rfl) rfl (Below.refl _ _))
        case o6_2 =>
          intro LX V aX wX K hl hp hcl hf hJ hK
          have t19 := hf.in (i := 0) (d := 19) (by kernel_rfl) (hp 0 (by kernel_rfl)) (hJ.vals 0 _ rfl (hp 0 (by kernel_rfl)))
          have t20 := hf.in (i := 1) (d := 20) (by kernel_rfl) (hp 1 (by kernel_rfl)) (hJ.vals 1 _ rfl (hp 1 (by kernel_rfl)))
          rw [if_pos (by rfl)]
          go_simp
          exact hK _ _ (hJ.val HOK 2 _ (by kernel_rfl) rfl (Below.refl _ _))
        case o6_3 =>
          intro LX V aX wX K hl hp hcl hf hJ hK
          have t21 := hf.in (i := 2) (d := 21) (by kernel_rfl) (hp 2 (by kernel_rfl)) (hJ.vals 2 _ rfl (hp 2 (by kernel_rfl)))
          obtain ⟨c0, c1, c2⟩ := HCELLS.out wX hJ.below
          rw [if_pos (by rfl)]
          go_simp
          exact hK _ _ (hJ.val HOK 3 _ (by kernel_rfl) rfl (Below.refl _ _))
        case o6_4 =>
          intro LX V aX wX K hl hp hcl hf hJ hK
          have t0 : aX.tmps[0]? = some (.int .i64 i) := hf.old (by kernel_rfl) rfl
          rw [if_pos (by rfl)]
          go_simp
          exact hK _ _ (hJ.val HOK 4 _ (by kernel_rfl) rfl (Below.refl _ _))
        case o6_5 =>
          intro LX V aX wX K hl hp hcl hf hJ hK
          have t3 : aX.tmps[3]? = some (.pointer (some ⟨w.heap.size, 0, none⟩)) := hf.old (by kernel_rfl) rfl
          obtain ⟨c0, c1, c2⟩ := HCELLS.out wX hJ.below
          rw [if_pos (by rfl)]
          go_simp
          exact hK _ _ (hJ.val HOK 5 _ (by kernel_rfl) rfl (Below.refl _ _))
        case o6_6 =>
          intro LX V aX wX K hl hp hcl hf hJ hK
          have t22 := hf.in (i := 3) (d := 22) (by kernel_rfl) (hp 3 (by kernel_rfl)) (hJ.vals 3 _ rfl (hp 3 (by kernel_rfl)))
          have t23 := hf.in (i := 4) (d := 23) (by kernel_rfl) (hp 4 (by kernel_rfl)) (hJ.vals 4 _ rfl (hp 4 (by kernel_rfl)))
          have t24 := hf.in (i := 5) (d := 24) (by kernel_rfl) (hp 5 (by kernel_rfl)) (hJ.vals 5 _ rfl (hp 5 (by kernel_rfl)))
          rw [if_pos (by rfl)]
          go_simp
          refine (HIN.out _ hJ.below).mono ?_
          rintro e wA ⟨rfl, hbA⟩
          exact hK _ _ (hJ.val HOK 6 _ (by kernel_rfl) rfl (hbA))
        case o6_7 =>
          intro LX V aX wX K hl hp hcl hf hJ hK
          have t25 := hf.in (i := 6) (d := 25) (by kernel_rfl) (hp 6 (by kernel_rfl)) (hJ.vals 6 _ rfl (hp 6 (by kernel_rfl)))
          rw [if_pos (by rfl)]
          go_simp
          exact hK _ _ (hJ.val HOK 7 _ (by kernel_rfl) rfl (Below.refl _ _))
        case o6_8 =>
          intro LX V aX wX K hl hp hcl hf hJ hK
          have t18 := hf.in (i := 7) (d := 18) (by kernel_rfl) (hp 7 (by kernel_rfl)) (hJ.vals 7 _ rfl (hp 7 (by kernel_rfl)))
          rw [if_pos (by rfl)]
          go_simp
          exact hK _ _ (hJ.val HOK 8 _ (by kernel_rfl) rfl (Below.refl _ _))
        case o6_9 =>
          intro LX V aX wX K hl hp hcl hf hJ hK
          have t18 := hf.in (i := 7) (d := 18) (by kernel_rfl) (hp 7 (by kernel_rfl)) (hJ.vals 7 _ rfl (hp 7 (by kernel_rfl)))
          rw [if_pos (by rfl)]
          go_simp
          exact hK _ _ (hJ.val HOK 9 _ (by kernel_rfl) rfl (Below.refl _ _))
        case o6_10 =>
          intro LX V aX wX K hl hp hcl hf hJ hK
          have t26 := hf.in (i := 8) (d := 26) (by kernel_rfl) (hp 8 (by kernel_rfl)) (hJ.vals 8 _ rfl (hp 8 (by kernel_rfl)))
          rw [if_pos (by rfl)]
          go_simp
          exact hK _ _ (hJ.val HOK 10 _ (by kernel_rfl) rfl (Below.refl _ _))
        case o6_11 =>
          intro LX V aX wX K hl hp hcl hf hJ hK
          have t27 := hf.in (i := 9) (d := 27) (by kernel_rfl) (hp 9 (by kernel_rfl)) (hJ.vals 9 _ rfl (hp 9 (by kernel_rfl)))
          rw [if_pos (by rfl)]
          go_simp
          exact hK _ _ (hJ.val HOK 11 _ (by kernel_rfl) rfl (Below.refl _ _))
      intro V wZ hJ
      have hv8 := hJ.vals 10 _ rfl (by kernel_rfl)
      have hv9 := hJ.vals 11 _ rfl (by kernel_rfl)
      have HBZ := Lib.hid (hb.out.trans (hJ.below.mono hb.out.size))
      simp only [puts, Act.put, List.setIfInBounds_toArray, List.set_cons_zero, List.set_cons_succ]
      rw [hv8, hv9]
      clear hJ HOK hv8 hv9
      clear HCELLS HIN
      have HCELLS : Hid (∀ wX, Below wZ.heap.size wZ wX → wX.cell? ⟨bl, k, none⟩ = some sv ∧ wX.cell? ⟨w.heap.size, 0, none⟩ = some (.int .i64 p.x) ∧ wX.cell? ⟨w.heap.size, 1, none⟩ = some (.int .i64 p.y)) := Lib.hid (fun wX hX => HCELL3.out wX (HBZ.out.trans (hX.mono HBZ.out.size)))
      have HAT : Hid (∀ wX, Below wZ.heap.size wZ wX → Calls Tryz.prog 12 #[sv, .agg #[.int .i64 p.x, .int .i64 p.y]] wX fun e w' => e = .returned (.slice none 0 0) ∧ Below wX.heap.size wX w') := Lib.hid (fun wX hX => At_no sv p wX (HNO.out wX (HBZ.out.trans (hX.mono HBZ.out.size))))
      have HNR : Hid (∀ wX, Below wZ.heap.size wZ wX → Calls Tryz.prog 17 #[sv, .agg #[.int .i64 p.x, .int .i64 p.y]] wX fun e w' => e = .returned (.slice none 0 0) ∧ Below wX.heap.size wX w') := Lib.hid (fun wX hX => Near_no sv p wX (HNO.out wX (HBZ.out.trans (hX.mono HBZ.out.size))))
      have HLE : Hid (∀ wX, Below wZ.heap.size wZ wX → Calls Tryz.prog 21 #[sv] wX fun e w' => e = .returned (.int .i64 0) ∧ Below wX.heap.size wX w') := Lib.hid (fun wX hX => Len_no sv wX (HNO.out wX (HBZ.out.trans (hX.mono HBZ.out.size))))
      go_wp2_with fail
      have HOK : ∀ f ∈ ([] : List Fct), FctOk f := by
        intro f hf; cases hf
      refine wp_region_J (s := [(28, 0), (29, 1), (30, 2), (31, 3), (32, 4), (33, 5), (34, 6), (35, 7), (36, 8), (37, 9), (38, 10), (39, 11), (40, 12), (41, 13), (42, 14), (43, 15), (44, 16), (45, 17), (46, 18), (47, 19), (48, 20), (49, 21), (50, 22), (51, 23), (52, 24), (53, 25), (54, 26), (55, 27), (56, 28), (57, 29), (58, 30), (59, 31), (60, 32)]) (by kernel_rfl) (GrowJ wZ (fun iX => match iX with | 0 => some (.slice (some ⟨bl, 0, none⟩) 2 2) | 1 => some (.int .i64 (k : Int)) | 2 => some (.pointer (some ⟨bl, k, none⟩)) | 3 => some (sv) | 4 => some (.agg #[.int .i64 p.x, .int .i64 p.y]) | 5 => some (.slice none 0 0) | 6 => some (.int .i64 0) | 7 => some (.bool false) | 8 => some (.bool false) | 9 => some (.slice (some ⟨bl, 0, none⟩) 2 2) | 10 => some (.int .i64 (k : Int)) | 11 => some (.pointer (some ⟨bl, k, none⟩)) | 12 => some (sv) | 13 => some (.agg #[.int .i64 p.x, .int .i64 p.y]) | 14 => some (.slice none 0 0) | 15 => some (.int .i64 0) | 16 => some (.bool false) | 17 => some (.bool false) | 18 => some (.bool false) | 19 => some (.slice (some ⟨bl, 0, none⟩) 2 2) | 20 => some (.int .i64 (k : Int)) | 21 => some (.pointer (some ⟨bl, k, none⟩)) | 22 => some (sv) | 23 => some (.int .i64 0) | 24 => some (.bool false) | 25 => some (.bool false) | 26 => some (.bool false) | 27 => some (.bool false) | 28 => some (.bool false) | 29 => some (.bool false) | 30 => some (.int .i64 1) | 31 => some (.bool false) | 32 => some (.bool false) | _ => none) []) (by kernel_rfl) (by kernel_rfl) (by kernel_rfl) (by kernel_rfl) (fun _ => undef) ?start7 ?step7 ?done7
      case start7 => exact GrowJ.start ((Below.refl _ _).drew)
      case step7 =>
        refine ⟨?o7_0, ?o7_1, ?o7_2, ?o7_3, ?o7_4, ?o7_5, ?o7_6, ?o7_7, ?o7_8, ?o7_9, ?o7_10, ?o7_11, ?o7_12, ?o7_13, ?o7_14, ?o7_15, ?o7_16, ?o7_17, ?o7_18, ?o7_19, ?o7_20, ?o7_21, ?o7_22, ?o7_23, ?o7_24, ?o7_25, ?o7_26, ?o7_27, ?o7_28, ?o7_29, ?o7_30, ?o7_31, ?o7_32, trivial⟩
        case o7_0 =>
          intro LX V aX wX K hl hp hcl hf hJ hK
          have t6 : aX.tmps[6]? = some (.slice (some ⟨bl, 0, none⟩) 2 2) := hf.old (by kernel_rfl) rfl
          rw [if_pos (by rfl)]
          go_simp
          exact hK _ _ (hJ.val HOK 0 _ (by kernel_rfl) rfl (Below.refl _ _))
        case o7_1 =>
          intro LX V aX wX K hl hp hcl hf hJ hK
          have t7 : aX.tmps[7]? = some (.int .i64 (k : Int)) := hf.old (by kernel_rfl) rfl
          rw [if_pos (by rfl)]
          go_simp
          exact hK _ _ (hJ.val HOK 1 _ (by kernel_rfl) rfl (Below.refl _ _))
        case o7_2 =>
          intro LX V aX wX K hl hp hcl hf hJ hK
          have t28 := hf.in (i := 0) (d := 28) (by kernel_rfl) (hp 0 (by kernel_rfl)) (hJ.vals 0 _ rfl (hp 0 (by kernel_rfl)))
          have t29 := hf.in (i := 1) (d := 29) (by kernel_rfl) (hp 1 (by kernel_rfl)) (hJ.vals 1 _ rfl (hp 1 (by kernel_rfl)))
          rw [if_pos (by rfl)]
          go_simp
          exact hK _ _ (hJ.val HOK 2 _ (by kernel_rfl) rfl (Below.refl _ _))
        case o7_3 =>
          intro LX V aX wX K hl hp hcl hf hJ hK
          have t30 := hf.in (i := 2) (d := 30) (by kernel_rfl) (hp 2 (by kernel_rfl)) (hJ.vals 2 _ rfl (hp 2 (by kernel_rfl)))
          obtain ⟨c0, c1, c2⟩ := HCELLS.out wX hJ.below
          rw [if_pos (by rfl)]
          go_simp
          exact hK _ _ (hJ.val HOK 3 _ (by kernel_rfl) rfl (Below.refl _ _))
        case o7_4 =>
          intro LX V aX wX K hl hp hcl hf hJ hK
          have t3 : aX.tmps[3]? = some (.pointer (some ⟨w.heap.size, 0, none⟩)) := hf.old (by kernel_rfl) rfl
          obtain ⟨c0, c1, c2⟩ := HCELLS.out wX hJ.below
          rw [if_pos (by rfl)]
          go_simp
          exact hK _ _ (hJ.val HOK 4 _ (by kernel_rfl) rfl (Below.refl _ _))
        case o7_5 =>
          intro LX V aX wX K hl hp hcl hf hJ hK
          have t31 := hf.in (i := 3) (d := 31) (by kernel_rfl) (hp 3 (by kernel_rfl)) (hJ.vals 3 _ rfl (hp 3 (by kernel_rfl)))
          have t32 := hf.in (i := 4) (d := 32) (by kernel_rfl) (hp 4 (by kernel_rfl)) (hJ.vals 4 _ rfl (hp 4 (by kernel_rfl)))
          rw [if_pos (by rfl)]
          go_simp
          refine (HAT.out _ hJ.below).mono ?_
          rintro e wA ⟨rfl, hbA⟩
          exact hK _ _ (hJ.val HOK 5 _ (by kernel_rfl) rfl (hbA))
        case o7_6 =>
          intro LX V aX wX K hl hp hcl hf hJ hK
          have t33 := hf.in (i := 5) (d := 33) (by kernel_rfl) (hp 5 (by kernel_rfl)) (hJ.vals 5 _ rfl (hp 5 (by kernel_rfl)))
          rw [if_pos (by rfl)]
          go_simp
          exact hK _ _ (hJ.val HOK 6 _ (by kernel_rfl) rfl (Below.refl _ _))
        case o7_7 =>
          intro LX V aX wX K hl hp hcl hf hJ hK
          have t34 := hf.in (i := 6) (d := 34) (by kernel_rfl) (hp 6 (by kernel_rfl)) (hJ.vals 6 _ rfl (hp 6 (by kernel_rfl)))
          rw [if_pos (by rfl)]
          go_simp
          exact hK _ _ (hJ.val HOK 7 _ (by kernel_rfl) rfl (Below.refl _ _))
        case o7_8 =>
          intro LX V aX wX K hl hp hcl hf hJ hK
          have t35 := hf.in (i := 7) (d := 35) (by kernel_rfl) (hp 7 (by kernel_rfl)) (hJ.vals 7 _ rfl (hp 7 (by kernel_rfl)))
          rw [if_pos (by rfl)]
          go_simp
          exact hK _ _ (hJ.val HOK 8 _ (by kernel_rfl) rfl (Below.refl _ _))
        case o7_9 =>
          intro LX V aX wX K hl hp hcl hf hJ hK
          have t6 : aX.tmps[6]? = some (.slice (some ⟨bl, 0, none⟩) 2 2) := hf.old (by kernel_rfl) rfl
          have t36 := hf.in (i := 8) (d := 36) (by kernel_rfl) (hp 8 (by kernel_rfl)) (hJ.vals 8 _ rfl (hp 8 (by kernel_rfl)))
          rw [if_pos (wanted_of rfl rfl t36)]
          go_simp
          exact hK _ _ (hJ.val HOK 9 _ (by kernel_rfl) rfl (Below.refl _ _))
        case o7_10 =>
          intro LX V aX wX K hl hp hcl hf hJ hK
          have t7 : aX.tmps[7]? = some (.int .i64 (k : Int)) := hf.old (by kernel_rfl) rfl
          have t36 := hf.in (i := 8) (d := 36) (by kernel_rfl) (hp 8 (by kernel_rfl)) (hJ.vals 8 _ rfl (hp 8 (by kernel_rfl)))
          rw [if_pos (wanted_of rfl rfl t36)]
          go_simp
          exact hK _ _ (hJ.val HOK 10 _ (by kernel_rfl) rfl (Below.refl _ _))
        case o7_11 =>
          intro LX V aX wX K hl hp hcl hf hJ hK
          have t37 := hf.in (i := 9) (d := 37) (by kernel_rfl) (hp 9 (by kernel_rfl)) (hJ.vals 9 _ rfl (hp 9 (by kernel_rfl)))
          have t38 := hf.in (i := 10) (d := 38) (by kernel_rfl) (hp 10 (by kernel_rfl)) (hJ.vals 10 _ rfl (hp 10 (by kernel_rfl)))
          have t36 := hf.in (i := 8) (d := 36) (by kernel_rfl) (hp 8 (by kernel_rfl)) (hJ.vals 8 _ rfl (hp 8 (by kernel_rfl)))
          rw [if_pos (wanted_of rfl rfl t36)]
          go_simp
          exact hK _ _ (hJ.val HOK 11 _ (by kernel_rfl) rfl (Below.refl _ _))
        case o7_12 =>
          intro LX V aX wX K hl hp hcl hf hJ hK
          have t39 := hf.in (i := 11) (d := 39) (by kernel_rfl) (hp 11 (by kernel_rfl)) (hJ.vals 11 _ rfl (hp 11 (by kernel_rfl)))
          have t36 := hf.in (i := 8) (d := 36) (by kernel_rfl) (hp 8 (by kernel_rfl)) (hJ.vals 8 _ rfl (hp 8 (by kernel_rfl)))
          obtain ⟨c0, c1, c2⟩ := HCELLS.out wX hJ.below
          rw [if_pos (wanted_of rfl rfl t36)]
          go_simp
          exact hK _ _ (hJ.val HOK 12 _ (by kernel_rfl) rfl (Below.refl _ _))
        case o7_13 =>
          intro LX V aX wX K hl hp hcl hf hJ hK
          have t3 : aX.tmps[3]? = some (.pointer (some ⟨w.heap.size, 0, none⟩)) := hf.old (by kernel_rfl) rfl
          have t36 := hf.in (i := 8) (d := 36) (by kernel_rfl) (hp 8 (by kernel_rfl)) (hJ.vals 8 _ rfl (hp 8 (by kernel_rfl)))
          obtain ⟨c0, c1, c2⟩ := HCELLS.out wX hJ.below
          rw [if_pos (wanted_of rfl rfl t36)]
          go_simp
          exact hK _ _ (hJ.val HOK 13 _ (by kernel_rfl) rfl (Below.refl _ _))
        case o7_14 =>
          intro LX V aX wX K hl hp hcl hf hJ hK
          have t40 := hf.in (i := 12) (d := 40) (by kernel_rfl) (hp 12 (by kernel_rfl)) (hJ.vals 12 _ rfl (hp 12 (by kernel_rfl)))
          have t41 := hf.in (i := 13) (d := 41) (by kernel_rfl) (hp 13 (by kernel_rfl)) (hJ.vals 13 _ rfl (hp 13 (by kernel_rfl)))
          have t36 := hf.in (i := 8) (d := 36) (by kernel_rfl) (hp 8 (by kernel_rfl)) (hJ.vals 8 _ rfl (hp 8 (by kernel_rfl)))
          rw [if_pos (wanted_of rfl rfl t36)]
          go_simp
          refine (HNR.out _ hJ.below).mono ?_
          rintro e wA ⟨rfl, hbA⟩
          exact hK _ _ (hJ.val HOK 14 _ (by kernel_rfl) rfl (hbA))
        case o7_15 =>
          intro LX V aX wX K hl hp hcl hf hJ hK
          have t42 := hf.in (i := 14) (d := 42) (by kernel_rfl) (hp 14 (by kernel_rfl)) (hJ.vals 14 _ rfl (hp 14 (by kernel_rfl)))
          have t36 := hf.in (i := 8) (d := 36) (by kernel_rfl) (hp 8 (by kernel_rfl)) (hJ.vals 8 _ rfl (hp 8 (by kernel_rfl)))
          rw [if_pos (wanted_of rfl rfl t36)]
          go_simp
          exact hK _ _ (hJ.val HOK 15 _ (by kernel_rfl) rfl (Below.refl _ _))
        case o7_16 =>
          intro LX V aX wX K hl hp hcl hf hJ hK
          have t43 := hf.in (i := 15) (d := 43) (by kernel_rfl) (hp 15 (by kernel_rfl)) (hJ.vals 15 _ rfl (hp 15 (by kernel_rfl)))
          have t36 := hf.in (i := 8) (d := 36) (by kernel_rfl) (hp 8 (by kernel_rfl)) (hJ.vals 8 _ rfl (hp 8 (by kernel_rfl)))
          rw [if_pos (wanted_of rfl rfl t36)]
          go_simp
          exact hK _ _ (hJ.val HOK 16 _ (by kernel_rfl) rfl (Below.refl _ _))
        case o7_17 =>
          intro LX V aX wX K hl hp hcl hf hJ hK
          have t36 := hf.in (i := 8) (d := 36) (by kernel_rfl) (hp 8 (by kernel_rfl)) (hJ.vals 8 _ rfl (hp 8 (by kernel_rfl)))
          have t44 := hf.in (i := 16) (d := 44) (by kernel_rfl) (hp 16 (by kernel_rfl)) (hJ.vals 16 _ rfl (hp 16 (by kernel_rfl)))
          rw [if_pos (by rfl)]
          go_simp
          exact hK _ _ (hJ.val HOK 17 _ (by kernel_rfl) rfl (Below.refl _ _))
        case o7_18 =>
          intro LX V aX wX K hl hp hcl hf hJ hK
          have t45 := hf.in (i := 17) (d := 45) (by kernel_rfl) (hp 17 (by kernel_rfl)) (hJ.vals 17 _ rfl (hp 17 (by kernel_rfl)))
          rw [if_pos (by rfl)]
          go_simp
          exact hK _ _ (hJ.val HOK 18 _ (by kernel_rfl) rfl (Below.refl _ _))
        case o7_19 =>
          intro LX V aX wX K hl hp hcl hf hJ hK
          have t6 : aX.tmps[6]? = some (.slice (some ⟨bl, 0, none⟩) 2 2) := hf.old (by kernel_rfl) rfl
          have t46 := hf.in (i := 18) (d := 46) (by kernel_rfl) (hp 18 (by kernel_rfl)) (hJ.vals 18 _ rfl (hp 18 (by kernel_rfl)))
          rw [if_pos (wanted_of rfl rfl t46)]
          go_simp
          exact hK _ _ (hJ.val HOK 19 _ (by kernel_rfl) rfl (Below.refl _ _))
        case o7_20 =>
          intro LX V aX wX K hl hp hcl hf hJ hK
          have t7 : aX.tmps[7]? = some (.int .i64 (k : Int)) := hf.old (by kernel_rfl) rfl
          have t46 := hf.in (i := 18) (d := 46) (by kernel_rfl) (hp 18 (by kernel_rfl)) (hJ.vals 18 _ rfl (hp 18 (by kernel_rfl)))
          rw [if_pos (wanted_of rfl rfl t46)]
          go_simp
          exact hK _ _ (hJ.val HOK 20 _ (by kernel_rfl) rfl (Below.refl _ _))
        case o7_21 =>
          intro LX V aX wX K hl hp hcl hf hJ hK
          have t47 := hf.in (i := 19) (d := 47) (by kernel_rfl) (hp 19 (by kernel_rfl)) (hJ.vals 19 _ rfl (hp 19 (by kernel_rfl)))
          have t48 := hf.in (i := 20) (d := 48) (by kernel_rfl) (hp 20 (by kernel_rfl)) (hJ.vals 20 _ rfl (hp 20 (by kernel_rfl)))
          have t46 := hf.in (i := 18) (d := 46) (by kernel_rfl) (hp 18 (by kernel_rfl)) (hJ.vals 18 _ rfl (hp 18 (by kernel_rfl)))
          rw [if_pos (wanted_of rfl rfl t46)]
          go_simp
          exact hK _ _ (hJ.val HOK 21 _ (by kernel_rfl) rfl (Below.refl _ _))
        case o7_22 =>
          intro LX V aX wX K hl hp hcl hf hJ hK
          have t49 := hf.in (i := 21) (d := 49) (by kernel_rfl) (hp 21 (by kernel_rfl)) (hJ.vals 21 _ rfl (hp 21 (by kernel_rfl)))
          have t46 := hf.in (i := 18) (d := 46) (by kernel_rfl) (hp 18 (by kernel_rfl)) (hJ.vals 18 _ rfl (hp 18 (by kernel_rfl)))
          obtain ⟨c0, c1, c2⟩ := HCELLS.out wX hJ.below
          rw [if_pos (wanted_of rfl rfl t46)]
          go_simp
          exact hK _ _ (hJ.val HOK 22 _ (by kernel_rfl) rfl (Below.refl _ _))
        case o7_23 =>
          intro LX V aX wX K hl hp hcl hf hJ hK
          have t50 := hf.in (i := 22) (d := 50) (by kernel_rfl) (hp 22 (by kernel_rfl)) (hJ.vals 22 _ rfl (hp 22 (by kernel_rfl)))
          have t46 := hf.in (i := 18) (d := 46) (by kernel_rfl) (hp 18 (by kernel_rfl)) (hJ.vals 18 _ rfl (hp 18 (by kernel_rfl)))
          rw [if_pos (wanted_of rfl rfl t46)]
          go_simp
          refine (HLE.out _ hJ.below).mono ?_
          rintro e wA ⟨rfl, hbA⟩
          exact hK _ _ (hJ.val HOK 23 _ (by kernel_rfl) rfl (hbA))
        case o7_24 =>
          intro LX V aX wX K hl hp hcl hf hJ hK
          have t51 := hf.in (i := 23) (d := 51) (by kernel_rfl) (hp 23 (by kernel_rfl)) (hJ.vals 23 _ rfl (hp 23 (by kernel_rfl)))
          have t46 := hf.in (i := 18) (d := 46) (by kernel_rfl) (hp 18 (by kernel_rfl)) (hJ.vals 18 _ rfl (hp 18 (by kernel_rfl)))
          rw [if_pos (wanted_of rfl rfl t46)]
          go_simp
          exact hK _ _ (hJ.val HOK 24 _ (by kernel_rfl) rfl (Below.refl _ _))
        case o7_25 =>
          intro LX V aX wX K hl hp hcl hf hJ hK
          have t46 := hf.in (i := 18) (d := 46) (by kernel_rfl) (hp 18 (by kernel_rfl)) (hJ.vals 18 _ rfl (hp 18 (by kernel_rfl)))
          have t52 := hf.in (i := 24) (d := 52) (by kernel_rfl) (hp 24 (by kernel_rfl)) (hJ.vals 24 _ rfl (hp 24 (by kernel_rfl)))
          rw [if_pos (by rfl)]
          go_simp
          exact hK _ _ (hJ.val HOK 25 _ (by kernel_rfl) rfl (Below.refl _ _))
        case o7_26 =>
          intro LX V aX wX K hl hp hcl hf hJ hK
          have t53 := hf.in (i := 25) (d := 53) (by kernel_rfl) (hp 25 (by kernel_rfl)) (hJ.vals 25 _ rfl (hp 25 (by kernel_rfl)))
          rw [if_pos (by rfl)]
          go_simp
          exact hK _ _ (hJ.val HOK 26 _ (by kernel_rfl) rfl (Below.refl _ _))
        case o7_27 =>
          intro LX V aX wX K hl hp hcl hf hJ hK
          have t8 : aX.tmps[8]? = some (.bool false) := hf.old (by kernel_rfl) rfl
          have t54 := hf.in (i := 26) (d := 54) (by kernel_rfl) (hp 26 (by kernel_rfl)) (hJ.vals 26 _ rfl (hp 26 (by kernel_rfl)))
          rw [if_pos (wanted_of rfl rfl t54)]
          go_simp
          exact hK _ _ (hJ.val HOK 27 _ (by kernel_rfl) rfl (Below.refl _ _))
        case o7_28 =>
          intro LX V aX wX K hl hp hcl hf hJ hK
          have t54 := hf.in (i := 26) (d := 54) (by kernel_rfl) (hp 26 (by kernel_rfl)) (hJ.vals 26 _ rfl (hp 26 (by kernel_rfl)))
          have t55 := hf.in (i := 27) (d := 55) (by kernel_rfl) (hp 27 (by kernel_rfl)) (hJ.vals 27 _ rfl (hp 27 (by kernel_rfl)))
          rw [if_pos (by rfl)]
          go_simp
          exact hK _ _ (hJ.val HOK 28 _ (by kernel_rfl) rfl (Below.refl _ _))
        case o7_29 =>
          intro LX V aX wX K hl hp hcl hf hJ hK
          have t56 := hf.in (i := 28) (d := 56) (by kernel_rfl) (hp 28 (by kernel_rfl)) (hJ.vals 28 _ rfl (hp 28 (by kernel_rfl)))
          rw [if_pos (by rfl)]
          go_simp
          exact hK _ _ (hJ.val HOK 29 _ (by kernel_rfl) rfl (Below.refl _ _))
        case o7_30 =>
          intro LX V aX wX K hl hp hcl hf hJ hK
          have t9 : aX.tmps[9]? = some (.int .i64 1) := hf.old (by kernel_rfl) rfl
          have t57 := hf.in (i := 29) (d := 57) (by kernel_rfl) (hp 29 (by kernel_rfl)) (hJ.vals 29 _ rfl (hp 29 (by kernel_rfl)))
          rw [if_pos (wanted_of rfl rfl t57)]
          go_simp
          exact hK _ _ (hJ.val HOK 30 _ (by kernel_rfl) rfl (Below.refl _ _))
        case o7_31 =>
          intro LX V aX wX K hl hp hcl hf hJ hK
          have t58 := hf.in (i := 30) (d := 58) (by kernel_rfl) (hp 30 (by kernel_rfl)) (hJ.vals 30 _ rfl (hp 30 (by kernel_rfl)))
          have t57 := hf.in (i := 29) (d := 57) (by kernel_rfl) (hp 29 (by kernel_rfl)) (hJ.vals 29 _ rfl (hp 29 (by kernel_rfl)))
          rw [if_pos (wanted_of rfl rfl t57)]
          go_simp
          exact hK _ _ (hJ.val HOK 31 _ (by kernel_rfl) rfl (Below.refl _ _))
        case o7_32 =>
          intro LX V aX wX K hl hp hcl hf hJ hK
          have t57 := hf.in (i := 29) (d := 57) (by kernel_rfl) (hp 29 (by kernel_rfl)) (hJ.vals 29 _ rfl (hp 29 (by kernel_rfl)))
          have t59 := hf.in (i := 31) (d := 59) (by kernel_rfl) (hp 31 (by kernel_rfl)) (hJ.vals 31 _ rfl (hp 31 (by kernel_rfl)))
          rw [if_pos (by rfl)]
          go_simp
          exact hK _ _ (hJ.val HOK 32 _ (by kernel_rfl) rfl (Below.refl _ _))
      intro V wY hJ
      have hv := hJ.vals 32 _ rfl (by kernel_rfl)
      have HBY := Lib.hid (HBZ.out.trans (hJ.below.mono HBZ.out.size))
      simp only [puts, Act.put, List.setIfInBounds_toArray, List.set_cons_zero, List.set_cons_succ]
      rw [hv]
      clear hJ HOK hv
      go_wp2_with fail
      go_roundw
      case rel => exact ⟨k + 1, by omega, by go_num, HBY⟩
      case measure => simp [intOf]; omega
    · have hk2 : k = 2 := by omega
      subst hk2
      go_wp2_with fail
      refine (awakeI_any wr).mono ?_
      rintro e w9 ⟨rfl, hb9⟩
      have HB9 := Lib.hid ((HB3.out.trans (hb.out.mono HB3.out.size)).trans (hb9.mono (Nat.le_trans HB3.out.size hb.out.size)))
      clear hb9
      go_wp2_with fail
      go_ret
      exact ⟨rfl, HB9.out⟩
end Go.Proofs.YtjiiikeniocmfaaGreat

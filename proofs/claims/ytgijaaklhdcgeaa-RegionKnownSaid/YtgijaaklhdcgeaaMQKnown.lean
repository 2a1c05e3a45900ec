/- RegionKnown: the walk (printed by mkknown11.py) -/
import Derived.Test.YtgijaaklhdcgeaaMQSame2
import Derived.Test.YtgijaaklhdcgeaaMQConcat
set_option linter.unusedSimpArgs false
set_option linter.unusedVariables false
namespace Go.Proofs.Ytgijaaklhdcgeaa
open Go.RowKit Go.Geo
attribute [local go_sem] Oper.semAt_some
theorem known_facts : regionCheckP [sP, sP] = (210, 0) ∧ regionCheckP [] = (2, 0) ∧ regionCheckP [sP, tP.take 2] = (190, 1) ∧ boundsP [sP, tP].flatten = some (⟨0, 0⟩, ⟨10, 10⟩) ∧ regionSameP [sP, tP] [tP, sP] = true ∧ regionSameP [sP] [tP] = false := by decide +kernel
def IsP4 (P : List Pt) (v : Value) (w : World) : Prop := ∃ x z, v = .slice x 4 z ∧ IsPts w x 4 z P
def IsRs (R : List (List Pt)) (v : Value) (w : World) : Prop := ∃ x y z, v = .slice x y z ∧ IsRings w x y z R
def IsRg (R : List (List Pt)) (v : Value) (w : World) : Prop := ∃ x y z, v = .agg #[.slice x y z] ∧ IsRings w x y z R
theorem IsP4.keep {P : List Pt} {v : Value} {w w' : World} (h : IsP4 P v w) (hb : Below w.heap.size w w') : IsP4 P v w' := by
  obtain ⟨x, z, h1, h2⟩ := h
  exact ⟨x, z, h1, h2.later hb (Nat.le_refl _)⟩
theorem IsRs.keep {P : List (List Pt)} {v : Value} {w w' : World} (h : IsRs P v w) (hb : Below w.heap.size w w') : IsRs P v w' := by
  obtain ⟨x, y, z, h1, h2⟩ := h
  exact ⟨x, y, z, h1, h2.later hb (Nat.le_refl _)⟩
theorem IsRg.keep {P : List (List Pt)} {v : Value} {w w' : World} (h : IsRg P v w) (hb : Below w.heap.size w w') : IsRg P v w' := by
  obtain ⟨x, y, z, h1, h2⟩ := h
  exact ⟨x, y, z, h1, h2.later hb (Nat.le_refl _)⟩
theorem rings_oneK {w : World} {ao : Option Addr} {n cap g : Nat} {P : List Pt} (h : IsPts w ao n cap P) (hg : w.heap[g]? = some (.cells #[.slice ao n cap] 28 (0, 0))) : IsRings w (some ⟨g, 0, none⟩) 1 1 [P] := by
  refine ⟨rfl, Nat.le_refl _, by unfold maxLen; omega, (fun h => (by cases h)), fun k hk => ?_⟩
  obtain rfl : k = 0 := by omega
  exact ⟨g, 0, ao, n, cap, rfl, cell_of_row _ _ _ _ _ _ hg, h⟩
set_option maxRecDepth 100000 in
set_option maxHeartbeats 8000000 in
theorem RegionKnown_any (w : World) : Calls Try.prog 8 #[] w fun e w' => e = .returned (.bool true) ∧ Below w.heap.size w w' := by
  have HK := Lib.hid known_facts
  have HAW := Lib.hid awake_any
  have HS := Lib.hid sLaw_any
  have HT := Lib.hid tLaw_any
  have HOF := Lib.hid ofLaw_any
  have HAT := Lib.hid atLaw_any
  have e1 : ∀ w, (binOp .eql 32 (.agg #[.int .i64 210, .int .i64 0]) (.agg #[.int .i64 210, .int .i64 0])).run Try.prog w = .ok (.bool true) w := fun w => run_eqF 210 0 210 0 w
  have e2 : ∀ w, (binOp .eql 32 (.agg #[.int .i64 2, .int .i64 0]) (.agg #[.int .i64 2, .int .i64 0])).run Try.prog w = .ok (.bool true) w := fun w => run_eqF 2 0 2 0 w
  have e3 : ∀ w, (binOp .eql 32 (.agg #[.int .i64 190, .int .i64 1]) (.agg #[.int .i64 190, .int .i64 1])).run Try.prog w = .ok (.bool true) w := fun w => run_eqF 190 1 190 1 w
  go_enter Try.func8, Try.ntmps8
  go_wp2_with fail
  refine (HS.out _).mono ?_
  rintro e w1 ⟨g1, c1, rfl, hp1, hb1⟩
  have H1 := Lib.hid (And.intro hp1 hb1)
  clear hp1 hb1
  go_wp2_with fail
  refine (HS.out _).mono ?_
  rintro e w2 ⟨g2, c2, rfl, hp2, hb2⟩
  have H2 := Lib.hid (And.intro hp2 (And.intro (H1.out.1.later hb2 (Nat.le_refl _)) (H1.out.2.trans (hb2.mono H1.out.2.size))))
  clear hp2 hb2
  go_wp2_with fail
  refine (HOF.out _ _ _ _).mono ?_
  rintro e w3 ⟨rfl, hg3⟩
  have HC3 := Lib.hid (Check_region _ 2 2 [sP, sP] w3 ((rings2 H2.out.2.1 H2.out.1 rfl).grew hg3) (by decide))
  rw [HK.out.1] at HC3
  unfold faultV at HC3
  have H3 := Lib.hid ((H2.out.2.2.alloc H2.out.2.2.size _).trans (hg3.1.mono (by simp; have := H2.out.2.2.size; omega)))
  clear hg3
  go_wp2_with fail
  refine HC3.out.mono ?_
  rintro e w4 ⟨rfl, hb4⟩
  have H4 := Lib.hid (H3.out.trans (hb4.mono H3.out.size))
  clear hb4
  go_wp2_with fail
  refine (HOF.out _ _ _ _).mono ?_
  rintro e w5 ⟨rfl, hg5⟩
  have HC5 := Lib.hid (Check_region none 0 0 [] w5 (IsRings.nil _) (by decide))
  rw [HK.out.2.1] at HC5
  unfold faultV at HC5
  have H5 := Lib.hid (H4.out.trans (hg5.1.mono H4.out.size))
  clear hg5
  go_wp2_with fail
  refine HC5.out.mono ?_
  rintro e w6 ⟨rfl, hb6⟩
  have H6 := Lib.hid (H5.out.trans (hb6.mono H5.out.size))
  clear hb6
  go_wp2_with fail
  refine (HS.out _).mono ?_
  rintro e w7 ⟨g7, c7, rfl, hp7, hb7⟩
  have H7 := Lib.hid (And.intro hp7 (H6.out.trans (hb7.mono H6.out.size)))
  clear hp7 hb7
  go_wp2_with fail
  refine (HT.out _).mono ?_
  rintro e w8 ⟨g8, c8, rfl, hp8, hb8⟩
  have hc8 := hp8.2.1
  have H8 := Lib.hid (And.intro hp8 (And.intro (H7.out.1.later hb8 (Nat.le_refl _)) (H7.out.2.trans (hb8.mono H7.out.2.size))))
  have hc9 : (2 : Int) ≤ (c8 : Int) := by omega
  have hc10 : 2 ≤ c8 := by omega
  clear hp8 hb8
  go_wp2_with fail
  refine (HOF.out _ _ _ _).mono ?_
  rintro e w9 ⟨rfl, hg9⟩
  have HC9 := Lib.hid (Check_region _ 2 2 [sP, tP.take 2] w9 ((rings2 H8.out.2.1 (H8.out.1.part (i := 2) (by omega)) rfl).grew hg9) (by decide))
  rw [HK.out.2.2.1] at HC9
  unfold faultV at HC9
  have H9 := Lib.hid ((H8.out.2.2.alloc H8.out.2.2.size _).trans (hg9.1.mono (by simp; have := H8.out.2.2.size; omega)))
  clear hg9 hc8 hc9 hc10
  go_wp2_with fail
  refine HC9.out.mono ?_
  rintro e w10 ⟨rfl, hb10⟩
  have H10 := Lib.hid (H9.out.trans (hb10.mono H9.out.size))
  clear hb10
  go_wp2_with fail
  refine (HS.out _).mono ?_
  rintro e w11 ⟨g11, c11, rfl, hp11, hb11⟩
  have H11 := Lib.hid (And.intro hp11 (H10.out.trans (hb11.mono H10.out.size)))
  clear hp11 hb11
  go_wp2_with fail
  refine (HT.out _).mono ?_
  rintro e w12 ⟨g12, c12, rfl, hp12, hb12⟩
  have H12 := Lib.hid (And.intro hp12 (And.intro (H11.out.1.later hb12 (Nat.le_refl _)) (H11.out.2.trans (hb12.mono H11.out.2.size))))
  clear hp12 hb12
  go_wp2_with fail
  refine (HOF.out _ _ _ _).mono ?_
  rintro e w13 ⟨rfl, hg13⟩
  have hbx := Box_region _ 2 2 [sP, tP] w13 ((rings2 H12.out.2.1 H12.out.1 rfl).grew hg13) (by decide)
  have hbv : boundsV [sP, tP].flatten = .tuple #[boxV ⟨0, 0⟩ ⟨10, 10⟩, .bool true] := by unfold boundsV; rw [HK.out.2.2.2.1]
  rw [hbv] at hbx
  unfold boxV at hbx
  have HBX := Lib.hid hbx
  have H13 := Lib.hid ((H12.out.2.2.alloc H12.out.2.2.size _).trans (hg13.1.mono (by simp; have := H12.out.2.2.size; omega)))
  clear hg13 hbx hbv
  go_wp2_with fail
  refine HBX.out.mono ?_
  rintro e w14 ⟨rfl, hb14⟩
  have H14 := Lib.hid (H13.out.trans (hb14.mono H13.out.size))
  clear hb14
  go_wp2_with fail
  obtain ⟨W, hW⟩ : ∃ W, W = w14.alloc (.cells #[.int .i64 0, .int .i64 0, .int .i64 10, .int .i64 10] 47) := ⟨_, rfl⟩
  obtain ⟨g2, hg2⟩ : ∃ g, g = w14.heap.size := ⟨_, rfl⟩
  have k2 : W.heap[g2]? = some (.cells (boxRow 0 0 10 10) 47 (0, 0)) := by rw [hW, hg2]; exact alloc_new _ _
  have HBW : Hid (Below w.heap.size w W) := Lib.hid (by rw [hW]; exact H14.out.alloc H14.out.size _)
  rw [← hW, ← hg2]
  have HCELLS : Hid (∀ wX, Below W.heap.size W wX → wX.cell? ⟨g2, 0, none⟩ = some (.int .i64 0) ∧ wX.cell? ⟨g2, 1, none⟩ = some (.int .i64 0) ∧ wX.cell? ⟨g2, 2, none⟩ = some (.int .i64 10) ∧ wX.cell? ⟨g2, 3, none⟩ = some (.int .i64 10)) := Lib.hid (fun wX hX => box_cells ((hX.block _ (heap_lt' k2)).trans k2))
  clear hW hg2 k2 e1 e2 e3 H1 H2 H3 H4 H5 H6 H7 H8 H9 H10 H11 H12 H13 H14 HC3 HC5 HC9 HBX
  have HOK : ∀ f ∈ ([⟨15, IsP4 sP⟩, ⟨16, IsP4 tP⟩, ⟨17, IsRs [sP, tP]⟩, ⟨18, IsRg [sP, tP]⟩, ⟨19, IsP4 tP⟩, ⟨20, IsP4 sP⟩, ⟨21, IsRs [tP, sP]⟩, ⟨22, IsRg [tP, sP]⟩, ⟨26, IsP4 sP⟩, ⟨27, IsRs [sP]⟩, ⟨28, IsRg [sP]⟩, ⟨29, IsP4 tP⟩, ⟨30, IsRs [tP]⟩, ⟨31, IsRg [tP]⟩] : List Fct), FctOk f := by
    intro f hf
    simp only [List.mem_cons, List.not_mem_nil, or_false] at hf
    rcases hf with rfl | rfl | rfl | rfl | rfl | rfl | rfl | rfl | rfl | rfl | rfl | rfl | rfl | rfl
    · exact fun v w w' h hb => h.keep hb
    · exact fun v w w' h hb => h.keep hb
    · exact fun v w w' h hb => h.keep hb
    · exact fun v w w' h hb => h.keep hb
    · exact fun v w w' h hb => h.keep hb
    · exact fun v w w' h hb => h.keep hb
    · exact fun v w w' h hb => h.keep hb
    · exact fun v w w' h hb => h.keep hb
    · exact fun v w w' h hb => h.keep hb
    · exact fun v w w' h hb => h.keep hb
    · exact fun v w w' h hb => h.keep hb
    · exact fun v w w' h hb => h.keep hb
    · exact fun v w w' h hb => h.keep hb
    · exact fun v w w' h hb => h.keep hb
  refine wp_region_J (s := [(35, 0), (36, 1), (37, 2), (38, 3), (39, 4), (40, 5), (41, 6), (42, 7), (43, 8), (44, 9), (45, 10), (46, 11), (47, 12), (48, 13), (49, 14), (50, 15), (51, 16), (52, 17), (53, 18), (54, 19), (55, 20), (56, 21), (57, 22), (58, 23), (59, 24), (60, 25), (61, 26), (62, 27), (63, 28), (64, 29), (65, 30), (66, 31), (67, 32), (68, 33), (69, 34), (0, 35)]) (by kernel_rfl) (GrowJ W (fun iX => match iX with | 0 => some (.bool true) | 1 => some (.bool true) | 2 => some (.bool true) | 3 => some (.bool true) | 4 => some (.bool true) | 5 => some (.bool true) | 6 => some (.bool true) | 7 => some (.bool true) | 8 => some (.agg #[.int .i64 0, .int .i64 0, .int .i64 10, .int .i64 10]) | 9 => some (.agg #[.int .i64 0, .int .i64 0]) | 10 => some (.agg #[.int .i64 10, .int .i64 10]) | 11 => some (.agg #[.int .i64 0, .int .i64 0, .int .i64 10, .int .i64 10]) | 12 => some (.bool true) | 13 => some (.bool true) | 14 => some (.bool true) | 23 => some (.bool true) | 24 => some (.bool true) | 25 => some (.bool true) | 32 => some (.bool false) | 33 => some (.bool true) | 34 => some (.bool true) | 35 => some (.bool true) | _ => none) [⟨15, IsP4 sP⟩, ⟨16, IsP4 tP⟩, ⟨17, IsRs [sP, tP]⟩, ⟨18, IsRg [sP, tP]⟩, ⟨19, IsP4 tP⟩, ⟨20, IsP4 sP⟩, ⟨21, IsRs [tP, sP]⟩, ⟨22, IsRg [tP, sP]⟩, ⟨26, IsP4 sP⟩, ⟨27, IsRs [sP]⟩, ⟨28, IsRg [sP]⟩, ⟨29, IsP4 tP⟩, ⟨30, IsRs [tP]⟩, ⟨31, IsRg [tP]⟩]) (by kernel_rfl) (by kernel_rfl) (by kernel_rfl) (by kernel_rfl) (fun _ => undef) ?start3 ?step3 ?done3
  case start3 => exact GrowJ.start ((Below.refl _ _).drew)
  case step3 =>
    refine ⟨?o3_0, ?o3_1, ?o3_2, ?o3_3, ?o3_4, ?o3_5, ?o3_6, ?o3_7, ?o3_8, ?o3_9, ?o3_10, ?o3_11, ?o3_12, ?o3_13, ?o3_14, ?o3_15, ?o3_16, ?o3_17, ?o3_18, ?o3_19, ?o3_20, ?o3_21, ?o3_22, ?o3_23, ?o3_24, ?o3_25, ?o3_26, ?o3_27, ?o3_28, ?o3_29, ?o3_30, ?o3_31, ?o3_32, ?o3_33, ?o3_34, ?o3_35, trivial⟩
    case o3_0 =>
      intro LX V aX wX K hl hp hcl hf hJ hK
      rw [if_pos (by rfl)]
      go_simp
      refine (HAW.out _).mono ?_
      rintro e wA ⟨rfl, hbA⟩
      exact hK _ _ (hJ.val HOK 0 _ (by kernel_rfl) rfl (hbA))
    case o3_1 =>
      intro LX V aX wX K hl hp hcl hf hJ hK
      have t35 := hf.in (i := 0) (d := 35) (by kernel_rfl) (hp 0 (by kernel_rfl)) (hJ.vals 0 _ rfl (hp 0 (by kernel_rfl)))
      rw [if_pos (by rfl)]
      go_simp
      exact hK _ _ (hJ.val HOK 1 _ (by kernel_rfl) rfl (Below.refl _ _))
    case o3_2 =>
      intro LX V aX wX K hl hp hcl hf hJ hK
      have t1 : aX.tmps[1]? = some (.bool true) := hf.old (by kernel_rfl) rfl
      have t36 := hf.in (i := 1) (d := 36) (by kernel_rfl) (hp 1 (by kernel_rfl)) (hJ.vals 1 _ rfl (hp 1 (by kernel_rfl)))
      rw [if_pos (wanted_of rfl rfl t36)]
      go_simp
      exact hK _ _ (hJ.val HOK 2 _ (by kernel_rfl) rfl (Below.refl _ _))
    case o3_3 =>
      intro LX V aX wX K hl hp hcl hf hJ hK
      have t36 := hf.in (i := 1) (d := 36) (by kernel_rfl) (hp 1 (by kernel_rfl)) (hJ.vals 1 _ rfl (hp 1 (by kernel_rfl)))
      have t37 := hf.in (i := 2) (d := 37) (by kernel_rfl) (hp 2 (by kernel_rfl)) (hJ.vals 2 _ rfl (hp 2 (by kernel_rfl)))
      rw [if_pos (by rfl)]
      go_simp
      exact hK _ _ (hJ.val HOK 3 _ (by kernel_rfl) rfl (Below.refl _ _))
    case o3_4 =>
      intro LX V aX wX K hl hp hcl hf hJ hK
      have t38 := hf.in (i := 3) (d := 38) (by kernel_rfl) (hp 3 (by kernel_rfl)) (hJ.vals 3 _ rfl (hp 3 (by kernel_rfl)))
      rw [if_pos (by rfl)]
      go_simp
      exact hK _ _ (hJ.val HOK 4 _ (by kernel_rfl) rfl (Below.refl _ _))
    case o3_5 =>
      intro LX V aX wX K hl hp hcl hf hJ hK
      have t3 : aX.tmps[3]? = some (.bool true) := hf.old (by kernel_rfl) rfl
      have t39 := hf.in (i := 4) (d := 39) (by kernel_rfl) (hp 4 (by kernel_rfl)) (hJ.vals 4 _ rfl (hp 4 (by kernel_rfl)))
      rw [if_pos (wanted_of rfl rfl t39)]
      go_simp
      exact hK _ _ (hJ.val HOK 5 _ (by kernel_rfl) rfl (Below.refl _ _))
    case o3_6 =>
      intro LX V aX wX K hl hp hcl hf hJ hK
      have t39 := hf.in (i := 4) (d := 39) (by kernel_rfl) (hp 4 (by kernel_rfl)) (hJ.vals 4 _ rfl (hp 4 (by kernel_rfl)))
      have t40 := hf.in (i := 5) (d := 40) (by kernel_rfl) (hp 5 (by kernel_rfl)) (hJ.vals 5 _ rfl (hp 5 (by kernel_rfl)))
      rw [if_pos (by rfl)]
      go_simp
      exact hK _ _ (hJ.val HOK 6 _ (by kernel_rfl) rfl (Below.refl _ _))
    case o3_7 =>
      intro LX V aX wX K hl hp hcl hf hJ hK
      have t41 := hf.in (i := 6) (d := 41) (by kernel_rfl) (hp 6 (by kernel_rfl)) (hJ.vals 6 _ rfl (hp 6 (by kernel_rfl)))
      rw [if_pos (by rfl)]
      go_simp
      exact hK _ _ (hJ.val HOK 7 _ (by kernel_rfl) rfl (Below.refl _ _))
    case o3_8 =>
      intro LX V aX wX K hl hp hcl hf hJ hK
      have t2 : aX.tmps[2]? = some (.pointer (some ⟨g2, 0, none⟩)) := hf.old (by kernel_rfl) rfl
      have t42 := hf.in (i := 7) (d := 42) (by kernel_rfl) (hp 7 (by kernel_rfl)) (hJ.vals 7 _ rfl (hp 7 (by kernel_rfl)))
      obtain ⟨c0, c1, c2, c3⟩ := HCELLS.out wX hJ.below
      rw [if_pos (wanted_of rfl rfl t42)]
      go_simp
      exact hK _ _ (hJ.val HOK 8 _ (by kernel_rfl) rfl (Below.refl _ _))
    case o3_9 =>
      intro LX V aX wX K hl hp hcl hf hJ hK
      have t42 := hf.in (i := 7) (d := 42) (by kernel_rfl) (hp 7 (by kernel_rfl)) (hJ.vals 7 _ rfl (hp 7 (by kernel_rfl)))
      rw [if_pos (wanted_of rfl rfl t42)]
      go_simp
      refine (HAT.out _ _ _).mono ?_
      rintro e wA ⟨rfl, hgA⟩
      exact hK _ _ (hJ.val HOK 9 _ (by kernel_rfl) rfl (hgA.1))
    case o3_10 =>
      intro LX V aX wX K hl hp hcl hf hJ hK
      have t42 := hf.in (i := 7) (d := 42) (by kernel_rfl) (hp 7 (by kernel_rfl)) (hJ.vals 7 _ rfl (hp 7 (by kernel_rfl)))
      rw [if_pos (wanted_of rfl rfl t42)]
      go_simp
      refine (HAT.out _ _ _).mono ?_
      rintro e wA ⟨rfl, hgA⟩
      exact hK _ _ (hJ.val HOK 10 _ (by kernel_rfl) rfl (hgA.1))
    case o3_11 =>
      intro LX V aX wX K hl hp hcl hf hJ hK
      have t44 := hf.in (i := 9) (d := 44) (by kernel_rfl) (hp 9 (by kernel_rfl)) (hJ.vals 9 _ rfl (hp 9 (by kernel_rfl)))
      have t45 := hf.in (i := 10) (d := 45) (by kernel_rfl) (hp 10 (by kernel_rfl)) (hJ.vals 10 _ rfl (hp 10 (by kernel_rfl)))
      have t42 := hf.in (i := 7) (d := 42) (by kernel_rfl) (hp 7 (by kernel_rfl)) (hJ.vals 7 _ rfl (hp 7 (by kernel_rfl)))
      rw [if_pos (wanted_of rfl rfl t42)]
      go_simp
      exact hK _ _ (hJ.val HOK 11 _ (by kernel_rfl) rfl (Below.refl _ _))
    case o3_12 =>
      intro LX V aX wX K hl hp hcl hf hJ hK
      have t43 := hf.in (i := 8) (d := 43) (by kernel_rfl) (hp 8 (by kernel_rfl)) (hJ.vals 8 _ rfl (hp 8 (by kernel_rfl)))
      have t46 := hf.in (i := 11) (d := 46) (by kernel_rfl) (hp 11 (by kernel_rfl)) (hJ.vals 11 _ rfl (hp 11 (by kernel_rfl)))
      have t42 := hf.in (i := 7) (d := 42) (by kernel_rfl) (hp 7 (by kernel_rfl)) (hJ.vals 7 _ rfl (hp 7 (by kernel_rfl)))
      have he : ∀ w, _ := run_eqBox 0 0 10 10 0 0 10 10
      rw [decide_eq_true rfl, decide_eq_true rfl] at he
      rw [if_pos (wanted_of rfl rfl t42)]
      go_simp
      exact hK _ _ (hJ.val HOK 12 _ (by kernel_rfl) rfl (Below.refl _ _))
    case o3_13 =>
      intro LX V aX wX K hl hp hcl hf hJ hK
      have t42 := hf.in (i := 7) (d := 42) (by kernel_rfl) (hp 7 (by kernel_rfl)) (hJ.vals 7 _ rfl (hp 7 (by kernel_rfl)))
      have t47 := hf.in (i := 12) (d := 47) (by kernel_rfl) (hp 12 (by kernel_rfl)) (hJ.vals 12 _ rfl (hp 12 (by kernel_rfl)))
      rw [if_pos (by rfl)]
      go_simp
      exact hK _ _ (hJ.val HOK 13 _ (by kernel_rfl) rfl (Below.refl _ _))
    case o3_14 =>
      intro LX V aX wX K hl hp hcl hf hJ hK
      have t48 := hf.in (i := 13) (d := 48) (by kernel_rfl) (hp 13 (by kernel_rfl)) (hJ.vals 13 _ rfl (hp 13 (by kernel_rfl)))
      rw [if_pos (by rfl)]
      go_simp
      exact hK _ _ (hJ.val HOK 14 _ (by kernel_rfl) rfl (Below.refl _ _))
    case o3_15 =>
      intro LX V aX wX K hl hp hcl hf hJ hK
      have t49 := hf.in (i := 14) (d := 49) (by kernel_rfl) (hp 14 (by kernel_rfl)) (hJ.vals 14 _ rfl (hp 14 (by kernel_rfl)))
      rw [if_pos (wanted_of rfl rfl t49)]
      go_simp
      refine (HS.out _).mono ?_
      rintro e wA ⟨gA, cA, rfl, hpA, hbA⟩
      exact hK _ _ (hJ.step HOK 15 _ trivial (hbA) (by
        intro f hf hfi
        simp only [List.mem_cons, List.not_mem_nil, or_false] at hf
        rcases hf with rfl | rfl | rfl | rfl | rfl | rfl | rfl | rfl | rfl | rfl | rfl | rfl | rfl | rfl
        · exact ⟨_, _, rfl, hpA⟩
        · exact absurd (show (16 : Nat) = 15 from hfi) (by decide)
        · exact absurd (show (17 : Nat) = 15 from hfi) (by decide)
        · exact absurd (show (18 : Nat) = 15 from hfi) (by decide)
        · exact absurd (show (19 : Nat) = 15 from hfi) (by decide)
        · exact absurd (show (20 : Nat) = 15 from hfi) (by decide)
        · exact absurd (show (21 : Nat) = 15 from hfi) (by decide)
        · exact absurd (show (22 : Nat) = 15 from hfi) (by decide)
        · exact absurd (show (26 : Nat) = 15 from hfi) (by decide)
        · exact absurd (show (27 : Nat) = 15 from hfi) (by decide)
        · exact absurd (show (28 : Nat) = 15 from hfi) (by decide)
        · exact absurd (show (29 : Nat) = 15 from hfi) (by decide)
        · exact absurd (show (30 : Nat) = 15 from hfi) (by decide)
        · exact absurd (show (31 : Nat) = 15 from hfi) (by decide)
        ))
    case o3_16 =>
      intro LX V aX wX K hl hp hcl hf hJ hK
      have t49 := hf.in (i := 14) (d := 49) (by kernel_rfl) (hp 14 (by kernel_rfl)) (hJ.vals 14 _ rfl (hp 14 (by kernel_rfl)))
      rw [if_pos (wanted_of rfl rfl t49)]
      go_simp
      refine (HT.out _).mono ?_
      rintro e wA ⟨gA, cA, rfl, hpA, hbA⟩
      exact hK _ _ (hJ.step HOK 16 _ trivial (hbA) (by
        intro f hf hfi
        simp only [List.mem_cons, List.not_mem_nil, or_false] at hf
        rcases hf with rfl | rfl | rfl | rfl | rfl | rfl | rfl | rfl | rfl | rfl | rfl | rfl | rfl | rfl
        · exact absurd (show (15 : Nat) = 16 from hfi) (by decide)
        · exact ⟨_, _, rfl, hpA⟩
        · exact absurd (show (17 : Nat) = 16 from hfi) (by decide)
        · exact absurd (show (18 : Nat) = 16 from hfi) (by decide)
        · exact absurd (show (19 : Nat) = 16 from hfi) (by decide)
        · exact absurd (show (20 : Nat) = 16 from hfi) (by decide)
        · exact absurd (show (21 : Nat) = 16 from hfi) (by decide)
        · exact absurd (show (22 : Nat) = 16 from hfi) (by decide)
        · exact absurd (show (26 : Nat) = 16 from hfi) (by decide)
        · exact absurd (show (27 : Nat) = 16 from hfi) (by decide)
        · exact absurd (show (28 : Nat) = 16 from hfi) (by decide)
        · exact absurd (show (29 : Nat) = 16 from hfi) (by decide)
        · exact absurd (show (30 : Nat) = 16 from hfi) (by decide)
        · exact absurd (show (31 : Nat) = 16 from hfi) (by decide)
        ))
    case o3_17 =>
      intro LX V aX wX K hl hp hcl hf hJ hK
      have t50 := hf.in (i := 15) (d := 50) (by kernel_rfl) (hp 15 (by kernel_rfl)) rfl
      have t51 := hf.in (i := 16) (d := 51) (by kernel_rfl) (hp 16 (by kernel_rfl)) rfl
      have t49 := hf.in (i := 14) (d := 49) (by kernel_rfl) (hp 14 (by kernel_rfl)) (hJ.vals 14 _ rfl (hp 14 (by kernel_rfl)))
      have qa := hJ.facts ⟨15, IsP4 sP⟩ (List.mem_of_getElem? (i := 0) rfl) (hp 15 (by kernel_rfl))
      have qb := hJ.facts ⟨16, IsP4 tP⟩ (List.mem_of_getElem? (i := 1) rfl) (hp 16 (by kernel_rfl))
      obtain ⟨xa, za, hva, hpa⟩ := qa
      obtain ⟨xb, zb, hvb, hpb⟩ := qb
      rw [hva] at t50
      rw [hvb] at t51
      rw [if_pos (wanted_of rfl rfl t49)]
      go_simp
      exact hK _ _ (hJ.step HOK 17 _ trivial ((Below.refl _ _).alloc (Nat.le_refl _) _) (by
        intro f hf hfi
        simp only [List.mem_cons, List.not_mem_nil, or_false] at hf
        rcases hf with rfl | rfl | rfl | rfl | rfl | rfl | rfl | rfl | rfl | rfl | rfl | rfl | rfl | rfl
        · exact absurd (show (15 : Nat) = 17 from hfi) (by decide)
        · exact absurd (show (16 : Nat) = 17 from hfi) (by decide)
        · exact ⟨_, _, _, rfl, rings_two (hpa.later ((Below.refl _ _).alloc (Nat.le_refl _) _) (Nat.le_refl _)) (hpb.later ((Below.refl _ _).alloc (Nat.le_refl _) _) (Nat.le_refl _)) (alloc_new _ _)⟩
        · exact absurd (show (18 : Nat) = 17 from hfi) (by decide)
        · exact absurd (show (19 : Nat) = 17 from hfi) (by decide)
        · exact absurd (show (20 : Nat) = 17 from hfi) (by decide)
        · exact absurd (show (21 : Nat) = 17 from hfi) (by decide)
        · exact absurd (show (22 : Nat) = 17 from hfi) (by decide)
        · exact absurd (show (26 : Nat) = 17 from hfi) (by decide)
        · exact absurd (show (27 : Nat) = 17 from hfi) (by decide)
        · exact absurd (show (28 : Nat) = 17 from hfi) (by decide)
        · exact absurd (show (29 : Nat) = 17 from hfi) (by decide)
        · exact absurd (show (30 : Nat) = 17 from hfi) (by decide)
        · exact absurd (show (31 : Nat) = 17 from hfi) (by decide)
        ))
    case o3_18 =>
      intro LX V aX wX K hl hp hcl hf hJ hK
      have t52 := hf.in (i := 17) (d := 52) (by kernel_rfl) (hp 17 (by kernel_rfl)) rfl
      have t49 := hf.in (i := 14) (d := 49) (by kernel_rfl) (hp 14 (by kernel_rfl)) (hJ.vals 14 _ rfl (hp 14 (by kernel_rfl)))
      have qa := hJ.facts ⟨17, IsRs [sP, tP]⟩ (List.mem_of_getElem? (i := 2) rfl) (hp 17 (by kernel_rfl))
      obtain ⟨xa, ya, za, hva, hra⟩ := qa
      rw [hva] at t52
      rw [if_pos (wanted_of rfl rfl t49)]
      go_simp
      refine (HOF.out _ _ _ _).mono ?_
      rintro e wA ⟨rfl, hgA⟩
      exact hK _ _ (hJ.step HOK 18 _ trivial (hgA.1) (by
        intro f hf hfi
        simp only [List.mem_cons, List.not_mem_nil, or_false] at hf
        rcases hf with rfl | rfl | rfl | rfl | rfl | rfl | rfl | rfl | rfl | rfl | rfl | rfl | rfl | rfl
        · exact absurd (show (15 : Nat) = 18 from hfi) (by decide)
        · exact absurd (show (16 : Nat) = 18 from hfi) (by decide)
        · exact absurd (show (17 : Nat) = 18 from hfi) (by decide)
        · exact ⟨_, _, _, rfl, hra.grew hgA⟩
        · exact absurd (show (19 : Nat) = 18 from hfi) (by decide)
        · exact absurd (show (20 : Nat) = 18 from hfi) (by decide)
        · exact absurd (show (21 : Nat) = 18 from hfi) (by decide)
        · exact absurd (show (22 : Nat) = 18 from hfi) (by decide)
        · exact absurd (show (26 : Nat) = 18 from hfi) (by decide)
        · exact absurd (show (27 : Nat) = 18 from hfi) (by decide)
        · exact absurd (show (28 : Nat) = 18 from hfi) (by decide)
        · exact absurd (show (29 : Nat) = 18 from hfi) (by decide)
        · exact absurd (show (30 : Nat) = 18 from hfi) (by decide)
        · exact absurd (show (31 : Nat) = 18 from hfi) (by decide)
        ))
    case o3_19 =>
      intro LX V aX wX K hl hp hcl hf hJ hK
      have t49 := hf.in (i := 14) (d := 49) (by kernel_rfl) (hp 14 (by kernel_rfl)) (hJ.vals 14 _ rfl (hp 14 (by kernel_rfl)))
      rw [if_pos (wanted_of rfl rfl t49)]
      go_simp
      refine (HT.out _).mono ?_
      rintro e wA ⟨gA, cA, rfl, hpA, hbA⟩
      exact hK _ _ (hJ.step HOK 19 _ trivial (hbA) (by
        intro f hf hfi
        simp only [List.mem_cons, List.not_mem_nil, or_false] at hf
        rcases hf with rfl | rfl | rfl | rfl | rfl | rfl | rfl | rfl | rfl | rfl | rfl | rfl | rfl | rfl
        · exact absurd (show (15 : Nat) = 19 from hfi) (by decide)
        · exact absurd (show (16 : Nat) = 19 from hfi) (by decide)
        · exact absurd (show (17 : Nat) = 19 from hfi) (by decide)
        · exact absurd (show (18 : Nat) = 19 from hfi) (by decide)
        · exact ⟨_, _, rfl, hpA⟩
        · exact absurd (show (20 : Nat) = 19 from hfi) (by decide)
        · exact absurd (show (21 : Nat) = 19 from hfi) (by decide)
        · exact absurd (show (22 : Nat) = 19 from hfi) (by decide)
        · exact absurd (show (26 : Nat) = 19 from hfi) (by decide)
        · exact absurd (show (27 : Nat) = 19 from hfi) (by decide)
        · exact absurd (show (28 : Nat) = 19 from hfi) (by decide)
        · exact absurd (show (29 : Nat) = 19 from hfi) (by decide)
        · exact absurd (show (30 : Nat) = 19 from hfi) (by decide)
        · exact absurd (show (31 : Nat) = 19 from hfi) (by decide)
        ))
    case o3_20 =>
      intro LX V aX wX K hl hp hcl hf hJ hK
      have t49 := hf.in (i := 14) (d := 49) (by kernel_rfl) (hp 14 (by kernel_rfl)) (hJ.vals 14 _ rfl (hp 14 (by kernel_rfl)))
      rw [if_pos (wanted_of rfl rfl t49)]
      go_simp
      refine (HS.out _).mono ?_
      rintro e wA ⟨gA, cA, rfl, hpA, hbA⟩
      exact hK _ _ (hJ.step HOK 20 _ trivial (hbA) (by
        intro f hf hfi
        simp only [List.mem_cons, List.not_mem_nil, or_false] at hf
        rcases hf with rfl | rfl | rfl | rfl | rfl | rfl | rfl | rfl | rfl | rfl | rfl | rfl | rfl | rfl
        · exact absurd (show (15 : Nat) = 20 from hfi) (by decide)
        · exact absurd (show (16 : Nat) = 20 from hfi) (by decide)
        · exact absurd (show (17 : Nat) = 20 from hfi) (by decide)
        · exact absurd (show (18 : Nat) = 20 from hfi) (by decide)
        · exact absurd (show (19 : Nat) = 20 from hfi) (by decide)
        · exact ⟨_, _, rfl, hpA⟩
        · exact absurd (show (21 : Nat) = 20 from hfi) (by decide)
        · exact absurd (show (22 : Nat) = 20 from hfi) (by decide)
        · exact absurd (show (26 : Nat) = 20 from hfi) (by decide)
        · exact absurd (show (27 : Nat) = 20 from hfi) (by decide)
        · exact absurd (show (28 : Nat) = 20 from hfi) (by decide)
        · exact absurd (show (29 : Nat) = 20 from hfi) (by decide)
        · exact absurd (show (30 : Nat) = 20 from hfi) (by decide)
        · exact absurd (show (31 : Nat) = 20 from hfi) (by decide)
        ))
    case o3_21 =>
      intro LX V aX wX K hl hp hcl hf hJ hK
      have t54 := hf.in (i := 19) (d := 54) (by kernel_rfl) (hp 19 (by kernel_rfl)) rfl
      have t55 := hf.in (i := 20) (d := 55) (by kernel_rfl) (hp 20 (by kernel_rfl)) rfl
      have t49 := hf.in (i := 14) (d := 49) (by kernel_rfl) (hp 14 (by kernel_rfl)) (hJ.vals 14 _ rfl (hp 14 (by kernel_rfl)))
      have qa := hJ.facts ⟨19, IsP4 tP⟩ (List.mem_of_getElem? (i := 4) rfl) (hp 19 (by kernel_rfl))
      have qb := hJ.facts ⟨20, IsP4 sP⟩ (List.mem_of_getElem? (i := 5) rfl) (hp 20 (by kernel_rfl))
      obtain ⟨xa, za, hva, hpa⟩ := qa
      obtain ⟨xb, zb, hvb, hpb⟩ := qb
      rw [hva] at t54
      rw [hvb] at t55
      rw [if_pos (wanted_of rfl rfl t49)]
      go_simp
      exact hK _ _ (hJ.step HOK 21 _ trivial ((Below.refl _ _).alloc (Nat.le_refl _) _) (by
        intro f hf hfi
        simp only [List.mem_cons, List.not_mem_nil, or_false] at hf
        rcases hf with rfl | rfl | rfl | rfl | rfl | rfl | rfl | rfl | rfl | rfl | rfl | rfl | rfl | rfl
        · exact absurd (show (15 : Nat) = 21 from hfi) (by decide)
        · exact absurd (show (16 : Nat) = 21 from hfi) (by decide)
        · exact absurd (show (17 : Nat) = 21 from hfi) (by decide)
        · exact absurd (show (18 : Nat) = 21 from hfi) (by decide)
        · exact absurd (show (19 : Nat) = 21 from hfi) (by decide)
        · exact absurd (show (20 : Nat) = 21 from hfi) (by decide)
        · exact ⟨_, _, _, rfl, rings_two (hpa.later ((Below.refl _ _).alloc (Nat.le_refl _) _) (Nat.le_refl _)) (hpb.later ((Below.refl _ _).alloc (Nat.le_refl _) _) (Nat.le_refl _)) (alloc_new _ _)⟩
        · exact absurd (show (22 : Nat) = 21 from hfi) (by decide)
        · exact absurd (show (26 : Nat) = 21 from hfi) (by decide)
        · exact absurd (show (27 : Nat) = 21 from hfi) (by decide)
        · exact absurd (show (28 : Nat) = 21 from hfi) (by decide)
        · exact absurd (show (29 : Nat) = 21 from hfi) (by decide)
        · exact absurd (show (30 : Nat) = 21 from hfi) (by decide)
        · exact absurd (show (31 : Nat) = 21 from hfi) (by decide)
        ))
    case o3_22 =>
      intro LX V aX wX K hl hp hcl hf hJ hK
      have t56 := hf.in (i := 21) (d := 56) (by kernel_rfl) (hp 21 (by kernel_rfl)) rfl
      have t49 := hf.in (i := 14) (d := 49) (by kernel_rfl) (hp 14 (by kernel_rfl)) (hJ.vals 14 _ rfl (hp 14 (by kernel_rfl)))
      have qa := hJ.facts ⟨21, IsRs [tP, sP]⟩ (List.mem_of_getElem? (i := 6) rfl) (hp 21 (by kernel_rfl))
      obtain ⟨xa, ya, za, hva, hra⟩ := qa
      rw [hva] at t56
      rw [if_pos (wanted_of rfl rfl t49)]
      go_simp
      refine (HOF.out _ _ _ _).mono ?_
      rintro e wA ⟨rfl, hgA⟩
      exact hK _ _ (hJ.step HOK 22 _ trivial (hgA.1) (by
        intro f hf hfi
        simp only [List.mem_cons, List.not_mem_nil, or_false] at hf
        rcases hf with rfl | rfl | rfl | rfl | rfl | rfl | rfl | rfl | rfl | rfl | rfl | rfl | rfl | rfl
        · exact absurd (show (15 : Nat) = 22 from hfi) (by decide)
        · exact absurd (show (16 : Nat) = 22 from hfi) (by decide)
        · exact absurd (show (17 : Nat) = 22 from hfi) (by decide)
        · exact absurd (show (18 : Nat) = 22 from hfi) (by decide)
        · exact absurd (show (19 : Nat) = 22 from hfi) (by decide)
        · exact absurd (show (20 : Nat) = 22 from hfi) (by decide)
        · exact absurd (show (21 : Nat) = 22 from hfi) (by decide)
        · exact ⟨_, _, _, rfl, hra.grew hgA⟩
        · exact absurd (show (26 : Nat) = 22 from hfi) (by decide)
        · exact absurd (show (27 : Nat) = 22 from hfi) (by decide)
        · exact absurd (show (28 : Nat) = 22 from hfi) (by decide)
        · exact absurd (show (29 : Nat) = 22 from hfi) (by decide)
        · exact absurd (show (30 : Nat) = 22 from hfi) (by decide)
        · exact absurd (show (31 : Nat) = 22 from hfi) (by decide)
        ))
    case o3_23 =>
      intro LX V aX wX K hl hp hcl hf hJ hK
      have t53 := hf.in (i := 18) (d := 53) (by kernel_rfl) (hp 18 (by kernel_rfl)) rfl
      have t57 := hf.in (i := 22) (d := 57) (by kernel_rfl) (hp 22 (by kernel_rfl)) rfl
      have t49 := hf.in (i := 14) (d := 49) (by kernel_rfl) (hp 14 (by kernel_rfl)) (hJ.vals 14 _ rfl (hp 14 (by kernel_rfl)))
      have qa := hJ.facts ⟨18, IsRg [sP, tP]⟩ (List.mem_of_getElem? (i := 3) rfl) (hp 18 (by kernel_rfl))
      have qb := hJ.facts ⟨22, IsRg [tP, sP]⟩ (List.mem_of_getElem? (i := 7) rfl) (hp 22 (by kernel_rfl))
      obtain ⟨xa, ya, za, hva, hra⟩ := qa
      obtain ⟨xb, yb, zb, hvb, hrb⟩ := qb
      rw [hva] at t53
      rw [hvb] at t57
      rw [if_pos (wanted_of rfl rfl t49)]
      go_simp
      have hs := Same_region xa ya za [sP, tP] xb yb zb [tP, sP] wX hra hrb (by decide) (by decide)
      rw [HK.out.2.2.2.2.1] at hs
      refine hs.mono ?_
      rintro e wA ⟨rfl, hbA⟩
      exact hK _ _ (hJ.val HOK 23 _ (by kernel_rfl) rfl (hbA))
    case o3_24 =>
      intro LX V aX wX K hl hp hcl hf hJ hK
      have t49 := hf.in (i := 14) (d := 49) (by kernel_rfl) (hp 14 (by kernel_rfl)) (hJ.vals 14 _ rfl (hp 14 (by kernel_rfl)))
      have t58 := hf.in (i := 23) (d := 58) (by kernel_rfl) (hp 23 (by kernel_rfl)) (hJ.vals 23 _ rfl (hp 23 (by kernel_rfl)))
      rw [if_pos (by rfl)]
      go_simp
      exact hK _ _ (hJ.val HOK 24 _ (by kernel_rfl) rfl (Below.refl _ _))
    case o3_25 =>
      intro LX V aX wX K hl hp hcl hf hJ hK
      have t59 := hf.in (i := 24) (d := 59) (by kernel_rfl) (hp 24 (by kernel_rfl)) (hJ.vals 24 _ rfl (hp 24 (by kernel_rfl)))
      rw [if_pos (by rfl)]
      go_simp
      exact hK _ _ (hJ.val HOK 25 _ (by kernel_rfl) rfl (Below.refl _ _))
    case o3_26 =>
      intro LX V aX wX K hl hp hcl hf hJ hK
      have t60 := hf.in (i := 25) (d := 60) (by kernel_rfl) (hp 25 (by kernel_rfl)) (hJ.vals 25 _ rfl (hp 25 (by kernel_rfl)))
      rw [if_pos (wanted_of rfl rfl t60)]
      go_simp
      refine (HS.out _).mono ?_
      rintro e wA ⟨gA, cA, rfl, hpA, hbA⟩
      exact hK _ _ (hJ.step HOK 26 _ trivial (hbA) (by
        intro f hf hfi
        simp only [List.mem_cons, List.not_mem_nil, or_false] at hf
        rcases hf with rfl | rfl | rfl | rfl | rfl | rfl | rfl | rfl | rfl | rfl | rfl | rfl | rfl | rfl
        · exact absurd (show (15 : Nat) = 26 from hfi) (by decide)
        · exact absurd (show (16 : Nat) = 26 from hfi) (by decide)
        · exact absurd (show (17 : Nat) = 26 from hfi) (by decide)
        · exact absurd (show (18 : Nat) = 26 from hfi) (by decide)
        · exact absurd (show (19 : Nat) = 26 from hfi) (by decide)
        · exact absurd (show (20 : Nat) = 26 from hfi) (by decide)
        · exact absurd (show (21 : Nat) = 26 from hfi) (by decide)
        · exact absurd (show (22 : Nat) = 26 from hfi) (by decide)
        · exact ⟨_, _, rfl, hpA⟩
        · exact absurd (show (27 : Nat) = 26 from hfi) (by decide)
        · exact absurd (show (28 : Nat) = 26 from hfi) (by decide)
        · exact absurd (show (29 : Nat) = 26 from hfi) (by decide)
        · exact absurd (show (30 : Nat) = 26 from hfi) (by decide)
        · exact absurd (show (31 : Nat) = 26 from hfi) (by decide)
        ))
    case o3_27 =>
      intro LX V aX wX K hl hp hcl hf hJ hK
      have t61 := hf.in (i := 26) (d := 61) (by kernel_rfl) (hp 26 (by kernel_rfl)) rfl
      have t60 := hf.in (i := 25) (d := 60) (by kernel_rfl) (hp 25 (by kernel_rfl)) (hJ.vals 25 _ rfl (hp 25 (by kernel_rfl)))
      have qa := hJ.facts ⟨26, IsP4 sP⟩ (List.mem_of_getElem? (i := 8) rfl) (hp 26 (by kernel_rfl))
      obtain ⟨xa, za, hva, hpa⟩ := qa
      rw [hva] at t61
      rw [if_pos (wanted_of rfl rfl t60)]
      go_simp
      exact hK _ _ (hJ.step HOK 27 _ trivial ((Below.refl _ _).alloc (Nat.le_refl _) _) (by
        intro f hf hfi
        simp only [List.mem_cons, List.not_mem_nil, or_false] at hf
        rcases hf with rfl | rfl | rfl | rfl | rfl | rfl | rfl | rfl | rfl | rfl | rfl | rfl | rfl | rfl
        · exact absurd (show (15 : Nat) = 27 from hfi) (by decide)
        · exact absurd (show (16 : Nat) = 27 from hfi) (by decide)
        · exact absurd (show (17 : Nat) = 27 from hfi) (by decide)
        · exact absurd (show (18 : Nat) = 27 from hfi) (by decide)
        · exact absurd (show (19 : Nat) = 27 from hfi) (by decide)
        · exact absurd (show (20 : Nat) = 27 from hfi) (by decide)
        · exact absurd (show (21 : Nat) = 27 from hfi) (by decide)
        · exact absurd (show (22 : Nat) = 27 from hfi) (by decide)
        · exact absurd (show (26 : Nat) = 27 from hfi) (by decide)
        · exact ⟨_, _, _, rfl, rings_oneK (hpa.later ((Below.refl _ _).alloc (Nat.le_refl _) _) (Nat.le_refl _)) (alloc_new _ _)⟩
        · exact absurd (show (28 : Nat) = 27 from hfi) (by decide)
        · exact absurd (show (29 : Nat) = 27 from hfi) (by decide)
        · exact absurd (show (30 : Nat) = 27 from hfi) (by decide)
        · exact absurd (show (31 : Nat) = 27 from hfi) (by decide)
        ))
    case o3_28 =>
      intro LX V aX wX K hl hp hcl hf hJ hK
      have t62 := hf.in (i := 27) (d := 62) (by kernel_rfl) (hp 27 (by kernel_rfl)) rfl
      have t60 := hf.in (i := 25) (d := 60) (by kernel_rfl) (hp 25 (by kernel_rfl)) (hJ.vals 25 _ rfl (hp 25 (by kernel_rfl)))
      have qa := hJ.facts ⟨27, IsRs [sP]⟩ (List.mem_of_getElem? (i := 9) rfl) (hp 27 (by kernel_rfl))
      obtain ⟨xa, ya, za, hva, hra⟩ := qa
      rw [hva] at t62
      rw [if_pos (wanted_of rfl rfl t60)]
      go_simp
      refine (HOF.out _ _ _ _).mono ?_
      rintro e wA ⟨rfl, hgA⟩
      exact hK _ _ (hJ.step HOK 28 _ trivial (hgA.1) (by
        intro f hf hfi
        simp only [List.mem_cons, List.not_mem_nil, or_false] at hf
        rcases hf with rfl | rfl | rfl | rfl | rfl | rfl | rfl | rfl | rfl | rfl | rfl | rfl | rfl | rfl
        · exact absurd (show (15 : Nat) = 28 from hfi) (by decide)
        · exact absurd (show (16 : Nat) = 28 from hfi) (by decide)
        · exact absurd (show (17 : Nat) = 28 from hfi) (by decide)
        · exact absurd (show (18 : Nat) = 28 from hfi) (by decide)
        · exact absurd (show (19 : Nat) = 28 from hfi) (by decide)
        · exact absurd (show (20 : Nat) = 28 from hfi) (by decide)
        · exact absurd (show (21 : Nat) = 28 from hfi) (by decide)
        · exact absurd (show (22 : Nat) = 28 from hfi) (by decide)
        · exact absurd (show (26 : Nat) = 28 from hfi) (by decide)
        · exact absurd (show (27 : Nat) = 28 from hfi) (by decide)
        · exact ⟨_, _, _, rfl, hra.grew hgA⟩
        · exact absurd (show (29 : Nat) = 28 from hfi) (by decide)
        · exact absurd (show (30 : Nat) = 28 from hfi) (by decide)
        · exact absurd (show (31 : Nat) = 28 from hfi) (by decide)
        ))
    case o3_29 =>
      intro LX V aX wX K hl hp hcl hf hJ hK
      have t60 := hf.in (i := 25) (d := 60) (by kernel_rfl) (hp 25 (by kernel_rfl)) (hJ.vals 25 _ rfl (hp 25 (by kernel_rfl)))
      rw [if_pos (wanted_of rfl rfl t60)]
      go_simp
      refine (HT.out _).mono ?_
      rintro e wA ⟨gA, cA, rfl, hpA, hbA⟩
      exact hK _ _ (hJ.step HOK 29 _ trivial (hbA) (by
        intro f hf hfi
        simp only [List.mem_cons, List.not_mem_nil, or_false] at hf
        rcases hf with rfl | rfl | rfl | rfl | rfl | rfl | rfl | rfl | rfl | rfl | rfl | rfl | rfl | rfl
        · exact absurd (show (15 : Nat) = 29 from hfi) (by decide)
        · exact absurd (show (16 : Nat) = 29 from hfi) (by decide)
        · exact absurd (show (17 : Nat) = 29 from hfi) (by decide)
        · exact absurd (show (18 : Nat) = 29 from hfi) (by decide)
        · exact absurd (show (19 : Nat) = 29 from hfi) (by decide)
        · exact absurd (show (20 : Nat) = 29 from hfi) (by decide)
        · exact absurd (show (21 : Nat) = 29 from hfi) (by decide)
        · exact absurd (show (22 : Nat) = 29 from hfi) (by decide)
        · exact absurd (show (26 : Nat) = 29 from hfi) (by decide)
        · exact absurd (show (27 : Nat) = 29 from hfi) (by decide)
        · exact absurd (show (28 : Nat) = 29 from hfi) (by decide)
        · exact ⟨_, _, rfl, hpA⟩
        · exact absurd (show (30 : Nat) = 29 from hfi) (by decide)
        · exact absurd (show (31 : Nat) = 29 from hfi) (by decide)
        ))
    case o3_30 =>
      intro LX V aX wX K hl hp hcl hf hJ hK
      have t64 := hf.in (i := 29) (d := 64) (by kernel_rfl) (hp 29 (by kernel_rfl)) rfl
      have t60 := hf.in (i := 25) (d := 60) (by kernel_rfl) (hp 25 (by kernel_rfl)) (hJ.vals 25 _ rfl (hp 25 (by kernel_rfl)))
      have qa := hJ.facts ⟨29, IsP4 tP⟩ (List.mem_of_getElem? (i := 11) rfl) (hp 29 (by kernel_rfl))
      obtain ⟨xa, za, hva, hpa⟩ := qa
      rw [hva] at t64
      rw [if_pos (wanted_of rfl rfl t60)]
      go_simp
      exact hK _ _ (hJ.step HOK 30 _ trivial ((Below.refl _ _).alloc (Nat.le_refl _) _) (by
        intro f hf hfi
        simp only [List.mem_cons, List.not_mem_nil, or_false] at hf
        rcases hf with rfl | rfl | rfl | rfl | rfl | rfl | rfl | rfl | rfl | rfl | rfl | rfl | rfl | rfl
        · exact absurd (show (15 : Nat) = 30 from hfi) (by decide)
        · exact absurd (show (16 : Nat) = 30 from hfi) (by decide)
        · exact absurd (show (17 : Nat) = 30 from hfi) (by decide)
        · exact absurd (show (18 : Nat) = 30 from hfi) (by decide)
        · exact absurd (show (19 : Nat) = 30 from hfi) (by decide)
        · exact absurd (show (20 : Nat) = 30 from hfi) (by decide)
        · exact absurd (show (21 : Nat) = 30 from hfi) (by decide)
        · exact absurd (show (22 : Nat) = 30 from hfi) (by decide)
        · exact absurd (show (26 : Nat) = 30 from hfi) (by decide)
        · exact absurd (show (27 : Nat) = 30 from hfi) (by decide)
        · exact absurd (show (28 : Nat) = 30 from hfi) (by decide)
        · exact absurd (show (29 : Nat) = 30 from hfi) (by decide)
        · exact ⟨_, _, _, rfl, rings_oneK (hpa.later ((Below.refl _ _).alloc (Nat.le_refl _) _) (Nat.le_refl _)) (alloc_new _ _)⟩
        · exact absurd (show (31 : Nat) = 30 from hfi) (by decide)
        ))
    case o3_31 =>
      intro LX V aX wX K hl hp hcl hf hJ hK
      have t65 := hf.in (i := 30) (d := 65) (by kernel_rfl) (hp 30 (by kernel_rfl)) rfl
      have t60 := hf.in (i := 25) (d := 60) (by kernel_rfl) (hp 25 (by kernel_rfl)) (hJ.vals 25 _ rfl (hp 25 (by kernel_rfl)))
      have qa := hJ.facts ⟨30, IsRs [tP]⟩ (List.mem_of_getElem? (i := 12) rfl) (hp 30 (by kernel_rfl))
      obtain ⟨xa, ya, za, hva, hra⟩ := qa
      rw [hva] at t65
      rw [if_pos (wanted_of rfl rfl t60)]
      go_simp
      refine (HOF.out _ _ _ _).mono ?_
      rintro e wA ⟨rfl, hgA⟩
      exact hK _ _ (hJ.step HOK 31 _ trivial (hgA.1) (by
        intro f hf hfi
        simp only [List.mem_cons, List.not_mem_nil, or_false] at hf
        rcases hf with rfl | rfl | rfl | rfl | rfl | rfl | rfl | rfl | rfl | rfl | rfl | rfl | rfl | rfl
        · exact absurd (show (15 : Nat) = 31 from hfi) (by decide)
        · exact absurd (show (16 : Nat) = 31 from hfi) (by decide)
        · exact absurd (show (17 : Nat) = 31 from hfi) (by decide)
        · exact absurd (show (18 : Nat) = 31 from hfi) (by decide)
        · exact absurd (show (19 : Nat) = 31 from hfi) (by decide)
        · exact absurd (show (20 : Nat) = 31 from hfi) (by decide)
        · exact absurd (show (21 : Nat) = 31 from hfi) (by decide)
        · exact absurd (show (22 : Nat) = 31 from hfi) (by decide)
        · exact absurd (show (26 : Nat) = 31 from hfi) (by decide)
        · exact absurd (show (27 : Nat) = 31 from hfi) (by decide)
        · exact absurd (show (28 : Nat) = 31 from hfi) (by decide)
        · exact absurd (show (29 : Nat) = 31 from hfi) (by decide)
        · exact absurd (show (30 : Nat) = 31 from hfi) (by decide)
        · exact ⟨_, _, _, rfl, hra.grew hgA⟩
        ))
    case o3_32 =>
      intro LX V aX wX K hl hp hcl hf hJ hK
      have t63 := hf.in (i := 28) (d := 63) (by kernel_rfl) (hp 28 (by kernel_rfl)) rfl
      have t66 := hf.in (i := 31) (d := 66) (by kernel_rfl) (hp 31 (by kernel_rfl)) rfl
      have t60 := hf.in (i := 25) (d := 60) (by kernel_rfl) (hp 25 (by kernel_rfl)) (hJ.vals 25 _ rfl (hp 25 (by kernel_rfl)))
      have qa := hJ.facts ⟨28, IsRg [sP]⟩ (List.mem_of_getElem? (i := 10) rfl) (hp 28 (by kernel_rfl))
      have qb := hJ.facts ⟨31, IsRg [tP]⟩ (List.mem_of_getElem? (i := 13) rfl) (hp 31 (by kernel_rfl))
      obtain ⟨xa, ya, za, hva, hra⟩ := qa
      obtain ⟨xb, yb, zb, hvb, hrb⟩ := qb
      rw [hva] at t63
      rw [hvb] at t66
      rw [if_pos (wanted_of rfl rfl t60)]
      go_simp
      have hs := Same_region xa ya za [sP] xb yb zb [tP] wX hra hrb (by decide) (by decide)
      rw [HK.out.2.2.2.2.2] at hs
      refine hs.mono ?_
      rintro e wA ⟨rfl, hbA⟩
      exact hK _ _ (hJ.val HOK 32 _ (by kernel_rfl) rfl (hbA))
    case o3_33 =>
      intro LX V aX wX K hl hp hcl hf hJ hK
      have t67 := hf.in (i := 32) (d := 67) (by kernel_rfl) (hp 32 (by kernel_rfl)) (hJ.vals 32 _ rfl (hp 32 (by kernel_rfl)))
      have t60 := hf.in (i := 25) (d := 60) (by kernel_rfl) (hp 25 (by kernel_rfl)) (hJ.vals 25 _ rfl (hp 25 (by kernel_rfl)))
      rw [if_pos (wanted_of rfl rfl t60)]
      go_simp
      exact hK _ _ (hJ.val HOK 33 _ (by kernel_rfl) rfl (Below.refl _ _))
    case o3_34 =>
      intro LX V aX wX K hl hp hcl hf hJ hK
      have t60 := hf.in (i := 25) (d := 60) (by kernel_rfl) (hp 25 (by kernel_rfl)) (hJ.vals 25 _ rfl (hp 25 (by kernel_rfl)))
      have t68 := hf.in (i := 33) (d := 68) (by kernel_rfl) (hp 33 (by kernel_rfl)) (hJ.vals 33 _ rfl (hp 33 (by kernel_rfl)))
      rw [if_pos (by rfl)]
      go_simp
      exact hK _ _ (hJ.val HOK 34 _ (by kernel_rfl) rfl (Below.refl _ _))
    case o3_35 =>
      intro LX V aX wX K hl hp hcl hf hJ hK
      have t69 := hf.in (i := 34) (d := 69) (by kernel_rfl) (hp 34 (by kernel_rfl)) (hJ.vals 34 _ rfl (hp 34 (by kernel_rfl)))
      rw [if_pos (by rfl)]
      go_simp
      exact hK _ _ (hJ.val HOK 35 _ (by kernel_rfl) rfl (Below.refl _ _))
  intro V wZ hJ
  have hv := hJ.vals 35 _ rfl (by kernel_rfl)
  have HBZ := Lib.hid hJ.below
  simp only [puts, Act.put, List.setIfInBounds_toArray, List.set_cons_zero, List.set_cons_succ]
  rw [hv]
  clear hJ hv HOK
  go_wp2_with fail
  go_ret
  exact ⟨rfl, HBW.out.trans (HBZ.out.mono HBW.out.size)⟩
end Go.Proofs.Ytgijaaklhdcgeaa

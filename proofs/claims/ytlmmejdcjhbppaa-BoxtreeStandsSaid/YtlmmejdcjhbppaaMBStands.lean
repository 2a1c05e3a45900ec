/- BoxtreeStands (printed by mkstands12.py) -/
import Derived.Test.YtlmmejdcjhbppaaMBROrder
import Derived.Test.YtlmmejdcjhbppaaMBRDepth
import Derived.Test.YtlmmejdcjhbppaaMBBox
import Derived.Test.YtlmmejdcjhbppaaMBFinds
set_option linter.unusedSimpArgs false
set_option linter.unusedVariables false
namespace Go.Proofs.Ytlmmejdcjhbppaa
open Go.RowKit Go.Geo
attribute [local go_sem] Oper.semAt_some
set_option maxRecDepth 100000 in
set_option maxHeartbeats 8000000 in
theorem BoxtreeStands_any (ao : Option Addr) (n cap : Nat) (L : List Bx) (at_ : Int) (w : World) (h : IsXB w ao n cap L) : Calls Try.prog 6 #[.slice ao n cap, .int .i64 at_] w fun e w' => e = .returned (.bool true) ∧ Below w.heap.size w w' := by
  obtain ⟨hix, hin⟩ := h
  have hnc := hix.2.1
  have hcm : cap ≤ 9223372036854775807 := hix.2.2.1
  have HI := Lib.hid hix
  have HN := Lib.hid hix.1
  have HIN0 := Lib.hid hin
  clear hix hin
  go_enter Try.func6, Try.ntmps6
  by_cases h120 : 120 < n
  · have h5 : (120 : Int) < (n : Int) := by omega
    go_wp2_with fail
    refine (awake_any w).mono ?_
    rintro e w1 ⟨rfl, hb1⟩
    have HB1 := Lib.hid hb1
    clear hb1
    go_wp2_with fail
    go_ret
    exact ⟨rfl, HB1.out⟩
  have h5 : ¬ (120 : Int) < (n : Int) := by omega
  have HU := Lib.hid (BuildT_any ao n cap L w HI.out HIN0.out)
  go_wp2_with fail
  refine HU.out.mono ?_
  rintro e w2 ⟨_, hok, hb2⟩
  obtain ⟨g, rfl, _, ht2⟩ := hok (by rw [HN.out]; omega)
  have HB2 := Lib.hid hb2
  have HT2 := Lib.hid ht2
  have hdt := DepthT_any g L w2 ht2
  rw [HN.out] at hdt
  obtain ⟨D, hD⟩ : ∃ D, D = depthN n := ⟨_, rfl⟩
  have hrd := RDepth_any n n (Nat.le_refl _) (by omega) w2
  rw [← hD] at hdt hrd
  have HDT := Lib.hid hdt
  have HRD := Lib.hid hrd
  have HOT := Lib.hid (OrderT_any g L w2 ht2)
  clear hok hb2 ht2 hdt hrd hD
  go_wp2_with fail
  refine HDT.out.mono ?_
  rintro e wa ⟨rfl, rfl⟩
  go_wp2_with fail
  refine HRD.out.mono ?_
  rintro e wa ⟨rfl, rfl⟩
  go_wp2_with fail
  refine HOT.out.mono ?_
  rintro e w3 ⟨v3, O, rfl, ho3, hl3, hb3⟩
  obtain ⟨oa, oc, hv3, hi3⟩ := ho3.ints
  obtain ⟨on, hon⟩ : ∃ k, k = O.length := ⟨_, rfl⟩
  rw [← hon] at hv3 hi3
  subst hv3
  have HB3 := Lib.hid (HB2.out.trans (hb3.mono HB2.out.size))
  have HO3 := Lib.hid hi3
  have HL3 := Lib.hid hl3
  have HT3 := Lib.hid (HT2.out.later hb3)
  have HRO := Lib.hid (ROrder_any ao n cap L HIN0.out (by omega) w3 (HI.out.later (HB2.out.trans (hb3.mono HB2.out.size)) (Nat.le_refl _)))
  clear ho3 hl3 hb3 hi3 hon
  go_wp2_with fail
  refine HRO.out.mono ?_
  rintro e w4 ⟨v4, Q, rfl, ⟨qa, qc, hv4, hi4⟩, hl4, hb4⟩
  have hQ : O = Q := by
    have h1 := HL3.out
    rw [HN.out] at h1
    exact h1.same hl4 (List.Perm.refl _)
  subst hQ
  obtain ⟨qn, hqn⟩ : ∃ k, k = O.length := ⟨_, rfl⟩
  rw [← hqn] at hv4 hi4
  subst hv4
  have HB4 := Lib.hid (HB3.out.trans (hb4.mono HB3.out.size))
  have HT4 := Lib.hid (HT3.out.later hb4)
  have hsm := SameInts_any oa qa on qn oc qc O O w4 (HO3.out.later hb4 (Nat.le_refl _)) hi4
  rw [show (O == O) = true from beq_self_eq_true _] at hsm
  have HSM := Lib.hid hsm
  clear hl4 hb4 hi4 hqn hsm
  go_wp2_with fail
  refine HSM.out.mono ?_
  rintro e w5 ⟨rfl, hg5⟩
  have HB5 := Lib.hid (HB4.out.trans (hg5.1.mono HB4.out.size))
  have HT5 := Lib.hid (HT4.out.later hg5.1)
  clear hg5
  by_cases hin : 0 ≤ at_ ∧ at_ < (n : Int)
  · obtain ⟨i, rfl⟩ : ∃ i : Nat, at_ = (i : Int) := ⟨at_.toNat, by omega⟩
    have hin2 : i < n := by omega
    obtain ⟨b, hb⟩ : ∃ b, b = L.getD i bx0 := ⟨_, rfl⟩
    have hbt := BoxT_in g i L w5 HT5.out (by rw [HN.out]; exact hin2)
    rw [← hb] at hbt
    unfold boxV at hbt
    have HBT := Lib.hid hbt
    have HBE := Lib.hid hb
    obtain ⟨bb, off, hao, _⟩ := HI.out.at (i := i) hin2
    subst hao
    have HIX : Hid ((0 : Int) ≤ (i : Int) ∧ (i : Int) < (n : Int)) := Lib.hid hin
    clear hbt hb
    go_wp2_with fail
    refine HBT.out.mono ?_
    rintro e w6 ⟨rfl, hb6⟩
    have HB6 := Lib.hid (HB5.out.trans (hb6.mono HB5.out.size))
    have HB6x := Lib.hid (Below.refl w6.heap.size w6)
    clear hb6
    obtain ⟨W, hW⟩ : ∃ W, W = w6.alloc (.cells #[.int .i64 0, .int .i64 0, .int .i64 0, .int .i64 0] 33) := ⟨_, rfl⟩
    have hr4 : W.heap[w6.heap.size]? = some (.cells (boxRow 0 0 0 0) 33 (0, 0)) := by rw [hW]; exact alloc_new _ _
    obtain ⟨z0, z1, z2, z3⟩ := box_cells hr4
    obtain ⟨f0, f1, f2, f3⟩ := box_frozen hr4
    rw [hW] at z0 z1 z2 z3 f0 f1 f2 f3
    have hx0 : ¬ ((i : Int) < 0) := by omega
    have hx1 : ¬ ((n : Int) ≤ (i : Int)) := by omega
    clear hr4 hW
    go_wp2_with fail
    obtain ⟨W9, hW9⟩ : ∃ W, W = w6.alloc (.cells #[.int .i64 b.1.x, .int .i64 b.1.y, .int .i64 b.2.x, .int .i64 b.2.y] 33) := ⟨_, rfl⟩
    obtain ⟨gx, hgx⟩ : ∃ k, k = w6.heap.size := ⟨_, rfl⟩
    have hr9 : W9.heap[gx]? = some (.cells (boxRow b.1.x b.1.y b.2.x b.2.y) 33 (0, 0)) := by rw [hW9, hgx]; exact alloc_new _ _
    have hb9 : Below w6.heap.size w6 W9 := by rw [hW9]; exact (Below.refl _ _).alloc (Nat.le_refl _) _
    rw [← hW9, ← hgx]
    have HB9 := Lib.hid (HB6.out.trans (hb9.mono HB6.out.size))
    have HCE : Hid (∀ wX, Below W9.heap.size W9 wX → (wX.cell? ⟨gx, 0, none⟩ = some (.int .i64 b.1.x) ∧ wX.cell? ⟨gx, 1, none⟩ = some (.int .i64 b.1.y) ∧ wX.cell? ⟨gx, 2, none⟩ = some (.int .i64 b.2.x) ∧ wX.cell? ⟨gx, 3, none⟩ = some (.int .i64 b.2.y)) ∧ (wX.cell? ⟨bb, off + i * 4, none⟩ = some (.int .i64 b.1.x) ∧ wX.cell? ⟨bb, off + i * 4 + 1, none⟩ = some (.int .i64 b.1.y) ∧ wX.cell? ⟨bb, off + i * 4 + 2, none⟩ = some (.int .i64 b.2.x) ∧ wX.cell? ⟨bb, off + i * 4 + 3, none⟩ = some (.int .i64 b.2.y))) := Lib.hid (fun wX hX => by
      have hb7 := HB9.out.trans (hX.mono HB9.out.size)
      obtain ⟨b2, o2, e2, x0, x1, x2, x3⟩ := (HI.out.later hb7 (Nat.le_refl _)).at (i := i) hin2
      cases e2
      rw [← HBE.out] at x0 x1 x2 x3
      exact ⟨box_cells ((hX.block _ (heap_lt2 hr9)).trans hr9), x0, x1, x2, x3⟩)
    have HAW : Hid (∀ wX, Below W9.heap.size W9 wX → Calls Try.prog 10 #[] wX fun e w' => e = .returned (.bool true) ∧ Below wX.heap.size wX w') := Lib.hid (fun wX _ => awake_any wX)
    clear hr9 hb9 hW9 hgx z0 z1 z2 z3 f0 f1 f2 f3 hx0 hx1
    have HOK : ∀ f ∈ ([] : List Fct), FctOk f := by
      intro f hf; cases hf
    refine wp_region_J (s := [(64, 0), (65, 1), (66, 2), (67, 3), (68, 4), (69, 5), (70, 6), (71, 7), (72, 8), (73, 9), (74, 10), (75, 11), (76, 12), (4, 13)]) (by kernel_rfl) (GrowJ W9 (fun iX => match iX with | 0 => some (.int .i64 0) | 1 => some (.bool true) | 2 => some (.bool true) | 3 => some (.agg #[.int .i64 b.1.x, .int .i64 b.1.y, .int .i64 b.2.x, .int .i64 b.2.y]) | 4 => some (.slice (some ⟨bb, off, none⟩) n cap) | 5 => some (.int .i64 (i : Int)) | 6 => some (.pointer (some ⟨bb, off + i * 4, none⟩)) | 7 => some (.agg #[.int .i64 b.1.x, .int .i64 b.1.y, .int .i64 b.2.x, .int .i64 b.2.y]) | 8 => some (.bool true) | 9 => some (.bool true) | 10 => some (.bool true) | 11 => some (.bool true) | 12 => some (.bool true) | 13 => some (.bool true) | _ => none) []) (by kernel_rfl) (by kernel_rfl) (by kernel_rfl) (by kernel_rfl) (fun _ => undef) ?start9 ?step9 ?done9
    case start9 => exact GrowJ.start ((Below.refl _ _).drew)
    case step9 =>
      refine ⟨?o9_0, ?o9_1, ?o9_2, ?o9_3, ?o9_4, ?o9_5, ?o9_6, ?o9_7, ?o9_8, ?o9_9, ?o9_10, ?o9_11, ?o9_12, ?o9_13, trivial⟩
      case o9_0 =>
        intro LX V aX wX K hl hp hcl hf hJ hK
        have t8 : aX.tmps[8]? = some (.int .i64 0) := hf.old (by kernel_rfl) rfl
        rw [if_pos (by rfl)]
        go_simp
        exact hK _ _ (hJ.val HOK 0 _ (by kernel_rfl) rfl (Below.refl _ _))
      case o9_1 =>
        intro LX V aX wX K hl hp hcl hf hJ hK
        have t64 := hf.in (i := 0) (d := 64) (by kernel_rfl) (hp 0 (by kernel_rfl)) (hJ.vals 0 _ rfl (hp 0 (by kernel_rfl)))
        rw [if_pos (by rfl)]
        go_simp
        exact hK _ _ (hJ.val HOK 1 _ (by kernel_rfl) rfl (Below.refl _ _))
      case o9_2 =>
        intro LX V aX wX K hl hp hcl hf hJ hK
        have t65 := hf.in (i := 1) (d := 65) (by kernel_rfl) (hp 1 (by kernel_rfl)) (hJ.vals 1 _ rfl (hp 1 (by kernel_rfl)))
        rw [if_pos (by rfl)]
        go_simp
        exact hK _ _ (hJ.val HOK 2 _ (by kernel_rfl) rfl (Below.refl _ _))
      case o9_3 =>
        intro LX V aX wX K hl hp hcl hf hJ hK
        have t7 : aX.tmps[7]? = some (.pointer (some ⟨gx, 0, none⟩)) := hf.old (by kernel_rfl) rfl
        have t66 := hf.in (i := 2) (d := 66) (by kernel_rfl) (hp 2 (by kernel_rfl)) (hJ.vals 2 _ rfl (hp 2 (by kernel_rfl)))
        obtain ⟨⟨c0, c1, c2, c3⟩, ⟨d0, d1, d2, d3⟩⟩ := HCE.out wX hJ.below
        rw [if_pos (wanted_of rfl rfl t66)]
        go_simp
        exact hK _ _ (hJ.val HOK 3 _ (by kernel_rfl) rfl (Below.refl _ _))
      case o9_4 =>
        intro LX V aX wX K hl hp hcl hf hJ hK
        have t0 : aX.tmps[0]? = some (.slice (some ⟨bb, off, none⟩) n cap) := hf.old (by kernel_rfl) rfl
        have t66 := hf.in (i := 2) (d := 66) (by kernel_rfl) (hp 2 (by kernel_rfl)) (hJ.vals 2 _ rfl (hp 2 (by kernel_rfl)))
        rw [if_pos (wanted_of rfl rfl t66)]
        go_simp
        exact hK _ _ (hJ.val HOK 4 _ (by kernel_rfl) rfl (Below.refl _ _))
      case o9_5 =>
        intro LX V aX wX K hl hp hcl hf hJ hK
        have t1 : aX.tmps[1]? = some (.int .i64 (i : Int)) := hf.old (by kernel_rfl) rfl
        have t66 := hf.in (i := 2) (d := 66) (by kernel_rfl) (hp 2 (by kernel_rfl)) (hJ.vals 2 _ rfl (hp 2 (by kernel_rfl)))
        rw [if_pos (wanted_of rfl rfl t66)]
        go_simp
        exact hK _ _ (hJ.val HOK 5 _ (by kernel_rfl) rfl (Below.refl _ _))
      case o9_6 =>
        intro LX V aX wX K hl hp hcl hf hJ hK
        have t68 := hf.in (i := 4) (d := 68) (by kernel_rfl) (hp 4 (by kernel_rfl)) (hJ.vals 4 _ rfl (hp 4 (by kernel_rfl)))
        have t69 := hf.in (i := 5) (d := 69) (by kernel_rfl) (hp 5 (by kernel_rfl)) (hJ.vals 5 _ rfl (hp 5 (by kernel_rfl)))
        have t66 := hf.in (i := 2) (d := 66) (by kernel_rfl) (hp 2 (by kernel_rfl)) (hJ.vals 2 _ rfl (hp 2 (by kernel_rfl)))
        obtain ⟨i0, i5⟩ := HIX.out
        rw [if_pos (wanted_of rfl rfl t66)]
        go_simp
        exact hK _ _ (hJ.val HOK 6 _ (by kernel_rfl) rfl (Below.refl _ _))
      case o9_7 =>
        intro LX V aX wX K hl hp hcl hf hJ hK
        have t70 := hf.in (i := 6) (d := 70) (by kernel_rfl) (hp 6 (by kernel_rfl)) (hJ.vals 6 _ rfl (hp 6 (by kernel_rfl)))
        have t66 := hf.in (i := 2) (d := 66) (by kernel_rfl) (hp 2 (by kernel_rfl)) (hJ.vals 2 _ rfl (hp 2 (by kernel_rfl)))
        obtain ⟨⟨c0, c1, c2, c3⟩, ⟨d0, d1, d2, d3⟩⟩ := HCE.out wX hJ.below
        rw [if_pos (wanted_of rfl rfl t66)]
        go_simp
        exact hK _ _ (hJ.val HOK 7 _ (by kernel_rfl) rfl (Below.refl _ _))
      case o9_8 =>
        intro LX V aX wX K hl hp hcl hf hJ hK
        have t67 := hf.in (i := 3) (d := 67) (by kernel_rfl) (hp 3 (by kernel_rfl)) (hJ.vals 3 _ rfl (hp 3 (by kernel_rfl)))
        have t71 := hf.in (i := 7) (d := 71) (by kernel_rfl) (hp 7 (by kernel_rfl)) (hJ.vals 7 _ rfl (hp 7 (by kernel_rfl)))
        have t66 := hf.in (i := 2) (d := 66) (by kernel_rfl) (hp 2 (by kernel_rfl)) (hJ.vals 2 _ rfl (hp 2 (by kernel_rfl)))
        have hqb := eqBoxS b
        rw [if_pos (wanted_of rfl rfl t66)]
        go_simp
        exact hK _ _ (hJ.val HOK 8 _ (by kernel_rfl) rfl (Below.refl _ _))
      case o9_9 =>
        intro LX V aX wX K hl hp hcl hf hJ hK
        have t66 := hf.in (i := 2) (d := 66) (by kernel_rfl) (hp 2 (by kernel_rfl)) (hJ.vals 2 _ rfl (hp 2 (by kernel_rfl)))
        have t72 := hf.in (i := 8) (d := 72) (by kernel_rfl) (hp 8 (by kernel_rfl)) (hJ.vals 8 _ rfl (hp 8 (by kernel_rfl)))
        rw [if_pos (by rfl)]
        go_simp
        exact hK _ _ (hJ.val HOK 9 _ (by kernel_rfl) rfl (Below.refl _ _))
      case o9_10 =>
        intro LX V aX wX K hl hp hcl hf hJ hK
        have t73 := hf.in (i := 9) (d := 73) (by kernel_rfl) (hp 9 (by kernel_rfl)) (hJ.vals 9 _ rfl (hp 9 (by kernel_rfl)))
        rw [if_pos (by rfl)]
        go_simp
        exact hK _ _ (hJ.val HOK 10 _ (by kernel_rfl) rfl (Below.refl _ _))
      case o9_11 =>
        intro LX V aX wX K hl hp hcl hf hJ hK
        have t74 := hf.in (i := 10) (d := 74) (by kernel_rfl) (hp 10 (by kernel_rfl)) (hJ.vals 10 _ rfl (hp 10 (by kernel_rfl)))
        rw [if_pos (wanted_of rfl rfl t74)]
        go_simp
        refine (HAW.out _ hJ.below).mono ?_
        rintro e wA ⟨rfl, hbA⟩
        exact hK _ _ (hJ.val HOK 11 _ (by kernel_rfl) rfl (hbA))
      case o9_12 =>
        intro LX V aX wX K hl hp hcl hf hJ hK
        have t74 := hf.in (i := 10) (d := 74) (by kernel_rfl) (hp 10 (by kernel_rfl)) (hJ.vals 10 _ rfl (hp 10 (by kernel_rfl)))
        have t75 := hf.in (i := 11) (d := 75) (by kernel_rfl) (hp 11 (by kernel_rfl)) (hJ.vals 11 _ rfl (hp 11 (by kernel_rfl)))
        rw [if_pos (by rfl)]
        go_simp
        exact hK _ _ (hJ.val HOK 12 _ (by kernel_rfl) rfl (Below.refl _ _))
      case o9_13 =>
        intro LX V aX wX K hl hp hcl hf hJ hK
        have t76 := hf.in (i := 12) (d := 76) (by kernel_rfl) (hp 12 (by kernel_rfl)) (hJ.vals 12 _ rfl (hp 12 (by kernel_rfl)))
        rw [if_pos (by rfl)]
        go_simp
        exact hK _ _ (hJ.val HOK 13 _ (by kernel_rfl) rfl (Below.refl _ _))
    intro V wZ hJ
    have hv := hJ.vals 13 _ rfl (by kernel_rfl)
    have HBZ := Lib.hid hJ.below
    simp only [puts, Act.put, List.setIfInBounds_toArray, List.set_cons_zero, List.set_cons_succ]
    rw [hv]
    clear hJ HOK hv
    go_wp2_with fail
    go_ret
    exact ⟨rfl, HB9.out.trans (HBZ.out.mono HB9.out.size)⟩
  · have hout : at_ < 0 ∨ (n : Int) ≤ at_ := by omega
    have hbt := BoxT_out g at_ L w5 HT5.out (by rw [HN.out]; exact hout)
    unfold boxV at hbt
    have HBT := Lib.hid hbt
    clear hbt
    go_wp2_with fail
    refine HBT.out.mono ?_
    rintro e w6 ⟨rfl, hb6⟩
    have HB6 := Lib.hid (HB5.out.trans (hb6.mono HB5.out.size))
    clear hb6
    obtain ⟨W, hW⟩ : ∃ W, W = w6.alloc (.cells #[.int .i64 0, .int .i64 0, .int .i64 0, .int .i64 0] 33) := ⟨_, rfl⟩
    have hr4 : W.heap[w6.heap.size]? = some (.cells (boxRow 0 0 0 0) 33 (0, 0)) := by rw [hW]; exact alloc_new _ _
    have hb4 : Below w6.heap.size w6 W := by rw [hW]; exact (Below.refl _ _).alloc (Nat.le_refl _) _
    obtain ⟨z0, z1, z2, z3⟩ := box_cells hr4
    obtain ⟨f0, f1, f2, f3⟩ := box_frozen hr4
    rw [hW] at z0 z1 z2 z3 f0 f1 f2 f3
    have HB9 := Lib.hid (HB6.out.trans (hb4.mono HB6.out.size))
    have hqb : ∀ w, _ := eqBoxS bx0
    have HAW := Lib.hid (awake_any W)
    have hpick : (decide (at_ < 0) || decide ((n : Int) ≤ at_)) = true := by simp; exact hout
    clear hr4 hb4
    by_cases hneg : at_ < 0
    · go_wp2_with fail
      rw [← hW]
      refine HAW.out.mono ?_
      rintro e w7 ⟨rfl, hb7⟩
      have HB7 := Lib.hid hb7
      clear hb7
      go_wp2_with fail
      go_ret
      exact ⟨rfl, HB9.out.trans (HB7.out.mono HB9.out.size)⟩
    · have hge : (n : Int) ≤ at_ := by omega
      go_wp2_with fail
      rw [← hW]
      refine HAW.out.mono ?_
      rintro e w7 ⟨rfl, hb7⟩
      have HB7 := Lib.hid hb7
      clear hb7
      go_wp2_with fail
      go_ret
      exact ⟨rfl, HB9.out.trans (HB7.out.mono HB9.out.size)⟩
end Go.Proofs.Ytlmmejdcjhbppaa

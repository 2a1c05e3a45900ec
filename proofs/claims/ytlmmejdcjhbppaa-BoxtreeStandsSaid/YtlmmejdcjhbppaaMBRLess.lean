/- ref12.less (printed by mkrless12.py) -/
import Derived.Test.YtlmmejdcjhbppaaMBLaw0
import Derived.Test.YtlmmejdcjhbppaaMNum8
import Derived.Test.YtlmmejdcjhbppaaMRegC
set_option linter.unusedSimpArgs false
set_option linter.unusedVariables false
namespace Go.Proofs.Ytlmmejdcjhbppaa
open Go.RowKit Go.Geo
attribute [local go_sem] Oper.semAt_some
theorem small_sum {n1 n2 : Bool} {D E : List Int} {x y : Int} (h : Canon n1 D x) (k : Canon n2 E y) (hx : x.natAbs ≤ 36893488147419103232) (hy : y.natAbs ≤ 36893488147419103232) : valD D + valD E < 65536 ^ 12 := by
  rw [canon_abs h, canon_abs k, show (65536 : Int) ^ 12 = 6277101735386680763835789423207666416102355444464034512896 from by decide +kernel]
  omega
theorem sgn_lt (a b c d : Int) : (sgnN (a + b + -(c + d)) < 0) = (decide (a + b < c + d) = true) := by
  unfold sgnN
  rw [decide_eq_true_eq]
  apply propext
  split <;> (try split) <;> omega
set_option maxRecDepth 100000 in
set_option maxHeartbeats 4000000 in
theorem RLess_any (a b c d : Int) (w : World) (ha : InI a) (hb : InI b) (hc : InI c) (hd : InI d) : Calls Try.prog 57 #[.int .i64 a, .int .i64 b, .int .i64 c, .int .i64 d] w fun e w' => e = .returned (.bool (decide (a + b < c + d))) ∧ Below w.heap.size w w' := by
  have HIN := Lib.hid (And.intro ha (And.intro hb (And.intro hc hd)))
  have hsr := sgn_lt a b c d
  obtain ⟨r, hr⟩ : ∃ r, r = decide (a + b < c + d) := ⟨_, rfl⟩
  obtain ⟨s, hs⟩ : ∃ s, s = sgnN (a + b + -(c + d)) := ⟨_, rfl⟩
  rw [← hr, ← hs] at hsr
  rw [← hr]
  have HS := Lib.hid (And.intro hs.symm hsr)
  clear hr hs hsr ha hb hc hd
  go_enter Try.func57, Try.ntmps57
  go_wp2_with fail
  refine (Of_any a w HIN.out.1.1 HIN.out.1.2).mono ?_
  rintro e w1 ⟨q1, D1, rfl, k1, f1, g1⟩
  have K1 := Lib.hid (And.intro k1 g1)
  clear k1 f1 g1
  go_wp2_with fail
  refine (Of_any b w1 HIN.out.2.1.1 HIN.out.2.1.2).mono ?_
  rintro e w2 ⟨q2, D2, rfl, k2, f2, g2⟩
  have K2 := Lib.hid (And.intro k2 (K1.out.2.trans g2))
  clear k2 f2 g2
  have hbd : valD D1 + valD D2 < 65536 ^ 12 := small_sum K1.out.1 K2.out.1 (by have := HIN.out; unfold InI at this; omega) (by have := HIN.out; unfold InI at this; omega)
  have HP := Lib.hid (Plus_num q1 q2 D1 D2 a b w2 K1.out.1 K2.out.1 hbd)
  clear hbd
  go_wp2_with fail
  refine HP.out.mono ?_
  rintro e w3 ⟨q3, D3, rfl, k3, g3⟩
  have hl3 := k3.1
  obtain ⟨d0, d1, d2, d3, d4, d5, d6, d7, d8, d9, d10, d11, rfl⟩ : ∃ d0 d1 d2 d3 d4 d5 d6 d7 d8 d9 d10 d11, D3 = [d0, d1, d2, d3, d4, d5, d6, d7, d8, d9, d10, d11] := by
    match D3, hl3 with
    | [d0, d1, d2, d3, d4, d5, d6, d7, d8, d9, d10, d11], _ => exact ⟨d0, d1, d2, d3, d4, d5, d6, d7, d8, d9, d10, d11, rfl⟩
  have K3 := Lib.hid (And.intro k3 (K2.out.2.trans g3))
  clear k3 g3 hl3
  obtain ⟨W4, hW4⟩ : ∃ W, W = w3.alloc (.cells (numA q3 [d0, d1, d2, d3, d4, d5, d6, d7, d8, d9, d10, d11]) 110) := ⟨_, rfl⟩
  have hr4 : W4.heap[w3.heap.size]? = some (.cells (numA q3 [d0, d1, d2, d3, d4, d5, d6, d7, d8, d9, d10, d11]) 110 (0, 0)) := by rw [hW4]; exact alloc_new _ _
  have hb4 : Below w3.heap.size w3 W4 := by rw [hW4]; exact (Below.refl _ _).alloc (Nat.le_refl _) _
  have H4 := Lib.hid (And.intro hr4 (K3.out.2.1.trans (hb4.mono K3.out.2.1.size)))
  rw [numA_lit] at hW4 ⊢
  clear hr4 hb4
  go_wp2_with fail
  rw [← hW4]
  clear hW4
  refine (Of_any c W4 HIN.out.2.2.1.1 HIN.out.2.2.1.2).mono ?_
  rintro e w5 ⟨q4, D4, rfl, k4, f4, g4⟩
  have K4 := Lib.hid (And.intro k4 g4)
  clear k4 f4 g4
  go_wp2_with fail
  refine (Of_any d w5 HIN.out.2.2.2.1 HIN.out.2.2.2.2).mono ?_
  rintro e w6 ⟨q5, D5, rfl, k5, f5, g5⟩
  have K5 := Lib.hid (And.intro k5 (K4.out.2.trans g5))
  clear k5 f5 g5
  have hbd : valD D4 + valD D5 < 65536 ^ 12 := small_sum K4.out.1 K5.out.1 (by have := HIN.out; unfold InI at this; omega) (by have := HIN.out; unfold InI at this; omega)
  have HP2 := Lib.hid (Plus_num q4 q5 D4 D5 c d w6 K4.out.1 K5.out.1 hbd)
  clear hbd
  go_wp2_with fail
  refine HP2.out.mono ?_
  rintro e w7 ⟨q6, D6, rfl, k6, g6⟩
  have hl6 := k6.1
  obtain ⟨u0, u1, u2, u3, u4, u5, u6, u7, u8, u9, u10, u11, rfl⟩ : ∃ u0 u1 u2 u3 u4 u5 u6 u7 u8 u9 u10 u11, D6 = [u0, u1, u2, u3, u4, u5, u6, u7, u8, u9, u10, u11] := by
    match D6, hl6 with
    | [u0, u1, u2, u3, u4, u5, u6, u7, u8, u9, u10, u11], _ => exact ⟨u0, u1, u2, u3, u4, u5, u6, u7, u8, u9, u10, u11, rfl⟩
  have K6 := Lib.hid (And.intro k6 (K5.out.2.trans g6))
  clear k6 g6 hl6
  obtain ⟨W8, hW8⟩ : ∃ W, W = w7.alloc (.cells (numA q6 [u0, u1, u2, u3, u4, u5, u6, u7, u8, u9, u10, u11]) 110) := ⟨_, rfl⟩
  have hr8 : W8.heap[w7.heap.size]? = some (.cells (numA q6 [u0, u1, u2, u3, u4, u5, u6, u7, u8, u9, u10, u11]) 110 (0, 0)) := by rw [hW8]; exact alloc_new _ _
  have hb8 : Below w7.heap.size w7 W8 := by rw [hW8]; exact (Below.refl _ _).alloc (Nat.le_refl _) _
  have hb48 : Below W4.heap.size W4 W8 := K6.out.2.1.trans (hb8.mono K6.out.2.1.size)
  have HBW := Lib.hid (H4.out.2.trans (hb48.mono H4.out.2.size))
  have HC1 : Hid (∀ wX, Below W8.heap.size W8 wX → wX.cell? ⟨w3.heap.size, 0, none⟩ = some (.bool q3) ∧ wX.cell? ⟨w3.heap.size, 1, none⟩ = some (.int .i64 d0) ∧ wX.cell? ⟨w3.heap.size, 2, none⟩ = some (.int .i64 d1) ∧ wX.cell? ⟨w3.heap.size, 3, none⟩ = some (.int .i64 d2) ∧ wX.cell? ⟨w3.heap.size, 4, none⟩ = some (.int .i64 d3) ∧ wX.cell? ⟨w3.heap.size, 5, none⟩ = some (.int .i64 d4) ∧ wX.cell? ⟨w3.heap.size, 6, none⟩ = some (.int .i64 d5) ∧ wX.cell? ⟨w3.heap.size, 7, none⟩ = some (.int .i64 d6) ∧ wX.cell? ⟨w3.heap.size, 8, none⟩ = some (.int .i64 d7) ∧ wX.cell? ⟨w3.heap.size, 9, none⟩ = some (.int .i64 d8) ∧ wX.cell? ⟨w3.heap.size, 10, none⟩ = some (.int .i64 d9) ∧ wX.cell? ⟨w3.heap.size, 11, none⟩ = some (.int .i64 d10) ∧ wX.cell? ⟨w3.heap.size, 12, none⟩ = some (.int .i64 d11)) := Lib.hid (fun wX hX => by
    have hq := hb48.trans (hX.mono hb48.size)
    exact num13 ((hq.block _ (heap_lt2 H4.out.1)).trans H4.out.1))
  have HC2 : Hid (∀ wX, Below W8.heap.size W8 wX → wX.cell? ⟨w7.heap.size, 0, none⟩ = some (.bool q6) ∧ wX.cell? ⟨w7.heap.size, 1, none⟩ = some (.int .i64 u0) ∧ wX.cell? ⟨w7.heap.size, 2, none⟩ = some (.int .i64 u1) ∧ wX.cell? ⟨w7.heap.size, 3, none⟩ = some (.int .i64 u2) ∧ wX.cell? ⟨w7.heap.size, 4, none⟩ = some (.int .i64 u3) ∧ wX.cell? ⟨w7.heap.size, 5, none⟩ = some (.int .i64 u4) ∧ wX.cell? ⟨w7.heap.size, 6, none⟩ = some (.int .i64 u5) ∧ wX.cell? ⟨w7.heap.size, 7, none⟩ = some (.int .i64 u6) ∧ wX.cell? ⟨w7.heap.size, 8, none⟩ = some (.int .i64 u7) ∧ wX.cell? ⟨w7.heap.size, 9, none⟩ = some (.int .i64 u8) ∧ wX.cell? ⟨w7.heap.size, 10, none⟩ = some (.int .i64 u9) ∧ wX.cell? ⟨w7.heap.size, 11, none⟩ = some (.int .i64 u10) ∧ wX.cell? ⟨w7.heap.size, 12, none⟩ = some (.int .i64 u11)) := Lib.hid (fun wX hX => num13 ((hX.block _ (heap_lt2 hr8)).trans hr8))
  have HLE : Hid (∀ wX, Below W8.heap.size W8 wX → Calls Try.prog 79 #[.agg #[.bool q6, .int .i64 u0, .int .i64 u1, .int .i64 u2, .int .i64 u3, .int .i64 u4, .int .i64 u5, .int .i64 u6, .int .i64 u7, .int .i64 u8, .int .i64 u9, .int .i64 u10, .int .i64 u11]] wX (NumR (-(c + d)) wX)) := Lib.hid (fun wX hX => by
    have := Less_any q6 _ _ wX K6.out.1
    rw [numA_lit] at this
    exact this)
  have HPL : Hid (∀ q D wX, Canon q D (-(c + d)) → Calls Try.prog 78 #[.agg #[.bool q3, .int .i64 d0, .int .i64 d1, .int .i64 d2, .int .i64 d3, .int .i64 d4, .int .i64 d5, .int .i64 d6, .int .i64 d7, .int .i64 d8, .int .i64 d9, .int .i64 d10, .int .i64 d11], .agg (numA q D)] wX (NumR (a + b + -(c + d)) wX)) := Lib.hid (fun q D wX hk => by
    have := Plus_num q3 q _ D _ _ wX K3.out.1 hk (small_sum K3.out.1 hk (by have := HIN.out; unfold InI at this; omega) (by have := HIN.out; unfold InI at this; omega))
    rw [numA_lit] at this
    exact this)
  rw [numA_lit] at hW8 ⊢
  clear hr8 hb8 hb48
  go_wp2_with fail
  rw [← hW8]
  clear hW8
  have HOK : ∀ f ∈ ([⟨2, fun v w => ∃ q D, v = .agg (numA q D) ∧ Canon q D (-(c + d))⟩, ⟨3, fun v w => ∃ q D, v = .agg (numA q D) ∧ Canon q D (a + b + -(c + d))⟩] : List Fct), FctOk f := by
    intro f hf
    simp only [List.mem_cons, List.not_mem_nil, or_false] at hf
    rcases hf with rfl | rfl
    · exact fun v w w' h _ => h
    · exact fun v w w' h _ => h
  refine wp_region_J (s := [(21, 0), (22, 1), (23, 2), (24, 3), (25, 4), (26, 5), (8, 6)]) (by kernel_rfl) (GrowJ W8 (fun iX => match iX with | 0 => some (.agg #[.bool q3, .int .i64 d0, .int .i64 d1, .int .i64 d2, .int .i64 d3, .int .i64 d4, .int .i64 d5, .int .i64 d6, .int .i64 d7, .int .i64 d8, .int .i64 d9, .int .i64 d10, .int .i64 d11]) | 1 => some (.agg #[.bool q6, .int .i64 u0, .int .i64 u1, .int .i64 u2, .int .i64 u3, .int .i64 u4, .int .i64 u5, .int .i64 u6, .int .i64 u7, .int .i64 u8, .int .i64 u9, .int .i64 u10, .int .i64 u11]) | 4 => some (.int .i64 s) | 5 => some (.bool r) | 6 => some (.bool r) | _ => none) [⟨2, fun v w => ∃ q D, v = .agg (numA q D) ∧ Canon q D (-(c + d))⟩, ⟨3, fun v w => ∃ q D, v = .agg (numA q D) ∧ Canon q D (a + b + -(c + d))⟩]) (by kernel_rfl) (by kernel_rfl) (by kernel_rfl) (by kernel_rfl) (fun _ => undef) ?start3 ?step3 ?done3
  case start3 => exact GrowJ.start ((Below.refl _ _).drew)
  case step3 =>
    refine ⟨?o3_0, ?o3_1, ?o3_2, ?o3_3, ?o3_4, ?o3_5, ?o3_6, trivial⟩
    case o3_0 =>
      intro LX V aX wX K hl hp hcl hf hJ hK
      have t9 : aX.tmps[9]? = some (.pointer (some ⟨w3.heap.size, 0, none⟩)) := hf.old (by kernel_rfl) rfl
      obtain ⟨y0, y1, y2, y3, y4, y5, y6, y7, y8, y9, y10, y11, y12⟩ := HC1.out wX hJ.below
      rw [if_pos (by rfl)]
      go_simp
      exact hK _ _ (hJ.val HOK 0 _ (by kernel_rfl) rfl (Below.refl _ _))
    case o3_1 =>
      intro LX V aX wX K hl hp hcl hf hJ hK
      have t10 : aX.tmps[10]? = some (.pointer (some ⟨w7.heap.size, 0, none⟩)) := hf.old (by kernel_rfl) rfl
      obtain ⟨y0, y1, y2, y3, y4, y5, y6, y7, y8, y9, y10, y11, y12⟩ := HC2.out wX hJ.below
      rw [if_pos (by rfl)]
      go_simp
      exact hK _ _ (hJ.val HOK 1 _ (by kernel_rfl) rfl (Below.refl _ _))
    case o3_2 =>
      intro LX V aX wX K hl hp hcl hf hJ hK
      have t22 := hf.in (i := 1) (d := 22) (by kernel_rfl) (hp 1 (by kernel_rfl)) (hJ.vals 1 _ rfl (hp 1 (by kernel_rfl)))
      rw [if_pos (by rfl)]
      go_simp
      refine (HLE.out _ hJ.below).mono ?_
      rintro e wA ⟨q, D, rfl, hk, hgA⟩
      exact hK _ _ (hJ.step HOK 2 _ trivial (hgA.1) (by
        intro f hf hfi
        simp only [List.mem_cons, List.not_mem_nil, or_false] at hf
        rcases hf with rfl | rfl
        · exact ⟨q, D, rfl, hk⟩
        · exact absurd (show (3 : Nat) = 2 from hfi) (by decide)
        ))
    case o3_3 =>
      intro LX V aX wX K hl hp hcl hf hJ hK
      have t21 := hf.in (i := 0) (d := 21) (by kernel_rfl) (hp 0 (by kernel_rfl)) (hJ.vals 0 _ rfl (hp 0 (by kernel_rfl)))
      have t23 := hf.in (i := 2) (d := 23) (by kernel_rfl) (hp 2 (by kernel_rfl)) rfl
      have p0 := hJ.facts ⟨2, fun v w => ∃ q D, v = .agg (numA q D) ∧ Canon q D (-(c + d))⟩ (List.mem_of_getElem? (i := 0) rfl) (hp 2 (by kernel_rfl))
      obtain ⟨q7, D7, hv7, hk7⟩ := p0
      rw [hv7] at t23
      rw [if_pos (by rfl)]
      go_simp
      have he := HPL.out q7 D7 wX hk7
      refine he.mono ?_
      rintro e wA ⟨q, D, rfl, hk, hgA⟩
      exact hK _ _ (hJ.step HOK 3 _ trivial (hgA.1) (by
        intro f hf hfi
        simp only [List.mem_cons, List.not_mem_nil, or_false] at hf
        rcases hf with rfl | rfl
        · exact absurd (show (2 : Nat) = 3 from hfi) (by decide)
        · exact ⟨q, D, rfl, hk⟩
        ))
    case o3_4 =>
      intro LX V aX wX K hl hp hcl hf hJ hK
      have t24 := hf.in (i := 3) (d := 24) (by kernel_rfl) (hp 3 (by kernel_rfl)) rfl
      have p1 := hJ.facts ⟨3, fun v w => ∃ q D, v = .agg (numA q D) ∧ Canon q D (a + b + -(c + d))⟩ (List.mem_of_getElem? (i := 1) rfl) (hp 3 (by kernel_rfl))
      obtain ⟨q8, D8, hv8, hk8⟩ := p1
      rw [hv8] at t24
      rw [if_pos (by rfl)]
      go_simp
      have he := Sgn_any q8 D8 _ wX hk8
      rw [HS.out.1] at he
      refine he.mono ?_
      rintro e wA ⟨rfl, hgA⟩
      exact hK _ _ (hJ.val HOK 4 _ (by kernel_rfl) rfl (hgA.1))
    case o3_5 =>
      intro LX V aX wX K hl hp hcl hf hJ hK
      have t25 := hf.in (i := 4) (d := 25) (by kernel_rfl) (hp 4 (by kernel_rfl)) (hJ.vals 4 _ rfl (hp 4 (by kernel_rfl)))
      have hsr := HS.out.2
      rw [if_pos (by rfl)]
      go_simp
      exact hK _ _ (hJ.val HOK 5 _ (by kernel_rfl) rfl (Below.refl _ _))
    case o3_6 =>
      intro LX V aX wX K hl hp hcl hf hJ hK
      have t26 := hf.in (i := 5) (d := 26) (by kernel_rfl) (hp 5 (by kernel_rfl)) (hJ.vals 5 _ rfl (hp 5 (by kernel_rfl)))
      rw [if_pos (by rfl)]
      go_simp
      exact hK _ _ (hJ.val HOK 6 _ (by kernel_rfl) rfl (Below.refl _ _))
  intro V wZ hJ
  have hv := hJ.vals 6 _ rfl (by kernel_rfl)
  have HBZ := Lib.hid hJ.below
  simp only [puts, Act.put, List.setIfInBounds_toArray, List.set_cons_zero, List.set_cons_succ]
  rw [hv]
  clear hJ HOK hv
  go_wp2_with fail
  go_ret
  exact ⟨rfl, HBW.out.trans (HBZ.out.mono HBW.out.size)⟩
end Go.Proofs.Ytlmmejdcjhbppaa

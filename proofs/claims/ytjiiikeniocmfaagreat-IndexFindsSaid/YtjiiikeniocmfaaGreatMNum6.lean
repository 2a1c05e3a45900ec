/- the document's numbers: size -/
import Derived.Test.YtjiiikeniocmfaaGreatMNum3
import Derived.IntWalk
set_option linter.unusedSimpArgs false
set_option linter.unusedVariables false
namespace Go.Proofs.YtjiiikeniocmfaaGreat
open Go.RowKit Go.Geo
attribute [local go_sem] Oper.semAt_some
def sizeZ (a b : Int) : Int := if a < b then -1 else if a = b then 0 else 1
set_option maxRecDepth 100000 in
set_option maxHeartbeats 4000000 in
theorem size_num (n1 : Bool) (D : List Int) (n2 : Bool) (E : List Int) (w : World) (hD : Digits D) (hE : Digits E) (h1 : D.length = 12) (h2 : E.length = 12) :
    Calls Tryz.prog 195 #[.agg (numA n1 D), .agg (numA n2 E)] w fun e w' => e = .returned (.int .i64 (sizeZ (valD D) (valD E))) ∧ Grew w w' := by
  obtain ⟨z, hz⟩ : ∃ z, z = sizeZ (valD D) (valD E) := ⟨_, rfl⟩
  rw [← hz]
  have HZ := Lib.hid hz
  have HD := Lib.hid (And.intro hD (And.intro hE (And.intro h1 h2)))
  obtain ⟨W0, hW0⟩ : ∃ W, W = (w.alloc (.cells (numA n1 D) 220)).alloc (.cells (numA n2 E) 220) := ⟨_, rfl⟩
  have a0 : W0.heap[w.heap.size]? = some (.cells (numA n1 D) 220 (0, 0)) := by rw [hW0]; exact (Below.heap_alloc _ _ _ (by simp)).trans (alloc_new _ _)
  have a1 : W0.heap[w.heap.size + 1]? = some (.cells (numA n2 E) 220 (0, 0)) := by rw [hW0]; exact alloc_new2 _ _ _
  have hg0 : Grew w W0 := by rw [hW0]; exact ((Grew.refl _).alloc _).alloc _
  have H0 := Lib.hid (And.intro a0 (And.intro a1 hg0))
  clear hD hE h1 h2 hz a0 a1 hg0
  go_enter Tryz.func195, Tryz.ntmps195
  go_wp2_with fail
  rw [← hW0]
  clear hW0
  go_loopw [5] (fun i wr => ∃ k : Nat, k ≤ 12 ∧ i = .int .i64 ((k : Int) - 1) ∧ Hid (D.drop k = E.drop k) ∧ Hid (Grew W0 wr)) (fun i _ => (intOf i + 1).toNat)
  case atStart => exact ⟨12, by omega, rfl, Lib.hid (by rw [List.drop_of_length_le (by rw [HD.out.2.2.1]; exact Nat.le_refl _), List.drop_of_length_le (by rw [HD.out.2.2.2]; exact Nat.le_refl _)]), Grew.refl _⟩
  case round =>
    obtain ⟨k, hk, rfl, hq, hb⟩ := hrel
    match k with
    | 0 =>
      have HE : Hid (z = 0) := Lib.hid (by
        have := hq.out
        rw [List.drop_zero, List.drop_zero] at this
        rw [HZ.out, this]; unfold sizeZ; rw [if_neg (by omega), if_pos rfl])
      go_wp2_with fail
      go_ret
      exact ⟨by rw [HE.out]; rfl, H0.out.2.2.trans hb.out⟩
    | k + 1 =>
      have hkk : ((k + 1 : Nat) : Int) - 1 = (k : Int) := by omega
      rw [hkk]
      have hk0 : (0 : Int) ≤ (k : Int) := by omega
      have hk5 : (k : Int) < 12 := by omega
      have b0 := (hb.out.1.block _ (heap_ltN H0.out.1)).trans H0.out.1
      have b1 := (hb.out.1.block _ (heap_ltN H0.out.2.1)).trans H0.out.2.1
      have e0 := num_cell b0 (i := k) (by rw [HD.out.2.2.1]; omega)
      have e1 := num_cell b1 (i := k) (by rw [HD.out.2.2.2]; omega)
      obtain ⟨x, hx⟩ : ∃ x, x = D.getD k 0 := ⟨_, rfl⟩
      obtain ⟨y, hy⟩ : ∃ x, x = E.getD k 0 := ⟨_, rfl⟩
      rw [← hx] at e0
      rw [← hy] at e1
      have HXY := Lib.hid (And.intro hx hy)
      have hdD := drop_get (D := D) (i := k) (by rw [HD.out.2.2.1]; omega)
      have hdE := drop_get (D := E) (i := k) (by rw [HD.out.2.2.2]; omega)
      rw [← hx] at hdD
      rw [← hy] at hdE
      have HDR := Lib.hid (And.intro hdD hdE)
      have hk9 : k < 12 := by omega
      clear hx hy b0 b1 hdD hdE hkk
      by_cases hxy : x = y
      · subst hxy
        go_wp2_with fail
        go_region
        go_wp2_with fail
        go_roundw
        case rel =>
          refine ⟨k, by omega, rfl, Lib.hid ?_, Lib.hid (hb.out.drew)⟩
          rw [HDR.out.1, HDR.out.2, hq.out]
        case measure => simp [intOf]
      · have t1 : (x == y) = false := by simp [hxy]
        have t2 : (x != y) = true := by simp [hxy]
        have HNE := Lib.hid hxy
        clear hxy
        by_cases hlt : x < y
        · have t3 : decide (x < y) = true := decide_eq_true hlt
          have HE : Hid (z = -1) := Lib.hid (by
            have := valD_less HD.out.1 HD.out.2.1 (by rw [HD.out.2.2.1, HD.out.2.2.2]) (i := k) (by rw [HD.out.2.2.1]; omega) hq.out (by rw [← HXY.out.1, ← HXY.out.2]; exact hlt)
            rw [HZ.out]; unfold sizeZ; rw [if_pos this])
          clear hlt
          go_wp2_with fail
          go_region
          go_wp2_with fail
          go_region
          go_wp2_with fail
          change bodyPost Tryz.prog Tryz.f195 (fun e w' => e = .returned (.int .i64 z) ∧ Grew w w') .ret _ _
          go_ret
          exact ⟨by rw [HE.out]; rfl, H0.out.2.2.trans (hb.out.drew.drew)⟩
        · have t3 : decide (x < y) = false := decide_eq_false hlt
          have HE : Hid (z = 1) := Lib.hid (by
            have := valD_less HD.out.2.1 HD.out.1 (by rw [HD.out.2.2.1, HD.out.2.2.2]) (i := k) (by rw [HD.out.2.2.2]; omega) hq.out.symm (by rw [← HXY.out.1, ← HXY.out.2]; have := HNE.out; omega)
            rw [HZ.out]; unfold sizeZ; rw [if_neg (by omega), if_neg (by omega)])
          clear hlt
          go_wp2_with fail
          go_region
          go_wp2_with fail
          go_region
          go_wp2_with fail
          change bodyPost Tryz.prog Tryz.f195 (fun e w' => e = .returned (.int .i64 z) ∧ Grew w w') .ret _ _
          go_ret
          exact ⟨by rw [HE.out]; rfl, H0.out.2.2.trans (hb.out.drew.drew)⟩
end Go.Proofs.YtjiiikeniocmfaaGreat

/- the document's numbers: Mul -/
set_option linter.unusedSimpArgs false
set_option linter.unusedVariables false
namespace Go.Proofs.YtjiiikeniocmfaaGreat
open Go.RowKit Go.Geo
attribute [local go_sem] Oper.semAt_some
/-- three numbers' cells, one behind the other. -/
theorem num_row4 (w : World) (a b c d : Array Value) (t : TypeId) : ((((w.alloc (.cells a t)).alloc (.cells b t)).alloc (.cells c t)).alloc (.cells d t)).heap[w.heap.size]? = some (.cells a t (0, 0)) ∧ ((((w.alloc (.cells a t)).alloc (.cells b t)).alloc (.cells c t)).alloc (.cells d t)).heap[w.heap.size + 1]? = some (.cells b t (0, 0)) ∧ ((((w.alloc (.cells a t)).alloc (.cells b t)).alloc (.cells c t)).alloc (.cells d t)).heap[w.heap.size + 1 + 1]? = some (.cells c t (0, 0)) ∧ ((((w.alloc (.cells a t)).alloc (.cells b t)).alloc (.cells c t)).alloc (.cells d t)).heap[w.heap.size + 1 + 1 + 1]? = some (.cells d t (0, 0)) := by
  refine ⟨?_, ?_, ?_, ?_⟩
  · exact (Below.heap_alloc _ _ _ (by simp only [World.size_alloc]; omega)).trans ((Below.heap_alloc _ _ _ (by simp only [World.size_alloc]; omega)).trans ((Below.heap_alloc _ _ _ (by simp)).trans (alloc_new _ _)))
  · exact (Below.heap_alloc _ _ _ (by simp only [World.size_alloc]; omega)).trans ((Below.heap_alloc _ _ _ (by simp only [World.size_alloc]; omega)).trans (alloc_new2 _ _ _))
  · have := alloc_new2 (w.alloc (.cells a t)) (.cells b t) (.cells c t)
    exact (Below.heap_alloc _ _ _ (by simp only [World.size_alloc]; omega)).trans (by simpa using this)
  · have := alloc_new2 ((w.alloc (.cells a t)).alloc (.cells b t)) (.cells c t) (.cells d t)
    simpa using this
theorem mul_val {n1 n2 : Bool} {X Y D : List Int} {x y : Int} (hx : Canon n1 X x) (hy : Canon n2 Y y) (f1 : Four X) (f2 : Four Y) (h : MulTo 4 0 X Y D) : Carry 0 (valD X * valD Y) D ∧ valD X * valD Y < 65536 ^ 12 ∧ x * y = if (n1 != n2) then -(valD X * valD Y) else valD X * valD Y := by
  obtain ⟨h1, h2, h3⟩ := h
  have e1 := f1.val hx.1
  have e2 := f2.val hy.1
  have hv : valD D = valD X * valD Y := by
    rw [h2, e1, e2]
    simp only [List.take_zero, valD, Int.mul_zero, Int.add_zero]
  refine ⟨?_, ?_, ?_⟩
  · rw [← hv]
    refine Carry.start h1 fun d hd => ?_
    obtain ⟨j, hj, rfl⟩ := List.mem_iff_getElem.1 hd
    have := h3 j (by omega)
    rw [List.getD_eq_getElem?_getD, List.getElem?_eq_getElem hj] at this
    simp only [Option.getD_some] at this
    omega
  · have r1 := valD_range (X.take 4) (fun d hd => hx.2.1 d (List.mem_of_mem_take hd))
    have r2 := valD_range (Y.take 4) (fun d hd => hy.2.1 d (List.mem_of_mem_take hd))
    rw [List.length_take, hx.1, e1] at r1
    rw [List.length_take, hy.1, e2] at r2
    have : valD X * valD Y ≤ 65536 ^ 4 * 65536 ^ 4 := Int.mul_le_mul (Int.le_of_lt r1.2) (Int.le_of_lt r2.2) r2.1 (by decide)
    have e : (65536 : Int) ^ 4 * 65536 ^ 4 < 65536 ^ 12 := by decide
    omega
  · rw [hx.2.2.1, hy.2.2.1]
    unfold numZ
    cases n1 <;> cases n2 <;> simp [Int.mul_neg, Int.neg_mul]
set_option maxRecDepth 100000 in
set_option maxHeartbeats 4000000 in
theorem Mul_num (n1 n2 : Bool) (D E : List Int) (x y : Int) (w : World) (hx : Canon n1 D x) (hy : Canon n2 E y) (f1 : Four D) (f2 : Four E) :
    Calls Tryz.prog 180 #[.agg (numA n1 D), .agg (numA n2 E)] w (NumR (x * y) w) := by
  have HX := Lib.hid (And.intro hx (And.intro hy (And.intro f1 f2)))
  obtain ⟨z, hz⟩ : ∃ z, z = x * y := ⟨_, rfl⟩
  rw [← hz]
  have HZ := Lib.hid hz
  obtain ⟨q, hq⟩ : ∃ q, q = (n1 != n2) := ⟨_, rfl⟩
  have HQ := Lib.hid hq
  have HCR := Lib.hid (fun F w h hv hzz => carried_any q F (valD D * valD E) z w h hv hzz)
  obtain ⟨W0, hW0⟩ : ∃ W, W = (((w.alloc (.cells (numA n1 D) 220)).alloc (.cells (numA n2 E) 220)).alloc (.cells (numA false [0,0,0,0,0,0,0,0,0,0,0,0]) 220)).alloc (.cells (numA q [0,0,0,0,0,0,0,0,0,0,0,0]) 220) := ⟨_, rfl⟩
  have hr4 := num_row4 w (numA n1 D) (numA n2 E) (numA false [0,0,0,0,0,0,0,0,0,0,0,0]) (numA q [0,0,0,0,0,0,0,0,0,0,0,0]) 220
  rw [← hW0] at hr4
  have hg0 : Grew w W0 := by rw [hW0]; exact ((((Grew.refl _).alloc _).alloc _).alloc _).alloc _
  have H0 := Lib.hid (And.intro hr4.1 (And.intro hr4.2.1 (And.intro hr4.2.2.1 (And.intro hr4.2.2.2 hg0))))
  simp only [numA_lit] at hW0
  have hs1 : (w.alloc (.cells (numA n1 D) 220)).heap[w.heap.size]? = _ := alloc_new _ _
  clear hx hy f1 f2 hz hr4 hg0 hs1
  have n1g : (numA n1 D)[0]? = some (.bool n1) := by simp [numA]
  have n2g : (numA n2 E)[0]? = some (.bool n2) := by simp [numA]
  have hbn : ∀ w, (binOp .neq 4 (.bool n1) (.bool n2)).run Tryz.prog w = .ok (.bool q) w := fun w => by rw [hq]; cases n1 <;> cases n2 <;> rfl
  clear hq
  go_enter Tryz.func180, Tryz.ntmps180
  go_wp2_with fail
  have e0 : numA false [0,0,0,0,0,0,0,0,0,0,0,0] = #[.bool false, .int .i64 0, .int .i64 0, .int .i64 0, .int .i64 0, .int .i64 0, .int .i64 0, .int .i64 0, .int .i64 0, .int .i64 0, .int .i64 0, .int .i64 0, .int .i64 0] := rfl
  try rw [← hW0]
  have HW0 := Lib.hid hW0
  clear hW0 n1g n2g hbn e0
  go_loopw [6] (fun i wr => ∃ k : Nat, k ≤ 4 ∧ i = .int .i64 k ∧ ∃ F, Hid (MulTo k 0 D E F ∧ wr.heap[w.heap.size]? = some (.cells (numA n1 D) 220 (0, 0)) ∧ wr.heap[w.heap.size + 1]? = some (.cells (numA n2 E) 220 (0, 0)) ∧ wr.heap[w.heap.size + 1 + 1]? = some (.cells (numA false [0,0,0,0,0,0,0,0,0,0,0,0]) 220 (0, 0)) ∧ wr.heap[w.heap.size + 1 + 1 + 1]? = some (.cells (numA q F) 220 (0, 0)) ∧ Grew w wr)) (fun i _ => 4 - (intOf i).toNat)
  case atStart => exact ⟨0, by omega, rfl, [0,0,0,0,0,0,0,0,0,0,0,0], Lib.hid ⟨MulTo.start D E, H0.out.1, H0.out.2.1, H0.out.2.2.1, H0.out.2.2.2.1, H0.out.2.2.2.2⟩⟩
  case round =>
    obtain ⟨i, hi, rfl, F, hr⟩ := hrel
    by_cases hlt : i < 4
    · have hi0 : (0 : Int) ≤ (i : Int) := by omega
      have hi5 : (i : Int) < 4 := by omega
      go_wp2_with fail
      go_loopw [7] (fun j wi => ∃ k : Nat, k ≤ 4 ∧ j = .int .i64 k ∧ ∃ F, Hid (MulTo i k D E F ∧ wi.heap[w.heap.size]? = some (.cells (numA n1 D) 220 (0, 0)) ∧ wi.heap[w.heap.size + 1]? = some (.cells (numA n2 E) 220 (0, 0)) ∧ wi.heap[w.heap.size + 1 + 1]? = some (.cells (numA false [0,0,0,0,0,0,0,0,0,0,0,0]) 220 (0, 0)) ∧ wi.heap[w.heap.size + 1 + 1 + 1]? = some (.cells (numA q F) 220 (0, 0)) ∧ Grew w wi)) (fun j _ => 4 - (intOf j).toNat)
      case atStart => exact ⟨0, by omega, rfl, F, hr⟩
      case round =>
        clear hr F
        obtain ⟨k, hk, rfl, F, hr⟩ := hrel
        by_cases hlt2 : k < 4
        · have hk0 : (0 : Int) ≤ (k : Int) := by omega
          have hk5 : (k : Int) < 4 := by omega
          have hik : (i : Int) + (k : Int) < 12 := by omega
          have hik0 : (0 : Int) ≤ (i : Int) + (k : Int) := by omega
          have hi12 : (i : Int) < 12 := by omega
          have hk12 : (k : Int) < 12 := by omega
          have x0 := num_cell hr.out.2.1 (i := i) (by rw [HX.out.1.1]; omega)
          have y0 := num_cell hr.out.2.2.1 (i := k) (by rw [HX.out.2.1.1]; omega)
          have z0 := num_cell hr.out.2.2.2.2.1 (i := i + k) (by rw [hr.out.1.1]; omega)
          have f0 := frozen_of_row _ (w.heap.size + 1 + 1 + 1) (1 + (i + k)) _ _ hr.out.2.2.2.2.1
          have rx := HX.out.1.2.1 _ (getD_mem (D := D) (i := i) (by rw [HX.out.1.1]; omega))
          have ry := HX.out.2.1.2.1 _ (getD_mem (D := E) (i := k) (by rw [HX.out.2.1.1]; omega))
          have rz := hr.out.1.2.2 (i + k) (by omega)
          have hst := hr.out.1.step HX.out.1.2.1 HX.out.2.1.2.1 HX.out.1.1 HX.out.2.1.1 hlt hlt2
          obtain ⟨x, hx⟩ : ∃ x, x = D.getD i 0 := ⟨_, rfl⟩
          obtain ⟨y, hy⟩ : ∃ x, x = E.getD k 0 := ⟨_, rfl⟩
          obtain ⟨v, hv⟩ : ∃ x, x = F.getD (i + k) 0 := ⟨_, rfl⟩
          rw [← hx] at x0 rx hst
          rw [← hy] at y0 ry hst
          rw [← hv] at z0 rz hst
          obtain ⟨rx1, rx2⟩ := rx
          obtain ⟨ry1, ry2⟩ := ry
          obtain ⟨rz1, rz2⟩ := rz
          have rz3 : v ≤ 68719476736 := by omega
          have m0 : 0 ≤ x * y := Int.mul_nonneg rx1 ry1
          have m1 : x * y ≤ 65535 * 65535 := Int.mul_le_mul (by omega) (by omega) ry1 (by decide)
          have m2 : x * y ≤ 4294836225 := m1
          have HST := Lib.hid hst
          have s1 : IntKind.i64.wrap (x * y) = x * y := IntWalk.i64_in _ (by omega)
          have s2 : IntKind.i64.wrap (v + x * y) = v + x * y := IntWalk.i64_in _ (by omega)
          have s3 : ((i : Int) + (k : Int)).toNat = i + k := by omega
          clear hx hy hv hst rz2 m1
          go_wp2_with fail
          go_region
          go_wp2_with fail
          go_roundw
          case rel =>
            refine ⟨k + 1, by omega, by go_num, _, Lib.hid ⟨HST.out, ?_, ?_, ?_, num_put hr.out.2.2.2.2.1 (i + k) (v + x * y), ?_⟩⟩
            · exact (heap_other (by omega)).trans hr.out.2.1
            · exact (heap_other (by omega)).trans hr.out.2.2.1
            · exact (heap_other (by omega)).trans hr.out.2.2.2.1
            · exact (grew_setCell hr.out.2.2.2.2.2 (by omega) _).drew
          case measure => simp [intOf]; omega
        · obtain rfl : k = 4 := by omega
          go_wp2_with fail
          refine ⟨⟨i + 1, by omega, by go_num, F, Lib.hid ⟨hr.out.1.next HX.out.1.1 hlt, hr.out.2⟩⟩, by simp [intOf]; omega⟩
    · obtain rfl : i = 4 := by omega
      have hmv := mul_val HX.out.1 HX.out.2.1 HX.out.2.2.1 HX.out.2.2.2 hr.out.1
      have hcr := fun w => HCR.out F w hmv.1 hmv.2.1 (by rw [HZ.out, hmv.2.2, ← HQ.out])
      obtain ⟨d0, d1, d2, d3, d4, d5, d6, d7, d8, d9, d10, d11, rfl⟩ := twelve hr.out.1.1
      obtain ⟨x0, x1, x2, x3, x4, x5, x6, x7, x8, x9, x10, x11, x12⟩ := num13 hr.out.2.2.2.2.1
      rw [numA_lit] at hcr
      have HC := Lib.hid hcr
      clear hmv hcr
      go_wp2_with fail
      refine (HC.out _).mono ?_
      rintro e w3 ⟨n3, D3, rfl, hc3, hg3⟩
      obtain ⟨e0, e1, e2, e3, e4, e5, e6, e7, e8, e9, e10, e11, rfl⟩ := twelve hc3.1
      have p1 := (hg3.1.block _ (heap_ltN hr.out.2.2.2.1)).trans hr.out.2.2.2.1
      have H3 := Lib.hid (And.intro (hr.out.2.2.2.2.2.trans hg3) p1)
      have HC3 := Lib.hid hc3
      obtain ⟨y0, y1, y2, y3, y4, y5, y6, y7, y8, y9, y10, y11, y12⟩ := num13 p1
      obtain ⟨g0, g1, g2, g3, g4, g5, g6, g7, g8, g9, g10, g11, g12⟩ := fro13 p1
      rw [numA_lit]
      clear hg3 p1 hc3 x0 x1 x2 x3 x4 x5 x6 x7 x8 x9 x10 x11 x12
      go_wp2_with fail
      exact num_end (g := w.heap.size + 1 + 1) rfl rfl rfl (by omega) (Lib.hid ⟨H3.out.1, H3.out.2, rfl⟩) HC3 rfl
end Go.Proofs.YtjiiikeniocmfaaGreat

/- the document's numbers: Plus -/
set_option linter.unusedSimpArgs false
set_option linter.unusedVariables false
namespace Go.Proofs.YtjiiikeniocmfaaGreat
open Go.RowKit Go.Geo
attribute [local go_sem] Oper.semAt_some
theorem num_row3 (w : World) (a b c : Array Value) (t : TypeId) : (((w.alloc (.cells a t)).alloc (.cells b t)).alloc (.cells c t)).heap[w.heap.size]? = some (.cells a t (0, 0)) ∧ (((w.alloc (.cells a t)).alloc (.cells b t)).alloc (.cells c t)).heap[w.heap.size + 1]? = some (.cells b t (0, 0)) ∧ (((w.alloc (.cells a t)).alloc (.cells b t)).alloc (.cells c t)).heap[w.heap.size + 1 + 1]? = some (.cells c t (0, 0)) := by
  refine ⟨?_, ?_, ?_⟩
  · exact (Below.heap_alloc _ _ _ (by simp only [World.size_alloc]; omega)).trans ((Below.heap_alloc _ _ _ (by simp)).trans (alloc_new _ _))
  · exact (Below.heap_alloc _ _ _ (by simp only [World.size_alloc]; omega)).trans (alloc_new2 _ _ _)
  · have := alloc_new2 (w.alloc (.cells a t)) (.cells b t) (.cells c t)
    simpa using this
theorem addTo_done {X Y D : List Int} (h : AddTo 12 X Y D) (hy : Y.length = 12) : Carry 0 (valD X + valD Y) D := by
  obtain ⟨h1, h2, h3, _⟩ := h
  rw [List.take_of_length_le (by omega)] at h2
  rw [← h2]
  refine Carry.start h1 fun d hd => ?_
  obtain ⟨j, hj, rfl⟩ := List.mem_iff_getElem.1 hd
  have := h3 j (by omega)
  rw [List.getD_eq_getElem?_getD, List.getElem?_eq_getElem hj] at this
  simp only [Option.getD_some] at this
  omega
theorem subTo_digits {X Y D : List Int} (h : SubTo 12 X Y D) (hy : Y.length = 12) (hle : valD Y ≤ valD X) (hX : valD X < 65536 ^ 12) (hY : 0 ≤ valD Y) : Digits D ∧ D.length = 12 ∧ valD D = valD X - valD Y := by
  obtain ⟨k1, k2⟩ := h.done hy hle
  obtain ⟨h1, h2, h3, _, _⟩ := h
  refine ⟨fun d hd => ?_, h1, k2⟩
  have hs := valD_split D 11 (by omega)
  have hlow := valD_nonneg (D.take 11) (fun x hx => k1 x (List.mem_of_mem_take hx))
  have hdd : valD (D.drop 11) = D.getD 11 0 := by
    rw [drop_get (by omega), List.drop_of_length_le (by omega), valD, valD]; omega
  rw [hdd, k2] at hs
  have hd0 := k1 d hd
  obtain ⟨j, hj, rfl⟩ := List.mem_iff_getElem.1 hd
  have e : D[j] = D.getD j 0 := by rw [List.getD_eq_getElem?_getD, List.getElem?_eq_getElem hj]; rfl
  rw [e] at hd0 ⊢
  refine ⟨hd0, ?_⟩
  by_cases hj2 : j < 11
  · exact (h3 j (by omega) hj2).2
  · obtain rfl : j = 11 := by omega
    generalize D.getD 11 0 = x at *
    have e2 : (65536 : Int) ^ 12 = 65536 ^ 11 * 65536 := rfl
    rw [e2] at hX
    have hp : (0 : Int) < 65536 ^ 11 := pow_pos' 11
    generalize (65536 : Int) ^ 11 = p at *
    by_cases hx : x < 65536
    · exact hx
    · exfalso
      have := Int.mul_le_mul_of_nonneg_left (show 65536 ≤ x by omega) (Int.le_of_lt hp)
      omega
set_option maxRecDepth 100000 in
set_option maxHeartbeats 4000000 in
theorem Plus_same (n1 n2 : Bool) (D E : List Int) (x y z : Int) (w : World) (hx : Canon n1 D x) (hy : Canon n2 E y) (hn : n1 = n2) (hb : valD D + valD E < 65536 ^ 12) (hz : z = x + y) :
    Calls Tryz.prog 181 #[.agg (numA n1 D), .agg (numA n2 E)] w (NumR z w) := by
  have HX := Lib.hid (And.intro hx hy)
  have hzz : z = if n1 then -(valD D + valD E) else valD D + valD E := by
    rw [hz, hx.2.2.1, hy.2.2.1]; unfold numZ; subst hn; cases n1
    · rfl
    · simp; omega
  have hcr0 := fun F w h => carried_any n1 F (valD D + valD E) z w h hb hzz
  have HCR := Lib.hid hcr0
  have hbn : ∀ w, (binOp .eql 4 (.bool n1) (.bool n2)).run Tryz.prog w = .ok (.bool true) w := fun w => by subst hn; cases n1 <;> rfl
  obtain ⟨W0, hW0⟩ : ∃ W, W = ((w.alloc (.cells (numA n1 D) 220)).alloc (.cells (numA n2 E) 220)).alloc (.cells (numA false [0,0,0,0,0,0,0,0,0,0,0,0]) 220) := ⟨_, rfl⟩
  have hr3 := num_row3 w (numA n1 D) (numA n2 E) (numA false [0,0,0,0,0,0,0,0,0,0,0,0]) 220
  rw [← hW0] at hr3
  have hg0 : Grew w W0 := by rw [hW0]; exact (((Grew.refl _).alloc _).alloc _).alloc _
  have H0 := Lib.hid (And.intro hr3.1 (And.intro hr3.2.1 (And.intro hr3.2.2 hg0)))
  have c0 := num_sign hr3.1
  have c1 := num_sign hr3.2.1
  simp only [numA_lit] at hW0
  clear hr3 hg0
  clear hx hy hn hb hz hzz hcr0
  go_enter Tryz.func181, Tryz.ntmps181
  go_upto_region 1 with fail
  rw [← hW0]
  have HW0 := Lib.hid hW0
  clear hW0
  go_wp2_with fail
  clear c0 c1 hbn
  go_loopw [5] (fun i wr => ∃ k : Nat, k ≤ 12 ∧ i = .int .i64 k ∧ ∃ F, Hid (AddTo k D E F ∧ wr.heap[w.heap.size]? = some (.cells (numA n1 F) 220 (0, 0)) ∧ wr.heap[w.heap.size + 1]? = some (.cells (numA n2 E) 220 (0, 0)) ∧ wr.heap[w.heap.size + 1 + 1]? = some (.cells (numA false [0,0,0,0,0,0,0,0,0,0,0,0]) 220 (0, 0)) ∧ Grew w wr)) (fun i _ => 12 - (intOf i).toNat)
  case atStart => exact ⟨0, by omega, rfl, D, Lib.hid ⟨AddTo.start HX.out.1.2.1 HX.out.1.1, H0.out.1, H0.out.2.1, H0.out.2.2.1, H0.out.2.2.2⟩⟩
  case round =>
    obtain ⟨k, hk, rfl, F, hr⟩ := hrel
    by_cases hlt : k < 12
    · have hk0 : (0 : Int) ≤ (k : Int) := by omega
      have hk5 : (k : Int) < 12 := by omega
      have x0 := num_cell hr.out.2.1 (i := k) (by rw [hr.out.1.1]; omega)
      have y0 := num_cell hr.out.2.2.1 (i := k) (by rw [HX.out.2.1]; omega)
      have f0 := frozen_of_row _ w.heap.size (1 + k) _ _ hr.out.2.1
      have ry := HX.out.2.2.1 _ (getD_mem (D := E) (i := k) (by rw [HX.out.2.1]; omega))
      have rx := hr.out.1.2.2.1 k hlt
      have hst := hr.out.1.step HX.out.1.2.1 HX.out.2.2.1 HX.out.1.1 HX.out.2.1 hlt
      obtain ⟨a, ha⟩ : ∃ x, x = F.getD k 0 := ⟨_, rfl⟩
      obtain ⟨b, hb⟩ : ∃ x, x = E.getD k 0 := ⟨_, rfl⟩
      rw [← ha] at x0 rx hst
      rw [← hb] at y0 ry hst
      obtain ⟨rx1, rx2⟩ := rx
      obtain ⟨ry1, ry2⟩ := ry
      have HST := Lib.hid hst
      have s1 : IntKind.i64.wrap (a + b) = a + b := IntWalk.i64_in _ (by omega)
      clear ha hb hst
      go_wp2_with fail
      go_region
      go_wp2_with fail
      go_roundw
      case rel =>
        refine ⟨k + 1, by omega, by go_num, _, Lib.hid ⟨HST.out, num_put hr.out.2.1 k (a + b), ?_, ?_, ?_⟩⟩
        · exact (heap_other (by omega)).trans hr.out.2.2.1
        · exact (heap_other (by omega)).trans hr.out.2.2.2.1
        · exact (grew_setCell hr.out.2.2.2.2 (Nat.le_refl _) _).drew
      case measure => simp [intOf]; omega
    · obtain rfl : k = 12 := by omega
      have hF := hr.out.1.1
      have hcr := fun w => HCR.out F w (addTo_done (X := D) (Y := E) hr.out.1 HX.out.2.1)
      obtain ⟨d0, d1, d2, d3, d4, d5, d6, d7, d8, d9, d10, d11, rfl⟩ := twelve hF
      obtain ⟨x0, x1, x2, x3, x4, x5, x6, x7, x8, x9, x10, x11, x12⟩ := num13 hr.out.2.1
      rw [numA_lit] at hcr
      have HC := Lib.hid hcr
      clear hcr hF
      go_wp2_with fail
      refine (HC.out _).mono ?_
      rintro e w3 ⟨n3, D3, rfl, hc3, hg3⟩
      obtain ⟨e0, e1, e2, e3, e4, e5, e6, e7, e8, e9, e10, e11, rfl⟩ := twelve hc3.1
      have p1 := (hg3.1.block _ (heap_ltN hr.out.2.2.2.1)).trans hr.out.2.2.2.1
      have H3 := Lib.hid (And.intro (hr.out.2.2.2.2.trans hg3) p1)
      have HC3 := Lib.hid hc3
      obtain ⟨y0, y1, y2, y3, y4, y5, y6, y7, y8, y9, y10, y11, y12⟩ := num13 p1
      obtain ⟨g0, g1, g2, g3, g4, g5, g6, g7, g8, g9, g10, g11, g12⟩ := fro13 p1
      rw [numA_lit]
      clear hg3 p1 hc3 x0 x1 x2 x3 x4 x5 x6 x7 x8 x9 x10 x11 x12
      go_wp2_with fail
      first
        | exact num_end (g := w.heap.size + 1 + 1) rfl rfl rfl (by omega) (Lib.hid ⟨H3.out.1, H3.out.2, rfl⟩) HC3 rfl
        | (change bodyPost Tryz.prog Tryz.f181 (NumR z w) .ret _ _
           exact num_end (g := w.heap.size + 1 + 1) rfl rfl rfl (by omega) (Lib.hid ⟨H3.out.1, H3.out.2, rfl⟩) HC3 rfl)
set_option maxRecDepth 100000 in
set_option maxHeartbeats 4000000 in
theorem Plus_ge (n1 n2 : Bool) (D E : List Int) (x y z : Int) (w : World) (hx : Canon n1 D x) (hy : Canon n2 E y) (hn : n1 ≠ n2) (hle : valD E ≤ valD D) (hz : z = x + y) :
    Calls Tryz.prog 181 #[.agg (numA n1 D), .agg (numA n2 E)] w (NumR z w) := by
  have HX := Lib.hid (And.intro hx hy)
  have hzz : z = if n1 then -(valD D - valD E) else valD D - valD E := by
    rw [hz, hx.2.2.1, hy.2.2.1]; unfold numZ
    cases n1 <;> cases n2 <;> simp at hn ⊢ <;> omega
  have hcr0 := fun F w h hb => carried_any n1 F (valD D - valD E) z w h hb hzz
  have HCR := Lib.hid hcr0
  have HLE := Lib.hid hle
  have hbn : ∀ w, (binOp .eql 4 (.bool n1) (.bool n2)).run Tryz.prog w = .ok (.bool false) w := fun w => by cases n1 <;> cases n2 <;> simp at hn <;> rfl
  have hsz := fun w => size_num n1 D n2 E w hx.2.1 hy.2.1 hx.1 hy.1
  obtain ⟨sz, hsz2⟩ : ∃ s, s = sizeZ (valD D) (valD E) := ⟨_, rfl⟩
  rw [← hsz2] at hsz
  have hs0 : 0 ≤ sz := by rw [hsz2]; unfold sizeZ; rw [if_neg (by omega)]; split <;> omega
  have t1 : decide (sz < 0) = false := decide_eq_false (by omega)
  obtain ⟨d0, d1, d2, d3, d4, d5, d6, d7, d8, d9, d10, d11, hD⟩ := twelve hx.1
  obtain ⟨e0, e1, e2, e3, e4, e5, e6, e7, e8, e9, e10, e11, hE⟩ := twelve hy.1
  have HSZ : Hid (∀ w, Calls Tryz.prog 195 #[.agg #[.bool n1, .int .i64 d0, .int .i64 d1, .int .i64 d2, .int .i64 d3, .int .i64 d4, .int .i64 d5, .int .i64 d6, .int .i64 d7, .int .i64 d8, .int .i64 d9, .int .i64 d10, .int .i64 d11], .agg #[.bool n2, .int .i64 e0, .int .i64 e1, .int .i64 e2, .int .i64 e3, .int .i64 e4, .int .i64 e5, .int .i64 e6, .int .i64 e7, .int .i64 e8, .int .i64 e9, .int .i64 e10, .int .i64 e11]] w fun e w' => e = .returned (.int .i64 sz) ∧ Grew w w') := Lib.hid (by rw [hD, hE] at hsz; exact hsz)
  obtain ⟨W0, hW0⟩ : ∃ W, W = ((w.alloc (.cells (numA n1 D) 220)).alloc (.cells (numA n2 E) 220)).alloc (.cells (numA false [0,0,0,0,0,0,0,0,0,0,0,0]) 220) := ⟨_, rfl⟩
  have hr3 := num_row3 w (numA n1 D) (numA n2 E) (numA false [0,0,0,0,0,0,0,0,0,0,0,0]) 220
  rw [← hW0] at hr3
  have hg0 : Grew w W0 := by rw [hW0]; exact (((Grew.refl _).alloc _).alloc _).alloc _
  have H0 := Lib.hid (And.intro hr3.1 (And.intro hr3.2.1 (And.intro hr3.2.2 hg0)))
  have c0 := num_sign hr3.1
  have c1 := num_sign hr3.2.1
  simp only [numA_lit] at hW0
  clear hr3 hg0
  have HDE := Lib.hid (And.intro hD hE)
  clear hx hy hn hle hz hzz hcr0 hsz hsz2 hs0 hD hE
  go_enter Tryz.func181, Tryz.ntmps181
  go_upto_region 1 with fail
  rw [← hW0]
  have HW0 := Lib.hid hW0
  clear hW0
  have hrD := H0.out.1
  have hrE := H0.out.2.1
  rw [HDE.out.1] at hrD
  rw [HDE.out.2] at hrE
  obtain ⟨x0, x1, x2, x3, x4, x5, x6, x7, x8, x9, x10, x11, x12⟩ := num13 hrD
  obtain ⟨y0, y1, y2, y3, y4, y5, y6, y7, y8, y9, y10, y11, y12⟩ := num13 hrE
  clear hrD hrE
  go_wp2_with fail
  refine (HSZ.out _).mono ?_
  rintro e w1 ⟨rfl, hg1⟩
  have H1 := Lib.hid (And.intro ((hg1.1.block _ (heap_ltN H0.out.1)).trans H0.out.1) (And.intro ((hg1.1.block _ (heap_ltN H0.out.2.1)).trans H0.out.2.1) (And.intro ((hg1.1.block _ (heap_ltN H0.out.2.2.1)).trans H0.out.2.2.1) (H0.out.2.2.2.trans hg1))))
  clear hg1 c0 c1 hbn x0 x1 x2 x3 x4 x5 x6 x7 x8 x9 x10 x11 x12 y0 y1 y2 y3 y4 y5 y6 y7 y8 y9 y10 y11 y12
  go_wp2_with fail
  clear t1
  go_loopw [6] (fun i wr => ∃ k : Nat, k ≤ 12 ∧ i = .int .i64 k ∧ ∃ F, Hid (SubTo k D E F ∧ wr.heap[w.heap.size]? = some (.cells (numA n1 F) 220 (0, 0)) ∧ wr.heap[w.heap.size + 1]? = some (.cells (numA n2 E) 220 (0, 0)) ∧ wr.heap[w.heap.size + 1 + 1]? = some (.cells (numA false [0,0,0,0,0,0,0,0,0,0,0,0]) 220 (0, 0)) ∧ Grew w wr)) (fun i _ => 12 - (intOf i).toNat)
  case atStart => exact ⟨0, by omega, rfl, D, Lib.hid ⟨SubTo.start HX.out.1.1, H1.out.1, H1.out.2.1, H1.out.2.2.1, H1.out.2.2.2⟩⟩
  case round =>
    obtain ⟨k, hk, rfl, F, hr⟩ := hrel
    by_cases hlt : k < 12
    · have hk0 : (0 : Int) ≤ (k : Int) := by omega
      have hk5 : (k : Int) < 12 := by omega
      have x0 := num_cell hr.out.2.1 (i := k) (by rw [hr.out.1.1]; omega)
      have y0 := num_cell hr.out.2.2.1 (i := k) (by rw [HX.out.2.1]; omega)
      have f0 := frozen_of_row _ w.heap.size (1 + k) _ _ hr.out.2.1
      have ry := HX.out.2.2.1 _ (getD_mem (D := E) (i := k) (by rw [HX.out.2.1]; omega))
      have rd := HX.out.1.2.1 _ (getD_mem (D := D) (i := k) (by rw [HX.out.1.1]; omega))
      have rx := hr.out.1.2.2.2.1 hlt
      obtain ⟨a, ha⟩ : ∃ x, x = F.getD k 0 := ⟨_, rfl⟩
      obtain ⟨b, hb⟩ : ∃ x, x = E.getD k 0 := ⟨_, rfl⟩
      have HAB := Lib.hid (And.intro ha hb)
      rw [← ha] at x0 rx
      rw [← hb] at y0 ry
      have rx1 : -1 ≤ a := by omega
      have rx2 : a ≤ 65535 := by omega
      obtain ⟨ry1, ry2⟩ := ry
      obtain ⟨v, hv⟩ : ∃ v, v = a - b := ⟨_, rfl⟩
      have s1 : IntKind.i64.wrap (a - b) = v := by rw [hv]; exact IntWalk.i64_in _ (by omega)
      have HV := Lib.hid hv
      have v1 : -65536 ≤ v := by omega
      have v2 : v ≤ 65535 := by omega
      have p1 := num_put hr.out.2.1 k v
      obtain ⟨W4, hW4⟩ : ∃ W, W = (wr.setCell ⟨w.heap.size, 1 + k, none⟩ (.int .i64 v)).drew := ⟨_, rfl⟩
      have p1 : W4.heap[w.heap.size]? = some (.cells (numA n1 (F.set k v)) 220 (0, 0)) := by rw [hW4]; exact p1
      have p2 : W4.heap[w.heap.size + 1]? = some (.cells (numA n2 E) 220 (0, 0)) := by rw [hW4]; exact (heap_other (by omega)).trans hr.out.2.2.1
      have p3 : W4.heap[w.heap.size + 1 + 1]? = some (.cells (numA false [0,0,0,0,0,0,0,0,0,0,0,0]) 220 (0, 0)) := by rw [hW4]; exact (heap_other (by omega)).trans hr.out.2.2.2.1
      have p4 : Grew w W4 := by rw [hW4]; exact (grew_setCell hr.out.2.2.2.2 (Nat.le_refl _) _).drew
      have hFl := hr.out.1.1
      have z0 := num_cell p1 (i := k) (by simp; omega)
      rw [getD_set (by omega), if_pos rfl] at z0
      have g0 := frozen_of_row _ w.heap.size (1 + k) _ _ p1
      have H4 := Lib.hid (And.intro p1 (And.intro p2 (And.intro p3 p4)))
      have hundef : ∀ b, some undef = some (Value.bool b) → False := fun b h => by injection h with h; cases h
      clear ha hb rx rd p1 p2 p3 p4 hv
      go_wp2_with fail
      go_region
      try rw [← hW4]
      clear hW4 x0 y0 f0 s1
      by_cases hneg : v < 0
      · have t1 : decide (v < 0) = true := decide_eq_true hneg
        by_cases h11 : k < 11
        · have t2 : decide ((k : Int) < 11) = true := decide_eq_true (by omega)
          have hst := hr.out.1.lend HX.out.1.2.1 HX.out.2.2.1 HX.out.1.1 HX.out.2.1 h11 (by rw [← HAB.out.1, ← HAB.out.2, ← HV.out]; exact hneg)
          rw [← HAB.out.1, ← HAB.out.2, ← HV.out] at hst
          have hn1 := hr.out.1.2.2.2.2 (k + 1) (by omega)
          have rd := HX.out.1.2.1 _ (getD_mem (D := D) (i := k + 1) (by rw [HX.out.1.1]; omega))
          rw [← hn1] at rd
          obtain ⟨u, hu⟩ : ∃ u, u = F.getD (k + 1) 0 := ⟨_, rfl⟩
          rw [← hu] at hst rd
          have HST := Lib.hid hst
          have p5 := num_put H4.out.1 k (v + 65536)
          have hu2 : (((F.set k v).set k (v + 65536))).getD (k + 1) 0 = u := by rw [getD_set (by simp; omega), if_neg (by omega), getD_set (by omega), if_neg (by omega), hu]
          have z1 := num_cell p5 (i := k + 1) (by simp; omega)
          rw [hu2] at z1
          have g1 := frozen_of_row _ w.heap.size (1 + (k + 1)) _ _ p5
          have hss : (F.set k v).set k (v + 65536) = F.set k (v + 65536) := by simp
          rw [hss] at p5
          have p6 := num_put p5 (k + 1) (u - 1)
          have H6 := Lib.hid p6
          obtain ⟨rd1, rd2⟩ := rd
          have hk1 : (0 : Int) ≤ (k : Int) + 1 := by omega
          have hk2 : (k : Int) + 1 < 12 := by omega
          clear hst hn1 hu p5 hu2 hss p6 hneg
          go_wp2_with fail
          go_roundw
          case rel =>
            refine ⟨k + 1, by omega, by go_num, _, Lib.hid ⟨HST.out, H6.out, ?_, ?_, ?_⟩⟩
            · exact (heap_other (by omega)).trans ((heap_other (by omega)).trans H4.out.2.1)
            · exact (heap_other (by omega)).trans ((heap_other (by omega)).trans H4.out.2.2.1)
            · exact grew_setCell (grew_setCell H4.out.2.2.2 (Nat.le_refl _) _) (Nat.le_refl _) _
          case measure => simp [intOf]; omega
        · obtain rfl : k = 11 := by omega
          have hst := hr.out.1.step HX.out.1.2.1 HX.out.2.2.1 HX.out.1.1 HX.out.2.1 hlt (.inr rfl)
          rw [← HAB.out.1, ← HAB.out.2, ← HV.out] at hst
          have HST := Lib.hid hst
          clear hst hneg
          go_wp2_with fail
          go_roundw
          case rel => exact ⟨12, by omega, by rfl, _, Lib.hid ⟨HST.out, H4.out.1, H4.out.2.1, H4.out.2.2.1, H4.out.2.2.2⟩⟩
          case measure => simp [intOf]
      · have t1 : decide (v < 0) = false := decide_eq_false hneg
        have hst := hr.out.1.step HX.out.1.2.1 HX.out.2.2.1 HX.out.1.1 HX.out.2.1 hlt (.inl (by rw [← HAB.out.1, ← HAB.out.2, ← HV.out]; omega))
        rw [← HAB.out.1, ← HAB.out.2, ← HV.out] at hst
        have HST := Lib.hid hst
        clear hst hneg
        go_wp2_with fail
        all_goals first
          | (exfalso; exact hundef _ (by assumption))
          | skip
        go_roundw
        case rel => exact ⟨k + 1, by omega, by go_num, _, Lib.hid ⟨HST.out, H4.out.1, H4.out.2.1, H4.out.2.2.1, H4.out.2.2.2⟩⟩
        case measure => simp [intOf]; omega
    · obtain rfl : k = 12 := by omega
      have hF := hr.out.1.1
      have hdg := subTo_digits (X := D) (Y := E) hr.out.1 HX.out.2.1 HLE.out (by have := (valD_range D HX.out.1.2.1).2; rw [HX.out.1.1] at this; exact this) (valD_range E HX.out.2.2.1).1
      have hcy := digits_carry hdg.1 hdg.2.1
      rw [hdg.2.2] at hcy
      have hcr := fun w => HCR.out F w hcy.1 hcy.2
      clear hdg hcy
      obtain ⟨d0, d1, d2, d3, d4, d5, d6, d7, d8, d9, d10, d11, rfl⟩ := twelve hF
      obtain ⟨x0, x1, x2, x3, x4, x5, x6, x7, x8, x9, x10, x11, x12⟩ := num13 hr.out.2.1
      rw [numA_lit] at hcr
      have HC := Lib.hid hcr
      clear hcr hF
      go_wp2_with fail
      refine (HC.out _).mono ?_
      rintro e w3 ⟨n3, D3, rfl, hc3, hg3⟩
      obtain ⟨e0, e1, e2, e3, e4, e5, e6, e7, e8, e9, e10, e11, rfl⟩ := twelve hc3.1
      have p1 := (hg3.1.block _ (heap_ltN hr.out.2.2.2.1)).trans hr.out.2.2.2.1
      have H3 := Lib.hid (And.intro (hr.out.2.2.2.2.trans hg3) p1)
      have HC3 := Lib.hid hc3
      obtain ⟨y0, y1, y2, y3, y4, y5, y6, y7, y8, y9, y10, y11, y12⟩ := num13 p1
      obtain ⟨g0, g1, g2, g3, g4, g5, g6, g7, g8, g9, g10, g11, g12⟩ := fro13 p1
      rw [numA_lit]
      clear hg3 p1 hc3 x0 x1 x2 x3 x4 x5 x6 x7 x8 x9 x10 x11 x12
      go_wp2_with fail
      first
        | exact num_end (g := w.heap.size + 1 + 1) rfl rfl rfl (by omega) (Lib.hid ⟨H3.out.1, H3.out.2, rfl⟩) HC3 rfl
        | (change bodyPost Tryz.prog Tryz.f181 (NumR z w) .ret _ _
           exact num_end (g := w.heap.size + 1 + 1) rfl rfl rfl (by omega) (Lib.hid ⟨H3.out.1, H3.out.2, rfl⟩) HC3 rfl)
set_option maxRecDepth 100000 in
set_option maxHeartbeats 4000000 in
theorem Plus_lt (n1 n2 : Bool) (D E : List Int) (x y z : Int) (w : World) (hx : Canon n1 D x) (hy : Canon n2 E y) (hn : n1 ≠ n2) (hlt : valD D < valD E) (hz : z = x + y) :
    Calls Tryz.prog 181 #[.agg (numA n1 D), .agg (numA n2 E)] w (NumR z w) := by
  have hpl := fun w => Plus_ge n2 n1 E D y x z w hy hx (fun h => hn h.symm) (Int.le_of_lt hlt) (by omega)
  have hbn : ∀ w, (binOp .eql 4 (.bool n1) (.bool n2)).run Tryz.prog w = .ok (.bool false) w := fun w => by cases n1 <;> cases n2 <;> simp at hn <;> rfl
  have hsz := fun w => size_num n1 D n2 E w hx.2.1 hy.2.1 hx.1 hy.1
  obtain ⟨sz, hsz2⟩ : ∃ s, s = sizeZ (valD D) (valD E) := ⟨_, rfl⟩
  rw [← hsz2] at hsz
  have hs0 : sz < 0 := by rw [hsz2]; unfold sizeZ; rw [if_pos hlt]; decide
  have t1 : decide (sz < 0) = true := decide_eq_true hs0
  obtain ⟨d0, d1, d2, d3, d4, d5, d6, d7, d8, d9, d10, d11, hD⟩ := twelve hx.1
  obtain ⟨e0, e1, e2, e3, e4, e5, e6, e7, e8, e9, e10, e11, hE⟩ := twelve hy.1
  have HSZ : Hid (∀ w, Calls Tryz.prog 195 #[.agg #[.bool n1, .int .i64 d0, .int .i64 d1, .int .i64 d2, .int .i64 d3, .int .i64 d4, .int .i64 d5, .int .i64 d6, .int .i64 d7, .int .i64 d8, .int .i64 d9, .int .i64 d10, .int .i64 d11], .agg #[.bool n2, .int .i64 e0, .int .i64 e1, .int .i64 e2, .int .i64 e3, .int .i64 e4, .int .i64 e5, .int .i64 e6, .int .i64 e7, .int .i64 e8, .int .i64 e9, .int .i64 e10, .int .i64 e11]] w fun e w' => e = .returned (.int .i64 sz) ∧ Grew w w') := Lib.hid (by rw [hD, hE] at hsz; exact hsz)
  have HPL : Hid (∀ w, Calls Tryz.prog 181 #[.agg #[.bool n2, .int .i64 e0, .int .i64 e1, .int .i64 e2, .int .i64 e3, .int .i64 e4, .int .i64 e5, .int .i64 e6, .int .i64 e7, .int .i64 e8, .int .i64 e9, .int .i64 e10, .int .i64 e11], .agg #[.bool n1, .int .i64 d0, .int .i64 d1, .int .i64 d2, .int .i64 d3, .int .i64 d4, .int .i64 d5, .int .i64 d6, .int .i64 d7, .int .i64 d8, .int .i64 d9, .int .i64 d10, .int .i64 d11]] w (NumR z w)) := Lib.hid (by rw [hD, hE] at hpl; exact hpl)
  obtain ⟨W0, hW0⟩ : ∃ W, W = ((w.alloc (.cells (numA n1 D) 220)).alloc (.cells (numA n2 E) 220)).alloc (.cells (numA false [0,0,0,0,0,0,0,0,0,0,0,0]) 220) := ⟨_, rfl⟩
  have hr3 := num_row3 w (numA n1 D) (numA n2 E) (numA false [0,0,0,0,0,0,0,0,0,0,0,0]) 220
  rw [← hW0] at hr3
  have hg0 : Grew w W0 := by rw [hW0]; exact (((Grew.refl _).alloc _).alloc _).alloc _
  have H0 := Lib.hid (And.intro hr3.1 (And.intro hr3.2.1 (And.intro hr3.2.2 hg0)))
  have c0 := num_sign hr3.1
  have c1 := num_sign hr3.2.1
  simp only [numA_lit] at hW0
  clear hr3 hg0
  have HDE := Lib.hid (And.intro hD hE)
  clear hx hy hn hlt hz hsz hsz2 hs0 hD hE hpl
  go_enter Tryz.func181, Tryz.ntmps181
  go_upto_region 1 with fail
  rw [← hW0]
  have HW0 := Lib.hid hW0
  clear hW0
  have hrD := H0.out.1
  have hrE := H0.out.2.1
  rw [HDE.out.1] at hrD
  rw [HDE.out.2] at hrE
  obtain ⟨x0, x1, x2, x3, x4, x5, x6, x7, x8, x9, x10, x11, x12⟩ := num13 hrD
  obtain ⟨y0, y1, y2, y3, y4, y5, y6, y7, y8, y9, y10, y11, y12⟩ := num13 hrE
  have HRD := Lib.hid (And.intro hrD hrE)
  clear hrD hrE
  go_wp2_with fail
  refine (HSZ.out _).mono ?_
  rintro e w1 ⟨rfl, hg1⟩
  have H1 := Lib.hid (And.intro ((hg1.1.block _ (heap_ltN H0.out.2.2.1)).trans H0.out.2.2.1) (H0.out.2.2.2.trans hg1))
  have r1 := (hg1.1.block _ (heap_ltN HRD.out.1)).trans HRD.out.1
  have r2 := (hg1.1.block _ (heap_ltN HRD.out.2)).trans HRD.out.2
  clear hg1 c0 c1 hbn x0 x1 x2 x3 x4 x5 x6 x7 x8 x9 x10 x11 x12 y0 y1 y2 y3 y4 y5 y6 y7 y8 y9 y10 y11 y12
  obtain ⟨x0, x1, x2, x3, x4, x5, x6, x7, x8, x9, x10, x11, x12⟩ := num13 r1
  obtain ⟨y0, y1, y2, y3, y4, y5, y6, y7, y8, y9, y10, y11, y12⟩ := num13 r2
  clear r1 r2
  go_wp2_with fail
  refine (HPL.out _).mono ?_
  rintro e w3 ⟨n3, D3, rfl, hc3, hg3⟩
  obtain ⟨q0, q1, q2, q3, q4, q5, q6, q7, q8, q9, q10, q11, rfl⟩ := twelve hc3.1
  have p1 := (hg3.1.block _ (heap_ltN H1.out.1)).trans H1.out.1
  have H3 := Lib.hid (And.intro (H1.out.2.trans hg3) p1)
  have HC3 := Lib.hid hc3
  clear x0 x1 x2 x3 x4 x5 x6 x7 x8 x9 x10 x11 x12 y0 y1 y2 y3 y4 y5 y6 y7 y8 y9 y10 y11 y12
  obtain ⟨y0, y1, y2, y3, y4, y5, y6, y7, y8, y9, y10, y11, y12⟩ := num13 p1
  obtain ⟨g0, g1, g2, g3, g4, g5, g6, g7, g8, g9, g10, g11, g12⟩ := fro13 p1
  rw [numA_lit]
  clear hg3 p1 hc3
  go_wp2_with fail
  first
    | exact num_end (g := w.heap.size + 1 + 1) rfl rfl rfl (by omega) (Lib.hid ⟨H3.out.1, H3.out.2, rfl⟩) HC3 rfl
    | (change bodyPost Tryz.prog Tryz.f181 (NumR z w) .ret _ _
       exact num_end (g := w.heap.size + 1 + 1) rfl rfl rfl (by omega) (Lib.hid ⟨H3.out.1, H3.out.2, rfl⟩) HC3 rfl)
theorem Plus_num (n1 n2 : Bool) (D E : List Int) (x y : Int) (w : World) (hx : Canon n1 D x) (hy : Canon n2 E y) (hb : valD D + valD E < 65536 ^ 12) :
    Calls Tryz.prog 181 #[.agg (numA n1 D), .agg (numA n2 E)] w (NumR (x + y) w) := by
  by_cases hn : n1 = n2
  · exact Plus_same n1 n2 D E x y _ w hx hy hn hb rfl
  · by_cases hle : valD E ≤ valD D
    · exact Plus_ge n1 n2 D E x y _ w hx hy hn hle rfl
    · exact Plus_lt n1 n2 D E x y _ w hx hy hn (by omega) rfl
end Go.Proofs.YtjiiikeniocmfaaGreat

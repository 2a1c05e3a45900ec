/- the document's numbers: Mul -/
import Derived.Test.YtlmmejdcjhbppaaMNum4
import Derived.IntWalk
set_option linter.unusedSimpArgs false
set_option linter.unusedVariables false
namespace Go.Proofs.Ytlmmejdcjhbppaa
open Go.RowKit Go.Geo
attribute [local go_sem] Oper.semAt_some
/-- three numbers' cells, one behind the other. -/
theorem num_row4 (w : World) (a b c d : Array Value) (t : TypeId) : ((((w.alloc (.cells a t)).alloc (.cells b t)).alloc (.cells c t)).alloc (.cells d t)).heap[w.heap.size]? = some (.cells a t (0, 0)) ∧ ((((w.alloc (.cells a t)).alloc (.cells b t)).alloc (.cells c t)).alloc (.cells d t)).heap[w.heap.size + 1]? = some (.cells b t (0, 0)) ∧ ((((w.alloc (.cells a t)).alloc (.cells b t)).alloc (.cells c t)).alloc (.cells d t)).heap[w.heap.size + 1 + 1]? = some (.cells c t (0, 0)) ∧ ((((w.alloc (.cells a t)).alloc (.cells b t)).alloc (.cells c t)).alloc (.cells d t)).heap[w.heap.size + 1 + 1 + 1]? = some (.cells d t (0, 0)) := by
  refine ⟨?_, ?_, ?_, ?_⟩
  · exact (Below.heap_alloc _ _ _ (by simp only [World.size_alloc]; omega)).trans ((Below.heap_alloc _ _ _ (by simp only [World.size_alloc]; omega)).trans ((Below.heap_alloc _ _ _ (by simp)).trans (alloc_new _ _)))
  · exact (Below.heap_alloc _ _ _ (by simp only [World.size_alloc]; omega)).trans ((Below.heap_alloc _ _ _ (by simp only [World.size_alloc]; omega)).trans (alloc_new2 _ _ _))
  · have := alloc_new2 (w.alloc (.cells a t)) (.cells b t) (.cells c t)
    exact (Below.heap_alloc _ _ _ (by simp only [World.size_alloc]; omega)).trans (by simpa using this)
  · have := alloc_new2 ((w.alloc (.cells a t)).alloc (.cells b t)) (.cells c t) (.cells d t)
    simpa using this
theorem mul_val {n1 n2 : Bool} {X Y D : List Int} {x y : Int} (hx : Canon n1 X x) (hy : Canon n2 Y y) (f1 : Four X) (f2 : Four Y) (h : MulTo 4 0 X Y D) : Carry 0 (valD X * valD Y) D ∧ valD X * valD Y < 65536 ^ 12 ∧ x * y = if (n1 != n2) then -(valD X * valD Y) else valD X * valD Y := by
  obtain ⟨h1, h2, h3⟩ := h
  have e1 := f1.val hx.1
  have e2 := f2.val hy.1
  have hv : valD D = valD X * valD Y := by
    rw [h2, e1, e2]
    simp only [List.take_zero, valD, Int.mul_zero, Int.add_zero]
  refine ⟨?_, ?_, ?_⟩
  · rw [← hv]
    refine Carry.start h1 fun d hd => ?_
    obtain ⟨j, hj, rfl⟩ := List.mem_iff_getElem.1 hd
    have := h3 j (by omega)
    rw [List.getD_eq_getElem?_getD, List.getElem?_eq_getElem hj] at this
    simp only [Option.getD_some] at this
    omega
  · have r1 := valD_range (X.take 4) (fun d hd => hx.2.1 d (List.mem_of_mem_take hd))
    have r2 := valD_range (Y.take 4) (fun d hd => hy.2.1 d (List.mem_of_mem_take hd))
    rw [List.length_take, hx.1, e1] at r1
    rw [List.length_take, hy.1, e2] at r2
    have : valD X * valD Y ≤ 65536 ^ 4 * 65536 ^ 4 := Int.mul_le_mul (Int.le_of_lt r1.2) (Int.le_of_lt r2.2) r2.1 (by decide)
    have e : (65536 : Int) ^ 4 * 65536 ^ 4 < 65536 ^ 12 := by decide
    omega
  · rw [hx.2.2.1, hy.2.2.1]
    unfold numZ
    cases n1 <;> cases n2 <;> simp [Int.mul_neg, Int.neg_mul]
end Go.Proofs.Ytlmmejdcjhbppaa

/- the document's numbers: Plus -/
set_option linter.unusedSimpArgs false
set_option linter.unusedVariables false
namespace Go.Proofs.Ytlmmejdcjhbppaa
open Go.RowKit Go.Geo
attribute [local go_sem] Oper.semAt_some
theorem num_row3 (w : World) (a b c : Array Value) (t : TypeId) : (((w.alloc (.cells a t)).alloc (.cells b t)).alloc (.cells c t)).heap[w.heap.size]? = some (.cells a t (0, 0)) ∧ (((w.alloc (.cells a t)).alloc (.cells b t)).alloc (.cells c t)).heap[w.heap.size + 1]? = some (.cells b t (0, 0)) ∧ (((w.alloc (.cells a t)).alloc (.cells b t)).alloc (.cells c t)).heap[w.heap.size + 1 + 1]? = some (.cells c t (0, 0)) := by
  refine ⟨?_, ?_, ?_⟩
  · exact (Below.heap_alloc _ _ _ (by simp only [World.size_alloc]; omega)).trans ((Below.heap_alloc _ _ _ (by simp)).trans (alloc_new _ _))
  · exact (Below.heap_alloc _ _ _ (by simp only [World.size_alloc]; omega)).trans (alloc_new2 _ _ _)
  · have := alloc_new2 (w.alloc (.cells a t)) (.cells b t) (.cells c t)
    simpa using this
theorem addTo_done {X Y D : List Int} (h : AddTo 12 X Y D) (hy : Y.length = 12) : Carry 0 (valD X + valD Y) D := by
  obtain ⟨h1, h2, h3, _⟩ := h
  rw [List.take_of_length_le (by omega)] at h2
  rw [← h2]
  refine Carry.start h1 fun d hd => ?_
  obtain ⟨j, hj, rfl⟩ := List.mem_iff_getElem.1 hd
  have := h3 j (by omega)
  rw [List.getD_eq_getElem?_getD, List.getElem?_eq_getElem hj] at this
  simp only [Option.getD_some] at this
  omega
theorem subTo_digits {X Y D : List Int} (h : SubTo 12 X Y D) (hy : Y.length = 12) (hle : valD Y ≤ valD X) (hX : valD X < 65536 ^ 12) (hY : 0 ≤ valD Y) : Digits D ∧ D.length = 12 ∧ valD D = valD X - valD Y := by
  obtain ⟨k1, k2⟩ := h.done hy hle
  obtain ⟨h1, h2, h3, _, _⟩ := h
  refine ⟨fun d hd => ?_, h1, k2⟩
  have hs := valD_split D 11 (by omega)
  have hlow := valD_nonneg (D.take 11) (fun x hx => k1 x (List.mem_of_mem_take hx))
  have hdd : valD (D.drop 11) = D.getD 11 0 := by
    rw [drop_get (by omega), List.drop_of_length_le (by omega), valD, valD]; omega
  rw [hdd, k2] at hs
  have hd0 := k1 d hd
  obtain ⟨j, hj, rfl⟩ := List.mem_iff_getElem.1 hd
  have e : D[j] = D.getD j 0 := by rw [List.getD_eq_getElem?_getD, List.getElem?_eq_getElem hj]; rfl
  rw [e] at hd0 ⊢
  refine ⟨hd0, ?_⟩
  by_cases hj2 : j < 11
  · exact (h3 j (by omega) hj2).2
  · obtain rfl : j = 11 := by omega
    generalize D.getD 11 0 = x at *
    have e2 : (65536 : Int) ^ 12 = 65536 ^ 11 * 65536 := rfl
    rw [e2] at hX
    have hp : (0 : Int) < 65536 ^ 11 := pow_pos' 11
    generalize (65536 : Int) ^ 11 = p at *
    by_cases hx : x < 65536
    · exact hx
    · exfalso
      have := Int.mul_le_mul_of_nonneg_left (show 65536 ≤ x by omega) (Int.le_of_lt hp)
      omega
set_option maxRecDepth 100000 in
set_option maxHeartbeats 4000000 in
theorem Plus_same (n1 n2 : Bool) (D E : List Int) (x y z : Int) (w : World) (hx : Canon n1 D x) (hy : Canon n2 E y) (hn : n1 = n2) (hb : valD D + valD E < 65536 ^ 12) (hz : z = x + y) :
    Calls Try.prog 78 #[.agg (numA n1 D), .agg (numA n2 E)] w (NumR z w) := by
  have HX := Lib.hid (And.intro hx hy)
  have hzz : z = if n1 then -(valD D + valD E) else valD D + valD E := by
    rw [hz, hx.2.2.1, hy.2.2.1]; unfold numZ; subst hn; cases n1
    · rfl
    · simp; omega
  have hcr0 := fun F w h => carried_any n1 F (valD D + valD E) z w h hb hzz
  have HCR := Lib.hid hcr0
  have hbn : ∀ w, (binOp .eql 4 (.bool n1) (.bool n2)).run Try.prog w = .ok (.bool true) w := fun w => by subst hn; cases n1 <;> rfl
  obtain ⟨W0, hW0⟩ : ∃ W, W = ((w.alloc (.cells (numA n1 D) 110)).alloc (.cells (numA n2 E) 110)).alloc (.cells (numA false [0,0,0,0,0,0,0,0,0,0,0,0]) 110) := ⟨_, rfl⟩
  have hr3 := num_row3 w (numA n1 D) (numA n2 E) (numA false [0,0,0,0,0,0,0,0,0,0,0,0]) 110
  rw [← hW0] at hr3
  have hg0 : Grew w W0 := by rw [hW0]; exact (((Grew.refl _).alloc _).alloc _).alloc _
  have H0 := Lib.hid (And.intro hr3.1 (And.intro hr3.2.1 (And.intro hr3.2.2 hg0)))
  have c0 := num_sign hr3.1
  have c1 := num_sign hr3.2.1
  simp only [numA_lit] at hW0
  clear hr3 hg0
  clear hx hy hn hb hz hzz hcr0
  go_enter Try.func78, Try.ntmps78
  go_upto_region 1 with fail
  rw [← hW0]
  have HW0 := Lib.hid hW0
  clear hW0
  go_wp2_with fail
  clear c0 c1 hbn
  go_loopw [5] (fun i wr => ∃ k : Nat, k ≤ 12 ∧ i = .int .i64 k ∧ ∃ F, Hid (AddTo k D E F ∧ wr.heap[w.heap.size]? = some (.cells (numA n1 F) 110 (0, 0)) ∧ wr.heap[w.heap.size + 1]? = some (.cells (numA n2 E) 110 (0, 0)) ∧ wr.heap[w.heap.size + 1 + 1]? = some (.cells (numA false [0,0,0,0,0,0,0,0,0,0,0,0]) 110 (0, 0)) ∧ Grew w wr)) (fun i _ => 12 - (intOf i).toNat)
  case atStart => exact ⟨0, by omega, rfl, D, Lib.hid ⟨AddTo.start HX.out.1.2.1 HX.out.1.1, H0.out.1, H0.out.2.1, H0.out.2.2.1, H0.out.2.2.2⟩⟩
  case round =>
    obtain ⟨k, hk, rfl, F, hr⟩ := hrel
    by_cases hlt : k < 12
    · have hk0 : (0 : Int) ≤ (k : Int) := by omega
      have hk5 : (k : Int) < 12 := by omega
      have x0 := num_cell hr.out.2.1 (i := k) (by rw [hr.out.1.1]; omega)
      have y0 := num_cell hr.out.2.2.1 (i := k) (by rw [HX.out.2.1]; omega)
      have f0 := frozen_of_row _ w.heap.size (1 + k) _ _ hr.out.2.1
      have ry := HX.out.2.2.1 _ (getD_mem (D := E) (i := k) (by rw [HX.out.2.1]; omega))
      have rx := hr.out.1.2.2.1 k hlt
      have hst := hr.out.1.step HX.out.1.2.1 HX.out.2.2.1 HX.out.1.1 HX.out.2.1 hlt
      obtain ⟨a, ha⟩ : ∃ x, x = F.getD k 0 := ⟨_, rfl⟩
      obtain ⟨b, hb⟩ : ∃ x, x = E.getD k 0 := ⟨_, rfl⟩
      rw [← ha] at x0 rx hst
      rw [← hb] at y0 ry hst
      obtain ⟨rx1, rx2⟩ := rx
      obtain ⟨ry1, ry2⟩ := ry
      have HST := Lib.hid hst
      have s1 : IntKind.i64.wrap (a + b) = a + b := IntWalk.i64_in _ (by omega)
      clear ha hb hst
      go_wp2_with fail
      go_region
      go_wp2_with fail
      go_roundw
      case rel =>
        refine ⟨k + 1, by omega, by go_num, _, Lib.hid ⟨HST.out, num_put hr.out.2.1 k (a + b), ?_, ?_, ?_⟩⟩
        · exact (heap_other (by omega)).trans hr.out.2.2.1
        · exact (heap_other (by omega)).trans hr.out.2.2.2.1
        · exact (grew_setCell hr.out.2.2.2.2 (Nat.le_refl _) _).drew
      case measure => simp [intOf]; omega
    · obtain rfl : k = 12 := by omega
      have hF := hr.out.1.1
      have hcr := fun w => HCR.out F w (addTo_done (X := D) (Y := E) hr.out.1 HX.out.2.1)
      obtain ⟨d0, d1, d2, d3, d4, d5, d6, d7, d8, d9, d10, d11, rfl⟩ := twelve hF
      obtain ⟨x0, x1, x2, x3, x4, x5, x6, x7, x8, x9, x10, x11, x12⟩ := num13 hr.out.2.1
      rw [numA_lit] at hcr
      have HC := Lib.hid hcr
      clear hcr hF
      go_wp2_with fail
      refine (HC.out _).mono ?_
      rintro e w3 ⟨n3, D3, rfl, hc3, hg3⟩
      obtain ⟨e0, e1, e2, e3, e4, e5, e6, e7, e8, e9, e10, e11, rfl⟩ := twelve hc3.1
      have p1 := (hg3.1.block _ (heap_ltN hr.out.2.2.2.1)).trans hr.out.2.2.2.1
      have H3 := Lib.hid (And.intro (hr.out.2.2.2.2.trans hg3) p1)
      have HC3 := Lib.hid hc3
      obtain ⟨y0, y1, y2, y3, y4, y5, y6, y7, y8, y9, y10, y11, y12⟩ := num13 p1
      obtain ⟨g0, g1, g2, g3, g4, g5, g6, g7, g8, g9, g10, g11, g12⟩ := fro13 p1
      rw [numA_lit]
      clear hg3 p1 hc3 x0 x1 x2 x3 x4 x5 x6 x7 x8 x9 x10 x11 x12
      go_wp2_with fail
      first
        | exact num_end (g := w.heap.size + 1 + 1) rfl rfl rfl (by omega) (Lib.hid ⟨H3.out.1, H3.out.2, rfl⟩) HC3 rfl
        | (change bodyPost Try.prog Try.f78 (NumR z w) .ret _ _
           exact num_end (g := w.heap.size + 1 + 1) rfl rfl rfl (by omega) (Lib.hid ⟨H3.out.1, H3.out.2, rfl⟩) HC3 rfl)
set_option maxRecDepth 100000 in
set_option maxHeartbeats 4000000 in
theorem Plus_ge (n1 n2 : Bool) (D E : List Int) (x y z : Int) (w : World) (hx : Canon n1 D x) (hy : Canon n2 E y) (hn : n1 ≠ n2) (hle : valD E ≤ valD D) (hz : z = x + y) :
    Calls Try.prog 78 #[.agg (numA n1 D), .agg (numA n2 E)] w (NumR z w) := by
  have HX := Lib.hid (And.intro hx hy)
  have hzz : z = if n1 then -(valD D - valD E) else valD D - valD E := by
    rw [hz, hx.2.2.1, hy.2.2.1]; unfold numZ
    cases n1 <;> cases n2 <;> simp at hn ⊢ <;> omega
  have hcr0 := fun F w h hb => carried_any n1 F (valD D - valD E) z w h hb hzz
  have HCR := Lib.hid hcr0
  have HLE := Lib.hid hle
  have hbn : ∀ w, (binOp .eql 4 (.bool n1) (.bool n2)).run Try.prog w = .ok (.bool false) w := fun w => by cases n1 <;> cases n2 <;> simp at hn <;> rfl
  have hsz := fun w => size_num n1 D n2 E w hx.2.1 hy.2.1 hx.1 hy.1
  obtain ⟨sz, hsz2⟩ : ∃ s, s = sizeZ (valD D) (valD E) := ⟨_, rfl⟩
  rw [← hsz2] at hsz
  have hs0 : 0 ≤ sz := by rw [hsz2]; unfold sizeZ; rw [if_neg (by omega)]; split <;> omega
  have t1 : decide (sz < 0) = false := decide_eq_false (by omega)
  obtain ⟨d0, d1, d2, d3, d4, d5, d6, d7, d8, d9, d10, d11, hD⟩ := twelve hx.1
  obtain ⟨e0, e1, e2, e3, e4, e5, e6, e7, e8, e9, e10, e11, hE⟩ := twelve hy.1
  have HSZ : Hid (∀ w, Calls Try.prog 90 #[.agg #[.bool n1, .int .i64 d0, .int .i64 d1, .int .i64 d2, .int .i64 d3, .int .i64 d4, .int .i64 d5, .int .i64 d6, .int .i64 d7, .int .i64 d8, .int .i64 d9, .int .i64 d10, .int .i64 d11], .agg #[.bool n2, .int .i64 e0, .int .i64 e1, .int .i64 e2, .int .i64 e3, .int .i64 e4, .int .i64 e5, .int .i64 e6, .int .i64 e7, .int .i64 e8, .int .i64 e9, .int .i64 e10, .int .i64 e11]] w fun e w' => e = .returned (.int .i64 sz) ∧ Grew w w') := Lib.hid (by rw [hD, hE] at hsz; exact hsz)
  obtain ⟨W0, hW0⟩ : ∃ W, W = ((w.alloc (.cells (numA n1 D) 110)).alloc (.cells (numA n2 E) 110)).alloc (.cells (numA false [0,0,0,0,0,0,0,0,0,0,0,0]) 110) := ⟨_, rfl⟩
  have hr3 := num_row3 w (numA n1 D) (numA n2 E) (numA false [0,0,0,0,0,0,0,0,0,0,0,0]) 110
  rw [← hW0] at hr3
  have hg0 : Grew w W0 := by rw [hW0]; exact (((Grew.refl _).alloc _).alloc _).alloc _
  have H0 := Lib.hid (And.intro hr3.1 (And.intro hr3.2.1 (And.intro hr3.2.2 hg0)))
  have c0 := num_sign hr3.1
  have c1 := num_sign hr3.2.1
  simp only [numA_lit] at hW0
  clear hr3 hg0
  have HDE := Lib.hid (And.intro hD hE)
  clear hx hy hn hle hz hzz hcr0 hsz hsz2 hs0 hD hE
  go_enter Try.func78, Try.ntmps78
  go_upto_region 1 with fail
  rw [← hW0]
  have HW0 := Lib.hid hW0
  clear hW0
  have hrD := H0.out.1
  have hrE := H0.out.2.1
  rw [HDE.out.1] at hrD
  rw [HDE.out.2] at hrE
  obtain ⟨x0, x1, x2, x3, x4, x5, x6, x7, x8, x9, x10, x11, x12⟩ := num13 hrD
  obtain ⟨y0, y1, y2, y3, y4, y5, y6, y7, y8, y9, y10, y11, y12⟩ := num13 hrE
  clear hrD hrE
  go_wp2_with fail
  refine (HSZ.out _).mono ?_
  rintro e w1 ⟨rfl, hg1⟩
  have H1 := Lib.hid (And.intro ((hg1.1.block _ (heap_ltN H0.out.1)).trans H0.out.1) (And.intro ((hg1.1.block _ (heap_ltN H0.out.2.1)).trans H0.out.2.1) (And.intro ((hg1.1.block _ (heap_ltN H0.out.2.2.1)).trans H0.out.2.2.1) (H0.out.2.2.2.trans hg1))))
  clear hg1 c0 c1 hbn x0 x1 x2 x3 x4 x5 x6 x7 x8 x9 x10 x11 x12 y0 y1 y2 y3 y4 y5 y6 y7 y8 y9 y10 y11 y12
  go_wp2_with fail
  clear t1
  go_loopw [6] (fun i wr => ∃ k : Nat, k ≤ 12 ∧ i = .int .i64 k ∧ ∃ F, Hid (SubTo k D E F ∧ wr.heap[w.heap.size]? = some (.cells (numA n1 F) 110 (0, 0)) ∧ wr.heap[w.heap.size + 1]? = some (.cells (numA n2 E) 110 (0, 0)) ∧ wr.heap[w.heap.size + 1 + 1]? = some (.cells (numA false [0,0,0,0,0,0,0,0,0,0,0,0]) 110 (0, 0)) ∧ Grew w wr)) (fun i _ => 12 - (intOf i).toNat)
  case atStart => exact ⟨0, by omega, rfl, D, Lib.hid ⟨SubTo.start HX.out.1.1, H1.out.1, H1.out.2.1, H1.out.2.2.1, H1.out.2.2.2⟩⟩
  case round =>
    obtain ⟨k, hk, rfl, F, hr⟩ := hrel
    by_cases hlt : k < 12
    · have hk0 : (0 : Int) ≤ (k : Int) := by omega
      have hk5 : (k : Int) < 12 := by omega
      have x0 := num_cell hr.out.2.1 (i := k) (by rw [hr.out.1.1]; omega)
      have y0 := num_cell hr.out.2.2.1 (i := k) (by rw [HX.out.2.1]; omega)
      have f0 := frozen_of_row _ w.heap.size (1 + k) _ _ hr.out.2.1
      have ry := HX.out.2.2.1 _ (getD_mem (D := E) (i := k) (by rw [HX.out.2.1]; omega))
      have rd := HX.out.1.2.1 _ (getD_mem (D := D) (i := k) (by rw [HX.out.1.1]; omega))
      have rx := hr.out.1.2.2.2.1 hlt
      obtain ⟨a, ha⟩ : ∃ x, x = F.getD k 0 := ⟨_, rfl⟩
      obtain ⟨b, hb⟩ : ∃ x, x = E.getD k 0 := ⟨_, rfl⟩
      have HAB := Lib.hid (And.intro ha hb)
      rw [← ha] at x0 rx
      rw [← hb] at y0 ry
      have rx1 : -1 ≤ a := by omega
      have rx2 : a ≤ 65535 := by omega
      obtain ⟨ry1, ry2⟩ := ry
      obtain ⟨v, hv⟩ : ∃ v, v = a - b := ⟨_, rfl⟩
      have s1 : IntKind.i64.wrap (a - b) = v := by rw [hv]; exact IntWalk.i64_in _ (by omega)
      have HV := Lib.hid hv
      have v1 : -65536 ≤ v := by omega
      have v2 : v ≤ 65535 := by omega
      have p1 := num_put hr.out.2.1 k v
      obtain ⟨W4, hW4⟩ : ∃ W, W = (wr.setCell ⟨w.heap.size, 1 + k, none⟩ (.int .i64 v)).drew := ⟨_, rfl⟩
      have p1 : W4.heap[w.heap.size]? = some (.cells (numA n1 (F.set k v)) 110 (0, 0)) := by rw [hW4]; exact p1
      have p2 : W4.heap[w.heap.size + 1]? = some (.cells (numA n2 E) 110 (0, 0)) := by rw [hW4]; exact (heap_other (by omega)).trans hr.out.2.2.1
      have p3 : W4.heap[w.heap.size + 1 + 1]? = some (.cells (numA false [0,0,0,0,0,0,0,0,0,0,0,0]) 110 (0, 0)) := by rw [hW4]; exact (heap_other (by omega)).trans hr.out.2.2.2.1
      have p4 : Grew w W4 := by rw [hW4]; exact (grew_setCell hr.out.2.2.2.2 (Nat.le_refl _) _).drew
      have hFl := hr.out.1.1
      have z0 := num_cell p1 (i := k) (by simp; omega)
      rw [getD_set (by omega), if_pos rfl] at z0
      have g0 := frozen_of_row _ w.heap.size (1 + k) _ _ p1
      have H4 := Lib.hid (And.intro p1 (And.intro p2 (And.intro p3 p4)))
      have hundef : ∀ b, some undef = some (Value.bool b) → False := fun b h => by injection h with h; cases h
      clear ha hb rx rd p1 p2 p3 p4 hv
      go_wp2_with fail
      go_region
      try rw [← hW4]
      clear hW4 x0 y0 f0 s1
      by_cases hneg : v < 0
      · have t1 : decide (v < 0) = true := decide_eq_true hneg
        by_cases h11 : k < 11
        · have t2 : decide ((k : Int) < 11) = true := decide_eq_true (by omega)
          have hst := hr.out.1.lend HX.out.1.2.1 HX.out.2.2.1 HX.out.1.1 HX.out.2.1 h11 (by rw [← HAB.out.1, ← HAB.out.2, ← HV.out]; exact hneg)
          rw [← HAB.out.1, ← HAB.out.2, ← HV.out] at hst
          have hn1 := hr.out.1.2.2.2.2 (k + 1) (by omega)
          have rd := HX.out.1.2.1 _ (getD_mem (D := D) (i := k + 1) (by rw [HX.out.1.1]; omega))
          rw [← hn1] at rd
          obtain ⟨u, hu⟩ : ∃ u, u = F.getD (k + 1) 0 := ⟨_, rfl⟩
          rw [← hu] at hst rd
          have HST := Lib.hid hst
          have p5 := num_put H4.out.1 k (v + 65536)
          have hu2 : (((F.set k v).set k (v + 65536))).getD (k + 1) 0 = u := by rw [getD_set (by simp; omega), if_neg (by omega), getD_set (by omega), if_neg (by omega), hu]
          have z1 := num_cell p5 (i := k + 1) (by simp; omega)
          rw [hu2] at z1
          have g1 := frozen_of_row _ w.heap.size (1 + (k + 1)) _ _ p5
          have hss : (F.set k v).set k (v + 65536) = F.set k (v + 65536) := by simp
          rw [hss] at p5
          have p6 := num_put p5 (k + 1) (u - 1)
          have H6 := Lib.hid p6
          obtain ⟨rd1, rd2⟩ := rd
          have hk1 : (0 : Int) ≤ (k : Int) + 1 := by omega
          have hk2 : (k : Int) + 1 < 12 := by omega
          clear hst hn1 hu p5 hu2 hss p6 hneg
          go_wp2_with fail
          go_roundw
          case rel =>
            refine ⟨k + 1, by omega, by go_num, _, Lib.hid ⟨HST.out, H6.out, ?_, ?_, ?_⟩⟩
            · exact (heap_other (by omega)).trans ((heap_other (by omega)).trans H4.out.2.1)
            · exact (heap_other (by omega)).trans ((heap_other (by omega)).trans H4.out.2.2.1)
            · exact grew_setCell (grew_setCell H4.out.2.2.2 (Nat.le_refl _) _) (Nat.le_refl _) _
          case measure => simp [intOf]; omega
        · obtain rfl : k = 11 := by omega
          have hst := hr.out.1.step HX.out.1.2.1 HX.out.2.2.1 HX.out.1.1 HX.out.2.1 hlt (.inr rfl)
          rw [← HAB.out.1, ← HAB.out.2, ← HV.out] at hst
          have HST := Lib.hid hst
          clear hst hneg
          go_wp2_with fail
          go_roundw
          case rel => exact ⟨12, by omega, by rfl, _, Lib.hid ⟨HST.out, H4.out.1, H4.out.2.1, H4.out.2.2.1, H4.out.2.2.2⟩⟩
          case measure => simp [intOf]
      · have t1 : decide (v < 0) = false := decide_eq_false hneg
        have hst := hr.out.1.step HX.out.1.2.1 HX.out.2.2.1 HX.out.1.1 HX.out.2.1 hlt (.inl (by rw [← HAB.out.1, ← HAB.out.2, ← HV.out]; omega))
        rw [← HAB.out.1, ← HAB.out.2, ← HV.out] at hst
        have HST := Lib.hid hst
        clear hst hneg
        go_wp2_with fail
        all_goals first
          | (exfalso; exact hundef _ (by assumption))
          | skip
        go_roundw
        case rel => exact ⟨k + 1, by omega, by go_num, _, Lib.hid ⟨HST.out, H4.out.1, H4.out.2.1, H4.out.2.2.1, H4.out.2.2.2⟩⟩
        case measure => simp [intOf]; omega
    · obtain rfl : k = 12 := by omega
      have hF := hr.out.1.1
      have hdg := subTo_digits (X := D) (Y := E) hr.out.1 HX.out.2.1 HLE.out (by have := (valD_range D HX.out.1.2.1).2; rw [HX.out.1.1] at this; exact this) (valD_range E HX.out.2.2.1).1
      have hcy := digits_carry hdg.1 hdg.2.1
      rw [hdg.2.2] at hcy
      have hcr := fun w => HCR.out F w hcy.1 hcy.2
      clear hdg hcy
      obtain ⟨d0, d1, d2, d3, d4, d5, d6, d7, d8, d9, d10, d11, rfl⟩ := twelve hF
      obtain ⟨x0, x1, x2, x3, x4, x5, x6, x7, x8, x9, x10, x11, x12⟩ := num13 hr.out.2.1
      rw [numA_lit] at hcr
      have HC := Lib.hid hcr
      clear hcr hF
      go_wp2_with fail
      refine (HC.out _).mono ?_
      rintro e w3 ⟨n3, D3, rfl, hc3, hg3⟩
      obtain ⟨e0, e1, e2, e3, e4, e5, e6, e7, e8, e9, e10, e11, rfl⟩ := twelve hc3.1
      have p1 := (hg3.1.block _ (heap_ltN hr.out.2.2.2.1)).trans hr.out.2.2.2.1
      have H3 := Lib.hid (And.intro (hr.out.2.2.2.2.trans hg3) p1)
      have HC3 := Lib.hid hc3
      obtain ⟨y0, y1, y2, y3, y4, y5, y6, y7, y8, y9, y10, y11, y12⟩ := num13 p1
      obtain ⟨g0, g1, g2, g3, g4, g5, g6, g7, g8, g9, g10, g11, g12⟩ := fro13 p1
      rw [numA_lit]
      clear hg3 p1 hc3 x0 x1 x2 x3 x4 x5 x6 x7 x8 x9 x10 x11 x12
      go_wp2_with fail
      first
        | exact num_end (g := w.heap.size + 1 + 1) rfl rfl rfl (by omega) (Lib.hid ⟨H3.out.1, H3.out.2, rfl⟩) HC3 rfl
        | (change bodyPost Try.prog Try.f78 (NumR z w) .ret _ _
           exact num_end (g := w.heap.size + 1 + 1) rfl rfl rfl (by omega) (Lib.hid ⟨H3.out.1, H3.out.2, rfl⟩) HC3 rfl)
set_option maxRecDepth 100000 in
set_option maxHeartbeats 4000000 in
theorem Plus_lt (n1 n2 : Bool) (D E : List Int) (x y z : Int) (w : World) (hx : Canon n1 D x) (hy : Canon n2 E y) (hn : n1 ≠ n2) (hlt : valD D < valD E) (hz : z = x + y) :
    Calls Try.prog 78 #[.agg (numA n1 D), .agg (numA n2 E)] w (NumR z w) := by
  have hpl := fun w => Plus_ge n2 n1 E D y x z w hy hx (fun h => hn h.symm) (Int.le_of_lt hlt) (by omega)
  have hbn : ∀ w, (binOp .eql 4 (.bool n1) (.bool n2)).run Try.prog w = .ok (.bool false) w := fun w => by cases n1 <;> cases n2 <;> simp at hn <;> rfl
  have hsz := fun w => size_num n1 D n2 E w hx.2.1 hy.2.1 hx.1 hy.1
  obtain ⟨sz, hsz2⟩ : ∃ s, s = sizeZ (valD D) (valD E) := ⟨_, rfl⟩
  rw [← hsz2] at hsz
  have hs0 : sz < 0 := by rw [hsz2]; unfold sizeZ; rw [if_pos hlt]; decide
  have t1 : decide (sz < 0) = true := decide_eq_true hs0
  obtain ⟨d0, d1, d2, d3, d4, d5, d6, d7, d8, d9, d10, d11, hD⟩ := twelve hx.1
  obtain ⟨e0, e1, e2, e3, e4, e5, e6, e7, e8, e9, e10, e11, hE⟩ := twelve hy.1
  have HSZ : Hid (∀ w, Calls Try.prog 90 #[.agg #[.bool n1, .int .i64 d0, .int .i64 d1, .int .i64 d2, .int .i64 d3, .int .i64 d4, .int .i64 d5, .int .i64 d6, .int .i64 d7, .int .i64 d8, .int .i64 d9, .int .i64 d10, .int .i64 d11], .agg #[.bool n2, .int .i64 e0, .int .i64 e1, .int .i64 e2, .int .i64 e3, .int .i64 e4, .int .i64 e5, .int .i64 e6, .int .i64 e7, .int .i64 e8, .int .i64 e9, .int .i64 e10, .int .i64 e11]] w fun e w' => e = .returned (.int .i64 sz) ∧ Grew w w') := Lib.hid (by rw [hD, hE] at hsz; exact hsz)
  have HPL : Hid (∀ w, Calls Try.prog 78 #[.agg #[.bool n2, .int .i64 e0, .int .i64 e1, .int .i64 e2, .int .i64 e3, .int .i64 e4, .int .i64 e5, .int .i64 e6, .int .i64 e7, .int .i64 e8, .int .i64 e9, .int .i64 e10, .int .i64 e11], .agg #[.bool n1, .int .i64 d0, .int .i64 d1, .int .i64 d2, .int .i64 d3, .int .i64 d4, .int .i64 d5, .int .i64 d6, .int .i64 d7, .int .i64 d8, .int .i64 d9, .int .i64 d10, .int .i64 d11]] w (NumR z w)) := Lib.hid (by rw [hD, hE] at hpl; exact hpl)
  obtain ⟨W0, hW0⟩ : ∃ W, W = ((w.alloc (.cells (numA n1 D) 110)).alloc (.cells (numA n2 E) 110)).alloc (.cells (numA false [0,0,0,0,0,0,0,0,0,0,0,0]) 110) := ⟨_, rfl⟩
  have hr3 := num_row3 w (numA n1 D) (numA n2 E) (numA false [0,0,0,0,0,0,0,0,0,0,0,0]) 110
  rw [← hW0] at hr3
  have hg0 : Grew w W0 := by rw [hW0]; exact (((Grew.refl _).alloc _).alloc _).alloc _
  have H0 := Lib.hid (And.intro hr3.1 (And.intro hr3.2.1 (And.intro hr3.2.2 hg0)))
  have c0 := num_sign hr3.1
  have c1 := num_sign hr3.2.1
  simp only [numA_lit] at hW0
  clear hr3 hg0
  have HDE := Lib.hid (And.intro hD hE)
  clear hx hy hn hlt hz hsz hsz2 hs0 hD hE hpl
  go_enter Try.func78, Try.ntmps78
  go_upto_region 1 with fail
  rw [← hW0]
  have HW0 := Lib.hid hW0
  clear hW0
  have hrD := H0.out.1
  have hrE := H0.out.2.1
  rw [HDE.out.1] at hrD
  rw [HDE.out.2] at hrE
  obtain ⟨x0, x1, x2, x3, x4, x5, x6, x7, x8, x9, x10, x11, x12⟩ := num13 hrD
  obtain ⟨y0, y1, y2, y3, y4, y5, y6, y7, y8, y9, y10, y11, y12⟩ := num13 hrE
  have HRD := Lib.hid (And.intro hrD hrE)
  clear hrD hrE
  go_wp2_with fail
  refine (HSZ.out _).mono ?_
  rintro e w1 ⟨rfl, hg1⟩
  have H1 := Lib.hid (And.intro ((hg1.1.block _ (heap_ltN H0.out.2.2.1)).trans H0.out.2.2.1) (H0.out.2.2.2.trans hg1))
  have r1 := (hg1.1.block _ (heap_ltN HRD.out.1)).trans HRD.out.1
  have r2 := (hg1.1.block _ (heap_ltN HRD.out.2)).trans HRD.out.2
  clear hg1 c0 c1 hbn x0 x1 x2 x3 x4 x5 x6 x7 x8 x9 x10 x11 x12 y0 y1 y2 y3 y4 y5 y6 y7 y8 y9 y10 y11 y12
  obtain ⟨x0, x1, x2, x3, x4, x5, x6, x7, x8, x9, x10, x11, x12⟩ := num13 r1
  obtain ⟨y0, y1, y2, y3, y4, y5, y6, y7, y8, y9, y10, y11, y12⟩ := num13 r2
  clear r1 r2
  go_wp2_with fail
  refine (HPL.out _).mono ?_
  rintro e w3 ⟨n3, D3, rfl, hc3, hg3⟩
  obtain ⟨q0, q1, q2, q3, q4, q5, q6, q7, q8, q9, q10, q11, rfl⟩ := twelve hc3.1
  have p1 := (hg3.1.block _ (heap_ltN H1.out.1)).trans H1.out.1
  have H3 := Lib.hid (And.intro (H1.out.2.trans hg3) p1)
  have HC3 := Lib.hid hc3
  clear x0 x1 x2 x3 x4 x5 x6 x7 x8 x9 x10 x11 x12 y0 y1 y2 y3 y4 y5 y6 y7 y8 y9 y10 y11 y12
  obtain ⟨y0, y1, y2, y3, y4, y5, y6, y7, y8, y9, y10, y11, y12⟩ := num13 p1
  obtain ⟨g0, g1, g2, g3, g4, g5, g6, g7, g8, g9, g10, g11, g12⟩ := fro13 p1
  rw [numA_lit]
  clear hg3 p1 hc3
  go_wp2_with fail
  first
    | exact num_end (g := w.heap.size + 1 + 1) rfl rfl rfl (by omega) (Lib.hid ⟨H3.out.1, H3.out.2, rfl⟩) HC3 rfl
    | (change bodyPost Try.prog Try.f78 (NumR z w) .ret _ _
       exact num_end (g := w.heap.size + 1 + 1) rfl rfl rfl (by omega) (Lib.hid ⟨H3.out.1, H3.out.2, rfl⟩) HC3 rfl)
theorem Plus_num (n1 n2 : Bool) (D E : List Int) (x y : Int) (w : World) (hx : Canon n1 D x) (hy : Canon n2 E y) (hb : valD D + valD E < 65536 ^ 12) :
    Calls Try.prog 78 #[.agg (numA n1 D), .agg (numA n2 E)] w (NumR (x + y) w) := by
  by_cases hn : n1 = n2
  · exact Plus_same n1 n2 D E x y _ w hx hy hn hb rfl
  · by_cases hle : valD E ≤ valD D
    · exact Plus_ge n1 n2 D E x y _ w hx hy hn hle rfl
    · exact Plus_lt n1 n2 D E x y _ w hx hy hn (by omega) rfl
end Go.Proofs.Ytlmmejdcjhbppaa

/- the document's numbers: Of -/
set_option linter.unusedSimpArgs false
set_option linter.unusedVariables false
namespace Go.Proofs.Ytlmmejdcjhbppaa
open Go.RowKit Go.Geo
attribute [local go_sem] Oper.semAt_some
def ofL (U : Int) : Nat → List Int
  | 0 => [0, 0, 0, 0, 0, 0, 0, 0, 0, 0, 0, 0]
  | 1 => [U % 65536, 0, 0, 0, 0, 0, 0, 0, 0, 0, 0, 0]
  | 2 => [U % 65536, U / 65536 % 65536, 0, 0, 0, 0, 0, 0, 0, 0, 0, 0]
  | 3 => [U % 65536, U / 65536 % 65536, U / 4294967296 % 65536, 0, 0, 0, 0, 0, 0, 0, 0, 0]
  | _ => [U % 65536, U / 65536 % 65536, U / 4294967296 % 65536, U / 281474976710656 % 65536, 0, 0, 0, 0, 0, 0, 0, 0]
theorem of_canon (n U : Int) (q : Bool) (hq : q = decide (n < 0)) (hU : U = if n < 0 then -n else n) (h1 : -9223372036854775808 ≤ n) (h2 : n ≤ 9223372036854775807) : Canon q (ofL U 4) n ∧ Four (ofL U 4) := by
  have u0 : 0 ≤ U := by rw [hU]; split <;> omega
  have u1 : U ≤ 9223372036854775808 := by rw [hU]; split <;> omega
  have hv : valD (ofL U 4) = U := by
    simp only [ofL, valD]
    omega
  refine ⟨⟨rfl, ?_, ?_, ?_⟩, ?_⟩
  · intro d hd
    simp only [ofL, List.mem_cons, List.not_mem_nil, or_false] at hd
    omega
  · unfold numZ
    rw [hv, hU, hq]
    by_cases h : n < 0 <;> simp [h]
  · rw [hv, hU, hq]
    intro h
    by_cases h0 : n < 0
    · rw [if_pos h0] at h; omega
    · simp [h0]
  · intro j hj
    by_cases h : j < 12
    · have : j = 4 ∨ j = 5 ∨ j = 6 ∨ j = 7 ∨ j = 8 ∨ j = 9 ∨ j = 10 ∨ j = 11 := by omega
      rcases this with rfl | rfl | rfl | rfl | rfl | rfl | rfl | rfl <;> rfl
    · rw [List.getD_eq_getElem?_getD, List.getElem?_eq_none (by show (12:Nat) ≤ j; omega)]; rfl
theorem of_end {fn : Func} {p : Tmp} {w2 w3 : World} {a : Act} {q n0 : Bool} {D D0 : List Int} {g : Nat} {Q : Ending → World → Prop} (h : fn.results = #[.cell p 110]) (hp : a.tmps.getD p undef = .pointer (some ⟨g, 0, none⟩)) (hd : a.defers = [])
    (hr : w2.heap[g]? = some (.cells (numA n0 D0) 110 (0, 0))) (hl0 : D0.length = 12) (hl : D.length = 12) (hq : Q (.returned (.agg (numA q D))) (w2.setCells g 0 (numA q D).toList)) (hw : w3 = w2.setCells g 0 (numA q D).toList) :
    bodyPost Try.prog fn Q .ret a w3 := by
  subst hw
  have hrow := put13 hr hl0 (numA q D) (numA_size hl)
  exact bodyPost_ret (results_cell_row h a.tmps _ _ _ _ _ _ hp hrow Try.underlying110 rfl (by rw [numA_size hl]; exact info_num)) hd hq
theorem mask16 (z : Int) (h0 : 0 ≤ z) (h1 : z < 18446744073709551616) : bits .and .u64 z 65535 = z % 65536 := by go_bits2
set_option maxRecDepth 100000 in
set_option maxHeartbeats 4000000 in
theorem Of_any (n : Int) (w : World) (h1 : -9223372036854775808 ≤ n) (h2 : n ≤ 9223372036854775807) :
    Calls Try.prog 77 #[.int .i64 n] w fun e w' => ∃ neg D, e = .returned (.agg (numA neg D)) ∧ Canon neg D n ∧ Four D ∧ Grew w w' := by
  obtain ⟨U, hU⟩ : ∃ U, U = if n < 0 then -n else n := ⟨_, rfl⟩
  obtain ⟨q, hq⟩ : ∃ q, q = decide (n < 0) := ⟨_, rfl⟩
  have hc := of_canon n U q hq hU h1 h2
  have u0 : 0 ≤ U := by rw [hU]; split <;> omega
  have u1 : U ≤ 9223372036854775808 := by rw [hU]; split <;> omega
  obtain ⟨Q, hQ⟩ : ∃ Q : Ending → World → Prop, Q = fun e w' => ∃ neg D, e = .returned (.agg (numA neg D)) ∧ Canon neg D n ∧ Four D ∧ Grew w w' := ⟨_, rfl⟩
  rw [← hQ]
  have HQ := Lib.hid (And.intro hQ hc)
  clear hQ hc
  obtain ⟨W0, hW0⟩ : ∃ W, W = (w.alloc (.cells (numA false [0,0,0,0,0,0,0,0,0,0,0,0]) 110)).alloc (.cells (numA q [0,0,0,0,0,0,0,0,0,0,0,0]) 110) := ⟨_, rfl⟩
  have h0r : W0.heap[w.heap.size]? = some (.cells (numA false [0,0,0,0,0,0,0,0,0,0,0,0]) 110 (0, 0)) := by
    rw [hW0]; exact (Below.heap_alloc _ _ _ (by simp)).trans (alloc_new _ _)
  have h1r : W0.heap[w.heap.size + 1]? = some (.cells (numA q [0,0,0,0,0,0,0,0,0,0,0,0]) 110 (0, 0)) := by
    rw [hW0]; exact alloc_new2 _ _ _
  have hg0 : Grew w W0 := by rw [hW0]; exact ((Grew.refl _).alloc _).alloc _
  have H0 := Lib.hid (And.intro h0r (And.intro h1r hg0))
  simp only [numA_lit] at hW0
  clear h0r h1r hg0
  have tail : ∀ (wr : World) (F : List Int), F = ofL U 4 → Hid (wr.heap[w.heap.size]? = some (.cells (numA false [0,0,0,0,0,0,0,0,0,0,0,0]) 110 (0, 0)) ∧ wr.heap[w.heap.size + 1]? = some (.cells (numA q F) 110 (0, 0)) ∧ Grew w wr) → Q (.returned (.agg (numA q (ofL U 4)))) (wr.setCells w.heap.size 0 (numA q (ofL U 4)).toList) := by
    intro wr F hF hr
    rw [HQ.out.1]
    exact ⟨q, _, rfl, HQ.out.2.1, HQ.out.2.2, grew_setCells hr.out.2.2 (Nat.le_refl _) _ _⟩
  have HT := Lib.hid tail
  clear tail
  by_cases hn : n < 0
  · skip
    obtain ⟨a0, ha0⟩ : ∃ a, a = n + 18446744073709551616 := ⟨_, rfl⟩
    have s1 : IntKind.u64.wrap n = a0 := by rw [IntKind.wrap_u64]; omega
    have s2 : IntKind.u64.wrap (-a0) = U := by rw [IntKind.wrap_u64, hU, if_pos hn]; omega
    have hqq : q = true := by rw [hq]; simp [hn]
    subst hqq
    clear ha0
    clear hU hq
    go_enter Try.func77, Try.ntmps77
    go_wp2_with fail
    try rw [← hW0]
    have HW0 := Lib.hid hW0
    clear hW0 s1 hn s2
    go_loopw [5] (fun i wr => ∃ k : Nat, k ≤ 4 ∧ i = .int .i64 k ∧ ∃ F, F = ofL U k ∧ Hid (wr.heap[w.heap.size]? = some (.cells (numA false [0,0,0,0,0,0,0,0,0,0,0,0]) 110 (0, 0)) ∧ wr.heap[w.heap.size + 1]? = some (.cells (numA true F) 110 (0, 0)) ∧ Grew w wr)) (fun i _ => 4 - (intOf i).toNat)
    case atStart => exact ⟨0, by omega, rfl, _, rfl, H0⟩
    case round =>
      obtain ⟨k, hk, rfl, F, hF, hr⟩ := hrel
      by_cases hlt : k < 4
      · have hcase : k = 0 ∨ k = 1 ∨ k = 2 ∨ k = 3 := by omega
        rcases hcase with rfl | rfl | rfl | rfl
        · obtain ⟨f0, f1, f2, f3, f4, f5, f6, f7, f8, f9, f10, f11, f12⟩ := fro13 hr.out.2.1
          obtain ⟨x0, x1, x2, x3, x4, x5, x6, x7, x8, x9, x10, x11, x12⟩ := num13 (by have h := hr.out.2.1; rw [hF] at h; exact h)
          obtain ⟨v, hv⟩ : ∃ v, v = U % 65536 := ⟨_, rfl⟩
          have hm : bits .and .u64 (U) 65535 = v := by rw [hv]; exact mask16 _ (by omega) (by omega)
          have hm2 : (bits .and .u64 (U) 65535 : Int) = v := hm
          have v0 : 0 ≤ v := by omega
          have v1 : v ≤ 65535 := by omega
          have HV := Lib.hid hv
          clear hv f0 x0 f2 x2 f3 x3 f4 x4 f5 x5 f6 x6 f7 x7 f8 x8 f9 x9 f10 x10 f11 x11 f12 x12
          go_wp2_with fail
          go_roundw
          case rel =>
            refine ⟨1, by omega, by go_num, _, rfl, Lib.hid ⟨?_, ?_, ?_⟩⟩
            · exact (heap_other (by omega)).trans hr.out.1
            · have hp := num_put hr.out.2.1 0 v
              rw [hF] at hp
              rw [HV.out] at hp ⊢
              exact hp
            · exact grew_setCell hr.out.2.2 (by omega) _
          case measure => simp [intOf]
        · obtain ⟨f0, f1, f2, f3, f4, f5, f6, f7, f8, f9, f10, f11, f12⟩ := fro13 hr.out.2.1
          obtain ⟨x0, x1, x2, x3, x4, x5, x6, x7, x8, x9, x10, x11, x12⟩ := num13 (by have h := hr.out.2.1; rw [hF] at h; exact h)
          obtain ⟨v, hv⟩ : ∃ v, v = U / 65536 % 65536 := ⟨_, rfl⟩
          have hm : bits .and .u64 (U / 65536) 65535 = v := by rw [hv]; exact mask16 _ (by omega) (by omega)
          have hm2 : (bits .and .u64 (U / 65536) 65535 : Int) = v := hm
          have v0 : 0 ≤ v := by omega
          have v1 : v ≤ 65535 := by omega
          have HV := Lib.hid hv
          clear hv f0 x0 f1 x1 f3 x3 f4 x4 f5 x5 f6 x6 f7 x7 f8 x8 f9 x9 f10 x10 f11 x11 f12 x12
          go_wp2_with fail
          go_roundw
          case rel =>
            refine ⟨2, by omega, by go_num, _, rfl, Lib.hid ⟨?_, ?_, ?_⟩⟩
            · exact (heap_other (by omega)).trans hr.out.1
            · have hp := num_put hr.out.2.1 1 v
              rw [hF] at hp
              rw [HV.out] at hp ⊢
              exact hp
            · exact grew_setCell hr.out.2.2 (by omega) _
          case measure => simp [intOf]
        · obtain ⟨f0, f1, f2, f3, f4, f5, f6, f7, f8, f9, f10, f11, f12⟩ := fro13 hr.out.2.1
          obtain ⟨x0, x1, x2, x3, x4, x5, x6, x7, x8, x9, x10, x11, x12⟩ := num13 (by have h := hr.out.2.1; rw [hF] at h; exact h)
          obtain ⟨v, hv⟩ : ∃ v, v = U / 4294967296 % 65536 := ⟨_, rfl⟩
          have hm : bits .and .u64 (U / 4294967296) 65535 = v := by rw [hv]; exact mask16 _ (by omega) (by omega)
          have hm2 : (bits .and .u64 (U / 4294967296) 65535 : Int) = v := hm
          have v0 : 0 ≤ v := by omega
          have v1 : v ≤ 65535 := by omega
          have HV := Lib.hid hv
          clear hv f0 x0 f1 x1 f2 x2 f4 x4 f5 x5 f6 x6 f7 x7 f8 x8 f9 x9 f10 x10 f11 x11 f12 x12
          go_wp2_with fail
          go_roundw
          case rel =>
            refine ⟨3, by omega, by go_num, _, rfl, Lib.hid ⟨?_, ?_, ?_⟩⟩
            · exact (heap_other (by omega)).trans hr.out.1
            · have hp := num_put hr.out.2.1 2 v
              rw [hF] at hp
              rw [HV.out] at hp ⊢
              exact hp
            · exact grew_setCell hr.out.2.2 (by omega) _
          case measure => simp [intOf]
        · obtain ⟨f0, f1, f2, f3, f4, f5, f6, f7, f8, f9, f10, f11, f12⟩ := fro13 hr.out.2.1
          obtain ⟨x0, x1, x2, x3, x4, x5, x6, x7, x8, x9, x10, x11, x12⟩ := num13 (by have h := hr.out.2.1; rw [hF] at h; exact h)
          obtain ⟨v, hv⟩ : ∃ v, v = U / 281474976710656 % 65536 := ⟨_, rfl⟩
          have hm : bits .and .u64 (U / 281474976710656) 65535 = v := by rw [hv]; exact mask16 _ (by omega) (by omega)
          have hm2 : (bits .and .u64 (U / 281474976710656) 65535 : Int) = v := hm
          have v0 : 0 ≤ v := by omega
          have v1 : v ≤ 65535 := by omega
          have HV := Lib.hid hv
          clear hv f0 x0 f1 x1 f2 x2 f3 x3 f5 x5 f6 x6 f7 x7 f8 x8 f9 x9 f10 x10 f11 x11 f12 x12
          go_wp2_with fail
          go_roundw
          case rel =>
            refine ⟨4, by omega, by go_num, _, rfl, Lib.hid ⟨?_, ?_, ?_⟩⟩
            · exact (heap_other (by omega)).trans hr.out.1
            · have hp := num_put hr.out.2.1 3 v
              rw [hF] at hp
              rw [HV.out] at hp ⊢
              exact hp
            · exact grew_setCell hr.out.2.2 (by omega) _
          case measure => simp [intOf]
      · obtain rfl : k = 4 := by omega
        have ht := HT.out wr F hF hr
        obtain ⟨x0, x1, x2, x3, x4, x5, x6, x7, x8, x9, x10, x11, x12⟩ := num13 (by rw [hF] at hr; exact hr.out.2.1)
        obtain ⟨f0, f1, f2, f3, f4, f5, f6, f7, f8, f9, f10, f11, f12⟩ := fro13 hr.out.1
        obtain ⟨y0, y1, y2, y3, y4, y5, y6, y7, y8, y9, y10, y11, y12⟩ := num13 hr.out.1
        have HTT := Lib.hid (And.intro ht ht)
        clear ht
        go_wp2_with fail
        exact of_end (g := w.heap.size) (D := ofL U 4) rfl rfl rfl hr.out.1 rfl rfl HTT.out.1 rfl
  · skip
    have s1 : IntKind.u64.wrap n = U := by rw [IntKind.wrap_u64, hU, if_neg hn]; omega
    have hqq : q = false := by rw [hq]; simp [hn]
    subst hqq
    clear hU hq
    go_enter Try.func77, Try.ntmps77
    go_wp2_with fail
    try rw [← hW0]
    have HW0 := Lib.hid hW0
    clear hW0 s1 hn
    go_loopw [5] (fun i wr => ∃ k : Nat, k ≤ 4 ∧ i = .int .i64 k ∧ ∃ F, F = ofL U k ∧ Hid (wr.heap[w.heap.size]? = some (.cells (numA false [0,0,0,0,0,0,0,0,0,0,0,0]) 110 (0, 0)) ∧ wr.heap[w.heap.size + 1]? = some (.cells (numA false F) 110 (0, 0)) ∧ Grew w wr)) (fun i _ => 4 - (intOf i).toNat)
    case atStart => exact ⟨0, by omega, rfl, _, rfl, H0⟩
    case round =>
      obtain ⟨k, hk, rfl, F, hF, hr⟩ := hrel
      by_cases hlt : k < 4
      · have hcase : k = 0 ∨ k = 1 ∨ k = 2 ∨ k = 3 := by omega
        rcases hcase with rfl | rfl | rfl | rfl
        · obtain ⟨f0, f1, f2, f3, f4, f5, f6, f7, f8, f9, f10, f11, f12⟩ := fro13 hr.out.2.1
          obtain ⟨x0, x1, x2, x3, x4, x5, x6, x7, x8, x9, x10, x11, x12⟩ := num13 (by have h := hr.out.2.1; rw [hF] at h; exact h)
          obtain ⟨v, hv⟩ : ∃ v, v = U % 65536 := ⟨_, rfl⟩
          have hm : bits .and .u64 (U) 65535 = v := by rw [hv]; exact mask16 _ (by omega) (by omega)
          have hm2 : (bits .and .u64 (U) 65535 : Int) = v := hm
          have v0 : 0 ≤ v := by omega
          have v1 : v ≤ 65535 := by omega
          have HV := Lib.hid hv
          clear hv f0 x0 f2 x2 f3 x3 f4 x4 f5 x5 f6 x6 f7 x7 f8 x8 f9 x9 f10 x10 f11 x11 f12 x12
          go_wp2_with fail
          go_roundw
          case rel =>
            refine ⟨1, by omega, by go_num, _, rfl, Lib.hid ⟨?_, ?_, ?_⟩⟩
            · exact (heap_other (by omega)).trans hr.out.1
            · have hp := num_put hr.out.2.1 0 v
              rw [hF] at hp
              rw [HV.out] at hp ⊢
              exact hp
            · exact grew_setCell hr.out.2.2 (by omega) _
          case measure => simp [intOf]
        · obtain ⟨f0, f1, f2, f3, f4, f5, f6, f7, f8, f9, f10, f11, f12⟩ := fro13 hr.out.2.1
          obtain ⟨x0, x1, x2, x3, x4, x5, x6, x7, x8, x9, x10, x11, x12⟩ := num13 (by have h := hr.out.2.1; rw [hF] at h; exact h)
          obtain ⟨v, hv⟩ : ∃ v, v = U / 65536 % 65536 := ⟨_, rfl⟩
          have hm : bits .and .u64 (U / 65536) 65535 = v := by rw [hv]; exact mask16 _ (by omega) (by omega)
          have hm2 : (bits .and .u64 (U / 65536) 65535 : Int) = v := hm
          have v0 : 0 ≤ v := by omega
          have v1 : v ≤ 65535 := by omega
          have HV := Lib.hid hv
          clear hv f0 x0 f1 x1 f3 x3 f4 x4 f5 x5 f6 x6 f7 x7 f8 x8 f9 x9 f10 x10 f11 x11 f12 x12
          go_wp2_with fail
          go_roundw
          case rel =>
            refine ⟨2, by omega, by go_num, _, rfl, Lib.hid ⟨?_, ?_, ?_⟩⟩
            · exact (heap_other (by omega)).trans hr.out.1
            · have hp := num_put hr.out.2.1 1 v
              rw [hF] at hp
              rw [HV.out] at hp ⊢
              exact hp
            · exact grew_setCell hr.out.2.2 (by omega) _
          case measure => simp [intOf]
        · obtain ⟨f0, f1, f2, f3, f4, f5, f6, f7, f8, f9, f10, f11, f12⟩ := fro13 hr.out.2.1
          obtain ⟨x0, x1, x2, x3, x4, x5, x6, x7, x8, x9, x10, x11, x12⟩ := num13 (by have h := hr.out.2.1; rw [hF] at h; exact h)
          obtain ⟨v, hv⟩ : ∃ v, v = U / 4294967296 % 65536 := ⟨_, rfl⟩
          have hm : bits .and .u64 (U / 4294967296) 65535 = v := by rw [hv]; exact mask16 _ (by omega) (by omega)
          have hm2 : (bits .and .u64 (U / 4294967296) 65535 : Int) = v := hm
          have v0 : 0 ≤ v := by omega
          have v1 : v ≤ 65535 := by omega
          have HV := Lib.hid hv
          clear hv f0 x0 f1 x1 f2 x2 f4 x4 f5 x5 f6 x6 f7 x7 f8 x8 f9 x9 f10 x10 f11 x11 f12 x12
          go_wp2_with fail
          go_roundw
          case rel =>
            refine ⟨3, by omega, by go_num, _, rfl, Lib.hid ⟨?_, ?_, ?_⟩⟩
            · exact (heap_other (by omega)).trans hr.out.1
            · have hp := num_put hr.out.2.1 2 v
              rw [hF] at hp
              rw [HV.out] at hp ⊢
              exact hp
            · exact grew_setCell hr.out.2.2 (by omega) _
          case measure => simp [intOf]
        · obtain ⟨f0, f1, f2, f3, f4, f5, f6, f7, f8, f9, f10, f11, f12⟩ := fro13 hr.out.2.1
          obtain ⟨x0, x1, x2, x3, x4, x5, x6, x7, x8, x9, x10, x11, x12⟩ := num13 (by have h := hr.out.2.1; rw [hF] at h; exact h)
          obtain ⟨v, hv⟩ : ∃ v, v = U / 281474976710656 % 65536 := ⟨_, rfl⟩
          have hm : bits .and .u64 (U / 281474976710656) 65535 = v := by rw [hv]; exact mask16 _ (by omega) (by omega)
          have hm2 : (bits .and .u64 (U / 281474976710656) 65535 : Int) = v := hm
          have v0 : 0 ≤ v := by omega
          have v1 : v ≤ 65535 := by omega
          have HV := Lib.hid hv
          clear hv f0 x0 f1 x1 f2 x2 f3 x3 f5 x5 f6 x6 f7 x7 f8 x8 f9 x9 f10 x10 f11 x11 f12 x12
          go_wp2_with fail
          go_roundw
          case rel =>
            refine ⟨4, by omega, by go_num, _, rfl, Lib.hid ⟨?_, ?_, ?_⟩⟩
            · exact (heap_other (by omega)).trans hr.out.1
            · have hp := num_put hr.out.2.1 3 v
              rw [hF] at hp
              rw [HV.out] at hp ⊢
              exact hp
            · exact grew_setCell hr.out.2.2 (by omega) _
          case measure => simp [intOf]
      · obtain rfl : k = 4 := by omega
        have ht := HT.out wr F hF hr
        obtain ⟨x0, x1, x2, x3, x4, x5, x6, x7, x8, x9, x10, x11, x12⟩ := num13 (by rw [hF] at hr; exact hr.out.2.1)
        obtain ⟨f0, f1, f2, f3, f4, f5, f6, f7, f8, f9, f10, f11, f12⟩ := fro13 hr.out.1
        obtain ⟨y0, y1, y2, y3, y4, y5, y6, y7, y8, y9, y10, y11, y12⟩ := num13 hr.out.1
        have HTT := Lib.hid (And.intro ht ht)
        clear ht
        go_wp2_with fail
        exact of_end (g := w.heap.size) (D := ofL U 4) rfl rfl rfl hr.out.1 rfl rfl HTT.out.1 rfl
end Go.Proofs.Ytlmmejdcjhbppaa

/- the document's numbers: Sign -/
set_option linter.unusedSimpArgs false
set_option linter.unusedVariables false
namespace Go.Proofs.Ytlmmejdcjhbppaa
open Go.RowKit Go.Geo
attribute [local go_sem] Oper.semAt_some
theorem canon_abs {n : Bool} {D : List Int} {z : Int} (h : Canon n D z) : valD D = (z.natAbs : Int) := by
  obtain ⟨_, h2, h3, _⟩ := h
  have := (valD_range D h2).1
  unfold numZ at h3
  cases n <;> simp at h3 <;> omega
theorem prod_abs (a b : Int) (ha : -4611686018427387904 ≤ a ∧ a ≤ 4611686018427387904) (hb : -4611686018427387904 ≤ b ∧ b ≤ 4611686018427387904) : (a * b).natAbs ≤ 4611686018427387904 * 4611686018427387904 := by
  rw [Int.natAbs_mul]
  exact Nat.mul_le_mul (by omega) (by omega)
end Go.Proofs.Ytlmmejdcjhbppaa

/- BoxtreeNone: a *Tree that is none, or that Build did not make (printed by mknone12.py) -/
import Derived.Test.YtlmmejdcjhbppaaMBLaw0
import Derived.Test.YtlmmejdcjhbppaaMQEqB
import Derived.Test.YtlmmejdcjhbppaaMRegC
set_option linter.unusedSimpArgs false
set_option linter.unusedVariables false
namespace Go.Proofs.Ytlmmejdcjhbppaa
open Go.RowKit Go.Geo
attribute [local go_sem] Oper.semAt_some
theorem eqBox0 (w : World) : (Op.equalIn 10000 33 (.agg #[.int .i64 0, .int .i64 0, .int .i64 0, .int .i64 0]) (.agg #[.int .i64 0, .int .i64 0, .int .i64 0, .int .i64 0])).run Try.prog w = .ok true w := by
  have hf := fieldsBI
  rw [run_equalIn_agg _ _ _ _ _ fieldsB heldB]
  generalize (Try.prog.fieldsOf 33).toList = fs at hf
  obtain _ | ⟨f0, _ | ⟨f1, _ | ⟨f2, fs⟩⟩⟩ := fs <;> simp only [List.map_cons, List.map_nil, List.cons.injEq, Prod.mk.injEq, and_false, and_true, List.cons_ne_nil, List.nil_eq] at hf
  obtain ⟨⟨n0, t0, o0⟩, ⟨n1, t1, o1⟩⟩ := hf
  rw [eqFields_consP 9995 _ _ f0 _ 0 0 0 0 0 w n0 t0 o0 rfl rfl, eqFields_consP 9995 _ _ f1 _ 2 0 0 0 0 w n1 t1 o1 rfl rfl]
  unfold Op.eqFields
  rfl
set_option maxRecDepth 100000 in
set_option maxHeartbeats 4000000 in
theorem BoxtreeNone_any (p : Pt) (x : Bx) (i : Int) (w : World) : Calls Try.prog 7 #[ptV p, boxV x.1 x.2, .int .i64 i] w fun e w' => e = .returned (.bool true) ∧ Below w.heap.size w w' := by
  unfold ptV boxV
  obtain ⟨W0, hW0⟩ : ∃ W, W = w.alloc (.cells #[.int .i64 p.x, .int .i64 p.y] 31) := ⟨_, rfl⟩
  obtain ⟨W1, hW1⟩ : ∃ W, W = W0.alloc (.cells #[.int .i64 x.1.x, .int .i64 x.1.y, .int .i64 x.2.x, .int .i64 x.2.y] 33) := ⟨_, rfl⟩
  obtain ⟨W2, hW2⟩ : ∃ W, W = W1.alloc (.cells #[.bool false, .slice none 0 0, .slice none 0 0, .slice none 0 0] 55) := ⟨_, rfl⟩
  obtain ⟨g, hg⟩ : ∃ g, g = W1.heap.size := ⟨_, rfl⟩
  obtain ⟨W3, hW3⟩ : ∃ W, W = W2.alloc (.cells #[.pointer none, .pointer (some ⟨g, 0, none⟩)] 25) := ⟨_, rfl⟩
  obtain ⟨bl, hbl⟩ : ∃ g, g = W2.heap.size := ⟨_, rfl⟩
  have hb0 : Below w.heap.size w W0 := by rw [hW0]; exact (Below.refl _ _).alloc (Nat.le_refl _) _
  have hb1 : Below W0.heap.size W0 W1 := by rw [hW1]; exact (Below.refl _ _).alloc (Nat.le_refl _) _
  have hb2 : Below W1.heap.size W1 W2 := by rw [hW2]; exact (Below.refl _ _).alloc (Nat.le_refl _) _
  have hb3 : Below W2.heap.size W2 W3 := by rw [hW3]; exact (Below.refl _ _).alloc (Nat.le_refl _) _
  have hs0 : W0.heap.size = w.heap.size + 1 := by rw [hW0]; simp
  have k0 : W0.heap[w.heap.size]? = some (.cells #[.int .i64 p.x, .int .i64 p.y] 31 (0, 0)) := by rw [hW0]; exact alloc_new _ _
  have k1 : W1.heap[w.heap.size + 1]? = some (.cells #[.int .i64 x.1.x, .int .i64 x.1.y, .int .i64 x.2.x, .int .i64 x.2.y] 33 (0, 0)) := by rw [hW1, ← hs0]; exact alloc_new _ _
  have k2 : W2.heap[g]? = some (.cells #[.bool false, .slice none 0 0, .slice none 0 0, .slice none 0 0] 55 (0, 0)) := by rw [hW2, hg]; exact alloc_new _ _
  have k3 : W3.heap[bl]? = some (.cells #[.pointer none, .pointer (some ⟨g, 0, none⟩)] 25 (0, 0)) := by rw [hW3, hbl]; exact alloc_new _ _
  have hg1 : g = w.heap.size + 1 + 1 := by rw [hg, hW1]; simp; rw [hW0]; simp
  have hbl1 : bl = w.heap.size + 1 + 1 + 1 := by rw [hbl, hW2]; simp; rw [hW1]; simp; rw [hW0]; simp
  have k0a := (hb1.block _ (heap_lt2 k0)).trans k0
  have k0b := (hb2.block _ (heap_lt2 k0a)).trans k0a
  have k0' := (hb3.block _ (heap_lt2 k0b)).trans k0b
  have k1a := (hb2.block _ (heap_lt2 k1)).trans k1
  have k1' := (hb3.block _ (heap_lt2 k1a)).trans k1a
  have k2' := (hb3.block _ (heap_lt2 k2)).trans k2
  have HB3 := Lib.hid (hb0.trans ((hb1.trans ((hb2.trans (hb3.mono hb2.size)).mono hb1.size)).mono hb0.size))
  have HALL : Hid (∀ wX, Below W3.heap.size W3 wX → wX.cell? ⟨bl, 0, none⟩ = some (.pointer none) ∧ wX.cell? ⟨bl, 1, none⟩ = some (.pointer (some ⟨g, 0, none⟩)) ∧ wX.heap[w.heap.size]? = some (.cells #[.int .i64 p.x, .int .i64 p.y] 31 (0, 0)) ∧ wX.heap[w.heap.size + 1]? = some (.cells #[.int .i64 x.1.x, .int .i64 x.1.y, .int .i64 x.2.x, .int .i64 x.2.y] 33 (0, 0)) ∧ wX.heap[g]? = some (.cells #[.bool false, .slice none 0 0, .slice none 0 0, .slice none 0 0] 55 (0, 0))) := Lib.hid (fun wX hX => by
    have q0 := (hX.block _ (heap_lt2 k0')).trans k0'
    have q1 := (hX.block _ (heap_lt2 k1')).trans k1'
    have q2 := (hX.block _ (heap_lt2 k2')).trans k2'
    have q3 := (hX.block _ (heap_lt2 k3)).trans k3
    exact ⟨cell_of_row _ _ _ _ _ _ q3, cell_of_row _ _ _ _ _ _ q3, q0, q1, q2⟩)
  clear hb0 hb1 hb2 hb3 k0 k1 k2 k3 k0a k0b k1a k0' k1' k2' hg hbl hs0
  rw [hW0] at hW1
  rw [hW1] at hW2
  rw [hW2, hg1] at hW3
  go_enter Try.func7, Try.ntmps7
  go_wp2_with fail
  rw [← hW3, ← hbl1]
  clear hW3 hW2 hW1 hW0 hbl1 hg1
  go_loopw [9] (fun j wr => ∃ k : Nat, k ≤ 2 ∧ j = .int .i64 k ∧ Hid (Below W3.heap.size W3 wr)) (fun j _ => 2 - (intOf j).toNat)
  case atStart => exact ⟨0, by omega, rfl, Below.refl _ _⟩
  case round =>
    obtain ⟨k, hk, rfl, hb⟩ := hrel
    by_cases hlt : k < 2
    · have hk0 : (0 : Int) ≤ (k : Int) := by omega
      have hk5 : (k : Int) < 2 := by omega
      have hsv : ∃ sv : Value, (∀ wX, Below W3.heap.size W3 wX → wX.cell? ⟨bl, k, none⟩ = some sv) ∧ ∀ wX, Below W3.heap.size W3 wX → NoTree wX sv := by
        rcases (show k = 0 ∨ k = 1 by omega) with rfl | rfl
        · exact ⟨_, fun wX hX => (HALL.out wX hX).1, fun wX hX => .inl rfl⟩
        · exact ⟨_, fun wX hX => (HALL.out wX hX).2.1, fun wX hX => .inr ⟨g, rfl, (HALL.out wX hX).2.2.2.2⟩⟩
      obtain ⟨sv, hc, hno⟩ := hsv
      have HCC := Lib.hid hc
      have HNO := Lib.hid hno
      have cs := hc wr hb.out
      have hsB := Box_none sv i wr (hno wr hb.out)
      unfold boxV at hsB
      have HS := Lib.hid hsB
      clear hc hno hsB
      go_wp2_with fail
      refine HS.out.mono ?_
      rintro e w5 ⟨rfl, hb5⟩
      have HB5 : Hid (Below W3.heap.size W3 w5) := Lib.hid (hb.out.trans (hb5.mono hb.out.size))
      obtain ⟨w6, hw6⟩ : ∃ W, W = w5.alloc (.cells #[.int .i64 0, .int .i64 0, .int .i64 0, .int .i64 0] 33) := ⟨_, rfl⟩
      have hb6 : Below w5.heap.size w5 w6 := by rw [hw6]; exact (Below.refl _ _).alloc (Nat.le_refl _) _
      have hz6 : w6.heap[w5.heap.size]? = some (.cells (boxRow 0 0 0 0) 33 (0, 0)) := by rw [hw6]; exact alloc_new _ _
      have HB6 := Lib.hid (HB5.out.trans (hb6.mono HB5.out.size))
      have HZ : Hid (∀ wX, Below w6.heap.size w6 wX → wX.cell? ⟨w5.heap.size, 0, none⟩ = some (.int .i64 0) ∧ wX.cell? ⟨w5.heap.size, 1, none⟩ = some (.int .i64 0) ∧ wX.cell? ⟨w5.heap.size, 2, none⟩ = some (.int .i64 0) ∧ wX.cell? ⟨w5.heap.size, 3, none⟩ = some (.int .i64 0)) := Lib.hid (fun wX hX => box_cells ((hX.block _ (heap_lt2 hz6)).trans hz6))
      have HCELLS : Hid (∀ wX, Below w6.heap.size w6 wX → wX.cell? ⟨bl, k, none⟩ = some sv ∧ wX.cell? ⟨w.heap.size, 0, none⟩ = some (.int .i64 p.x) ∧ wX.cell? ⟨w.heap.size, 1, none⟩ = some (.int .i64 p.y) ∧ wX.cell? ⟨w.heap.size + 1, 0, none⟩ = some (.int .i64 x.1.x) ∧ wX.cell? ⟨w.heap.size + 1, 1, none⟩ = some (.int .i64 x.1.y) ∧ wX.cell? ⟨w.heap.size + 1, 2, none⟩ = some (.int .i64 x.2.x) ∧ wX.cell? ⟨w.heap.size + 1, 3, none⟩ = some (.int .i64 x.2.y)) := Lib.hid (fun wX hX => by
        have h := HB6.out.trans (hX.mono HB6.out.size)
        have q0 := (HALL.out wX h).2.2.1
        have q1 := (HALL.out wX h).2.2.2.1
        exact ⟨HCC.out wX h, cell_of_row _ _ _ _ _ _ q0, cell_of_row _ _ _ _ _ _ q0, cell_of_row _ _ _ _ _ _ q1, cell_of_row _ _ _ _ _ _ q1, cell_of_row _ _ _ _ _ _ q1, cell_of_row _ _ _ _ _ _ q1⟩)
      have hN : ∀ wX, Below w6.heap.size w6 wX → NoTree wX sv := fun wX hX => HNO.out wX (HB6.out.trans (hX.mono HB6.out.size))
      have HAT : Hid (∀ wX, Below w6.heap.size w6 wX → Calls Try.prog 13 #[sv, .agg #[.int .i64 p.x, .int .i64 p.y]] wX fun e w' => e = .returned (.slice none 0 0) ∧ Below wX.heap.size wX w') := Lib.hid (fun wX hX => At_noneT sv p wX (hN wX hX))
      have HOV : Hid (∀ wX, Below w6.heap.size w6 wX → Calls Try.prog 16 #[sv, .agg #[.int .i64 x.1.x, .int .i64 x.1.y, .int .i64 x.2.x, .int .i64 x.2.y]] wX fun e w' => e = .returned (.slice none 0 0) ∧ Below wX.heap.size wX w') := Lib.hid (fun wX hX => Over_noneT sv x wX (hN wX hX))
      have HLN : Hid (∀ wX, Below w6.heap.size w6 wX → _) := Lib.hid (fun wX hX => Len_noneT sv wX (hN wX hX))
      have HDE : Hid (∀ wX, Below w6.heap.size w6 wX → _) := Lib.hid (fun wX hX => Depth_noneT sv wX (hN wX hX))
      have HOR : Hid (∀ wX, Below w6.heap.size w6 wX → _) := Lib.hid (fun wX hX => Order_noneT sv wX (hN wX hX))
      have HZZ := Lib.hid (And.intro hz6 hw6)
      clear hN cs hb5 hb6 hz6 hw6
      unfold p0
      go_wp2_with fail
      rw [← HZZ.out.2]
      have HOK : ∀ f ∈ ([] : List Fct), FctOk f := by
        intro f hf; cases hf
      refine wp_region_J (s := [(29, 0), (30, 1), (31, 2), (32, 3), (33, 4), (34, 5), (35, 6), (36, 7), (37, 8), (38, 9), (39, 10), (40, 11), (41, 12), (42, 13), (43, 14), (44, 15), (45, 16), (46, 17), (47, 18), (48, 19), (49, 20), (50, 21), (51, 22), (52, 23), (53, 24), (54, 25), (55, 26), (56, 27), (57, 28), (58, 29), (59, 30), (60, 31), (61, 32), (62, 33), (63, 34), (64, 35), (65, 36), (66, 37), (67, 38), (68, 39), (69, 40), (70, 41), (71, 42), (72, 43), (73, 44), (74, 45), (75, 46), (76, 47), (77, 48), (78, 49), (79, 50), (80, 51)]) (by kernel_rfl) (GrowJ w6 (fun iX => match iX with | 0 => some (.slice (some ⟨bl, 0, none⟩) 2 2) | 1 => some (.int .i64 (k : Int)) | 2 => some (.pointer (some ⟨bl, k, none⟩)) | 3 => some (sv) | 4 => some (.agg #[.int .i64 p.x, .int .i64 p.y]) | 5 => some (.slice none 0 0) | 6 => some (.int .i64 0) | 7 => some (.bool false) | 8 => some (.bool false) | 9 => some (.slice (some ⟨bl, 0, none⟩) 2 2) | 10 => some (.int .i64 (k : Int)) | 11 => some (.pointer (some ⟨bl, k, none⟩)) | 12 => some (sv) | 13 => some (.agg #[.int .i64 x.1.x, .int .i64 x.1.y, .int .i64 x.2.x, .int .i64 x.2.y]) | 14 => some (.slice none 0 0) | 15 => some (.int .i64 0) | 16 => some (.bool false) | 17 => some (.bool false) | 18 => some (.bool false) | 19 => some (.slice (some ⟨bl, 0, none⟩) 2 2) | 20 => some (.int .i64 (k : Int)) | 21 => some (.pointer (some ⟨bl, k, none⟩)) | 22 => some (sv) | 23 => some (.int .i64 0) | 24 => some (.bool false) | 25 => some (.bool false) | 26 => some (.bool false) | 27 => some (.slice (some ⟨bl, 0, none⟩) 2 2) | 28 => some (.int .i64 (k : Int)) | 29 => some (.pointer (some ⟨bl, k, none⟩)) | 30 => some (sv) | 31 => some (.int .i64 0) | 32 => some (.bool false) | 33 => some (.bool false) | 34 => some (.bool false) | 35 => some (.slice (some ⟨bl, 0, none⟩) 2 2) | 36 => some (.int .i64 (k : Int)) | 37 => some (.pointer (some ⟨bl, k, none⟩)) | 38 => some (sv) | 39 => some (.slice none 0 0) | 40 => some (.int .i64 0) | 41 => some (.bool false) | 42 => some (.bool false) | 43 => some (.bool false) | 44 => some (.agg #[.int .i64 0, .int .i64 0, .int .i64 0, .int .i64 0]) | 45 => some (.agg #[.int .i64 0, .int .i64 0, .int .i64 0, .int .i64 0]) | 46 => some (.bool false) | 47 => some (.bool false) | 48 => some (.bool false) | 49 => some (.int .i64 1) | 50 => some (.bool false) | 51 => some (.bool false) | _ => none) []) (by kernel_rfl) (by kernel_rfl) (by kernel_rfl) (by kernel_rfl) (fun _ => undef) ?start7 ?step7 ?done7
      case start7 => exact GrowJ.start ((Below.refl _ _).drew)
      case step7 =>
        refine ⟨?o7_0, ?o7_1, ?o7_2, ?o7_3, ?o7_4, ?o7_5, ?o7_6, ?o7_7, ?o7_8, ?o7_9, ?o7_10, ?o7_11, ?o7_12, ?o7_13, ?o7_14, ?o7_15, ?o7_16, ?o7_17, ?o7_18, ?o7_19, ?o7_20, ?o7_21, ?o7_22, ?o7_23, ?o7_24, ?o7_25, ?o7_26, ?o7_27, ?o7_28, ?o7_29, ?o7_30, ?o7_31, ?o7_32, ?o7_33, ?o7_34, ?o7_35, ?o7_36, ?o7_37, ?o7_38, ?o7_39, ?o7_40, ?o7_41, ?o7_42, ?o7_43, ?o7_44, ?o7_45, ?o7_46, ?o7_47, ?o7_48, ?o7_49, ?o7_50, ?o7_51, trivial⟩
        case o7_0 =>
          intro LX V aX wX K hl hp hcl hf hJ hK
          have t8 : aX.tmps[8]? = some (.slice (some ⟨bl, 0, none⟩) 2 2) := hf.old (by kernel_rfl) rfl
          rw [if_pos (by rfl)]
          go_simp
          exact hK _ _ (hJ.val HOK 0 _ (by kernel_rfl) rfl (Below.refl _ _))
        case o7_1 =>
          intro LX V aX wX K hl hp hcl hf hJ hK
          have t9 : aX.tmps[9]? = some (.int .i64 (k : Int)) := hf.old (by kernel_rfl) rfl
          rw [if_pos (by rfl)]
          go_simp
          exact hK _ _ (hJ.val HOK 1 _ (by kernel_rfl) rfl (Below.refl _ _))
        case o7_2 =>
          intro LX V aX wX K hl hp hcl hf hJ hK
          have t29 := hf.in (i := 0) (d := 29) (by kernel_rfl) (hp 0 (by kernel_rfl)) (hJ.vals 0 _ rfl (hp 0 (by kernel_rfl)))
          have t30 := hf.in (i := 1) (d := 30) (by kernel_rfl) (hp 1 (by kernel_rfl)) (hJ.vals 1 _ rfl (hp 1 (by kernel_rfl)))
          rw [if_pos (by rfl)]
          go_simp
          exact hK _ _ (hJ.val HOK 2 _ (by kernel_rfl) rfl (Below.refl _ _))
        case o7_3 =>
          intro LX V aX wX K hl hp hcl hf hJ hK
          have t31 := hf.in (i := 2) (d := 31) (by kernel_rfl) (hp 2 (by kernel_rfl)) (hJ.vals 2 _ rfl (hp 2 (by kernel_rfl)))
          obtain ⟨c0, c1, c2, c3, c4, c5, c6⟩ := HCELLS.out wX hJ.below
          rw [if_pos (by rfl)]
          go_simp
          exact hK _ _ (hJ.val HOK 3 _ (by kernel_rfl) rfl (Below.refl _ _))
        case o7_4 =>
          intro LX V aX wX K hl hp hcl hf hJ hK
          have t3 : aX.tmps[3]? = some (.pointer (some ⟨w.heap.size, 0, none⟩)) := hf.old (by kernel_rfl) rfl
          obtain ⟨c0, c1, c2, c3, c4, c5, c6⟩ := HCELLS.out wX hJ.below
          rw [if_pos (by rfl)]
          go_simp
          exact hK _ _ (hJ.val HOK 4 _ (by kernel_rfl) rfl (Below.refl _ _))
        case o7_5 =>
          intro LX V aX wX K hl hp hcl hf hJ hK
          have t32 := hf.in (i := 3) (d := 32) (by kernel_rfl) (hp 3 (by kernel_rfl)) (hJ.vals 3 _ rfl (hp 3 (by kernel_rfl)))
          have t33 := hf.in (i := 4) (d := 33) (by kernel_rfl) (hp 4 (by kernel_rfl)) (hJ.vals 4 _ rfl (hp 4 (by kernel_rfl)))
          rw [if_pos (by rfl)]
          go_simp
          refine (HAT.out _ hJ.below).mono ?_
          rintro e wA ⟨rfl, hbA⟩
          exact hK _ _ (hJ.val HOK 5 _ (by kernel_rfl) rfl (hbA))
        case o7_6 =>
          intro LX V aX wX K hl hp hcl hf hJ hK
          have t34 := hf.in (i := 5) (d := 34) (by kernel_rfl) (hp 5 (by kernel_rfl)) (hJ.vals 5 _ rfl (hp 5 (by kernel_rfl)))
          rw [if_pos (by rfl)]
          go_simp
          exact hK _ _ (hJ.val HOK 6 _ (by kernel_rfl) rfl (Below.refl _ _))
        case o7_7 =>
          intro LX V aX wX K hl hp hcl hf hJ hK
          have t35 := hf.in (i := 6) (d := 35) (by kernel_rfl) (hp 6 (by kernel_rfl)) (hJ.vals 6 _ rfl (hp 6 (by kernel_rfl)))
          rw [if_pos (by rfl)]
          go_simp
          exact hK _ _ (hJ.val HOK 7 _ (by kernel_rfl) rfl (Below.refl _ _))
        case o7_8 =>
          intro LX V aX wX K hl hp hcl hf hJ hK
          have t36 := hf.in (i := 7) (d := 36) (by kernel_rfl) (hp 7 (by kernel_rfl)) (hJ.vals 7 _ rfl (hp 7 (by kernel_rfl)))
          rw [if_pos (by rfl)]
          go_simp
          exact hK _ _ (hJ.val HOK 8 _ (by kernel_rfl) rfl (Below.refl _ _))
        case o7_9 =>
          intro LX V aX wX K hl hp hcl hf hJ hK
          have t8 : aX.tmps[8]? = some (.slice (some ⟨bl, 0, none⟩) 2 2) := hf.old (by kernel_rfl) rfl
          have t37 := hf.in (i := 8) (d := 37) (by kernel_rfl) (hp 8 (by kernel_rfl)) (hJ.vals 8 _ rfl (hp 8 (by kernel_rfl)))
          rw [if_pos (wanted_of rfl rfl t37)]
          go_simp
          exact hK _ _ (hJ.val HOK 9 _ (by kernel_rfl) rfl (Below.refl _ _))
        case o7_10 =>
          intro LX V aX wX K hl hp hcl hf hJ hK
          have t9 : aX.tmps[9]? = some (.int .i64 (k : Int)) := hf.old (by kernel_rfl) rfl
          have t37 := hf.in (i := 8) (d := 37) (by kernel_rfl) (hp 8 (by kernel_rfl)) (hJ.vals 8 _ rfl (hp 8 (by kernel_rfl)))
          rw [if_pos (wanted_of rfl rfl t37)]
          go_simp
          exact hK _ _ (hJ.val HOK 10 _ (by kernel_rfl) rfl (Below.refl _ _))
        case o7_11 =>
          intro LX V aX wX K hl hp hcl hf hJ hK
          have t38 := hf.in (i := 9) (d := 38) (by kernel_rfl) (hp 9 (by kernel_rfl)) (hJ.vals 9 _ rfl (hp 9 (by kernel_rfl)))
          have t39 := hf.in (i := 10) (d := 39) (by kernel_rfl) (hp 10 (by kernel_rfl)) (hJ.vals 10 _ rfl (hp 10 (by kernel_rfl)))
          have t37 := hf.in (i := 8) (d := 37) (by kernel_rfl) (hp 8 (by kernel_rfl)) (hJ.vals 8 _ rfl (hp 8 (by kernel_rfl)))
          rw [if_pos (wanted_of rfl rfl t37)]
          go_simp
          exact hK _ _ (hJ.val HOK 11 _ (by kernel_rfl) rfl (Below.refl _ _))
        case o7_12 =>
          intro LX V aX wX K hl hp hcl hf hJ hK
          have t40 := hf.in (i := 11) (d := 40) (by kernel_rfl) (hp 11 (by kernel_rfl)) (hJ.vals 11 _ rfl (hp 11 (by kernel_rfl)))
          have t37 := hf.in (i := 8) (d := 37) (by kernel_rfl) (hp 8 (by kernel_rfl)) (hJ.vals 8 _ rfl (hp 8 (by kernel_rfl)))
          obtain ⟨c0, c1, c2, c3, c4, c5, c6⟩ := HCELLS.out wX hJ.below
          rw [if_pos (wanted_of rfl rfl t37)]
          go_simp
          exact hK _ _ (hJ.val HOK 12 _ (by kernel_rfl) rfl (Below.refl _ _))
        case o7_13 =>
          intro LX V aX wX K hl hp hcl hf hJ hK
          have t4 : aX.tmps[4]? = some (.pointer (some ⟨w.heap.size + 1, 0, none⟩)) := hf.old (by kernel_rfl) rfl
          have t37 := hf.in (i := 8) (d := 37) (by kernel_rfl) (hp 8 (by kernel_rfl)) (hJ.vals 8 _ rfl (hp 8 (by kernel_rfl)))
          obtain ⟨c0, c1, c2, c3, c4, c5, c6⟩ := HCELLS.out wX hJ.below
          rw [if_pos (wanted_of rfl rfl t37)]
          go_simp
          exact hK _ _ (hJ.val HOK 13 _ (by kernel_rfl) rfl (Below.refl _ _))
        case o7_14 =>
          intro LX V aX wX K hl hp hcl hf hJ hK
          have t41 := hf.in (i := 12) (d := 41) (by kernel_rfl) (hp 12 (by kernel_rfl)) (hJ.vals 12 _ rfl (hp 12 (by kernel_rfl)))
          have t42 := hf.in (i := 13) (d := 42) (by kernel_rfl) (hp 13 (by kernel_rfl)) (hJ.vals 13 _ rfl (hp 13 (by kernel_rfl)))
          have t37 := hf.in (i := 8) (d := 37) (by kernel_rfl) (hp 8 (by kernel_rfl)) (hJ.vals 8 _ rfl (hp 8 (by kernel_rfl)))
          rw [if_pos (wanted_of rfl rfl t37)]
          go_simp
          refine (HOV.out _ hJ.below).mono ?_
          rintro e wA ⟨rfl, hbA⟩
          exact hK _ _ (hJ.val HOK 14 _ (by kernel_rfl) rfl (hbA))
        case o7_15 =>
          intro LX V aX wX K hl hp hcl hf hJ hK
          have t43 := hf.in (i := 14) (d := 43) (by kernel_rfl) (hp 14 (by kernel_rfl)) (hJ.vals 14 _ rfl (hp 14 (by kernel_rfl)))
          have t37 := hf.in (i := 8) (d := 37) (by kernel_rfl) (hp 8 (by kernel_rfl)) (hJ.vals 8 _ rfl (hp 8 (by kernel_rfl)))
          rw [if_pos (wanted_of rfl rfl t37)]
          go_simp
          exact hK _ _ (hJ.val HOK 15 _ (by kernel_rfl) rfl (Below.refl _ _))
        case o7_16 =>
          intro LX V aX wX K hl hp hcl hf hJ hK
          have t44 := hf.in (i := 15) (d := 44) (by kernel_rfl) (hp 15 (by kernel_rfl)) (hJ.vals 15 _ rfl (hp 15 (by kernel_rfl)))
          have t37 := hf.in (i := 8) (d := 37) (by kernel_rfl) (hp 8 (by kernel_rfl)) (hJ.vals 8 _ rfl (hp 8 (by kernel_rfl)))
          rw [if_pos (wanted_of rfl rfl t37)]
          go_simp
          exact hK _ _ (hJ.val HOK 16 _ (by kernel_rfl) rfl (Below.refl _ _))
        case o7_17 =>
          intro LX V aX wX K hl hp hcl hf hJ hK
          have t37 := hf.in (i := 8) (d := 37) (by kernel_rfl) (hp 8 (by kernel_rfl)) (hJ.vals 8 _ rfl (hp 8 (by kernel_rfl)))
          have t45 := hf.in (i := 16) (d := 45) (by kernel_rfl) (hp 16 (by kernel_rfl)) (hJ.vals 16 _ rfl (hp 16 (by kernel_rfl)))
          rw [if_pos (by rfl)]
          go_simp
          exact hK _ _ (hJ.val HOK 17 _ (by kernel_rfl) rfl (Below.refl _ _))
        case o7_18 =>
          intro LX V aX wX K hl hp hcl hf hJ hK
          have t46 := hf.in (i := 17) (d := 46) (by kernel_rfl) (hp 17 (by kernel_rfl)) (hJ.vals 17 _ rfl (hp 17 (by kernel_rfl)))
          rw [if_pos (by rfl)]
          go_simp
          exact hK _ _ (hJ.val HOK 18 _ (by kernel_rfl) rfl (Below.refl _ _))
        case o7_19 =>
          intro LX V aX wX K hl hp hcl hf hJ hK
          have t8 : aX.tmps[8]? = some (.slice (some ⟨bl, 0, none⟩) 2 2) := hf.old (by kernel_rfl) rfl
          have t47 := hf.in (i := 18) (d := 47) (by kernel_rfl) (hp 18 (by kernel_rfl)) (hJ.vals 18 _ rfl (hp 18 (by kernel_rfl)))
          rw [if_pos (wanted_of rfl rfl t47)]
          go_simp
          exact hK _ _ (hJ.val HOK 19 _ (by kernel_rfl) rfl (Below.refl _ _))
        case o7_20 =>
          intro LX V aX wX K hl hp hcl hf hJ hK
          have t9 : aX.tmps[9]? = some (.int .i64 (k : Int)) := hf.old (by kernel_rfl) rfl
          have t47 := hf.in (i := 18) (d := 47) (by kernel_rfl) (hp 18 (by kernel_rfl)) (hJ.vals 18 _ rfl (hp 18 (by kernel_rfl)))
          rw [if_pos (wanted_of rfl rfl t47)]
          go_simp
          exact hK _ _ (hJ.val HOK 20 _ (by kernel_rfl) rfl (Below.refl _ _))
        case o7_21 =>
          intro LX V aX wX K hl hp hcl hf hJ hK
          have t48 := hf.in (i := 19) (d := 48) (by kernel_rfl) (hp 19 (by kernel_rfl)) (hJ.vals 19 _ rfl (hp 19 (by kernel_rfl)))
          have t49 := hf.in (i := 20) (d := 49) (by kernel_rfl) (hp 20 (by kernel_rfl)) (hJ.vals 20 _ rfl (hp 20 (by kernel_rfl)))
          have t47 := hf.in (i := 18) (d := 47) (by kernel_rfl) (hp 18 (by kernel_rfl)) (hJ.vals 18 _ rfl (hp 18 (by kernel_rfl)))
          rw [if_pos (wanted_of rfl rfl t47)]
          go_simp
          exact hK _ _ (hJ.val HOK 21 _ (by kernel_rfl) rfl (Below.refl _ _))
        case o7_22 =>
          intro LX V aX wX K hl hp hcl hf hJ hK
          have t50 := hf.in (i := 21) (d := 50) (by kernel_rfl) (hp 21 (by kernel_rfl)) (hJ.vals 21 _ rfl (hp 21 (by kernel_rfl)))
          have t47 := hf.in (i := 18) (d := 47) (by kernel_rfl) (hp 18 (by kernel_rfl)) (hJ.vals 18 _ rfl (hp 18 (by kernel_rfl)))
          obtain ⟨c0, c1, c2, c3, c4, c5, c6⟩ := HCELLS.out wX hJ.below
          rw [if_pos (wanted_of rfl rfl t47)]
          go_simp
          exact hK _ _ (hJ.val HOK 22 _ (by kernel_rfl) rfl (Below.refl _ _))
        case o7_23 =>
          intro LX V aX wX K hl hp hcl hf hJ hK
          have t51 := hf.in (i := 22) (d := 51) (by kernel_rfl) (hp 22 (by kernel_rfl)) (hJ.vals 22 _ rfl (hp 22 (by kernel_rfl)))
          have t47 := hf.in (i := 18) (d := 47) (by kernel_rfl) (hp 18 (by kernel_rfl)) (hJ.vals 18 _ rfl (hp 18 (by kernel_rfl)))
          rw [if_pos (wanted_of rfl rfl t47)]
          go_simp
          refine (HLN.out _ hJ.below).mono ?_
          rintro e wA ⟨rfl, rfl⟩
          exact hK _ _ (hJ.val HOK 23 _ (by kernel_rfl) rfl (Below.refl _ _))
        case o7_24 =>
          intro LX V aX wX K hl hp hcl hf hJ hK
          have t52 := hf.in (i := 23) (d := 52) (by kernel_rfl) (hp 23 (by kernel_rfl)) (hJ.vals 23 _ rfl (hp 23 (by kernel_rfl)))
          have t47 := hf.in (i := 18) (d := 47) (by kernel_rfl) (hp 18 (by kernel_rfl)) (hJ.vals 18 _ rfl (hp 18 (by kernel_rfl)))
          rw [if_pos (wanted_of rfl rfl t47)]
          go_simp
          exact hK _ _ (hJ.val HOK 24 _ (by kernel_rfl) rfl (Below.refl _ _))
        case o7_25 =>
          intro LX V aX wX K hl hp hcl hf hJ hK
          have t47 := hf.in (i := 18) (d := 47) (by kernel_rfl) (hp 18 (by kernel_rfl)) (hJ.vals 18 _ rfl (hp 18 (by kernel_rfl)))
          have t53 := hf.in (i := 24) (d := 53) (by kernel_rfl) (hp 24 (by kernel_rfl)) (hJ.vals 24 _ rfl (hp 24 (by kernel_rfl)))
          rw [if_pos (by rfl)]
          go_simp
          exact hK _ _ (hJ.val HOK 25 _ (by kernel_rfl) rfl (Below.refl _ _))
        case o7_26 =>
          intro LX V aX wX K hl hp hcl hf hJ hK
          have t54 := hf.in (i := 25) (d := 54) (by kernel_rfl) (hp 25 (by kernel_rfl)) (hJ.vals 25 _ rfl (hp 25 (by kernel_rfl)))
          rw [if_pos (by rfl)]
          go_simp
          exact hK _ _ (hJ.val HOK 26 _ (by kernel_rfl) rfl (Below.refl _ _))
        case o7_27 =>
          intro LX V aX wX K hl hp hcl hf hJ hK
          have t8 : aX.tmps[8]? = some (.slice (some ⟨bl, 0, none⟩) 2 2) := hf.old (by kernel_rfl) rfl
          have t55 := hf.in (i := 26) (d := 55) (by kernel_rfl) (hp 26 (by kernel_rfl)) (hJ.vals 26 _ rfl (hp 26 (by kernel_rfl)))
          rw [if_pos (wanted_of rfl rfl t55)]
          go_simp
          exact hK _ _ (hJ.val HOK 27 _ (by kernel_rfl) rfl (Below.refl _ _))
        case o7_28 =>
          intro LX V aX wX K hl hp hcl hf hJ hK
          have t9 : aX.tmps[9]? = some (.int .i64 (k : Int)) := hf.old (by kernel_rfl) rfl
          have t55 := hf.in (i := 26) (d := 55) (by kernel_rfl) (hp 26 (by kernel_rfl)) (hJ.vals 26 _ rfl (hp 26 (by kernel_rfl)))
          rw [if_pos (wanted_of rfl rfl t55)]
          go_simp
          exact hK _ _ (hJ.val HOK 28 _ (by kernel_rfl) rfl (Below.refl _ _))
        case o7_29 =>
          intro LX V aX wX K hl hp hcl hf hJ hK
          have t56 := hf.in (i := 27) (d := 56) (by kernel_rfl) (hp 27 (by kernel_rfl)) (hJ.vals 27 _ rfl (hp 27 (by kernel_rfl)))
          have t57 := hf.in (i := 28) (d := 57) (by kernel_rfl) (hp 28 (by kernel_rfl)) (hJ.vals 28 _ rfl (hp 28 (by kernel_rfl)))
          have t55 := hf.in (i := 26) (d := 55) (by kernel_rfl) (hp 26 (by kernel_rfl)) (hJ.vals 26 _ rfl (hp 26 (by kernel_rfl)))
          rw [if_pos (wanted_of rfl rfl t55)]
          go_simp
          exact hK _ _ (hJ.val HOK 29 _ (by kernel_rfl) rfl (Below.refl _ _))
        case o7_30 =>
          intro LX V aX wX K hl hp hcl hf hJ hK
          have t58 := hf.in (i := 29) (d := 58) (by kernel_rfl) (hp 29 (by kernel_rfl)) (hJ.vals 29 _ rfl (hp 29 (by kernel_rfl)))
          have t55 := hf.in (i := 26) (d := 55) (by kernel_rfl) (hp 26 (by kernel_rfl)) (hJ.vals 26 _ rfl (hp 26 (by kernel_rfl)))
          obtain ⟨c0, c1, c2, c3, c4, c5, c6⟩ := HCELLS.out wX hJ.below
          rw [if_pos (wanted_of rfl rfl t55)]
          go_simp
          exact hK _ _ (hJ.val HOK 30 _ (by kernel_rfl) rfl (Below.refl _ _))
        case o7_31 =>
          intro LX V aX wX K hl hp hcl hf hJ hK
          have t59 := hf.in (i := 30) (d := 59) (by kernel_rfl) (hp 30 (by kernel_rfl)) (hJ.vals 30 _ rfl (hp 30 (by kernel_rfl)))
          have t55 := hf.in (i := 26) (d := 55) (by kernel_rfl) (hp 26 (by kernel_rfl)) (hJ.vals 26 _ rfl (hp 26 (by kernel_rfl)))
          rw [if_pos (wanted_of rfl rfl t55)]
          go_simp
          refine (HDE.out _ hJ.below).mono ?_
          rintro e wA ⟨rfl, rfl⟩
          exact hK _ _ (hJ.val HOK 31 _ (by kernel_rfl) rfl (Below.refl _ _))
        case o7_32 =>
          intro LX V aX wX K hl hp hcl hf hJ hK
          have t60 := hf.in (i := 31) (d := 60) (by kernel_rfl) (hp 31 (by kernel_rfl)) (hJ.vals 31 _ rfl (hp 31 (by kernel_rfl)))
          have t55 := hf.in (i := 26) (d := 55) (by kernel_rfl) (hp 26 (by kernel_rfl)) (hJ.vals 26 _ rfl (hp 26 (by kernel_rfl)))
          rw [if_pos (wanted_of rfl rfl t55)]
          go_simp
          exact hK _ _ (hJ.val HOK 32 _ (by kernel_rfl) rfl (Below.refl _ _))
        case o7_33 =>
          intro LX V aX wX K hl hp hcl hf hJ hK
          have t55 := hf.in (i := 26) (d := 55) (by kernel_rfl) (hp 26 (by kernel_rfl)) (hJ.vals 26 _ rfl (hp 26 (by kernel_rfl)))
          have t61 := hf.in (i := 32) (d := 61) (by kernel_rfl) (hp 32 (by kernel_rfl)) (hJ.vals 32 _ rfl (hp 32 (by kernel_rfl)))
          rw [if_pos (by rfl)]
          go_simp
          exact hK _ _ (hJ.val HOK 33 _ (by kernel_rfl) rfl (Below.refl _ _))
        case o7_34 =>
          intro LX V aX wX K hl hp hcl hf hJ hK
          have t62 := hf.in (i := 33) (d := 62) (by kernel_rfl) (hp 33 (by kernel_rfl)) (hJ.vals 33 _ rfl (hp 33 (by kernel_rfl)))
          rw [if_pos (by rfl)]
          go_simp
          exact hK _ _ (hJ.val HOK 34 _ (by kernel_rfl) rfl (Below.refl _ _))
        case o7_35 =>
          intro LX V aX wX K hl hp hcl hf hJ hK
          have t8 : aX.tmps[8]? = some (.slice (some ⟨bl, 0, none⟩) 2 2) := hf.old (by kernel_rfl) rfl
          have t63 := hf.in (i := 34) (d := 63) (by kernel_rfl) (hp 34 (by kernel_rfl)) (hJ.vals 34 _ rfl (hp 34 (by kernel_rfl)))
          rw [if_pos (wanted_of rfl rfl t63)]
          go_simp
          exact hK _ _ (hJ.val HOK 35 _ (by kernel_rfl) rfl (Below.refl _ _))
        case o7_36 =>
          intro LX V aX wX K hl hp hcl hf hJ hK
          have t9 : aX.tmps[9]? = some (.int .i64 (k : Int)) := hf.old (by kernel_rfl) rfl
          have t63 := hf.in (i := 34) (d := 63) (by kernel_rfl) (hp 34 (by kernel_rfl)) (hJ.vals 34 _ rfl (hp 34 (by kernel_rfl)))
          rw [if_pos (wanted_of rfl rfl t63)]
          go_simp
          exact hK _ _ (hJ.val HOK 36 _ (by kernel_rfl) rfl (Below.refl _ _))
        case o7_37 =>
          intro LX V aX wX K hl hp hcl hf hJ hK
          have t64 := hf.in (i := 35) (d := 64) (by kernel_rfl) (hp 35 (by kernel_rfl)) (hJ.vals 35 _ rfl (hp 35 (by kernel_rfl)))
          have t65 := hf.in (i := 36) (d := 65) (by kernel_rfl) (hp 36 (by kernel_rfl)) (hJ.vals 36 _ rfl (hp 36 (by kernel_rfl)))
          have t63 := hf.in (i := 34) (d := 63) (by kernel_rfl) (hp 34 (by kernel_rfl)) (hJ.vals 34 _ rfl (hp 34 (by kernel_rfl)))
          rw [if_pos (wanted_of rfl rfl t63)]
          go_simp
          exact hK _ _ (hJ.val HOK 37 _ (by kernel_rfl) rfl (Below.refl _ _))
        case o7_38 =>
          intro LX V aX wX K hl hp hcl hf hJ hK
          have t66 := hf.in (i := 37) (d := 66) (by kernel_rfl) (hp 37 (by kernel_rfl)) (hJ.vals 37 _ rfl (hp 37 (by kernel_rfl)))
          have t63 := hf.in (i := 34) (d := 63) (by kernel_rfl) (hp 34 (by kernel_rfl)) (hJ.vals 34 _ rfl (hp 34 (by kernel_rfl)))
          obtain ⟨c0, c1, c2, c3, c4, c5, c6⟩ := HCELLS.out wX hJ.below
          rw [if_pos (wanted_of rfl rfl t63)]
          go_simp
          exact hK _ _ (hJ.val HOK 38 _ (by kernel_rfl) rfl (Below.refl _ _))
        case o7_39 =>
          intro LX V aX wX K hl hp hcl hf hJ hK
          have t67 := hf.in (i := 38) (d := 67) (by kernel_rfl) (hp 38 (by kernel_rfl)) (hJ.vals 38 _ rfl (hp 38 (by kernel_rfl)))
          have t63 := hf.in (i := 34) (d := 63) (by kernel_rfl) (hp 34 (by kernel_rfl)) (hJ.vals 34 _ rfl (hp 34 (by kernel_rfl)))
          rw [if_pos (wanted_of rfl rfl t63)]
          go_simp
          refine (HOR.out _ hJ.below).mono ?_
          rintro e wA ⟨rfl, rfl⟩
          exact hK _ _ (hJ.val HOK 39 _ (by kernel_rfl) rfl (Below.refl _ _))
        case o7_40 =>
          intro LX V aX wX K hl hp hcl hf hJ hK
          have t68 := hf.in (i := 39) (d := 68) (by kernel_rfl) (hp 39 (by kernel_rfl)) (hJ.vals 39 _ rfl (hp 39 (by kernel_rfl)))
          have t63 := hf.in (i := 34) (d := 63) (by kernel_rfl) (hp 34 (by kernel_rfl)) (hJ.vals 34 _ rfl (hp 34 (by kernel_rfl)))
          rw [if_pos (wanted_of rfl rfl t63)]
          go_simp
          exact hK _ _ (hJ.val HOK 40 _ (by kernel_rfl) rfl (Below.refl _ _))
        case o7_41 =>
          intro LX V aX wX K hl hp hcl hf hJ hK
          have t69 := hf.in (i := 40) (d := 69) (by kernel_rfl) (hp 40 (by kernel_rfl)) (hJ.vals 40 _ rfl (hp 40 (by kernel_rfl)))
          have t63 := hf.in (i := 34) (d := 63) (by kernel_rfl) (hp 34 (by kernel_rfl)) (hJ.vals 34 _ rfl (hp 34 (by kernel_rfl)))
          rw [if_pos (wanted_of rfl rfl t63)]
          go_simp
          exact hK _ _ (hJ.val HOK 41 _ (by kernel_rfl) rfl (Below.refl _ _))
        case o7_42 =>
          intro LX V aX wX K hl hp hcl hf hJ hK
          have t63 := hf.in (i := 34) (d := 63) (by kernel_rfl) (hp 34 (by kernel_rfl)) (hJ.vals 34 _ rfl (hp 34 (by kernel_rfl)))
          have t70 := hf.in (i := 41) (d := 70) (by kernel_rfl) (hp 41 (by kernel_rfl)) (hJ.vals 41 _ rfl (hp 41 (by kernel_rfl)))
          rw [if_pos (by rfl)]
          go_simp
          exact hK _ _ (hJ.val HOK 42 _ (by kernel_rfl) rfl (Below.refl _ _))
        case o7_43 =>
          intro LX V aX wX K hl hp hcl hf hJ hK
          have t71 := hf.in (i := 42) (d := 71) (by kernel_rfl) (hp 42 (by kernel_rfl)) (hJ.vals 42 _ rfl (hp 42 (by kernel_rfl)))
          rw [if_pos (by rfl)]
          go_simp
          exact hK _ _ (hJ.val HOK 43 _ (by kernel_rfl) rfl (Below.refl _ _))
        case o7_44 =>
          intro LX V aX wX K hl hp hcl hf hJ hK
          have t10 : aX.tmps[10]? = some (.pointer (some ⟨w5.heap.size, 0, none⟩)) := hf.old (by kernel_rfl) rfl
          have t72 := hf.in (i := 43) (d := 72) (by kernel_rfl) (hp 43 (by kernel_rfl)) (hJ.vals 43 _ rfl (hp 43 (by kernel_rfl)))
          obtain ⟨z0, z1, z2, z3⟩ := HZ.out wX hJ.below
          rw [if_pos (wanted_of rfl rfl t72)]
          go_simp
          exact hK _ _ (hJ.val HOK 44 _ (by kernel_rfl) rfl (Below.refl _ _))
        case o7_45 =>
          intro LX V aX wX K hl hp hcl hf hJ hK
          have t72 := hf.in (i := 43) (d := 72) (by kernel_rfl) (hp 43 (by kernel_rfl)) (hJ.vals 43 _ rfl (hp 43 (by kernel_rfl)))
          rw [if_pos (wanted_of rfl rfl t72)]
          go_simp
          exact hK _ _ (hJ.val HOK 45 _ (by kernel_rfl) rfl (Below.refl _ _))
        case o7_46 =>
          intro LX V aX wX K hl hp hcl hf hJ hK
          have t73 := hf.in (i := 44) (d := 73) (by kernel_rfl) (hp 44 (by kernel_rfl)) (hJ.vals 44 _ rfl (hp 44 (by kernel_rfl)))
          have t74 := hf.in (i := 45) (d := 74) (by kernel_rfl) (hp 45 (by kernel_rfl)) (hJ.vals 45 _ rfl (hp 45 (by kernel_rfl)))
          have t72 := hf.in (i := 43) (d := 72) (by kernel_rfl) (hp 43 (by kernel_rfl)) (hJ.vals 43 _ rfl (hp 43 (by kernel_rfl)))
          have hqb := eqBox0
          rw [if_pos (wanted_of rfl rfl t72)]
          go_simp
          exact hK _ _ (hJ.val HOK 46 _ (by kernel_rfl) rfl (Below.refl _ _))
        case o7_47 =>
          intro LX V aX wX K hl hp hcl hf hJ hK
          have t72 := hf.in (i := 43) (d := 72) (by kernel_rfl) (hp 43 (by kernel_rfl)) (hJ.vals 43 _ rfl (hp 43 (by kernel_rfl)))
          have t75 := hf.in (i := 46) (d := 75) (by kernel_rfl) (hp 46 (by kernel_rfl)) (hJ.vals 46 _ rfl (hp 46 (by kernel_rfl)))
          rw [if_pos (by rfl)]
          go_simp
          exact hK _ _ (hJ.val HOK 47 _ (by kernel_rfl) rfl (Below.refl _ _))
        case o7_48 =>
          intro LX V aX wX K hl hp hcl hf hJ hK
          have t76 := hf.in (i := 47) (d := 76) (by kernel_rfl) (hp 47 (by kernel_rfl)) (hJ.vals 47 _ rfl (hp 47 (by kernel_rfl)))
          rw [if_pos (by rfl)]
          go_simp
          exact hK _ _ (hJ.val HOK 48 _ (by kernel_rfl) rfl (Below.refl _ _))
        case o7_49 =>
          intro LX V aX wX K hl hp hcl hf hJ hK
          have t11 : aX.tmps[11]? = some (.int .i64 1) := hf.old (by kernel_rfl) rfl
          have t77 := hf.in (i := 48) (d := 77) (by kernel_rfl) (hp 48 (by kernel_rfl)) (hJ.vals 48 _ rfl (hp 48 (by kernel_rfl)))
          rw [if_pos (wanted_of rfl rfl t77)]
          go_simp
          exact hK _ _ (hJ.val HOK 49 _ (by kernel_rfl) rfl (Below.refl _ _))
        case o7_50 =>
          intro LX V aX wX K hl hp hcl hf hJ hK
          have t78 := hf.in (i := 49) (d := 78) (by kernel_rfl) (hp 49 (by kernel_rfl)) (hJ.vals 49 _ rfl (hp 49 (by kernel_rfl)))
          have t77 := hf.in (i := 48) (d := 77) (by kernel_rfl) (hp 48 (by kernel_rfl)) (hJ.vals 48 _ rfl (hp 48 (by kernel_rfl)))
          rw [if_pos (wanted_of rfl rfl t77)]
          go_simp
          exact hK _ _ (hJ.val HOK 50 _ (by kernel_rfl) rfl (Below.refl _ _))
        case o7_51 =>
          intro LX V aX wX K hl hp hcl hf hJ hK
          have t77 := hf.in (i := 48) (d := 77) (by kernel_rfl) (hp 48 (by kernel_rfl)) (hJ.vals 48 _ rfl (hp 48 (by kernel_rfl)))
          have t79 := hf.in (i := 50) (d := 79) (by kernel_rfl) (hp 50 (by kernel_rfl)) (hJ.vals 50 _ rfl (hp 50 (by kernel_rfl)))
          rw [if_pos (by rfl)]
          go_simp
          exact hK _ _ (hJ.val HOK 51 _ (by kernel_rfl) rfl (Below.refl _ _))
      intro V wZ hJ
      have hv := hJ.vals 51 _ rfl (by kernel_rfl)
      have HBZ := Lib.hid hJ.below
      simp only [puts, Act.put, List.setIfInBounds_toArray, List.set_cons_zero, List.set_cons_succ]
      rw [hv]
      clear hJ HOK hv
      go_wp2_with fail
      go_roundw
      case rel => exact ⟨k + 1, by omega, by go_num, Lib.hid (HB6.out.trans (HBZ.out.mono HB6.out.size))⟩
      case measure => simp [intOf]; omega
    · have hk2 : k = 2 := by omega
      subst hk2
      go_wp2_with fail
      refine (awake_any wr).mono ?_
      rintro e w6 ⟨rfl, hb6⟩
      have HB6 := Lib.hid (HB3.out.trans ((hb.out.trans (hb6.mono hb.out.size)).mono HB3.out.size))
      clear hb6
      go_wp2_with fail
      go_ret
      exact ⟨rfl, HB6.out⟩
end Go.Proofs.Ytlmmejdcjhbppaa

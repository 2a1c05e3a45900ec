/- SlabNone: a *Slabs that is none, or that Build did not make (printed by mkslabnone.py) -/
import Derived.Test.YtdikecfplohpeaaMSAwake
set_option linter.unusedSimpArgs false
set_option linter.unusedVariables false
namespace Go.Proofs.Ytdikecfplohpeaa
open Go.RowKit Go.Geo
attribute [local go_sem] Oper.semAt_some
/-- none, or not made. -/
def NoS (w : World) (s : Value) : Prop := s = .pointer none ∨ ∃ g, s = .pointer (some ⟨g, 0, none⟩) ∧ w.cell? ⟨g, 0, none⟩ = some (.bool false)
theorem NoS.later {w w' : World} {s : Value} (h : NoS w s) (hb : Below w.heap.size w w') : NoS w' s := by
  rcases h with h | ⟨g, h1, h2⟩
  · exact .inl h
  · exact .inr ⟨g, h1, (hb.cell (p := ⟨g, 0, none⟩) (block_lt_of_cell h2)).trans h2⟩
set_option maxRecDepth 100000 in
theorem Len_none (s : Value) (w : World) (h : NoS w s) : Calls Try.prog 12 #[s] w fun e w' => e = .returned (.int .i64 0) ∧ w' = w := by
  rcases h with rfl | ⟨g, rfl, c0⟩
  · go_enter Try.func12, Try.ntmps12
    go_wp2_with fail
    go_ret
    exact ⟨rfl, rfl⟩
  · go_enter Try.func12, Try.ntmps12
    go_wp2_with fail
    go_ret
    exact ⟨rfl, rfl⟩
set_option maxRecDepth 100000 in
theorem Slab_none (s : Value) (i : Int) (w : World) (h : NoS w s) : Calls Try.prog 13 #[s, .int .i64 i] w fun e w' => e = .returned (.tuple #[.int .i64 0, .int .i64 0, .int .i64 0, .int .i64 1]) ∧ w' = w := by
  rcases h with rfl | ⟨g, rfl, c0⟩
  · go_enter Try.func13, Try.ntmps13
    go_wp2_with fail
    (try simp only [Exit.inBlock, Exit.then]); refine bodyPost_ret (results_tmp4 rfl _ _ _) rfl ?_
    exact ⟨rfl, rfl⟩
  · go_enter Try.func13, Try.ntmps13
    go_wp2_with fail
    (try simp only [Exit.inBlock, Exit.then]); refine bodyPost_ret (results_tmp4 rfl _ _ _) rfl ?_
    exact ⟨rfl, rfl⟩
set_option maxRecDepth 100000 in
theorem Crossings_none (s : Value) (p : Pt) (w : World) (h : NoS w s) : Calls Try.prog 17 #[s, ptV p] w fun e w' => e = .returned (.int .i64 0) ∧ Below w.heap.size w w' := by
  unfold ptV
  rcases h with rfl | ⟨g, rfl, c0⟩
  · go_enter Try.func17, Try.ntmps17
    go_wp2_with fail
    go_ret
    exact ⟨rfl, (Below.refl _ _).alloc (Nat.le_refl _) _⟩
  · have c1 : (w.alloc (.cells #[.int .i64 p.x, .int .i64 p.y] 40)).cell? ⟨g, 0, none⟩ = some (.bool false) := (((Below.refl w.heap.size w).alloc (Nat.le_refl _) _).cell (p := ⟨g, 0, none⟩) (block_lt_of_cell c0)).trans c0
    go_enter Try.func17, Try.ntmps17
    go_wp2_with fail
    go_ret
    exact ⟨rfl, (Below.refl _ _).alloc (Nat.le_refl _) _⟩
set_option maxRecDepth 100000 in
theorem In_none (s : Value) (p : Pt) (w : World) (h : NoS w s) : Calls Try.prog 16 #[s, ptV p] w fun e w' => e = .returned (.bool false) ∧ Below w.heap.size w w' := by
  obtain ⟨W, hW⟩ : ∃ W, W = w.alloc (.cells #[.int .i64 p.x, .int .i64 p.y] 40) := ⟨_, rfl⟩
  have hg0 : Below w.heap.size w W := by rw [hW]; exact (Below.refl _ _).alloc (Nat.le_refl _) _
  have HC := Lib.hid (Crossings_none s p W (h.later hg0))
  have H0 := Lib.hid hg0
  clear h hg0
  unfold ptV at HC ⊢
  go_enter Try.func16, Try.ntmps16
  go_wp2_with fail
  rw [← hW]
  clear hW
  refine HC.out.mono ?_
  rintro e w1 ⟨rfl, hb⟩
  have HB := Lib.hid hb
  clear hb
  go_wp2_with fail
  go_ret
  exact ⟨rfl, H0.out.trans (HB.out.mono H0.out.size)⟩
set_option maxRecDepth 100000 in
theorem Most_none (s : Value) (w : World) (h : NoS w s) : Calls Try.prog 15 #[s] w fun e w' => e = .returned (.int .i64 0) ∧ Below w.heap.size w w' := by
  have HLE := Lib.hid (Len_none s w h)
  clear h
  go_enter Try.func15, Try.ntmps15
  go_wp2_with fail
  refine HLE.out.mono ?_
  rintro e w1 ⟨rfl, rfl⟩
  go_wp2_with fail
  go_loopw [3, 7] (fun s i wr => s = .int .i64 0 ∧ i = .int .i64 0 ∧ wr = w1) (fun _ i _ => 0)
  case atStart => exact ⟨rfl, rfl, rfl⟩
  case round =>
    obtain ⟨rfl, rfl, rfl⟩ := hrel
    go_wp2_with fail
    go_ret
    exact ⟨rfl, Below.refl _ _⟩
set_option maxRecDepth 100000 in
set_option maxHeartbeats 4000000 in
theorem SlabNone_any (p : Pt) (i : Int) (w : World) : Calls Try.prog 4 #[ptV p, .int .i64 i] w fun e w' => e = .returned (.bool true) ∧ Below w.heap.size w w' := by
  unfold ptV
  obtain ⟨W1, hW1⟩ : ∃ W, W = w.alloc (.cells #[.int .i64 p.x, .int .i64 p.y] 40) := ⟨_, rfl⟩
  obtain ⟨W2, hW2⟩ : ∃ W, W = W1.alloc (.cells #[.bool false, .slice none 0 0, .slice none 0 0, .slice none 0 0] 43) := ⟨_, rfl⟩
  obtain ⟨g, hg⟩ : ∃ g, g = W1.heap.size := ⟨_, rfl⟩
  obtain ⟨W3, hW3⟩ : ∃ W, W = W2.alloc (.cells #[.pointer none, .pointer (some ⟨g, 0, none⟩)] 27) := ⟨_, rfl⟩
  obtain ⟨bl, hbl⟩ : ∃ g, g = W2.heap.size := ⟨_, rfl⟩
  have hb1 : Below w.heap.size w W1 := by rw [hW1]; exact (Below.refl _ _).alloc (Nat.le_refl _) _
  have hb2 : Below W1.heap.size W1 W2 := by rw [hW2]; exact (Below.refl _ _).alloc (Nat.le_refl _) _
  have hb3 : Below W2.heap.size W2 W3 := by rw [hW3]; exact (Below.refl _ _).alloc (Nat.le_refl _) _
  have k1 : W1.heap[w.heap.size]? = some (.cells #[.int .i64 p.x, .int .i64 p.y] 40 (0, 0)) := by rw [hW1]; exact alloc_new _ _
  have k2 : W2.heap[g]? = some (.cells #[.bool false, .slice none 0 0, .slice none 0 0, .slice none 0 0] 43 (0, 0)) := by rw [hW2, hg]; exact alloc_new _ _
  have k3 : W3.heap[bl]? = some (.cells #[.pointer none, .pointer (some ⟨g, 0, none⟩)] 27 (0, 0)) := by rw [hW3, hbl]; exact alloc_new _ _
  have hg1 : g = w.heap.size + 1 := by rw [hg, hW1]; simp
  have hbl1 : bl = w.heap.size + 1 + 1 := by rw [hbl, hW2]; simp; rw [hW1]; simp
  have k1' := (hb3.block _ (heap_lt' ((hb2.block _ (heap_lt' k1)).trans k1))).trans ((hb2.block _ (heap_lt' k1)).trans k1)
  have k2' := (hb3.block _ (heap_lt' k2)).trans k2
  have HB3 := Lib.hid (hb1.trans ((hb2.trans (hb3.mono hb2.size)).mono hb1.size))
  have HALL : Hid (∀ wX, Below W3.heap.size W3 wX → wX.cell? ⟨bl, 0, none⟩ = some (.pointer none) ∧ wX.cell? ⟨bl, 1, none⟩ = some (.pointer (some ⟨g, 0, none⟩)) ∧ wX.cell? ⟨w.heap.size, 0, none⟩ = some (.int .i64 p.x) ∧ wX.cell? ⟨w.heap.size, 1, none⟩ = some (.int .i64 p.y) ∧ wX.cell? ⟨g, 0, none⟩ = some (.bool false)) := Lib.hid (fun wX hX => by
    have q1 := (hX.block _ (heap_lt' k1')).trans k1'
    have q2 := (hX.block _ (heap_lt' k2')).trans k2'
    have q3 := (hX.block _ (heap_lt' k3)).trans k3
    exact ⟨cell_of_row _ _ _ _ _ _ q3, cell_of_row _ _ _ _ _ _ q3, cell_of_row _ _ _ _ _ _ q1, cell_of_row _ _ _ _ _ _ q1, cell_of_row _ _ _ _ _ _ q2⟩)
  clear hb1 hb2 hb3 k1 k2 k3 k1' k2' hg hbl
  rw [hW1] at hW2
  rw [hW2, hg1] at hW3
  go_enter Try.func4, Try.ntmps4
  go_wp2_with fail
  rw [← hW3, ← hbl1]
  clear hW3 hW2 hW1 hbl1 hg1
  go_loopw [7] (fun j wr => ∃ k : Nat, k ≤ 2 ∧ j = .int .i64 k ∧ Hid (Below W3.heap.size W3 wr)) (fun j _ => 2 - (intOf j).toNat)
  case atStart => exact ⟨0, by omega, rfl, Below.refl _ _⟩
  case round =>
    obtain ⟨k, hk, rfl, hb⟩ := hrel
    by_cases hlt : k < 2
    · have hk0 : (0 : Int) ≤ (k : Int) := by omega
      have hk5 : (k : Int) < 2 := by omega
      have hsv : ∃ sv : Value, (∀ wX, Below W3.heap.size W3 wX → wX.cell? ⟨bl, k, none⟩ = some sv) ∧ ∀ wX, Below W3.heap.size W3 wX → NoS wX sv := by
        rcases (show k = 0 ∨ k = 1 by omega) with rfl | rfl
        · exact ⟨_, fun wX hX => (HALL.out wX hX).1, fun wX hX => .inl rfl⟩
        · exact ⟨_, fun wX hX => (HALL.out wX hX).2.1, fun wX hX => .inr ⟨g, rfl, (HALL.out wX hX).2.2.2.2⟩⟩
      obtain ⟨sv, hc, hno⟩ := hsv
      have HCC := Lib.hid hc
      have HNO := Lib.hid hno
      have cs := hc wr hb.out
      have HS := Lib.hid (Slab_none sv i wr (hno wr hb.out))
      clear hc hno
      go_wp2_with fail
      refine HS.out.mono ?_
      rintro e w5 ⟨rfl, hw5⟩
      have HB5 : Hid (Below W3.heap.size W3 w5) := Lib.hid (by rw [hw5]; exact hb.out)
      have HCELLS : Hid (∀ wX, Below w5.heap.size w5 wX → wX.cell? ⟨bl, k, none⟩ = some sv ∧ wX.cell? ⟨w.heap.size, 0, none⟩ = some (.int .i64 p.x) ∧ wX.cell? ⟨w.heap.size, 1, none⟩ = some (.int .i64 p.y)) := Lib.hid (fun wX hX => by
        have h := HB5.out.trans (hX.mono HB5.out.size)
        exact ⟨HCC.out wX h, (HALL.out wX h).2.2.1, (HALL.out wX h).2.2.2.1⟩)
      have hN : ∀ wX, Below w5.heap.size w5 wX → NoS wX sv := fun wX hX => HNO.out wX (HB5.out.trans (hX.mono HB5.out.size))
      have HIN : Hid (∀ wX, Below w5.heap.size w5 wX → Calls Try.prog 16 #[sv, .agg #[.int .i64 p.x, .int .i64 p.y]] wX fun e w' => e = .returned (.bool false) ∧ Below wX.heap.size wX w') := Lib.hid (fun wX hX => In_none sv p wX (hN wX hX))
      have HCR : Hid (∀ wX, Below w5.heap.size w5 wX → Calls Try.prog 17 #[sv, .agg #[.int .i64 p.x, .int .i64 p.y]] wX fun e w' => e = .returned (.int .i64 0) ∧ Below wX.heap.size wX w') := Lib.hid (fun wX hX => Crossings_none sv p wX (hN wX hX))
      have HLN : Hid (∀ wX, Below w5.heap.size w5 wX → _) := Lib.hid (fun wX hX => Len_none sv wX (hN wX hX))
      have HMO : Hid (∀ wX, Below w5.heap.size w5 wX → _) := Lib.hid (fun wX hX => Most_none sv wX (hN wX hX))
      clear hw5 hN cs
      go_wp2_with fail
      have HOK : ∀ f ∈ ([] : List Fct), FctOk f := by
        intro f hf; cases hf
      refine wp_region_J (s := [(31, 0), (32, 1), (33, 2), (34, 3), (35, 4), (36, 5), (37, 6), (38, 7), (39, 8), (40, 9), (41, 10), (42, 11), (43, 12), (44, 13), (45, 14), (46, 15), (47, 16), (48, 17), (49, 18), (50, 19), (51, 20), (52, 21), (53, 22), (54, 23), (55, 24), (56, 25), (57, 26), (58, 27), (59, 28), (60, 29), (61, 30), (62, 31), (63, 32), (64, 33), (65, 34), (66, 35), (67, 36), (68, 37), (69, 38), (70, 39), (71, 40), (72, 41), (73, 42), (74, 43), (75, 44), (76, 45), (77, 46)]) (by kernel_rfl) (GrowJ w5 (fun iX => match iX with | 0 => some (.slice (some ⟨bl, 0, none⟩) 2 2) | 1 => some (.int .i64 (k : Int)) | 2 => some (.pointer (some ⟨bl, k, none⟩)) | 3 => some (sv) | 4 => some (.agg #[.int .i64 p.x, .int .i64 p.y]) | 5 => some (.bool false) | 6 => some (.bool false) | 7 => some (.slice (some ⟨bl, 0, none⟩) 2 2) | 8 => some (.int .i64 (k : Int)) | 9 => some (.pointer (some ⟨bl, k, none⟩)) | 10 => some (sv) | 11 => some (.agg #[.int .i64 p.x, .int .i64 p.y]) | 12 => some (.int .i64 0) | 13 => some (.bool false) | 14 => some (.bool false) | 15 => some (.bool false) | 16 => some (.slice (some ⟨bl, 0, none⟩) 2 2) | 17 => some (.int .i64 (k : Int)) | 18 => some (.pointer (some ⟨bl, k, none⟩)) | 19 => some (sv) | 20 => some (.int .i64 0) | 21 => some (.bool false) | 22 => some (.bool false) | 23 => some (.bool false) | 24 => some (.slice (some ⟨bl, 0, none⟩) 2 2) | 25 => some (.int .i64 (k : Int)) | 26 => some (.pointer (some ⟨bl, k, none⟩)) | 27 => some (sv) | 28 => some (.int .i64 0) | 29 => some (.bool false) | 30 => some (.bool false) | 31 => some (.bool false) | 32 => some (.int .i64 0) | 33 => some (.bool false) | 34 => some (.bool false) | 35 => some (.bool false) | 36 => some (.int .i64 0) | 37 => some (.bool false) | 38 => some (.bool false) | 39 => some (.bool false) | 40 => some (.int .i64 0) | 41 => some (.bool false) | 42 => some (.bool false) | 43 => some (.bool false) | 44 => some (.int .i64 1) | 45 => some (.bool false) | 46 => some (.bool false) | _ => none) []) (by kernel_rfl) (by kernel_rfl) (by kernel_rfl) (by kernel_rfl) (fun _ => undef) ?start7 ?step7 ?done7
      case start7 => exact GrowJ.start ((Below.refl _ _).drew)
      case step7 =>
        refine ⟨?o7_0, ?o7_1, ?o7_2, ?o7_3, ?o7_4, ?o7_5, ?o7_6, ?o7_7, ?o7_8, ?o7_9, ?o7_10, ?o7_11, ?o7_12, ?o7_13, ?o7_14, ?o7_15, ?o7_16, ?o7_17, ?o7_18, ?o7_19, ?o7_20, ?o7_21, ?o7_22, ?o7_23, ?o7_24, ?o7_25, ?o7_26, ?o7_27, ?o7_28, ?o7_29, ?o7_30, ?o7_31, ?o7_32, ?o7_33, ?o7_34, ?o7_35, ?o7_36, ?o7_37, ?o7_38, ?o7_39, ?o7_40, ?o7_41, ?o7_42, ?o7_43, ?o7_44, ?o7_45, ?o7_46, trivial⟩
        case o7_0 =>
          intro LX V aX wX K hl hp hcl hf hJ hK
          have t6 : aX.tmps[6]? = some (.slice (some ⟨bl, 0, none⟩) 2 2) := hf.old (by kernel_rfl) rfl
          rw [if_pos (by rfl)]
          go_simp
          exact hK _ _ (hJ.val HOK 0 _ (by kernel_rfl) rfl (Below.refl _ _))
        case o7_1 =>
          intro LX V aX wX K hl hp hcl hf hJ hK
          have t7 : aX.tmps[7]? = some (.int .i64 (k : Int)) := hf.old (by kernel_rfl) rfl
          rw [if_pos (by rfl)]
          go_simp
          exact hK _ _ (hJ.val HOK 1 _ (by kernel_rfl) rfl (Below.refl _ _))
        case o7_2 =>
          intro LX V aX wX K hl hp hcl hf hJ hK
          have t31 := hf.in (i := 0) (d := 31) (by kernel_rfl) (hp 0 (by kernel_rfl)) (hJ.vals 0 _ rfl (hp 0 (by kernel_rfl)))
          have t32 := hf.in (i := 1) (d := 32) (by kernel_rfl) (hp 1 (by kernel_rfl)) (hJ.vals 1 _ rfl (hp 1 (by kernel_rfl)))
          rw [if_pos (by rfl)]
          go_simp
          exact hK _ _ (hJ.val HOK 2 _ (by kernel_rfl) rfl (Below.refl _ _))
        case o7_3 =>
          intro LX V aX wX K hl hp hcl hf hJ hK
          have t33 := hf.in (i := 2) (d := 33) (by kernel_rfl) (hp 2 (by kernel_rfl)) (hJ.vals 2 _ rfl (hp 2 (by kernel_rfl)))
          obtain ⟨c0, c1, c2⟩ := HCELLS.out wX hJ.below
          rw [if_pos (by rfl)]
          go_simp
          exact hK _ _ (hJ.val HOK 3 _ (by kernel_rfl) rfl (Below.refl _ _))
        case o7_4 =>
          intro LX V aX wX K hl hp hcl hf hJ hK
          have t2 : aX.tmps[2]? = some (.pointer (some ⟨w.heap.size, 0, none⟩)) := hf.old (by kernel_rfl) rfl
          obtain ⟨c0, c1, c2⟩ := HCELLS.out wX hJ.below
          rw [if_pos (by rfl)]
          go_simp
          exact hK _ _ (hJ.val HOK 4 _ (by kernel_rfl) rfl (Below.refl _ _))
        case o7_5 =>
          intro LX V aX wX K hl hp hcl hf hJ hK
          have t34 := hf.in (i := 3) (d := 34) (by kernel_rfl) (hp 3 (by kernel_rfl)) (hJ.vals 3 _ rfl (hp 3 (by kernel_rfl)))
          have t35 := hf.in (i := 4) (d := 35) (by kernel_rfl) (hp 4 (by kernel_rfl)) (hJ.vals 4 _ rfl (hp 4 (by kernel_rfl)))
          rw [if_pos (by rfl)]
          go_simp
          refine (HIN.out _ hJ.below).mono ?_
          rintro e wA ⟨rfl, hbA⟩
          exact hK _ _ (hJ.val HOK 5 _ (by kernel_rfl) rfl (hbA))
        case o7_6 =>
          intro LX V aX wX K hl hp hcl hf hJ hK
          have t36 := hf.in (i := 5) (d := 36) (by kernel_rfl) (hp 5 (by kernel_rfl)) (hJ.vals 5 _ rfl (hp 5 (by kernel_rfl)))
          rw [if_pos (by rfl)]
          go_simp
          exact hK _ _ (hJ.val HOK 6 _ (by kernel_rfl) rfl (Below.refl _ _))
        case o7_7 =>
          intro LX V aX wX K hl hp hcl hf hJ hK
          have t6 : aX.tmps[6]? = some (.slice (some ⟨bl, 0, none⟩) 2 2) := hf.old (by kernel_rfl) rfl
          have t37 := hf.in (i := 6) (d := 37) (by kernel_rfl) (hp 6 (by kernel_rfl)) (hJ.vals 6 _ rfl (hp 6 (by kernel_rfl)))
          rw [if_pos (wanted_of rfl rfl t37)]
          go_simp
          exact hK _ _ (hJ.val HOK 7 _ (by kernel_rfl) rfl (Below.refl _ _))
        case o7_8 =>
          intro LX V aX wX K hl hp hcl hf hJ hK
          have t7 : aX.tmps[7]? = some (.int .i64 (k : Int)) := hf.old (by kernel_rfl) rfl
          have t37 := hf.in (i := 6) (d := 37) (by kernel_rfl) (hp 6 (by kernel_rfl)) (hJ.vals 6 _ rfl (hp 6 (by kernel_rfl)))
          rw [if_pos (wanted_of rfl rfl t37)]
          go_simp
          exact hK _ _ (hJ.val HOK 8 _ (by kernel_rfl) rfl (Below.refl _ _))
        case o7_9 =>
          intro LX V aX wX K hl hp hcl hf hJ hK
          have t38 := hf.in (i := 7) (d := 38) (by kernel_rfl) (hp 7 (by kernel_rfl)) (hJ.vals 7 _ rfl (hp 7 (by kernel_rfl)))
          have t39 := hf.in (i := 8) (d := 39) (by kernel_rfl) (hp 8 (by kernel_rfl)) (hJ.vals 8 _ rfl (hp 8 (by kernel_rfl)))
          have t37 := hf.in (i := 6) (d := 37) (by kernel_rfl) (hp 6 (by kernel_rfl)) (hJ.vals 6 _ rfl (hp 6 (by kernel_rfl)))
          rw [if_pos (wanted_of rfl rfl t37)]
          go_simp
          exact hK _ _ (hJ.val HOK 9 _ (by kernel_rfl) rfl (Below.refl _ _))
        case o7_10 =>
          intro LX V aX wX K hl hp hcl hf hJ hK
          have t40 := hf.in (i := 9) (d := 40) (by kernel_rfl) (hp 9 (by kernel_rfl)) (hJ.vals 9 _ rfl (hp 9 (by kernel_rfl)))
          have t37 := hf.in (i := 6) (d := 37) (by kernel_rfl) (hp 6 (by kernel_rfl)) (hJ.vals 6 _ rfl (hp 6 (by kernel_rfl)))
          obtain ⟨c0, c1, c2⟩ := HCELLS.out wX hJ.below
          rw [if_pos (wanted_of rfl rfl t37)]
          go_simp
          exact hK _ _ (hJ.val HOK 10 _ (by kernel_rfl) rfl (Below.refl _ _))
        case o7_11 =>
          intro LX V aX wX K hl hp hcl hf hJ hK
          have t2 : aX.tmps[2]? = some (.pointer (some ⟨w.heap.size, 0, none⟩)) := hf.old (by kernel_rfl) rfl
          have t37 := hf.in (i := 6) (d := 37) (by kernel_rfl) (hp 6 (by kernel_rfl)) (hJ.vals 6 _ rfl (hp 6 (by kernel_rfl)))
          obtain ⟨c0, c1, c2⟩ := HCELLS.out wX hJ.below
          rw [if_pos (wanted_of rfl rfl t37)]
          go_simp
          exact hK _ _ (hJ.val HOK 11 _ (by kernel_rfl) rfl (Below.refl _ _))
        case o7_12 =>
          intro LX V aX wX K hl hp hcl hf hJ hK
          have t41 := hf.in (i := 10) (d := 41) (by kernel_rfl) (hp 10 (by kernel_rfl)) (hJ.vals 10 _ rfl (hp 10 (by kernel_rfl)))
          have t42 := hf.in (i := 11) (d := 42) (by kernel_rfl) (hp 11 (by kernel_rfl)) (hJ.vals 11 _ rfl (hp 11 (by kernel_rfl)))
          have t37 := hf.in (i := 6) (d := 37) (by kernel_rfl) (hp 6 (by kernel_rfl)) (hJ.vals 6 _ rfl (hp 6 (by kernel_rfl)))
          rw [if_pos (wanted_of rfl rfl t37)]
          go_simp
          refine (HCR.out _ hJ.below).mono ?_
          rintro e wA ⟨rfl, hbA⟩
          exact hK _ _ (hJ.val HOK 12 _ (by kernel_rfl) rfl (hbA))
        case o7_13 =>
          intro LX V aX wX K hl hp hcl hf hJ hK
          have t43 := hf.in (i := 12) (d := 43) (by kernel_rfl) (hp 12 (by kernel_rfl)) (hJ.vals 12 _ rfl (hp 12 (by kernel_rfl)))
          have t37 := hf.in (i := 6) (d := 37) (by kernel_rfl) (hp 6 (by kernel_rfl)) (hJ.vals 6 _ rfl (hp 6 (by kernel_rfl)))
          rw [if_pos (wanted_of rfl rfl t37)]
          go_simp
          exact hK _ _ (hJ.val HOK 13 _ (by kernel_rfl) rfl (Below.refl _ _))
        case o7_14 =>
          intro LX V aX wX K hl hp hcl hf hJ hK
          have t37 := hf.in (i := 6) (d := 37) (by kernel_rfl) (hp 6 (by kernel_rfl)) (hJ.vals 6 _ rfl (hp 6 (by kernel_rfl)))
          have t44 := hf.in (i := 13) (d := 44) (by kernel_rfl) (hp 13 (by kernel_rfl)) (hJ.vals 13 _ rfl (hp 13 (by kernel_rfl)))
          rw [if_pos (by rfl)]
          go_simp
          exact hK _ _ (hJ.val HOK 14 _ (by kernel_rfl) rfl (Below.refl _ _))
        case o7_15 =>
          intro LX V aX wX K hl hp hcl hf hJ hK
          have t45 := hf.in (i := 14) (d := 45) (by kernel_rfl) (hp 14 (by kernel_rfl)) (hJ.vals 14 _ rfl (hp 14 (by kernel_rfl)))
          rw [if_pos (by rfl)]
          go_simp
          exact hK _ _ (hJ.val HOK 15 _ (by kernel_rfl) rfl (Below.refl _ _))
        case o7_16 =>
          intro LX V aX wX K hl hp hcl hf hJ hK
          have t6 : aX.tmps[6]? = some (.slice (some ⟨bl, 0, none⟩) 2 2) := hf.old (by kernel_rfl) rfl
          have t46 := hf.in (i := 15) (d := 46) (by kernel_rfl) (hp 15 (by kernel_rfl)) (hJ.vals 15 _ rfl (hp 15 (by kernel_rfl)))
          rw [if_pos (wanted_of rfl rfl t46)]
          go_simp
          exact hK _ _ (hJ.val HOK 16 _ (by kernel_rfl) rfl (Below.refl _ _))
        case o7_17 =>
          intro LX V aX wX K hl hp hcl hf hJ hK
          have t7 : aX.tmps[7]? = some (.int .i64 (k : Int)) := hf.old (by kernel_rfl) rfl
          have t46 := hf.in (i := 15) (d := 46) (by kernel_rfl) (hp 15 (by kernel_rfl)) (hJ.vals 15 _ rfl (hp 15 (by kernel_rfl)))
          rw [if_pos (wanted_of rfl rfl t46)]
          go_simp
          exact hK _ _ (hJ.val HOK 17 _ (by kernel_rfl) rfl (Below.refl _ _))
        case o7_18 =>
          intro LX V aX wX K hl hp hcl hf hJ hK
          have t47 := hf.in (i := 16) (d := 47) (by kernel_rfl) (hp 16 (by kernel_rfl)) (hJ.vals 16 _ rfl (hp 16 (by kernel_rfl)))
          have t48 := hf.in (i := 17) (d := 48) (by kernel_rfl) (hp 17 (by kernel_rfl)) (hJ.vals 17 _ rfl (hp 17 (by kernel_rfl)))
          have t46 := hf.in (i := 15) (d := 46) (by kernel_rfl) (hp 15 (by kernel_rfl)) (hJ.vals 15 _ rfl (hp 15 (by kernel_rfl)))
          rw [if_pos (wanted_of rfl rfl t46)]
          go_simp
          exact hK _ _ (hJ.val HOK 18 _ (by kernel_rfl) rfl (Below.refl _ _))
        case o7_19 =>
          intro LX V aX wX K hl hp hcl hf hJ hK
          have t49 := hf.in (i := 18) (d := 49) (by kernel_rfl) (hp 18 (by kernel_rfl)) (hJ.vals 18 _ rfl (hp 18 (by kernel_rfl)))
          have t46 := hf.in (i := 15) (d := 46) (by kernel_rfl) (hp 15 (by kernel_rfl)) (hJ.vals 15 _ rfl (hp 15 (by kernel_rfl)))
          obtain ⟨c0, c1, c2⟩ := HCELLS.out wX hJ.below
          rw [if_pos (wanted_of rfl rfl t46)]
          go_simp
          exact hK _ _ (hJ.val HOK 19 _ (by kernel_rfl) rfl (Below.refl _ _))
        case o7_20 =>
          intro LX V aX wX K hl hp hcl hf hJ hK
          have t50 := hf.in (i := 19) (d := 50) (by kernel_rfl) (hp 19 (by kernel_rfl)) (hJ.vals 19 _ rfl (hp 19 (by kernel_rfl)))
          have t46 := hf.in (i := 15) (d := 46) (by kernel_rfl) (hp 15 (by kernel_rfl)) (hJ.vals 15 _ rfl (hp 15 (by kernel_rfl)))
          rw [if_pos (wanted_of rfl rfl t46)]
          go_simp
          refine (HLN.out _ hJ.below).mono ?_
          rintro e wA ⟨rfl, rfl⟩
          exact hK _ _ (hJ.val HOK 20 _ (by kernel_rfl) rfl (Below.refl _ _))
        case o7_21 =>
          intro LX V aX wX K hl hp hcl hf hJ hK
          have t51 := hf.in (i := 20) (d := 51) (by kernel_rfl) (hp 20 (by kernel_rfl)) (hJ.vals 20 _ rfl (hp 20 (by kernel_rfl)))
          have t46 := hf.in (i := 15) (d := 46) (by kernel_rfl) (hp 15 (by kernel_rfl)) (hJ.vals 15 _ rfl (hp 15 (by kernel_rfl)))
          rw [if_pos (wanted_of rfl rfl t46)]
          go_simp
          exact hK _ _ (hJ.val HOK 21 _ (by kernel_rfl) rfl (Below.refl _ _))
        case o7_22 =>
          intro LX V aX wX K hl hp hcl hf hJ hK
          have t46 := hf.in (i := 15) (d := 46) (by kernel_rfl) (hp 15 (by kernel_rfl)) (hJ.vals 15 _ rfl (hp 15 (by kernel_rfl)))
          have t52 := hf.in (i := 21) (d := 52) (by kernel_rfl) (hp 21 (by kernel_rfl)) (hJ.vals 21 _ rfl (hp 21 (by kernel_rfl)))
          rw [if_pos (by rfl)]
          go_simp
          exact hK _ _ (hJ.val HOK 22 _ (by kernel_rfl) rfl (Below.refl _ _))
        case o7_23 =>
          intro LX V aX wX K hl hp hcl hf hJ hK
          have t53 := hf.in (i := 22) (d := 53) (by kernel_rfl) (hp 22 (by kernel_rfl)) (hJ.vals 22 _ rfl (hp 22 (by kernel_rfl)))
          rw [if_pos (by rfl)]
          go_simp
          exact hK _ _ (hJ.val HOK 23 _ (by kernel_rfl) rfl (Below.refl _ _))
        case o7_24 =>
          intro LX V aX wX K hl hp hcl hf hJ hK
          have t6 : aX.tmps[6]? = some (.slice (some ⟨bl, 0, none⟩) 2 2) := hf.old (by kernel_rfl) rfl
          have t54 := hf.in (i := 23) (d := 54) (by kernel_rfl) (hp 23 (by kernel_rfl)) (hJ.vals 23 _ rfl (hp 23 (by kernel_rfl)))
          rw [if_pos (wanted_of rfl rfl t54)]
          go_simp
          exact hK _ _ (hJ.val HOK 24 _ (by kernel_rfl) rfl (Below.refl _ _))
        case o7_25 =>
          intro LX V aX wX K hl hp hcl hf hJ hK
          have t7 : aX.tmps[7]? = some (.int .i64 (k : Int)) := hf.old (by kernel_rfl) rfl
          have t54 := hf.in (i := 23) (d := 54) (by kernel_rfl) (hp 23 (by kernel_rfl)) (hJ.vals 23 _ rfl (hp 23 (by kernel_rfl)))
          rw [if_pos (wanted_of rfl rfl t54)]
          go_simp
          exact hK _ _ (hJ.val HOK 25 _ (by kernel_rfl) rfl (Below.refl _ _))
        case o7_26 =>
          intro LX V aX wX K hl hp hcl hf hJ hK
          have t55 := hf.in (i := 24) (d := 55) (by kernel_rfl) (hp 24 (by kernel_rfl)) (hJ.vals 24 _ rfl (hp 24 (by kernel_rfl)))
          have t56 := hf.in (i := 25) (d := 56) (by kernel_rfl) (hp 25 (by kernel_rfl)) (hJ.vals 25 _ rfl (hp 25 (by kernel_rfl)))
          have t54 := hf.in (i := 23) (d := 54) (by kernel_rfl) (hp 23 (by kernel_rfl)) (hJ.vals 23 _ rfl (hp 23 (by kernel_rfl)))
          rw [if_pos (wanted_of rfl rfl t54)]
          go_simp
          exact hK _ _ (hJ.val HOK 26 _ (by kernel_rfl) rfl (Below.refl _ _))
        case o7_27 =>
          intro LX V aX wX K hl hp hcl hf hJ hK
          have t57 := hf.in (i := 26) (d := 57) (by kernel_rfl) (hp 26 (by kernel_rfl)) (hJ.vals 26 _ rfl (hp 26 (by kernel_rfl)))
          have t54 := hf.in (i := 23) (d := 54) (by kernel_rfl) (hp 23 (by kernel_rfl)) (hJ.vals 23 _ rfl (hp 23 (by kernel_rfl)))
          obtain ⟨c0, c1, c2⟩ := HCELLS.out wX hJ.below
          rw [if_pos (wanted_of rfl rfl t54)]
          go_simp
          exact hK _ _ (hJ.val HOK 27 _ (by kernel_rfl) rfl (Below.refl _ _))
        case o7_28 =>
          intro LX V aX wX K hl hp hcl hf hJ hK
          have t58 := hf.in (i := 27) (d := 58) (by kernel_rfl) (hp 27 (by kernel_rfl)) (hJ.vals 27 _ rfl (hp 27 (by kernel_rfl)))
          have t54 := hf.in (i := 23) (d := 54) (by kernel_rfl) (hp 23 (by kernel_rfl)) (hJ.vals 23 _ rfl (hp 23 (by kernel_rfl)))
          rw [if_pos (wanted_of rfl rfl t54)]
          go_simp
          refine (HMO.out _ hJ.below).mono ?_
          rintro e wA ⟨rfl, hbA⟩
          exact hK _ _ (hJ.val HOK 28 _ (by kernel_rfl) rfl (hbA))
        case o7_29 =>
          intro LX V aX wX K hl hp hcl hf hJ hK
          have t59 := hf.in (i := 28) (d := 59) (by kernel_rfl) (hp 28 (by kernel_rfl)) (hJ.vals 28 _ rfl (hp 28 (by kernel_rfl)))
          have t54 := hf.in (i := 23) (d := 54) (by kernel_rfl) (hp 23 (by kernel_rfl)) (hJ.vals 23 _ rfl (hp 23 (by kernel_rfl)))
          rw [if_pos (wanted_of rfl rfl t54)]
          go_simp
          exact hK _ _ (hJ.val HOK 29 _ (by kernel_rfl) rfl (Below.refl _ _))
        case o7_30 =>
          intro LX V aX wX K hl hp hcl hf hJ hK
          have t54 := hf.in (i := 23) (d := 54) (by kernel_rfl) (hp 23 (by kernel_rfl)) (hJ.vals 23 _ rfl (hp 23 (by kernel_rfl)))
          have t60 := hf.in (i := 29) (d := 60) (by kernel_rfl) (hp 29 (by kernel_rfl)) (hJ.vals 29 _ rfl (hp 29 (by kernel_rfl)))
          rw [if_pos (by rfl)]
          go_simp
          exact hK _ _ (hJ.val HOK 30 _ (by kernel_rfl) rfl (Below.refl _ _))
        case o7_31 =>
          intro LX V aX wX K hl hp hcl hf hJ hK
          have t61 := hf.in (i := 30) (d := 61) (by kernel_rfl) (hp 30 (by kernel_rfl)) (hJ.vals 30 _ rfl (hp 30 (by kernel_rfl)))
          rw [if_pos (by rfl)]
          go_simp
          exact hK _ _ (hJ.val HOK 31 _ (by kernel_rfl) rfl (Below.refl _ _))
        case o7_32 =>
          intro LX V aX wX K hl hp hcl hf hJ hK
          have t8 : aX.tmps[8]? = some (.int .i64 0) := hf.old (by kernel_rfl) rfl
          have t62 := hf.in (i := 31) (d := 62) (by kernel_rfl) (hp 31 (by kernel_rfl)) (hJ.vals 31 _ rfl (hp 31 (by kernel_rfl)))
          rw [if_pos (wanted_of rfl rfl t62)]
          go_simp
          exact hK _ _ (hJ.val HOK 32 _ (by kernel_rfl) rfl (Below.refl _ _))
        case o7_33 =>
          intro LX V aX wX K hl hp hcl hf hJ hK
          have t63 := hf.in (i := 32) (d := 63) (by kernel_rfl) (hp 32 (by kernel_rfl)) (hJ.vals 32 _ rfl (hp 32 (by kernel_rfl)))
          have t62 := hf.in (i := 31) (d := 62) (by kernel_rfl) (hp 31 (by kernel_rfl)) (hJ.vals 31 _ rfl (hp 31 (by kernel_rfl)))
          rw [if_pos (wanted_of rfl rfl t62)]
          go_simp
          exact hK _ _ (hJ.val HOK 33 _ (by kernel_rfl) rfl (Below.refl _ _))
        case o7_34 =>
          intro LX V aX wX K hl hp hcl hf hJ hK
          have t62 := hf.in (i := 31) (d := 62) (by kernel_rfl) (hp 31 (by kernel_rfl)) (hJ.vals 31 _ rfl (hp 31 (by kernel_rfl)))
          have t64 := hf.in (i := 33) (d := 64) (by kernel_rfl) (hp 33 (by kernel_rfl)) (hJ.vals 33 _ rfl (hp 33 (by kernel_rfl)))
          rw [if_pos (by rfl)]
          go_simp
          exact hK _ _ (hJ.val HOK 34 _ (by kernel_rfl) rfl (Below.refl _ _))
        case o7_35 =>
          intro LX V aX wX K hl hp hcl hf hJ hK
          have t65 := hf.in (i := 34) (d := 65) (by kernel_rfl) (hp 34 (by kernel_rfl)) (hJ.vals 34 _ rfl (hp 34 (by kernel_rfl)))
          rw [if_pos (by rfl)]
          go_simp
          exact hK _ _ (hJ.val HOK 35 _ (by kernel_rfl) rfl (Below.refl _ _))
        case o7_36 =>
          intro LX V aX wX K hl hp hcl hf hJ hK
          have t9 : aX.tmps[9]? = some (.int .i64 0) := hf.old (by kernel_rfl) rfl
          have t66 := hf.in (i := 35) (d := 66) (by kernel_rfl) (hp 35 (by kernel_rfl)) (hJ.vals 35 _ rfl (hp 35 (by kernel_rfl)))
          rw [if_pos (wanted_of rfl rfl t66)]
          go_simp
          exact hK _ _ (hJ.val HOK 36 _ (by kernel_rfl) rfl (Below.refl _ _))
        case o7_37 =>
          intro LX V aX wX K hl hp hcl hf hJ hK
          have t67 := hf.in (i := 36) (d := 67) (by kernel_rfl) (hp 36 (by kernel_rfl)) (hJ.vals 36 _ rfl (hp 36 (by kernel_rfl)))
          have t66 := hf.in (i := 35) (d := 66) (by kernel_rfl) (hp 35 (by kernel_rfl)) (hJ.vals 35 _ rfl (hp 35 (by kernel_rfl)))
          rw [if_pos (wanted_of rfl rfl t66)]
          go_simp
          exact hK _ _ (hJ.val HOK 37 _ (by kernel_rfl) rfl (Below.refl _ _))
        case o7_38 =>
          intro LX V aX wX K hl hp hcl hf hJ hK
          have t66 := hf.in (i := 35) (d := 66) (by kernel_rfl) (hp 35 (by kernel_rfl)) (hJ.vals 35 _ rfl (hp 35 (by kernel_rfl)))
          have t68 := hf.in (i := 37) (d := 68) (by kernel_rfl) (hp 37 (by kernel_rfl)) (hJ.vals 37 _ rfl (hp 37 (by kernel_rfl)))
          rw [if_pos (by rfl)]
          go_simp
          exact hK _ _ (hJ.val HOK 38 _ (by kernel_rfl) rfl (Below.refl _ _))
        case o7_39 =>
          intro LX V aX wX K hl hp hcl hf hJ hK
          have t69 := hf.in (i := 38) (d := 69) (by kernel_rfl) (hp 38 (by kernel_rfl)) (hJ.vals 38 _ rfl (hp 38 (by kernel_rfl)))
          rw [if_pos (by rfl)]
          go_simp
          exact hK _ _ (hJ.val HOK 39 _ (by kernel_rfl) rfl (Below.refl _ _))
        case o7_40 =>
          intro LX V aX wX K hl hp hcl hf hJ hK
          have t10 : aX.tmps[10]? = some (.int .i64 0) := hf.old (by kernel_rfl) rfl
          have t70 := hf.in (i := 39) (d := 70) (by kernel_rfl) (hp 39 (by kernel_rfl)) (hJ.vals 39 _ rfl (hp 39 (by kernel_rfl)))
          rw [if_pos (wanted_of rfl rfl t70)]
          go_simp
          exact hK _ _ (hJ.val HOK 40 _ (by kernel_rfl) rfl (Below.refl _ _))
        case o7_41 =>
          intro LX V aX wX K hl hp hcl hf hJ hK
          have t71 := hf.in (i := 40) (d := 71) (by kernel_rfl) (hp 40 (by kernel_rfl)) (hJ.vals 40 _ rfl (hp 40 (by kernel_rfl)))
          have t70 := hf.in (i := 39) (d := 70) (by kernel_rfl) (hp 39 (by kernel_rfl)) (hJ.vals 39 _ rfl (hp 39 (by kernel_rfl)))
          rw [if_pos (wanted_of rfl rfl t70)]
          go_simp
          exact hK _ _ (hJ.val HOK 41 _ (by kernel_rfl) rfl (Below.refl _ _))
        case o7_42 =>
          intro LX V aX wX K hl hp hcl hf hJ hK
          have t70 := hf.in (i := 39) (d := 70) (by kernel_rfl) (hp 39 (by kernel_rfl)) (hJ.vals 39 _ rfl (hp 39 (by kernel_rfl)))
          have t72 := hf.in (i := 41) (d := 72) (by kernel_rfl) (hp 41 (by kernel_rfl)) (hJ.vals 41 _ rfl (hp 41 (by kernel_rfl)))
          rw [if_pos (by rfl)]
          go_simp
          exact hK _ _ (hJ.val HOK 42 _ (by kernel_rfl) rfl (Below.refl _ _))
        case o7_43 =>
          intro LX V aX wX K hl hp hcl hf hJ hK
          have t73 := hf.in (i := 42) (d := 73) (by kernel_rfl) (hp 42 (by kernel_rfl)) (hJ.vals 42 _ rfl (hp 42 (by kernel_rfl)))
          rw [if_pos (by rfl)]
          go_simp
          exact hK _ _ (hJ.val HOK 43 _ (by kernel_rfl) rfl (Below.refl _ _))
        case o7_44 =>
          intro LX V aX wX K hl hp hcl hf hJ hK
          have t11 : aX.tmps[11]? = some (.int .i64 1) := hf.old (by kernel_rfl) rfl
          have t74 := hf.in (i := 43) (d := 74) (by kernel_rfl) (hp 43 (by kernel_rfl)) (hJ.vals 43 _ rfl (hp 43 (by kernel_rfl)))
          rw [if_pos (wanted_of rfl rfl t74)]
          go_simp
          exact hK _ _ (hJ.val HOK 44 _ (by kernel_rfl) rfl (Below.refl _ _))
        case o7_45 =>
          intro LX V aX wX K hl hp hcl hf hJ hK
          have t75 := hf.in (i := 44) (d := 75) (by kernel_rfl) (hp 44 (by kernel_rfl)) (hJ.vals 44 _ rfl (hp 44 (by kernel_rfl)))
          have t74 := hf.in (i := 43) (d := 74) (by kernel_rfl) (hp 43 (by kernel_rfl)) (hJ.vals 43 _ rfl (hp 43 (by kernel_rfl)))
          rw [if_pos (wanted_of rfl rfl t74)]
          go_simp
          exact hK _ _ (hJ.val HOK 45 _ (by kernel_rfl) rfl (Below.refl _ _))
        case o7_46 =>
          intro LX V aX wX K hl hp hcl hf hJ hK
          have t74 := hf.in (i := 43) (d := 74) (by kernel_rfl) (hp 43 (by kernel_rfl)) (hJ.vals 43 _ rfl (hp 43 (by kernel_rfl)))
          have t76 := hf.in (i := 45) (d := 76) (by kernel_rfl) (hp 45 (by kernel_rfl)) (hJ.vals 45 _ rfl (hp 45 (by kernel_rfl)))
          rw [if_pos (by rfl)]
          go_simp
          exact hK _ _ (hJ.val HOK 46 _ (by kernel_rfl) rfl (Below.refl _ _))
      intro V wZ hJ
      have hv := hJ.vals 46 _ rfl (by kernel_rfl)
      have HBZ := Lib.hid hJ.below
      simp only [puts, Act.put, List.setIfInBounds_toArray, List.set_cons_zero, List.set_cons_succ]
      rw [hv]
      clear hJ HOK hv
      go_wp2_with fail
      go_roundw
      case rel => exact ⟨k + 1, by omega, by go_num, Lib.hid (HB5.out.trans (HBZ.out.mono HB5.out.size))⟩
      case measure => simp [intOf]; omega
    · have hk2 : k = 2 := by omega
      subst hk2
      go_wp2_with fail
      refine (awake_any wr).mono ?_
      rintro e w6 ⟨rfl, hb6⟩
      have HB6 := Lib.hid (HB3.out.trans ((hb.out.trans (hb6.mono hb.out.size)).mono HB3.out.size))
      clear hb6
      go_wp2_with fail
      go_ret
      exact ⟨rfl, HB6.out⟩
end Go.Proofs.Ytdikecfplohpeaa

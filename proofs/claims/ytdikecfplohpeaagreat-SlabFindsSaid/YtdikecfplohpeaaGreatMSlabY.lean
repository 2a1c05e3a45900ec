/- a *Slabs: Slab, Crossings, In, Most (printed by mkslab2.py) -/
import Derived.Test.YtdikecfplohpeaaGreatMSBuild0
set_option linter.unusedSimpArgs false
set_option linter.unusedVariables false
namespace Go.Proofs.YtdikecfplohpeaaGreat
open Go.RowKit Go.Geo
attribute [local go_sem] Oper.semAt_some
theorem results_tmp4 {fn : Func} {t u v x : Tmp} (h : fn.results = #[.tmp t, .tmp u, .tmp v, .tmp x]) (tmps : Array Value) (P : Program) (w : World) :
    (results fn tmps).run P w = .ok (.tuple #[tmps.getD t undef, tmps.getD u undef, tmps.getD v undef, tmps.getD x undef]) w := by
  simp [results, h]
set_option maxRecDepth 100000 in
set_option maxHeartbeats 2000000 in
theorem Slab_any (g i : Nat) (H : List Int) (Es : List (List Edg)) (w : World) (h : SlabIs w g H Es) (hi : i < Es.length) :
    Calls Tryz.prog 33 #[.pointer (some ⟨g, 0, none⟩), .int .i64 (i : Int)] w fun e w' => e = .returned (.tuple #[.int .i64 (H.getD i 0), .int .i64 (H.getD (i + 1) 0), .int .i64 ((Es.getD i []).length : Int), .int .i64 0]) ∧ Below w.heap.size w w' := by
  have HSL : Hid (∀ wX, Below w.heap.size w wX → Calls Tryz.prog 29 #[.pointer (some ⟨g, 0, none⟩), .int .i64 (i : Int)] wX fun e w' => ∃ a n c, e = .returned (.slice a n c) ∧ n = (Es.getD i []).length ∧ Below wX.heap.size wX w') := Lib.hid (fun wX hX => (slab_any g i H Es wX (h.later hX) hi).mono fun e w' ⟨a, n, c, he, hE, hb⟩ => ⟨a, n, c, he, hE.1.symm, hb⟩)
  have HLE := Lib.hid (Len_any g H Es w h)
  obtain ⟨⟨ah, ch, ao, co, ae, ce, h1, h2, h3, h4⟩, h5, h6, h7, h8⟩ := h
  obtain ⟨bh, oh, rfl, d0⟩ := h2.at (i := i) (by omega)
  obtain ⟨bh', oh', he, d1⟩ := h2.at (i := i + 1) (by omega)
  cases he
  obtain ⟨m, hm⟩ : ∃ m, m = Es.length := ⟨_, rfl⟩
  obtain ⟨ei, hei⟩ : ∃ m, m = (Es.getD i []).length := ⟨_, rfl⟩
  obtain ⟨x, hx⟩ : ∃ m, m = H.getD i 0 := ⟨_, rfl⟩
  obtain ⟨y, hy⟩ : ∃ m, m = H.getD (i + 1) 0 := ⟨_, rfl⟩
  rw [← hx] at d0 ⊢
  rw [← hy] at d1 ⊢
  rw [← hei] at HSL ⊢
  rw [h5, ← hm] at h1
  rw [← hm] at HLE
  have HCELLS : Hid (∀ wX, Below w.heap.size w wX → wX.cell? ⟨g, 1, none⟩ = some (.slice (some ⟨bh, oh, none⟩) (m + 1) ch) ∧ wX.cell? ⟨bh, oh + i, none⟩ = some (.int .i64 x) ∧ wX.cell? ⟨bh, oh + (i + 1), none⟩ = some (.int .i64 y)) := Lib.hid (fun wX hX => by
    have k := (hX.block _ (heap_lt' h1)).trans h1
    exact ⟨cell_of_row _ _ _ _ _ _ k, (hX.cell (p := ⟨bh, _, none⟩) (block_lt_of_cell d0)).trans d0, (hX.cell (p := ⟨bh, _, none⟩) (block_lt_of_cell d1)).trans d1⟩)
  have k0 : w.cell? ⟨g, 0, none⟩ = some (.bool true) := cell_of_row _ _ _ _ _ _ h1
  have hi0 : (0 : Int) ≤ (i : Int) := by omega
  have him : i < m := by omega
  have hi5 : (i : Int) < (m : Int) := by omega
  have hi6 : ¬ (m : Int) ≤ (i : Int) := by omega
  have hi7 : (0 : Int) ≤ (i : Int) + 1 := by omega
  have hwi : IntKind.i64.wrap ((i : Int) + 1) = (i : Int) + 1 := IntWalk.i64_in _ (by omega)
  have hi8 : (i : Int) < (m : Int) + 1 := by omega
  have hi9 : (i : Int) + 1 < (m : Int) + 1 := by omega
  have hneg : ¬ (i : Int) < 0 := by omega
  have hm9 : m ≤ 1000000 := by omega
  clear h1 h2 h3 h4 h5 h6 h7 h8 d0 d1 hm hei hx hy hi
  go_enter Tryz.func33, Tryz.ntmps33
  go_wp2_with fail
  refine HLE.out.mono ?_
  rintro e w1 ⟨rfl, rfl⟩
  clear k0
  go_wp2_with fail
  have HOK : ∀ f ∈ ([⟨17, fun v _ => ∃ a c, v = .slice a ei c⟩] : List Fct), FctOk f := by
    intro f hf
    simp only [List.mem_cons, List.not_mem_nil, or_false] at hf
    rcases hf with rfl
    · exact fun v w w' h _ => h
  refine wp_region_J (s := [(27, 0), (28, 1), (29, 2), (30, 3), (31, 4), (32, 5), (33, 6), (34, 7), (35, 8), (36, 9), (37, 10), (38, 11), (39, 12), (40, 13), (41, 14), (42, 15), (43, 16), (44, 17), (45, 18), (4, 19), (5, 20), (6, 21), (7, 22)]) (by kernel_rfl) (GrowJ w1 (fun iX => match iX with | 0 => some (.pointer (some ⟨g, 0, none⟩)) | 1 => some (.pointer (some ⟨g, 0, none⟩)) | 2 => some (.pointer (some ⟨g, 1, none⟩)) | 3 => some (.slice (some ⟨bh, oh, none⟩) (m + 1) ch) | 4 => some (.int .i64 (i : Int)) | 5 => some (.pointer (some ⟨bh, oh + i, none⟩)) | 6 => some (.int .i64 (x)) | 7 => some (.pointer (some ⟨g, 0, none⟩)) | 8 => some (.pointer (some ⟨g, 0, none⟩)) | 9 => some (.pointer (some ⟨g, 1, none⟩)) | 10 => some (.slice (some ⟨bh, oh, none⟩) (m + 1) ch) | 11 => some (.int .i64 (i : Int)) | 12 => some (.int .i64 ((i : Int) + 1)) | 13 => some (.pointer (some ⟨bh, oh + (i + 1), none⟩)) | 14 => some (.int .i64 (y)) | 15 => some (.pointer (some ⟨g, 0, none⟩)) | 16 => some (.int .i64 (i : Int)) | 18 => some (.int .i64 (ei : Int)) | 19 => some (.int .i64 (x)) | 20 => some (.int .i64 (y)) | 21 => some (.int .i64 (ei : Int)) | 22 => some (.int .i64 0) | _ => none) [⟨17, fun v _ => ∃ a c, v = .slice a ei c⟩]) (by kernel_rfl) (by kernel_rfl) (by kernel_rfl) (by kernel_rfl) (fun _ => undef) ?start5 ?step5 ?done5
  case start5 => exact GrowJ.start ((Below.refl _ _).drew)
  case step5 =>
    refine ⟨?o5_0, ?o5_1, ?o5_2, ?o5_3, ?o5_4, ?o5_5, ?o5_6, ?o5_7, ?o5_8, ?o5_9, ?o5_10, ?o5_11, ?o5_12, ?o5_13, ?o5_14, ?o5_15, ?o5_16, ?o5_17, ?o5_18, ?o5_19, ?o5_20, ?o5_21, ?o5_22, trivial⟩
    case o5_0 =>
      intro LX V aX wX K hl hp hcl hf hJ hK
      have t0 : aX.tmps[0]? = some (.pointer (some ⟨g, 0, none⟩)) := hf.old (by kernel_rfl) rfl
      rw [if_pos (by rfl)]
      go_simp
      exact hK _ _ (hJ.val HOK 0 _ (by kernel_rfl) rfl (Below.refl _ _))
    case o5_1 =>
      intro LX V aX wX K hl hp hcl hf hJ hK
      have t27 := hf.in (i := 0) (d := 27) (by kernel_rfl) (hp 0 (by kernel_rfl)) (hJ.vals 0 _ rfl (hp 0 (by kernel_rfl)))
      rw [if_pos (by rfl)]
      go_simp
      exact hK _ _ (hJ.val HOK 1 _ (by kernel_rfl) rfl (Below.refl _ _))
    case o5_2 =>
      intro LX V aX wX K hl hp hcl hf hJ hK
      have t28 := hf.in (i := 1) (d := 28) (by kernel_rfl) (hp 1 (by kernel_rfl)) (hJ.vals 1 _ rfl (hp 1 (by kernel_rfl)))
      rw [if_pos (by rfl)]
      go_simp
      exact hK _ _ (hJ.val HOK 2 _ (by kernel_rfl) rfl (Below.refl _ _))
    case o5_3 =>
      intro LX V aX wX K hl hp hcl hf hJ hK
      have t29 := hf.in (i := 2) (d := 29) (by kernel_rfl) (hp 2 (by kernel_rfl)) (hJ.vals 2 _ rfl (hp 2 (by kernel_rfl)))
      obtain ⟨c0, c1, c2⟩ := HCELLS.out wX hJ.below
      rw [if_pos (by rfl)]
      go_simp
      exact hK _ _ (hJ.val HOK 3 _ (by kernel_rfl) rfl (Below.refl _ _))
    case o5_4 =>
      intro LX V aX wX K hl hp hcl hf hJ hK
      have t1 : aX.tmps[1]? = some (.int .i64 (i : Int)) := hf.old (by kernel_rfl) rfl
      rw [if_pos (by rfl)]
      go_simp
      exact hK _ _ (hJ.val HOK 4 _ (by kernel_rfl) rfl (Below.refl _ _))
    case o5_5 =>
      intro LX V aX wX K hl hp hcl hf hJ hK
      have t30 := hf.in (i := 3) (d := 30) (by kernel_rfl) (hp 3 (by kernel_rfl)) (hJ.vals 3 _ rfl (hp 3 (by kernel_rfl)))
      have t31 := hf.in (i := 4) (d := 31) (by kernel_rfl) (hp 4 (by kernel_rfl)) (hJ.vals 4 _ rfl (hp 4 (by kernel_rfl)))
      rw [if_pos (by rfl)]
      go_simp
      exact hK _ _ (hJ.val HOK 5 _ (by kernel_rfl) rfl (Below.refl _ _))
    case o5_6 =>
      intro LX V aX wX K hl hp hcl hf hJ hK
      have t32 := hf.in (i := 5) (d := 32) (by kernel_rfl) (hp 5 (by kernel_rfl)) (hJ.vals 5 _ rfl (hp 5 (by kernel_rfl)))
      obtain ⟨c0, c1, c2⟩ := HCELLS.out wX hJ.below
      rw [if_pos (by rfl)]
      go_simp
      exact hK _ _ (hJ.val HOK 6 _ (by kernel_rfl) rfl (Below.refl _ _))
    case o5_7 =>
      intro LX V aX wX K hl hp hcl hf hJ hK
      have t0 : aX.tmps[0]? = some (.pointer (some ⟨g, 0, none⟩)) := hf.old (by kernel_rfl) rfl
      rw [if_pos (by rfl)]
      go_simp
      exact hK _ _ (hJ.val HOK 7 _ (by kernel_rfl) rfl (Below.refl _ _))
    case o5_8 =>
      intro LX V aX wX K hl hp hcl hf hJ hK
      have t34 := hf.in (i := 7) (d := 34) (by kernel_rfl) (hp 7 (by kernel_rfl)) (hJ.vals 7 _ rfl (hp 7 (by kernel_rfl)))
      rw [if_pos (by rfl)]
      go_simp
      exact hK _ _ (hJ.val HOK 8 _ (by kernel_rfl) rfl (Below.refl _ _))
    case o5_9 =>
      intro LX V aX wX K hl hp hcl hf hJ hK
      have t35 := hf.in (i := 8) (d := 35) (by kernel_rfl) (hp 8 (by kernel_rfl)) (hJ.vals 8 _ rfl (hp 8 (by kernel_rfl)))
      rw [if_pos (by rfl)]
      go_simp
      exact hK _ _ (hJ.val HOK 9 _ (by kernel_rfl) rfl (Below.refl _ _))
    case o5_10 =>
      intro LX V aX wX K hl hp hcl hf hJ hK
      have t36 := hf.in (i := 9) (d := 36) (by kernel_rfl) (hp 9 (by kernel_rfl)) (hJ.vals 9 _ rfl (hp 9 (by kernel_rfl)))
      obtain ⟨c0, c1, c2⟩ := HCELLS.out wX hJ.below
      rw [if_pos (by rfl)]
      go_simp
      exact hK _ _ (hJ.val HOK 10 _ (by kernel_rfl) rfl (Below.refl _ _))
    case o5_11 =>
      intro LX V aX wX K hl hp hcl hf hJ hK
      have t1 : aX.tmps[1]? = some (.int .i64 (i : Int)) := hf.old (by kernel_rfl) rfl
      rw [if_pos (by rfl)]
      go_simp
      exact hK _ _ (hJ.val HOK 11 _ (by kernel_rfl) rfl (Below.refl _ _))
    case o5_12 =>
      intro LX V aX wX K hl hp hcl hf hJ hK
      have t38 := hf.in (i := 11) (d := 38) (by kernel_rfl) (hp 11 (by kernel_rfl)) (hJ.vals 11 _ rfl (hp 11 (by kernel_rfl)))
      rw [if_pos (by rfl)]
      go_simp
      exact hK _ _ (hJ.val HOK 12 _ (by kernel_rfl) rfl (Below.refl _ _))
    case o5_13 =>
      intro LX V aX wX K hl hp hcl hf hJ hK
      have t37 := hf.in (i := 10) (d := 37) (by kernel_rfl) (hp 10 (by kernel_rfl)) (hJ.vals 10 _ rfl (hp 10 (by kernel_rfl)))
      have t39 := hf.in (i := 12) (d := 39) (by kernel_rfl) (hp 12 (by kernel_rfl)) (hJ.vals 12 _ rfl (hp 12 (by kernel_rfl)))
      rw [if_pos (by rfl)]
      go_simp
      exact hK _ _ (hJ.val HOK 13 _ (by kernel_rfl) rfl (Below.refl _ _))
    case o5_14 =>
      intro LX V aX wX K hl hp hcl hf hJ hK
      have t40 := hf.in (i := 13) (d := 40) (by kernel_rfl) (hp 13 (by kernel_rfl)) (hJ.vals 13 _ rfl (hp 13 (by kernel_rfl)))
      obtain ⟨c0, c1, c2⟩ := HCELLS.out wX hJ.below
      rw [if_pos (by rfl)]
      go_simp
      exact hK _ _ (hJ.val HOK 14 _ (by kernel_rfl) rfl (Below.refl _ _))
    case o5_15 =>
      intro LX V aX wX K hl hp hcl hf hJ hK
      have t0 : aX.tmps[0]? = some (.pointer (some ⟨g, 0, none⟩)) := hf.old (by kernel_rfl) rfl
      rw [if_pos (by rfl)]
      go_simp
      exact hK _ _ (hJ.val HOK 15 _ (by kernel_rfl) rfl (Below.refl _ _))
    case o5_16 =>
      intro LX V aX wX K hl hp hcl hf hJ hK
      have t1 : aX.tmps[1]? = some (.int .i64 (i : Int)) := hf.old (by kernel_rfl) rfl
      rw [if_pos (by rfl)]
      go_simp
      exact hK _ _ (hJ.val HOK 16 _ (by kernel_rfl) rfl (Below.refl _ _))
    case o5_17 =>
      intro LX V aX wX K hl hp hcl hf hJ hK
      have t42 := hf.in (i := 15) (d := 42) (by kernel_rfl) (hp 15 (by kernel_rfl)) (hJ.vals 15 _ rfl (hp 15 (by kernel_rfl)))
      have t43 := hf.in (i := 16) (d := 43) (by kernel_rfl) (hp 16 (by kernel_rfl)) (hJ.vals 16 _ rfl (hp 16 (by kernel_rfl)))
      rw [if_pos (by rfl)]
      go_simp
      refine (HSL.out _ hJ.below).mono ?_
      rintro e wA ⟨a, n, c, rfl, hn, hb⟩
      exact hK _ _ (hJ.step HOK 17 _ trivial (hb) (by
        intro f hf hfi
        simp only [List.mem_cons, List.not_mem_nil, or_false] at hf
        rcases hf with rfl
        · exact ⟨a, c, by rw [hn]⟩
        ))
    case o5_18 =>
      intro LX V aX wX K hl hp hcl hf hJ hK
      have t44 := hf.in (i := 17) (d := 44) (by kernel_rfl) (hp 17 (by kernel_rfl)) rfl
      have q0 := hJ.facts ⟨17, fun v _ => ∃ a c, v = .slice a ei c⟩ (List.mem_of_getElem? (i := 0) rfl) (hp 17 (by kernel_rfl))
      obtain ⟨a, c, hv⟩ := q0
      replace hv : V 17 = .slice a ei c := hv
      rw [hv] at t44
      rw [if_pos (by rfl)]
      go_simp
      exact hK _ _ (hJ.val HOK 18 _ (by kernel_rfl) rfl (Below.refl _ _))
    case o5_19 =>
      intro LX V aX wX K hl hp hcl hf hJ hK
      have t33 := hf.in (i := 6) (d := 33) (by kernel_rfl) (hp 6 (by kernel_rfl)) (hJ.vals 6 _ rfl (hp 6 (by kernel_rfl)))
      rw [if_pos (by rfl)]
      go_simp
      exact hK _ _ (hJ.val HOK 19 _ (by kernel_rfl) rfl (Below.refl _ _))
    case o5_20 =>
      intro LX V aX wX K hl hp hcl hf hJ hK
      have t41 := hf.in (i := 14) (d := 41) (by kernel_rfl) (hp 14 (by kernel_rfl)) (hJ.vals 14 _ rfl (hp 14 (by kernel_rfl)))
      rw [if_pos (by rfl)]
      go_simp
      exact hK _ _ (hJ.val HOK 20 _ (by kernel_rfl) rfl (Below.refl _ _))
    case o5_21 =>
      intro LX V aX wX K hl hp hcl hf hJ hK
      have t45 := hf.in (i := 18) (d := 45) (by kernel_rfl) (hp 18 (by kernel_rfl)) (hJ.vals 18 _ rfl (hp 18 (by kernel_rfl)))
      rw [if_pos (by rfl)]
      go_simp
      exact hK _ _ (hJ.val HOK 21 _ (by kernel_rfl) rfl (Below.refl _ _))
    case o5_22 =>
      intro LX V aX wX K hl hp hcl hf hJ hK
      rw [if_pos (by rfl)]
      go_simp
      exact hK _ _ (hJ.val HOK 22 _ (by kernel_rfl) rfl (Below.refl _ _))
  intro V wZ hJ
  have hv4 := hJ.vals 19 _ rfl (by kernel_rfl)
  have hv5 := hJ.vals 20 _ rfl (by kernel_rfl)
  have hv6 := hJ.vals 21 _ rfl (by kernel_rfl)
  have hv7 := hJ.vals 22 _ rfl (by kernel_rfl)
  have HBZ := Lib.hid hJ.below
  simp only [puts, Act.put, List.setIfInBounds_toArray, List.set_cons_zero, List.set_cons_succ]
  rw [hv4, hv5, hv6, hv7]
  clear hJ HOK hv4 hv5 hv6 hv7
  go_wp2_with fail
  (try simp only [Exit.inBlock, Exit.then]); refine bodyPost_ret (results_tmp4 rfl _ _ _) rfl ?_
  exact ⟨rfl, HBZ.out⟩
set_option maxRecDepth 100000 in
set_option maxHeartbeats 1000000 in
theorem Slab_out (g : Nat) (i : Int) (H : List Int) (Es : List (List Edg)) (w : World) (h : SlabIs w g H Es) (hi : i < 0 ∨ (Es.length : Int) ≤ i) :
    Calls Tryz.prog 33 #[.pointer (some ⟨g, 0, none⟩), .int .i64 i] w fun e w' => e = .returned (.tuple #[.int .i64 0, .int .i64 0, .int .i64 0, .int .i64 6]) ∧ Below w.heap.size w w' := by
  have HLE := Lib.hid (Len_any g H Es w h)
  obtain ⟨⟨ah, ch, ao, co, ae, ce, h1, h2, h3, h4⟩, h5, h6, h7, h8⟩ := h
  have k0 : w.cell? ⟨g, 0, none⟩ = some (.bool true) := cell_of_row _ _ _ _ _ _ h1
  obtain ⟨m, hm⟩ : ∃ m, m = Es.length := ⟨_, rfl⟩
  rw [← hm] at HLE hi
  clear h1 h2 h3 h4 h5 h6 h7 h8 hm
  by_cases hneg : i < 0
  · clear hi
    go_enter Tryz.func33, Tryz.ntmps33
    go_wp2_with fail
    (try simp only [Exit.inBlock, Exit.then]); refine bodyPost_ret (results_tmp4 rfl _ _ _) rfl ?_
    exact ⟨rfl, Below.refl _ _⟩
  · have hge : (m : Int) ≤ i := by omega
    clear hi
    go_enter Tryz.func33, Tryz.ntmps33
    go_wp2_with fail
    refine HLE.out.mono ?_
    rintro e w1 ⟨rfl, rfl⟩
    go_wp2_with fail
    (try simp only [Exit.inBlock, Exit.then]); refine bodyPost_ret (results_tmp4 rfl _ _ _) rfl ?_
    exact ⟨rfl, Below.refl _ _⟩
theorem take_countP {α : Type} (q : α → Bool) {E : List α} {k : Nat} (d : α) (h : k < E.length) : (E.take (k + 1)).countP q = (E.take k).countP q + (if q (E.getD k d) = true then 1 else 0) := by
  rw [take_more (d := d) h, List.countP_append, List.countP_singleton]
set_option maxRecDepth 100000 in
set_option maxHeartbeats 4000000 in
theorem Crossings_any (g : Nat) (H : List Int) (Es : List (List Edg)) (p : Pt) (w : World) (h : SlabIs w g H Es) (hsorted : H.Pairwise (· < ·)) :
    Calls Tryz.prog 13 #[.pointer (some ⟨g, 0, none⟩), ptV p] w fun e w' => e = .returned (.int .i64 (crossE H Es p : Int)) ∧ Below w.heap.size w w' := by
  obtain ⟨W, hW⟩ : ∃ W, W = w.alloc (.cells #[.int .i64 p.x, .int .i64 p.y] 40) := ⟨_, rfl⟩
  have hg0 : Below w.heap.size w W := by rw [hW]; exact (Below.refl _ _).alloc (Nat.le_refl _) _
  have ap : W.heap[w.heap.size]? = some (.cells #[.int .i64 p.x, .int .i64 p.y] 40 (0, 0)) := by rw [hW]; exact alloc_new _ _
  have HSI := Lib.hid (h.later hg0)
  have H0 := Lib.hid hg0
  have hex := HSI.out
  obtain ⟨⟨ah, ch, ao, co, ae, ce, h1, h2, h3, h4⟩, h5, h6, h7, h8⟩ := hex
  have HS : Hid (∀ wX, Below W.heap.size W wX → SlabIs wX g H Es) := Lib.hid (fun wX hX => HSI.out.later hX)
  have HVA := Lib.hid (Valid_any p)
  obtain ⟨n, hn⟩ : ∃ n, n = H.length := ⟨_, rfl⟩
  obtain ⟨m, hm⟩ : ∃ m, m = Es.length := ⟨_, rfl⟩
  rw [← hn] at h1 h2 h7
  have HCELLS : Hid (∀ wX, Below W.heap.size W wX → wX.cell? ⟨g, 0, none⟩ = some (.bool true) ∧ wX.cell? ⟨g, 1, none⟩ = some (.slice ah n ch) ∧ wX.cell? ⟨w.heap.size, 0, none⟩ = some (.int .i64 p.x) ∧ wX.cell? ⟨w.heap.size, 1, none⟩ = some (.int .i64 p.y)) := Lib.hid (fun wX hX => by
    have k := (hX.block _ (heap_lt' h1)).trans h1
    have kp := (hX.block _ (heap_lt' ap)).trans ap
    exact ⟨cell_of_row _ _ _ _ _ _ k, cell_of_row _ _ _ _ _ _ k, cell_of_row _ _ _ _ _ _ kp, cell_of_row _ _ _ _ _ _ kp⟩)
  obtain ⟨k0, k1, kx, ky⟩ := HCELLS.out W (Below.refl _ _)
  rw [hW] at k0 k1 kx ky
  obtain ⟨r, hr⟩ : ∃ r, r = crossE H Es p := ⟨_, rfl⟩
  rw [← hr]
  have HR := Lib.hid hr
  have HSRT := Lib.hid hsorted
  have HNM : Hid (n = m + 1) := Lib.hid (by omega)
  have hn6 : n ≤ 1000000 := h7
  have hsle : H.Pairwise (· ≤ ·) := hsorted.imp fun h => Int.le_of_lt h
  have HSE : Hid (∀ wX, Below W.heap.size W wX → Calls Tryz.prog 28 #[.slice ah n ch, .int .i64 p.y] wX fun e w' => e = .returned (.tuple #[.int .i64 (H.countP (· < p.y) : Nat), .bool (H.contains p.y)]) ∧ ∃ q, w' = wX.drewN q) := Lib.hid (fun wX hX => Search_ints ah n ch H p.y wX (h2.later hX (Nat.le_refl _)) (by omega) hn6 hsle)
  obtain ⟨c, hc⟩ : ∃ c, c = H.countP (fun h => decide (h < p.y)) := ⟨_, rfl⟩
  obtain ⟨ct, hct⟩ : ∃ c, c = H.contains p.y := ⟨_, rfl⟩
  rw [← hc, ← hct] at HSE
  have hK : kH H p.y = c + (if ct = true then 1 else 0) := by rw [hc, hct]; exact kH_search hsorted p.y
  have HK := Lib.hid hK
  have HN := Lib.hid hn
  have HM := Lib.hid hm
  have hcn : c ≤ n := by rw [hc, hn]; exact List.countP_le_length
  clear h h1 h2 h3 h4 h5 h6 h7 h8 ap hg0 hr hsorted hsle hc hct hK hn hm
  unfold ptV at HVA ⊢
  obtain ⟨vl, hvl⟩ : ∃ v, v = validP p := ⟨_, rfl⟩
  rw [← hvl] at HVA
  have HVL := Lib.hid hvl
  clear hvl
  go_enter Tryz.func13, Tryz.ntmps13
  go_wp2_with fail
  rw [← hW]
  clear hW k0 k1 kx ky
  refine (HVA.out W).mono ?_
  rintro e w1 ⟨rfl, hgv⟩
  have HB1 := Lib.hid hgv.1
  clear hgv
  cases vl with
  | false =>
    have HRF : Hid (r = 0) := Lib.hid (by rw [HR.out]; unfold crossE; rw [if_pos (.inl HVL.out.symm)])
    go_wp2_with fail
    go_ret
    exact ⟨by rw [HRF.out]; rfl, H0.out.trans (HB1.out.mono H0.out.size)⟩
  | true =>
    replace HCELLS : Hid (∀ wX, Below w1.heap.size w1 wX → wX.cell? ⟨g, 0, none⟩ = some (.bool true) ∧ wX.cell? ⟨g, 1, none⟩ = some (.slice ah n ch) ∧ wX.cell? ⟨w.heap.size, 0, none⟩ = some (.int .i64 p.x) ∧ wX.cell? ⟨w.heap.size, 1, none⟩ = some (.int .i64 p.y)) := Lib.hid (fun wX hX => HCELLS.out wX (HB1.out.trans (hX.mono HB1.out.size)))
    replace HSE : Hid (∀ wX, Below w1.heap.size w1 wX → Calls Tryz.prog 28 #[.slice ah n ch, .int .i64 p.y] wX fun e w' => e = .returned (.tuple #[.int .i64 (c : Nat), .bool ct]) ∧ ∃ q, w' = wX.drewN q) := Lib.hid (fun wX hX => HSE.out wX (HB1.out.trans (hX.mono HB1.out.size)))
    replace HS : Hid (∀ wX, Below w1.heap.size w1 wX → SlabIs wX g H Es) := Lib.hid (fun wX hX => HS.out wX (HB1.out.trans (hX.mono HB1.out.size)))
    have HW1 := Lib.hid (H0.out.trans (HB1.out.mono H0.out.size))
    clear H0 HB1 HVA
    go_wp2_with fail
    have HOK : ∀ f ∈ ([] : List Fct), FctOk f := by
      intro f hf; cases hf
    refine wp_region_J (s := [(25, 0), (26, 1), (27, 2), (28, 3), (29, 4), (30, 5), (31, 6), (24, 7), (32, 8), (33, 9), (5, 10), (6, 11)]) (by kernel_rfl) (GrowJ w1 (fun iX => match iX with | 0 => some (.pointer (some ⟨g, 0, none⟩)) | 1 => some (.pointer (some ⟨g, 0, none⟩)) | 2 => some (.pointer (some ⟨g, 1, none⟩)) | 3 => some (.slice ah n ch) | 4 => some (.pointer (some ⟨w.heap.size, 1, none⟩)) | 5 => some (.int .i64 (p.y)) | 6 => some (.tuple #[.int .i64 (c : Int), .bool ct]) | 7 => some (.tuple #[.int .i64 (c : Int), .bool ct]) | 8 => some (.int .i64 (c : Int)) | 9 => some (.bool ct) | 10 => some (.int .i64 (c : Int)) | 11 => some (.bool ct) | _ => none) []) (by kernel_rfl) (by kernel_rfl) (by kernel_rfl) (by kernel_rfl) (fun _ => undef) ?start3 ?step3 ?done3
    case start3 => exact GrowJ.start ((Below.refl _ _).drew)
    case step3 =>
      refine ⟨?o3_0, ?o3_1, ?o3_2, ?o3_3, ?o3_4, ?o3_5, ?o3_6, ?o3_7, ?o3_8, ?o3_9, ?o3_10, ?o3_11, trivial⟩
      case o3_0 =>
        intro LX V aX wX K hl hp hcl hf hJ hK
        have t0 : aX.tmps[0]? = some (.pointer (some ⟨g, 0, none⟩)) := hf.old (by kernel_rfl) rfl
        rw [if_pos (by rfl)]
        go_simp
        exact hK _ _ (hJ.val HOK 0 _ (by kernel_rfl) rfl (Below.refl _ _))
      case o3_1 =>
        intro LX V aX wX K hl hp hcl hf hJ hK
        have t25 := hf.in (i := 0) (d := 25) (by kernel_rfl) (hp 0 (by kernel_rfl)) (hJ.vals 0 _ rfl (hp 0 (by kernel_rfl)))
        rw [if_pos (by rfl)]
        go_simp
        exact hK _ _ (hJ.val HOK 1 _ (by kernel_rfl) rfl (Below.refl _ _))
      case o3_2 =>
        intro LX V aX wX K hl hp hcl hf hJ hK
        have t26 := hf.in (i := 1) (d := 26) (by kernel_rfl) (hp 1 (by kernel_rfl)) (hJ.vals 1 _ rfl (hp 1 (by kernel_rfl)))
        rw [if_pos (by rfl)]
        go_simp
        exact hK _ _ (hJ.val HOK 2 _ (by kernel_rfl) rfl (Below.refl _ _))
      case o3_3 =>
        intro LX V aX wX K hl hp hcl hf hJ hK
        have t27 := hf.in (i := 2) (d := 27) (by kernel_rfl) (hp 2 (by kernel_rfl)) (hJ.vals 2 _ rfl (hp 2 (by kernel_rfl)))
        obtain ⟨c0, c1, c2, c3⟩ := HCELLS.out wX hJ.below
        rw [if_pos (by rfl)]
        go_simp
        exact hK _ _ (hJ.val HOK 3 _ (by kernel_rfl) rfl (Below.refl _ _))
      case o3_4 =>
        intro LX V aX wX K hl hp hcl hf hJ hK
        have t3 : aX.tmps[3]? = some (.pointer (some ⟨w.heap.size, 0, none⟩)) := hf.old (by kernel_rfl) rfl
        rw [if_pos (by rfl)]
        go_simp
        exact hK _ _ (hJ.val HOK 4 _ (by kernel_rfl) rfl (Below.refl _ _))
      case o3_5 =>
        intro LX V aX wX K hl hp hcl hf hJ hK
        have t29 := hf.in (i := 4) (d := 29) (by kernel_rfl) (hp 4 (by kernel_rfl)) (hJ.vals 4 _ rfl (hp 4 (by kernel_rfl)))
        obtain ⟨c0, c1, c2, c3⟩ := HCELLS.out wX hJ.below
        rw [if_pos (by rfl)]
        go_simp
        exact hK _ _ (hJ.val HOK 5 _ (by kernel_rfl) rfl (Below.refl _ _))
      case o3_6 =>
        intro LX V aX wX K hl hp hcl hf hJ hK
        have t28 := hf.in (i := 3) (d := 28) (by kernel_rfl) (hp 3 (by kernel_rfl)) (hJ.vals 3 _ rfl (hp 3 (by kernel_rfl)))
        have t30 := hf.in (i := 5) (d := 30) (by kernel_rfl) (hp 5 (by kernel_rfl)) (hJ.vals 5 _ rfl (hp 5 (by kernel_rfl)))
        rw [if_pos (by rfl)]
        go_simp
        refine (HSE.out _ hJ.below).mono ?_
        rintro e wA ⟨rfl, q, rfl⟩
        exact hK _ _ (hJ.val HOK 6 _ (by kernel_rfl) rfl (below_drewN (Below.refl _ _) q))
      case o3_7 =>
        intro LX V aX wX K hl hp hcl hf hJ hK
        have t31 := hf.in (i := 6) (d := 31) (by kernel_rfl) (hp 6 (by kernel_rfl)) (hJ.vals 6 _ rfl (hp 6 (by kernel_rfl)))
        rw [if_pos (by rfl)]
        go_simp
        exact hK _ _ (hJ.val HOK 7 _ (by kernel_rfl) rfl (Below.refl _ _))
      case o3_8 =>
        intro LX V aX wX K hl hp hcl hf hJ hK
        have t24 := hf.in (i := 7) (d := 24) (by kernel_rfl) (hp 7 (by kernel_rfl)) (hJ.vals 7 _ rfl (hp 7 (by kernel_rfl)))
        rw [if_pos (by rfl)]
        go_simp
        exact hK _ _ (hJ.val HOK 8 _ (by kernel_rfl) rfl (Below.refl _ _))
      case o3_9 =>
        intro LX V aX wX K hl hp hcl hf hJ hK
        have t24 := hf.in (i := 7) (d := 24) (by kernel_rfl) (hp 7 (by kernel_rfl)) (hJ.vals 7 _ rfl (hp 7 (by kernel_rfl)))
        rw [if_pos (by rfl)]
        go_simp
        exact hK _ _ (hJ.val HOK 9 _ (by kernel_rfl) rfl (Below.refl _ _))
      case o3_10 =>
        intro LX V aX wX K hl hp hcl hf hJ hK
        have t32 := hf.in (i := 8) (d := 32) (by kernel_rfl) (hp 8 (by kernel_rfl)) (hJ.vals 8 _ rfl (hp 8 (by kernel_rfl)))
        rw [if_pos (by rfl)]
        go_simp
        exact hK _ _ (hJ.val HOK 10 _ (by kernel_rfl) rfl (Below.refl _ _))
      case o3_11 =>
        intro LX V aX wX K hl hp hcl hf hJ hK
        have t33 := hf.in (i := 9) (d := 33) (by kernel_rfl) (hp 9 (by kernel_rfl)) (hJ.vals 9 _ rfl (hp 9 (by kernel_rfl)))
        rw [if_pos (by rfl)]
        go_simp
        exact hK _ _ (hJ.val HOK 11 _ (by kernel_rfl) rfl (Below.refl _ _))
    intro V wZ hJ
    have hv5 := hJ.vals 10 _ rfl (by kernel_rfl)
    have hv6 := hJ.vals 11 _ rfl (by kernel_rfl)
    have HBZ := Lib.hid hJ.below
    simp only [puts, Act.put, List.setIfInBounds_toArray, List.set_cons_zero, List.set_cons_succ]
    rw [hv5, hv6]
    clear hJ HOK hv5 hv6
    cases ct with
    | true =>
      have HKJ : Hid (kH H p.y = c + 1) := Lib.hid (by rw [HK.out]; rfl)
      by_cases hjm : c < m
      · have hj0 : (0 : Int) ≤ (c : Int) := by omega
        have hneg : ¬ (c : Int) < 0 := by omega
        have hjm2 : ¬ (m : Int) ≤ (c : Int) := by omega
        have HLE := Lib.hid (Len_any g H Es wZ (HS.out wZ HBZ.out))
        have hrs : r = (Es.getD c []).countP (fun e => decide (turnP e.1 e.2 p = 1)) := by
          rw [HR.out]; unfold crossE
          rw [if_neg (by
            rintro (h | h | h)
            · rw [← HVL.out] at h; cases h
            · have := HKJ.out; omega
            · have h1 := HKJ.out; have h2 := HN.out; have h3 := HNM.out; omega), HKJ.out]
          rfl
        have HRS := Lib.hid hrs
        have HSB : Hid (∀ wX, Below wZ.heap.size wZ wX → _) := Lib.hid (fun wX hX => slab_any g c H Es wX (HS.out wX (HBZ.out.trans (hX.mono HBZ.out.size))) (by have := HM.out; omega))
        rw [← HM.out] at HLE
        clear hrs hjm
        go_wp2_with fail
        refine HLE.out.mono ?_
        rintro e w3 ⟨rfl, rfl⟩
        go_wp2_with fail
        refine (HSB.out _ (Below.refl _ _)).mono ?_
        rintro e w4 ⟨a, ne, ce, rfl, hE, hb4⟩
        have HE := Lib.hid hE
        have HB4 := Lib.hid (HBZ.out.trans (hb4.mono HBZ.out.size))
        obtain ⟨E, hEq⟩ : ∃ E, E = Es.getD c [] := ⟨_, rfl⟩
        rw [← hEq] at HE HRS
        have hnece := HE.out.2.1
        have hcem := HE.out.2.2.1
        unfold maxLen at hcem
        clear hE hb4 hEq hj0 hneg hjm2
        go_wp2_with fail
        obtain ⟨wA, hwA⟩ : ∃ x, x = w4 := ⟨_, rfl⟩
        subst hwA
        go_loopw [7, 50] (fun s i wr => ∃ k : Nat, k ≤ ne ∧ i = .int .i64 k ∧ (∃ t : Nat, s = .int .i64 t ∧ Hid (t = (E.take k).countP (fun e => decide (turnP e.1 e.2 p = 1)))) ∧ Hid (Below wA.heap.size wA wr)) (fun _ i _ => ne - (intOf i).toNat)
        case atStart => exact ⟨0, by omega, rfl, ⟨0, rfl, Lib.hid rfl⟩, Below.refl _ _⟩
        case round =>
          obtain ⟨k, hk, rfl, ⟨t, rfl, ht⟩, hbl⟩ := hrel
          have htb : t ≤ k := by rw [ht.out]; exact Nat.le_trans List.countP_le_length (by rw [List.length_take]; omega)
          by_cases hlt : k < ne
          · have hk0 : (0 : Int) ≤ (k : Int) := by omega
            have hk5 : (k : Int) < (ne : Int) := by omega
            obtain ⟨be, oe, rfl, d0, d1, d2, d3⟩ := (HE.out.later hbl.out (Nat.le_refl _)).at hlt
            obtain ⟨ed, hed⟩ : ∃ e, e = E.getD k ed0 := ⟨_, rfl⟩
            rw [← hed] at d0 d1 d2 d3
            obtain ⟨lo, hi⟩ := ed
            obtain ⟨W9, hW9⟩ : ∃ W, W = wr.alloc (.cells #[.int .i64 lo.x, .int .i64 lo.y, .int .i64 hi.x, .int .i64 hi.y] 57) := ⟨_, rfl⟩
            have hb9 : Below wA.heap.size wA W9 := by rw [hW9]; exact hbl.out.alloc hbl.out.size _
            have hb9' := HB4.out.trans (hb9.mono HB4.out.size)
            obtain ⟨_, _, kx, ky⟩ := HCELLS.out W9 hb9'
            have HB9 := Lib.hid hb9
            rw [hW9] at kx ky
            have HT := Lib.hid (Turn_any lo hi p W9)
            obtain ⟨tn, htn⟩ : ∃ t, t = turnP lo hi p := ⟨_, rfl⟩
            rw [← htn] at HT
            have HST : Hid ((E.take (k + 1)).countP (fun e => decide (turnP e.1 e.2 p = 1)) = t + (if tn = 1 then 1 else 0)) := Lib.hid (by
              rw [take_countP _ ed0 (by rw [HE.out.1]; exact hlt), ← ht.out, ← hed, htn]
              simp only [decide_eq_true_eq])
            unfold ptV at HT
            clear hed htn ht hb9 hb9'
            dsimp only at d0 d1 d2 d3
            go_wp2_with fail
            rw [← hW9]
            clear hW9 kx ky d0 d1 d2 d3
            refine HT.out.mono ?_
            rintro e w5 ⟨rfl, hg5⟩
            have HB5 := Lib.hid (HB9.out.trans (hg5.1.mono HB9.out.size))
            clear hg5
            by_cases ht1 : tn = 1
            · subst ht1
              go_wp2_with fail
              go_roundw
              case rel => exact ⟨k + 1, by omega, by go_num, ⟨t + 1, by go_num, Lib.hid (by rw [HST.out]; rfl)⟩, HB5⟩
              case measure => simp [intOf]; omega
            · have hne : (tn == 1) = false := by simp [ht1]
              have HST2 : Hid ((E.take (k + 1)).countP (fun e => decide (turnP e.1 e.2 p = 1)) = t) := Lib.hid (by rw [HST.out, if_neg ht1]; rfl)
              clear ht1
              go_wp2_with fail
              go_roundw
              case rel => exact ⟨k + 1, by omega, by go_num, ⟨t, rfl, Lib.hid HST2.out.symm⟩, HB5⟩
              case measure => simp [intOf]; omega
          · have hkn : ne = k := by omega
            subst hkn
            have hk5 : ¬ (ne : Int) < (ne : Int) := by omega
            have HRT : Hid (r = t) := Lib.hid (by rw [HRS.out, ht.out, List.take_of_length_le (by rw [HE.out.1]; exact Nat.le_refl _)])
            clear ht
            go_wp2_with fail
            go_ret
            exact ⟨by rw [HRT.out]; rfl, HW1.out.trans ((HB4.out.trans (hbl.out.mono HB4.out.size)).mono HW1.out.size)⟩
      · have hneg : ¬ (c : Int) < 0 := by omega
        have hjm2 : (m : Int) ≤ (c : Int) := by omega
        have HLE := Lib.hid (Len_any g H Es wZ (HS.out wZ HBZ.out))
        rw [← HM.out] at HLE
        have HRF : Hid (r = 0) := Lib.hid (by
          rw [HR.out]; unfold crossE
          rw [if_pos (.inr (.inr (by have h1 := HKJ.out; have h2 := HN.out; have h3 := HNM.out; have h4 := kH_le H p.y; omega)))])
        clear hjm
        go_wp2_with fail
        refine HLE.out.mono ?_
        rintro e w3 ⟨rfl, rfl⟩
        go_wp2_with fail
        go_ret
        exact ⟨by rw [HRF.out]; rfl, HW1.out.trans (HBZ.out.mono HW1.out.size)⟩
    | false =>
      by_cases hc0 : c = 0
      · subst hc0
        have HRF : Hid (r = 0) := Lib.hid (by rw [HR.out]; unfold crossE; rw [if_pos (.inr (.inl HK.out))])
        go_wp2_with fail
        go_ret
        exact ⟨by rw [HRF.out]; rfl, HW1.out.trans (HBZ.out.mono HW1.out.size)⟩
      · obtain ⟨d, rfl⟩ : ∃ d, c = d + 1 := ⟨c - 1, by omega⟩
        have hcd : ((d + 1 : Nat) : Int) - 1 = (d : Int) := by omega
        have hcd2 : (d : Int) + 1 - 1 = (d : Int) := by omega
        have hdn : d ≤ 1000000 := by omega
        have HKJ : Hid (kH H p.y = d + 1) := Lib.hid (by rw [HK.out]; rfl)
        clear hc0
        by_cases hjm : d < m
        · have hj0 : (0 : Int) ≤ (d : Int) := by omega
          have hneg : ¬ (d : Int) < 0 := by omega
          have hjm2 : ¬ (m : Int) ≤ (d : Int) := by omega
          have HLE := Lib.hid (Len_any g H Es wZ (HS.out wZ HBZ.out))
          have hrs : r = (Es.getD d []).countP (fun e => decide (turnP e.1 e.2 p = 1)) := by
            rw [HR.out]; unfold crossE
            rw [if_neg (by
              rintro (h | h | h)
              · rw [← HVL.out] at h; cases h
              · have := HKJ.out; omega
              · have h1 := HKJ.out; have h2 := HN.out; have h3 := HNM.out; omega), HKJ.out]
            rfl
          have HRS := Lib.hid hrs
          have HSB : Hid (∀ wX, Below wZ.heap.size wZ wX → _) := Lib.hid (fun wX hX => slab_any g d H Es wX (HS.out wX (HBZ.out.trans (hX.mono HBZ.out.size))) (by have := HM.out; omega))
          rw [← HM.out] at HLE
          clear hrs hjm
          go_wp2_with fail
          refine HLE.out.mono ?_
          rintro e w3 ⟨rfl, rfl⟩
          go_wp2_with fail
          refine (HSB.out _ (Below.refl _ _)).mono ?_
          rintro e w4 ⟨a, ne, ce, rfl, hE, hb4⟩
          have HE := Lib.hid hE
          have HB4 := Lib.hid (HBZ.out.trans (hb4.mono HBZ.out.size))
          obtain ⟨E, hEq⟩ : ∃ E, E = Es.getD d [] := ⟨_, rfl⟩
          rw [← hEq] at HE HRS
          have hnece := HE.out.2.1
          have hcem := HE.out.2.2.1
          unfold maxLen at hcem
          clear hE hb4 hEq hj0 hneg hjm2
          go_wp2_with fail
          obtain ⟨wA, hwA⟩ : ∃ x, x = w4 := ⟨_, rfl⟩
          subst hwA
          go_loopw [7, 50] (fun s i wr => ∃ k : Nat, k ≤ ne ∧ i = .int .i64 k ∧ (∃ t : Nat, s = .int .i64 t ∧ Hid (t = (E.take k).countP (fun e => decide (turnP e.1 e.2 p = 1)))) ∧ Hid (Below wA.heap.size wA wr)) (fun _ i _ => ne - (intOf i).toNat)
          case atStart => exact ⟨0, by omega, rfl, ⟨0, rfl, Lib.hid rfl⟩, Below.refl _ _⟩
          case round =>
            obtain ⟨k, hk, rfl, ⟨t, rfl, ht⟩, hbl⟩ := hrel
            have htb : t ≤ k := by rw [ht.out]; exact Nat.le_trans List.countP_le_length (by rw [List.length_take]; omega)
            by_cases hlt : k < ne
            · have hk0 : (0 : Int) ≤ (k : Int) := by omega
              have hk5 : (k : Int) < (ne : Int) := by omega
              obtain ⟨be, oe, rfl, d0, d1, d2, d3⟩ := (HE.out.later hbl.out (Nat.le_refl _)).at hlt
              obtain ⟨ed, hed⟩ : ∃ e, e = E.getD k ed0 := ⟨_, rfl⟩
              rw [← hed] at d0 d1 d2 d3
              obtain ⟨lo, hi⟩ := ed
              obtain ⟨W9, hW9⟩ : ∃ W, W = wr.alloc (.cells #[.int .i64 lo.x, .int .i64 lo.y, .int .i64 hi.x, .int .i64 hi.y] 57) := ⟨_, rfl⟩
              have hb9 : Below wA.heap.size wA W9 := by rw [hW9]; exact hbl.out.alloc hbl.out.size _
              have hb9' := HB4.out.trans (hb9.mono HB4.out.size)
              obtain ⟨_, _, kx, ky⟩ := HCELLS.out W9 hb9'
              have HB9 := Lib.hid hb9
              rw [hW9] at kx ky
              have HT := Lib.hid (Turn_any lo hi p W9)
              obtain ⟨tn, htn⟩ : ∃ t, t = turnP lo hi p := ⟨_, rfl⟩
              rw [← htn] at HT
              have HST : Hid ((E.take (k + 1)).countP (fun e => decide (turnP e.1 e.2 p = 1)) = t + (if tn = 1 then 1 else 0)) := Lib.hid (by
                rw [take_countP _ ed0 (by rw [HE.out.1]; exact hlt), ← ht.out, ← hed, htn]
                simp only [decide_eq_true_eq])
              unfold ptV at HT
              clear hed htn ht hb9 hb9'
              dsimp only at d0 d1 d2 d3
              go_wp2_with fail
              rw [← hW9]
              clear hW9 kx ky d0 d1 d2 d3
              refine HT.out.mono ?_
              rintro e w5 ⟨rfl, hg5⟩
              have HB5 := Lib.hid (HB9.out.trans (hg5.1.mono HB9.out.size))
              clear hg5
              by_cases ht1 : tn = 1
              · subst ht1
                go_wp2_with fail
                go_roundw
                case rel => exact ⟨k + 1, by omega, by go_num, ⟨t + 1, by go_num, Lib.hid (by rw [HST.out]; rfl)⟩, HB5⟩
                case measure => simp [intOf]; omega
              · have hne : (tn == 1) = false := by simp [ht1]
                have HST2 : Hid ((E.take (k + 1)).countP (fun e => decide (turnP e.1 e.2 p = 1)) = t) := Lib.hid (by rw [HST.out, if_neg ht1]; rfl)
                clear ht1
                go_wp2_with fail
                go_roundw
                case rel => exact ⟨k + 1, by omega, by go_num, ⟨t, rfl, Lib.hid HST2.out.symm⟩, HB5⟩
                case measure => simp [intOf]; omega
            · have hkn : ne = k := by omega
              subst hkn
              have hk5 : ¬ (ne : Int) < (ne : Int) := by omega
              have HRT : Hid (r = t) := Lib.hid (by rw [HRS.out, ht.out, List.take_of_length_le (by rw [HE.out.1]; exact Nat.le_refl _)])
              clear ht
              go_wp2_with fail
              go_ret
              exact ⟨by rw [HRT.out]; rfl, HW1.out.trans ((HB4.out.trans (hbl.out.mono HB4.out.size)).mono HW1.out.size)⟩
        · have hneg : ¬ (d : Int) < 0 := by omega
          have hjm2 : (m : Int) ≤ (d : Int) := by omega
          have HLE := Lib.hid (Len_any g H Es wZ (HS.out wZ HBZ.out))
          rw [← HM.out] at HLE
          have HRF : Hid (r = 0) := Lib.hid (by
            rw [HR.out]; unfold crossE
            rw [if_pos (.inr (.inr (by have h1 := HKJ.out; have h2 := HN.out; have h3 := HNM.out; have h4 := kH_le H p.y; omega)))])
          clear hjm
          go_wp2_with fail
          refine HLE.out.mono ?_
          rintro e w3 ⟨rfl, rfl⟩
          go_wp2_with fail
          go_ret
          exact ⟨by rw [HRF.out]; rfl, HW1.out.trans (HBZ.out.mono HW1.out.size)⟩
end Go.Proofs.YtdikecfplohpeaaGreat

/- a *Slabs: In, Most -/
set_option linter.unusedSimpArgs false
set_option linter.unusedVariables false
namespace Go.Proofs.YtdikecfplohpeaaGreat
open Go.RowKit Go.Geo
attribute [local go_sem] Oper.semAt_some
set_option maxRecDepth 100000 in
set_option maxHeartbeats 1000000 in
theorem SIn_any (g : Nat) (H : List Int) (Es : List (List Edg)) (p : Pt) (w : World) (h : SlabIs w g H Es) (hsorted : H.Pairwise (· < ·)) :
    Calls Tryz.prog 11 #[.pointer (some ⟨g, 0, none⟩), ptV p] w fun e w' => e = .returned (.bool (oddB (crossE H Es p))) ∧ Below w.heap.size w w' := by
  obtain ⟨W, hW⟩ : ∃ W, W = w.alloc (.cells #[.int .i64 p.x, .int .i64 p.y] 40) := ⟨_, rfl⟩
  have hg0 : Below w.heap.size w W := by rw [hW]; exact (Below.refl _ _).alloc (Nat.le_refl _) _
  have HC := Lib.hid (Crossings_any g H Es p W (h.later hg0) hsorted)
  have H0 := Lib.hid hg0
  obtain ⟨c, hc⟩ : ∃ c, c = crossE H Es p := ⟨_, rfl⟩
  rw [← hc] at HC ⊢
  obtain ⟨z, hz⟩ : ∃ z : Nat, z = c % 2 := ⟨_, rfl⟩
  have hrem : Int.tmod (c : Int) 2 = (z : Int) := by rw [Int.tmod_eq_emod_of_nonneg (by omega), hz, Int.natCast_emod]; rfl
  have hrem2 : (c : Int) % 2 = (z : Int) := by rw [hz, Int.natCast_emod]; rfl
  have hz2 : z < 2 := by omega
  have HO : Hid (oddB c = decide (z = 1)) := Lib.hid (by rw [hz]; rfl)
  clear h hsorted hg0 hc hz
  unfold ptV at HC ⊢
  rcases (show z = 0 ∨ z = 1 by omega) with rfl | rfl
  · go_enter Tryz.func11, Tryz.ntmps11
    go_wp2_with fail
    rw [← hW]
    clear hW
    refine HC.out.mono ?_
    rintro e w1 ⟨rfl, hb⟩
    have HB := Lib.hid hb
    clear hb
    go_wp2_with fail
    go_ret
    exact ⟨by rw [HO.out]; rfl, H0.out.trans (HB.out.mono H0.out.size)⟩
  · go_enter Tryz.func11, Tryz.ntmps11
    go_wp2_with fail
    rw [← hW]
    clear hW
    refine HC.out.mono ?_
    rintro e w1 ⟨rfl, hb⟩
    have HB := Lib.hid hb
    clear hb
    go_wp2_with fail
    go_ret
    exact ⟨by rw [HO.out]; rfl, H0.out.trans (HB.out.mono H0.out.size)⟩
theorem mostE_take {Es : List (List Edg)} {k : Nat} (h : k < Es.length) : mostE (Es.take (k + 1)) = max (mostE (Es.take k)) (Es.getD k []).length := by
  unfold mostE
  rw [take_more (d := []) h, List.foldl_append]; rfl
theorem flat_le (Es : List (List Edg)) {k : Nat} (h : k < Es.length) : (Es.getD k []).length ≤ Es.flatten.length := by
  have := flat_part Es h
  omega
theorem mostE_le : ∀ (Es : List (List Edg)) (m : Nat), m ≤ 1000000 → (∀ E ∈ Es, E.length ≤ 1000000) → Es.foldl (fun m E => max m E.length) m ≤ 1000000
  | [], m, h, _ => h
  | E :: Es, m, h, hE => by
    rw [List.foldl_cons]
    exact mostE_le Es _ (by have := hE E (by simp); omega) fun F hF => hE F (by simp [hF])
end Go.Proofs.YtdikecfplohpeaaGreat

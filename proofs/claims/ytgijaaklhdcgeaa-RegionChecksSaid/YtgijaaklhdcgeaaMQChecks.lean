/- RegionChecks: the walk (printed by mkchecks11.py) -/
import Derived.Test.YtgijaaklhdcgeaaMR14
import Derived.Test.YtgijaaklhdcgeaaMR11
import Derived.Test.YtgijaaklhdcgeaaMR11b
set_option linter.unusedSimpArgs false
set_option linter.unusedVariables false
namespace Go.Proofs.Ytgijaaklhdcgeaa
open Go.RowKit Go.Geo
attribute [local go_sem] Oper.semAt_some
set_option maxRecDepth 100000 in
set_option maxHeartbeats 8000000 in
theorem RegionChecks_any (ao : Option Addr) (n cap : Nat) (R : List (List Pt)) (p : Pt) (w : World) (h : IsRings w ao n cap R) (hk : Kept R) :
    Calls Try.prog 6 #[.agg #[.slice ao n cap], ptV p] w fun e w' => e = .returned (.bool true) ∧ Below w.heap.size w w' := by
  have HI := Lib.hid h
  have HK := Lib.hid hk
  have HL := Lib.hid h.1
  have HAW0 := Lib.hid awake_any
  obtain ⟨W0, hW0⟩ : ∃ W, W = (w.alloc (.cells #[.slice ao n cap] 25)).alloc (.cells #[.int .i64 p.x, .int .i64 p.y] 27) := ⟨_, rfl⟩
  have a0 : W0.heap[w.heap.size]? = some (.cells #[.slice ao n cap] 25 (0, 0)) := by rw [hW0]; exact (Below.heap_alloc _ _ _ (by simp)).trans (alloc_new _ _)
  have a1 : W0.heap[w.heap.size + 1]? = some (.cells #[.int .i64 p.x, .int .i64 p.y] 27 (0, 0)) := by rw [hW0]; exact alloc_new2 _ _ _
  have hs0 : W0.heap.size = w.heap.size + 2 := by rw [hW0]; simp
  have hg0 : Below w.heap.size w W0 := by rw [hW0]; exact ((Below.refl _ _).alloc (Nat.le_refl _) _).alloc (by simp) _
  have H0 := Lib.hid (And.intro a0 (And.intro a1 (And.intro hs0 hg0)))
  have c0 : W0.cell? ⟨w.heap.size, 0, none⟩ = some (.slice ao n cap) := cell_of_row _ _ _ _ _ _ a0
  have HCL : Hid (∀ wr, Below W0.heap.size W0 wr → wr.cell? ⟨w.heap.size, 0, none⟩ = some (.slice ao n cap)) := Lib.hid (fun wr hb => cell_of_row _ _ _ _ _ _ ((hb.block w.heap.size (by omega)).trans a0))
  have HBG := Lib.hid (bigLaw_any ao n cap R W0 (h.later hg0 (Nat.le_refl _)) hk)
  obtain ⟨bq, hbq⟩ : ∃ q, q = largeR R 30 450 := ⟨_, rfl⟩
  rw [← hbq] at HBG
  have HBQ := Lib.hid hbq
  rw [hW0] at c0
  clear h hk a0 a1 hs0 hg0 hbq
  unfold ptV
  go_enter Try.func6, Try.ntmps6
  go_wp2_with fail
  rw [← hW0]
  clear hW0 c0
  refine HBG.out.mono ?_
  rintro e w1 ⟨rfl, hb1⟩
  have H1 := Lib.hid hb1
  clear hb1
  cases bq with
  | true =>
    go_wp2_with fail
    go_ret
    exact ⟨rfl, H0.out.2.2.2.trans (H1.out.mono H0.out.2.2.2.size)⟩
  | false =>
    have hlg : ¬ (30 < R.length) ∧ ¬ (450 < sumLen R) := by
      have h := HBQ.out
      unfold largeR at h
      constructor
      · intro h1; rw [decide_eq_true h1] at h; cases h
      · intro h1; rw [decide_eq_true h1, Bool.or_true] at h; cases h
    have hsm : Small R := ⟨by omega, fun k hk => by have := sumLen_get hk; omega⟩
    have HSM := Lib.hid hlg
    have c1 := HCL.out w1 H1.out
    have hb01 := H0.out.2.2.2.trans (H1.out.mono H0.out.2.2.2.size)
    have HOW := Lib.hid (OwnRegion_any ao n cap R w1 (HI.out.later hb01 (Nat.le_refl _)) hsm)
    have H01 := Lib.hid hb01
    clear hlg hsm hb01
    go_wp2_with fail
    refine HOW.out.mono ?_
    rintro e w2 ⟨v, rfl, ho, hb2⟩
    obtain ⟨ai, ci, hv, hri⟩ := ho.rings
    have hln : R.length = n := HL.out
    rw [hln] at hv hri
    subst hv
    clear c1 ho hln
    obtain ⟨W3, hW3⟩ : ∃ W, W = w2.alloc (.cells #[.slice ai n ci] 25) := ⟨_, rfl⟩
    have hb13 : Below W0.heap.size W0 W3 := by rw [hW3]; exact (H1.out.trans (hb2.mono H1.out.size)).alloc (Nat.le_trans H1.out.size hb2.size) _
    have hri3 : IsRings W3 ai n ci R := by rw [hW3]; exact hri.later ((Below.refl _ _).alloc (Nat.le_refl _) _) (Nat.le_refl _)
    have k5 : W3.heap[w2.heap.size]? = some (.cells #[.slice ai n ci] 25 (0, 0)) := by rw [hW3]; exact alloc_new _ _
    have c5 : W3.cell? ⟨w2.heap.size, 0, none⟩ = some (.slice ai n ci) := cell_of_row _ _ _ _ _ _ k5
    obtain ⟨b5, hb5⟩ : ∃ b, b = w2.heap.size := ⟨_, rfl⟩
    rw [← hb5] at c5 k5
    have H3 := Lib.hid (And.intro hb13 (And.intro hri3 k5))
    have hbv : ∃ lo hi : Pt, ∃ q : Bool, boundsV R.flatten = .tuple #[boxV lo hi, .bool q] := by
      unfold boundsV
      split
      · exact ⟨_, _, _, rfl⟩
      · exact ⟨_, _, _, rfl⟩
    obtain ⟨lo, hi, q, hbv⟩ := hbv
    have hsl : sumLen R ≤ 1000000 := by have := HSM.out.2; omega
    have hx1 := Box_region ai n ci R W3 hri3 hsl
    rw [hbv] at hx1
    unfold boxV at hx1
    have HX1 := Lib.hid hx1
    have HX2 : Hid (∀ wX, Below W0.heap.size W0 wX → Calls Try.prog 26 #[.agg #[.slice ao n cap]] wX fun e w' => e = .returned (.tuple #[boxV lo hi, .bool q]) ∧ Below wX.heap.size wX w') := Lib.hid (fun wX hX => by
      have h := rBox_region ao n cap R wX ((HI.out.later H0.out.2.2.2 (Nat.le_refl _)).later hX (Nat.le_refl _)) hsl
      rw [hbv] at h
      exact h)
    have HSL := Lib.hid hsl
    clear hb2 hri hb13 hri3 k5 hbv hsl hx1
    go_wp2_with fail
    rw [← hW3, ← hb5]
    clear hW3 hb5
    refine HX1.out.mono ?_
    rintro e w4 ⟨rfl, hb4⟩
    have hb34 := H3.out.1.trans (hb4.mono H3.out.1.size)
    have H4 := Lib.hid (And.intro hb4 hb34)
    have c2 : (w4.alloc (.cells #[.int .i64 lo.x, .int .i64 lo.y, .int .i64 hi.x, .int .i64 hi.y] 47)).cell? ⟨w.heap.size, 0, none⟩ = some (.slice ao n cap) := HCL.out _ (hb34.alloc hb34.size _)
    have hb44 : Below W0.heap.size W0 (w4.alloc (.cells #[.int .i64 lo.x, .int .i64 lo.y, .int .i64 hi.x, .int .i64 hi.y] 47)) := hb34.alloc hb34.size _
    have HB44 := Lib.hid hb44
    clear hb4 hb34 hb44 c5
    unfold boxV at HX2
    go_wp2_with fail
    refine (HX2.out _ HB44.out).mono ?_
    rintro e w5 ⟨rfl, hb5'⟩
    clear c2
    go_wp2_with fail
    obtain ⟨W, hW⟩ : ∃ W, W = w5.alloc (.cells #[.int .i64 lo.x, .int .i64 lo.y, .int .i64 hi.x, .int .i64 hi.y] 47) := ⟨_, rfl⟩
    obtain ⟨b6, hb6⟩ : ∃ b, b = w4.heap.size := ⟨_, rfl⟩
    obtain ⟨b8, hb8⟩ : ∃ b, b = w5.heap.size := ⟨_, rfl⟩
    rw [← hW, ← hb6, ← hb8]
    have hw5 : Below W0.heap.size W0 W := by rw [hW]; exact (HB44.out.trans (hb5'.mono HB44.out.size)).alloc (Nat.le_trans HB44.out.size hb5'.size) _
    have h4W : Below w4.heap.size w4 W := by
      rw [hW]
      have h1 : Below w4.heap.size w4 w5 := ((Below.refl _ _).alloc (Nat.le_refl _) _).trans (hb5'.mono (by simp))
      exact h1.alloc h1.size _
    have k6 : W.heap[b6]? = some (.cells (boxRow lo.x lo.y hi.x hi.y) 47 (0, 0)) := by
      rw [hW, hb6]
      have hlt := hb5'.size
      simp only [World.size_alloc] at hlt
      exact (Below.heap_alloc _ _ _ (by omega)).trans ((hb5'.block _ (by simp)).trans (alloc_new _ _))
    have k8 : W.heap[b8]? = some (.cells (boxRow lo.x lo.y hi.x hi.y) 47 (0, 0)) := by rw [hW, hb8]; exact alloc_new _ _
    have h3W : Below W3.heap.size W3 W := H4.out.1.trans (h4W.mono H4.out.1.size)
    have k5 := (h3W.block b5 (heap_lt' H3.out.2.2)).trans H3.out.2.2
    have hs0 := H0.out.2.2.1
    have k0 := (hw5.block w.heap.size (by omega)).trans H0.out.1
    have k1 := (hw5.block (w.heap.size + 1) (by omega)).trans H0.out.2.1
    have HCELLS : Hid (∀ wX, Below W.heap.size W wX → wX.cell? ⟨w.heap.size, 0, none⟩ = some (.slice ao n cap) ∧ wX.cell? ⟨w.heap.size + 1, 0, none⟩ = some (.int .i64 p.x) ∧ wX.cell? ⟨w.heap.size + 1, 1, none⟩ = some (.int .i64 p.y) ∧ wX.cell? ⟨b5, 0, none⟩ = some (.slice ai n ci) ∧
        wX.cell? ⟨b6, 0, none⟩ = some (.int .i64 lo.x) ∧ wX.cell? ⟨b6, 1, none⟩ = some (.int .i64 lo.y) ∧ wX.cell? ⟨b6, 2, none⟩ = some (.int .i64 hi.x) ∧ wX.cell? ⟨b6, 3, none⟩ = some (.int .i64 hi.y) ∧
        wX.cell? ⟨b8, 0, none⟩ = some (.int .i64 lo.x) ∧ wX.cell? ⟨b8, 1, none⟩ = some (.int .i64 lo.y) ∧ wX.cell? ⟨b8, 2, none⟩ = some (.int .i64 hi.x) ∧ wX.cell? ⟨b8, 3, none⟩ = some (.int .i64 hi.y)) := Lib.hid (fun wX hX => by
      have q0 := (hX.block _ (heap_lt' k0)).trans k0
      have q1 := (hX.block _ (heap_lt' k1)).trans k1
      have q5 := (hX.block _ (heap_lt' k5)).trans k5
      have q6 := (hX.block _ (heap_lt' k6)).trans k6
      have q8 := (hX.block _ (heap_lt' k8)).trans k8
      obtain ⟨r1, r2, r3, r4⟩ := box_cells q6
      obtain ⟨s1, s2, s3, s4⟩ := box_cells q8
      exact ⟨cell_of_row _ _ _ _ _ _ q0, cell_of_row _ _ _ _ _ _ q1, cell_of_row _ _ _ _ _ _ q1, cell_of_row _ _ _ _ _ _ q5, r1, r2, r3, r4, s1, s2, s3, s4⟩)
    have hwW : Below w.heap.size w W := H0.out.2.2.2.trans (hw5.mono H0.out.2.2.2.size)
    have HW := Lib.hid hwW
    have hIN : ∀ wX, Below W.heap.size W wX → IsRings wX ai n ci R := fun wX hX => (H3.out.2.1.later h3W (Nat.le_refl _)).later hX (Nat.le_refl _)
    have hIG : ∀ wX, Below W.heap.size W wX → IsRings wX ao n cap R := fun wX hX => (HI.out.later hwW (Nat.le_refl _)).later hX (Nat.le_refl _)
    have hsz : sumLen R ≤ 1000000000000 := by have := HSL.out; omega
    obtain ⟨fg, hfg⟩ : ∃ f, f = regionCheckP R := ⟨_, rfl⟩
    obtain ⟨z, hz⟩ : ∃ f, f = inR p R := ⟨_, rfl⟩
    have hCI := fun wX hX => Check_region ai n ci R wX (hIN wX hX) hsz
    have hCG := fun wX hX => rCheck_region ao n cap R wX (hIG wX hX) hsz
    have hII := fun wX hX => In_region p ai n ci R wX (hIN wX hX)
    have hIG2 : ∀ wX, Below W.heap.size W wX → Calls Try.prog 27 #[ptV p, .agg #[.slice ao n cap]] wX fun e w' => e = .returned (.bool (inR p R)) ∧ Below wX.heap.size wX w' := fun wX hX => (rIn_region p ao n cap R wX (hIG wX hX)).mono fun _ _ h => ⟨h.1, h.2.1⟩
    have HEQ : Hid (∀ wX, Below W.heap.size W wX → _) := Lib.hid (fun wX hX => EqualRegion_any ai n ci ao cap R wX (hIN wX hX) (hIG wX hX))
    have HAW : Hid (∀ wX, Below W.heap.size W wX → _) := Lib.hid (fun wX _ => HAW0.out wX)
    rw [← hfg] at hCI hCG
    rw [← hz] at hII hIG2
    obtain ⟨f, g⟩ := fg
    unfold faultV at hCI hCG
    unfold ptV at hII hIG2
    dsimp only at hCI hCG
    have HCI := Lib.hid hCI
    have HCG := Lib.hid hCG
    have HII := Lib.hid hII
    have HIG := Lib.hid hIG2
    clear hCI hCG hII hIG2 hfg hz hsz hIN hIG hwW k0 k1 k5 k6 k8 hs0 h3W h4W hw5 hW hb6 hb8 hb5'
    refine wp_region_J (s := [(24, 0), (25, 1), (26, 2), (27, 3), (28, 4), (29, 5), (30, 6), (31, 7), (32, 8), (33, 9), (34, 10), (35, 11), (36, 12), (37, 13), (38, 14), (39, 15), (40, 16), (41, 17), (42, 18), (43, 19), (44, 20), (45, 21), (46, 22), (47, 23), (48, 24), (49, 25), (50, 26), (51, 27), (52, 28), (53, 29), (54, 30), (55, 31), (4, 32)]) (by kernel_rfl) (StdJ W (fun iX => match iX with | 0 => some (.agg #[.slice ai n ci]) | 1 => some (.agg #[.int .i64 f, .int .i64 g]) | 2 => some (.agg #[.slice ao n cap]) | 3 => some (.agg #[.int .i64 f, .int .i64 g]) | 4 => some (.bool true) | 5 => some (.bool true) | 6 => some (.agg #[.int .i64 p.x, .int .i64 p.y]) | 7 => some (.agg #[.slice ai n ci]) | 8 => some (.bool z) | 9 => some (.agg #[.int .i64 p.x, .int .i64 p.y]) | 10 => some (.agg #[.slice ao n cap]) | 11 => some (.bool z) | 12 => some (.bool true) | 13 => some (.bool true) | 14 => some (.bool true) | 15 => some (.agg #[.int .i64 lo.x, .int .i64 lo.y, .int .i64 hi.x, .int .i64 hi.y]) | 16 => some (.agg #[.int .i64 lo.x, .int .i64 lo.y, .int .i64 hi.x, .int .i64 hi.y]) | 17 => some (.bool true) | 18 => some (.bool true) | 19 => some (.bool true) | 20 => some (.bool q) | 21 => some (.bool q) | 22 => some (.bool true) | 23 => some (.bool true) | 24 => some (.bool true) | 25 => some (.agg #[.slice ai n ci]) | 26 => some (.agg #[.slice ao n cap]) | 27 => some (.bool true) | 28 => some (.bool true) | 29 => some (.bool true) | 30 => some (.bool true) | 31 => some (.bool true) | 32 => some (.bool true) | _ => none) []) (by kernel_rfl) (by kernel_rfl) (by kernel_rfl) (by kernel_rfl) ?start ?step ?done
    case start => exact StdJ.start ((Below.refl _ _).drew)
    case step =>
      refine ⟨?o0, ?o1, ?o2, ?o3, ?o4, ?o5, ?o6, ?o7, ?o8, ?o9, ?o10, ?o11, ?o12, ?o13, ?o14, ?o15, ?o16, ?o17, ?o18, ?o19, ?o20, ?o21, ?o22, ?o23, ?o24, ?o25, ?o26, ?o27, ?o28, ?o29, ?o30, ?o31, ?o32, trivial⟩
      case o0 =>
        intro L V aX wX K hl hp hf hJ hK
        have t5 : aX.tmps[5]? = some (.pointer (some ⟨b5, 0, none⟩)) := hf.old (by kernel_rfl) rfl
        have hc := HCELLS.out wX hJ.below
        obtain ⟨c0, c1, c2, c3, c4, c5, c6, c7, c8, c9, c10, c11⟩ := hc
        rw [if_pos (by rfl)]
        go_simp
        exact hK _ _ (hJ.val (Below.refl _ _) 0 _ (by kernel_rfl) rfl)
      case o1 =>
        intro L V aX wX K hl hp hf hJ hK
        have t24 := hf.in (i := 0) (d := 24) (by kernel_rfl) (hp 0 (by kernel_rfl)) (hJ.vals 0 _ rfl (hp 0 (by kernel_rfl)))
        rw [if_pos (by rfl)]
        go_simp
        refine (HCI.out _ hJ.below).mono ?_
        rintro e wA ⟨rfl, hbA⟩
        exact hK _ _ (hJ.val (hbA) 1 _ (by kernel_rfl) rfl)
      case o2 =>
        intro L V aX wX K hl hp hf hJ hK
        have t2 : aX.tmps[2]? = some (.pointer (some ⟨w.heap.size, 0, none⟩)) := hf.old (by kernel_rfl) rfl
        have hc := HCELLS.out wX hJ.below
        obtain ⟨c0, c1, c2, c3, c4, c5, c6, c7, c8, c9, c10, c11⟩ := hc
        rw [if_pos (by rfl)]
        go_simp
        exact hK _ _ (hJ.val (Below.refl _ _) 2 _ (by kernel_rfl) rfl)
      case o3 =>
        intro L V aX wX K hl hp hf hJ hK
        have t26 := hf.in (i := 2) (d := 26) (by kernel_rfl) (hp 2 (by kernel_rfl)) (hJ.vals 2 _ rfl (hp 2 (by kernel_rfl)))
        rw [if_pos (by rfl)]
        go_simp
        refine (HCG.out _ hJ.below).mono ?_
        rintro e wA ⟨rfl, hbA⟩
        exact hK _ _ (hJ.val (hbA) 3 _ (by kernel_rfl) rfl)
      case o4 =>
        intro L V aX wX K hl hp hf hJ hK
        have t25 := hf.in (i := 1) (d := 25) (by kernel_rfl) (hp 1 (by kernel_rfl)) (hJ.vals 1 _ rfl (hp 1 (by kernel_rfl)))
        have t27 := hf.in (i := 3) (d := 27) (by kernel_rfl) (hp 3 (by kernel_rfl)) (hJ.vals 3 _ rfl (hp 3 (by kernel_rfl)))
        rw [if_pos (by rfl)]
        have he : ∀ w, _ := run_eqF f g f g
        rw [decide_eq_true rfl, decide_eq_true rfl] at he
        go_simp
        exact hK _ _ (hJ.val (Below.refl _ _) 4 _ (by kernel_rfl) rfl)
      case o5 =>
        intro L V aX wX K hl hp hf hJ hK
        have t28 := hf.in (i := 4) (d := 28) (by kernel_rfl) (hp 4 (by kernel_rfl)) (hJ.vals 4 _ rfl (hp 4 (by kernel_rfl)))
        rw [if_pos (by rfl)]
        go_simp
        exact hK _ _ (hJ.val (Below.refl _ _) 5 _ (by kernel_rfl) rfl)
      case o6 =>
        intro L V aX wX K hl hp hf hJ hK
        have t3 : aX.tmps[3]? = some (.pointer (some ⟨(w.heap.size + 1), 0, none⟩)) := hf.old (by kernel_rfl) rfl
        have t29 := hf.in (i := 5) (d := 29) (by kernel_rfl) (hp 5 (by kernel_rfl)) (hJ.vals 5 _ rfl (hp 5 (by kernel_rfl)))
        have hc := HCELLS.out wX hJ.below
        obtain ⟨c0, c1, c2, c3, c4, c5, c6, c7, c8, c9, c10, c11⟩ := hc
        rw [if_pos (wanted_of rfl rfl t29)]
        go_simp
        exact hK _ _ (hJ.val (Below.refl _ _) 6 _ (by kernel_rfl) rfl)
      case o7 =>
        intro L V aX wX K hl hp hf hJ hK
        have t5 : aX.tmps[5]? = some (.pointer (some ⟨b5, 0, none⟩)) := hf.old (by kernel_rfl) rfl
        have t29 := hf.in (i := 5) (d := 29) (by kernel_rfl) (hp 5 (by kernel_rfl)) (hJ.vals 5 _ rfl (hp 5 (by kernel_rfl)))
        have hc := HCELLS.out wX hJ.below
        obtain ⟨c0, c1, c2, c3, c4, c5, c6, c7, c8, c9, c10, c11⟩ := hc
        rw [if_pos (wanted_of rfl rfl t29)]
        go_simp
        exact hK _ _ (hJ.val (Below.refl _ _) 7 _ (by kernel_rfl) rfl)
      case o8 =>
        intro L V aX wX K hl hp hf hJ hK
        have t30 := hf.in (i := 6) (d := 30) (by kernel_rfl) (hp 6 (by kernel_rfl)) (hJ.vals 6 _ rfl (hp 6 (by kernel_rfl)))
        have t31 := hf.in (i := 7) (d := 31) (by kernel_rfl) (hp 7 (by kernel_rfl)) (hJ.vals 7 _ rfl (hp 7 (by kernel_rfl)))
        have t29 := hf.in (i := 5) (d := 29) (by kernel_rfl) (hp 5 (by kernel_rfl)) (hJ.vals 5 _ rfl (hp 5 (by kernel_rfl)))
        rw [if_pos (wanted_of rfl rfl t29)]
        go_simp
        refine (HII.out _ hJ.below).mono ?_
        rintro e wA ⟨rfl, hbA⟩
        exact hK _ _ (hJ.val (hbA) 8 _ (by kernel_rfl) rfl)
      case o9 =>
        intro L V aX wX K hl hp hf hJ hK
        have t3 : aX.tmps[3]? = some (.pointer (some ⟨(w.heap.size + 1), 0, none⟩)) := hf.old (by kernel_rfl) rfl
        have t29 := hf.in (i := 5) (d := 29) (by kernel_rfl) (hp 5 (by kernel_rfl)) (hJ.vals 5 _ rfl (hp 5 (by kernel_rfl)))
        have hc := HCELLS.out wX hJ.below
        obtain ⟨c0, c1, c2, c3, c4, c5, c6, c7, c8, c9, c10, c11⟩ := hc
        rw [if_pos (wanted_of rfl rfl t29)]
        go_simp
        exact hK _ _ (hJ.val (Below.refl _ _) 9 _ (by kernel_rfl) rfl)
      case o10 =>
        intro L V aX wX K hl hp hf hJ hK
        have t2 : aX.tmps[2]? = some (.pointer (some ⟨w.heap.size, 0, none⟩)) := hf.old (by kernel_rfl) rfl
        have t29 := hf.in (i := 5) (d := 29) (by kernel_rfl) (hp 5 (by kernel_rfl)) (hJ.vals 5 _ rfl (hp 5 (by kernel_rfl)))
        have hc := HCELLS.out wX hJ.below
        obtain ⟨c0, c1, c2, c3, c4, c5, c6, c7, c8, c9, c10, c11⟩ := hc
        rw [if_pos (wanted_of rfl rfl t29)]
        go_simp
        exact hK _ _ (hJ.val (Below.refl _ _) 10 _ (by kernel_rfl) rfl)
      case o11 =>
        intro L V aX wX K hl hp hf hJ hK
        have t33 := hf.in (i := 9) (d := 33) (by kernel_rfl) (hp 9 (by kernel_rfl)) (hJ.vals 9 _ rfl (hp 9 (by kernel_rfl)))
        have t34 := hf.in (i := 10) (d := 34) (by kernel_rfl) (hp 10 (by kernel_rfl)) (hJ.vals 10 _ rfl (hp 10 (by kernel_rfl)))
        have t29 := hf.in (i := 5) (d := 29) (by kernel_rfl) (hp 5 (by kernel_rfl)) (hJ.vals 5 _ rfl (hp 5 (by kernel_rfl)))
        rw [if_pos (wanted_of rfl rfl t29)]
        go_simp
        refine (HIG.out _ hJ.below).mono ?_
        rintro e wA ⟨rfl, hbA⟩
        exact hK _ _ (hJ.val (hbA) 11 _ (by kernel_rfl) rfl)
      case o12 =>
        intro L V aX wX K hl hp hf hJ hK
        have t32 := hf.in (i := 8) (d := 32) (by kernel_rfl) (hp 8 (by kernel_rfl)) (hJ.vals 8 _ rfl (hp 8 (by kernel_rfl)))
        have t35 := hf.in (i := 11) (d := 35) (by kernel_rfl) (hp 11 (by kernel_rfl)) (hJ.vals 11 _ rfl (hp 11 (by kernel_rfl)))
        have t29 := hf.in (i := 5) (d := 29) (by kernel_rfl) (hp 5 (by kernel_rfl)) (hJ.vals 5 _ rfl (hp 5 (by kernel_rfl)))
        rw [if_pos (wanted_of rfl rfl t29)]
        have he : (z == z) = true := by simp
        go_simp
        exact hK _ _ (hJ.val (Below.refl _ _) 12 _ (by kernel_rfl) rfl)
      case o13 =>
        intro L V aX wX K hl hp hf hJ hK
        have t29 := hf.in (i := 5) (d := 29) (by kernel_rfl) (hp 5 (by kernel_rfl)) (hJ.vals 5 _ rfl (hp 5 (by kernel_rfl)))
        have t36 := hf.in (i := 12) (d := 36) (by kernel_rfl) (hp 12 (by kernel_rfl)) (hJ.vals 12 _ rfl (hp 12 (by kernel_rfl)))
        rw [if_pos (by rfl)]
        go_simp
        exact hK _ _ (hJ.val (Below.refl _ _) 13 _ (by kernel_rfl) rfl)
      case o14 =>
        intro L V aX wX K hl hp hf hJ hK
        have t37 := hf.in (i := 13) (d := 37) (by kernel_rfl) (hp 13 (by kernel_rfl)) (hJ.vals 13 _ rfl (hp 13 (by kernel_rfl)))
        rw [if_pos (by rfl)]
        go_simp
        exact hK _ _ (hJ.val (Below.refl _ _) 14 _ (by kernel_rfl) rfl)
      case o15 =>
        intro L V aX wX K hl hp hf hJ hK
        have t6 : aX.tmps[6]? = some (.pointer (some ⟨b6, 0, none⟩)) := hf.old (by kernel_rfl) rfl
        have t38 := hf.in (i := 14) (d := 38) (by kernel_rfl) (hp 14 (by kernel_rfl)) (hJ.vals 14 _ rfl (hp 14 (by kernel_rfl)))
        have hc := HCELLS.out wX hJ.below
        obtain ⟨c0, c1, c2, c3, c4, c5, c6, c7, c8, c9, c10, c11⟩ := hc
        rw [if_pos (wanted_of rfl rfl t38)]
        go_simp
        exact hK _ _ (hJ.val (Below.refl _ _) 15 _ (by kernel_rfl) rfl)
      case o16 =>
        intro L V aX wX K hl hp hf hJ hK
        have t8 : aX.tmps[8]? = some (.pointer (some ⟨b8, 0, none⟩)) := hf.old (by kernel_rfl) rfl
        have t38 := hf.in (i := 14) (d := 38) (by kernel_rfl) (hp 14 (by kernel_rfl)) (hJ.vals 14 _ rfl (hp 14 (by kernel_rfl)))
        have hc := HCELLS.out wX hJ.below
        obtain ⟨c0, c1, c2, c3, c4, c5, c6, c7, c8, c9, c10, c11⟩ := hc
        rw [if_pos (wanted_of rfl rfl t38)]
        go_simp
        exact hK _ _ (hJ.val (Below.refl _ _) 16 _ (by kernel_rfl) rfl)
      case o17 =>
        intro L V aX wX K hl hp hf hJ hK
        have t39 := hf.in (i := 15) (d := 39) (by kernel_rfl) (hp 15 (by kernel_rfl)) (hJ.vals 15 _ rfl (hp 15 (by kernel_rfl)))
        have t40 := hf.in (i := 16) (d := 40) (by kernel_rfl) (hp 16 (by kernel_rfl)) (hJ.vals 16 _ rfl (hp 16 (by kernel_rfl)))
        have t38 := hf.in (i := 14) (d := 38) (by kernel_rfl) (hp 14 (by kernel_rfl)) (hJ.vals 14 _ rfl (hp 14 (by kernel_rfl)))
        rw [if_pos (wanted_of rfl rfl t38)]
        have he : ∀ w, _ := run_eqBox lo.x lo.y hi.x hi.y lo.x lo.y hi.x hi.y
        rw [decide_eq_true rfl, decide_eq_true rfl, decide_eq_true rfl, decide_eq_true rfl] at he
        go_simp
        exact hK _ _ (hJ.val (Below.refl _ _) 17 _ (by kernel_rfl) rfl)
      case o18 =>
        intro L V aX wX K hl hp hf hJ hK
        have t38 := hf.in (i := 14) (d := 38) (by kernel_rfl) (hp 14 (by kernel_rfl)) (hJ.vals 14 _ rfl (hp 14 (by kernel_rfl)))
        have t41 := hf.in (i := 17) (d := 41) (by kernel_rfl) (hp 17 (by kernel_rfl)) (hJ.vals 17 _ rfl (hp 17 (by kernel_rfl)))
        rw [if_pos (by rfl)]
        go_simp
        exact hK _ _ (hJ.val (Below.refl _ _) 18 _ (by kernel_rfl) rfl)
      case o19 =>
        intro L V aX wX K hl hp hf hJ hK
        have t42 := hf.in (i := 18) (d := 42) (by kernel_rfl) (hp 18 (by kernel_rfl)) (hJ.vals 18 _ rfl (hp 18 (by kernel_rfl)))
        rw [if_pos (by rfl)]
        go_simp
        exact hK _ _ (hJ.val (Below.refl _ _) 19 _ (by kernel_rfl) rfl)
      case o20 =>
        intro L V aX wX K hl hp hf hJ hK
        have t7 : aX.tmps[7]? = some (.bool q) := hf.old (by kernel_rfl) rfl
        have t43 := hf.in (i := 19) (d := 43) (by kernel_rfl) (hp 19 (by kernel_rfl)) (hJ.vals 19 _ rfl (hp 19 (by kernel_rfl)))
        rw [if_pos (wanted_of rfl rfl t43)]
        go_simp
        exact hK _ _ (hJ.val (Below.refl _ _) 20 _ (by kernel_rfl) rfl)
      case o21 =>
        intro L V aX wX K hl hp hf hJ hK
        have t9 : aX.tmps[9]? = some (.bool q) := hf.old (by kernel_rfl) rfl
        have t43 := hf.in (i := 19) (d := 43) (by kernel_rfl) (hp 19 (by kernel_rfl)) (hJ.vals 19 _ rfl (hp 19 (by kernel_rfl)))
        rw [if_pos (wanted_of rfl rfl t43)]
        go_simp
        exact hK _ _ (hJ.val (Below.refl _ _) 21 _ (by kernel_rfl) rfl)
      case o22 =>
        intro L V aX wX K hl hp hf hJ hK
        have t44 := hf.in (i := 20) (d := 44) (by kernel_rfl) (hp 20 (by kernel_rfl)) (hJ.vals 20 _ rfl (hp 20 (by kernel_rfl)))
        have t45 := hf.in (i := 21) (d := 45) (by kernel_rfl) (hp 21 (by kernel_rfl)) (hJ.vals 21 _ rfl (hp 21 (by kernel_rfl)))
        have t43 := hf.in (i := 19) (d := 43) (by kernel_rfl) (hp 19 (by kernel_rfl)) (hJ.vals 19 _ rfl (hp 19 (by kernel_rfl)))
        rw [if_pos (wanted_of rfl rfl t43)]
        have he : (q == q) = true := by simp
        go_simp
        exact hK _ _ (hJ.val (Below.refl _ _) 22 _ (by kernel_rfl) rfl)
      case o23 =>
        intro L V aX wX K hl hp hf hJ hK
        have t43 := hf.in (i := 19) (d := 43) (by kernel_rfl) (hp 19 (by kernel_rfl)) (hJ.vals 19 _ rfl (hp 19 (by kernel_rfl)))
        have t46 := hf.in (i := 22) (d := 46) (by kernel_rfl) (hp 22 (by kernel_rfl)) (hJ.vals 22 _ rfl (hp 22 (by kernel_rfl)))
        rw [if_pos (by rfl)]
        go_simp
        exact hK _ _ (hJ.val (Below.refl _ _) 23 _ (by kernel_rfl) rfl)
      case o24 =>
        intro L V aX wX K hl hp hf hJ hK
        have t47 := hf.in (i := 23) (d := 47) (by kernel_rfl) (hp 23 (by kernel_rfl)) (hJ.vals 23 _ rfl (hp 23 (by kernel_rfl)))
        rw [if_pos (by rfl)]
        go_simp
        exact hK _ _ (hJ.val (Below.refl _ _) 24 _ (by kernel_rfl) rfl)
      case o25 =>
        intro L V aX wX K hl hp hf hJ hK
        have t5 : aX.tmps[5]? = some (.pointer (some ⟨b5, 0, none⟩)) := hf.old (by kernel_rfl) rfl
        have t48 := hf.in (i := 24) (d := 48) (by kernel_rfl) (hp 24 (by kernel_rfl)) (hJ.vals 24 _ rfl (hp 24 (by kernel_rfl)))
        have hc := HCELLS.out wX hJ.below
        obtain ⟨c0, c1, c2, c3, c4, c5, c6, c7, c8, c9, c10, c11⟩ := hc
        rw [if_pos (wanted_of rfl rfl t48)]
        go_simp
        exact hK _ _ (hJ.val (Below.refl _ _) 25 _ (by kernel_rfl) rfl)
      case o26 =>
        intro L V aX wX K hl hp hf hJ hK
        have t2 : aX.tmps[2]? = some (.pointer (some ⟨w.heap.size, 0, none⟩)) := hf.old (by kernel_rfl) rfl
        have t48 := hf.in (i := 24) (d := 48) (by kernel_rfl) (hp 24 (by kernel_rfl)) (hJ.vals 24 _ rfl (hp 24 (by kernel_rfl)))
        have hc := HCELLS.out wX hJ.below
        obtain ⟨c0, c1, c2, c3, c4, c5, c6, c7, c8, c9, c10, c11⟩ := hc
        rw [if_pos (wanted_of rfl rfl t48)]
        go_simp
        exact hK _ _ (hJ.val (Below.refl _ _) 26 _ (by kernel_rfl) rfl)
      case o27 =>
        intro L V aX wX K hl hp hf hJ hK
        have t49 := hf.in (i := 25) (d := 49) (by kernel_rfl) (hp 25 (by kernel_rfl)) (hJ.vals 25 _ rfl (hp 25 (by kernel_rfl)))
        have t50 := hf.in (i := 26) (d := 50) (by kernel_rfl) (hp 26 (by kernel_rfl)) (hJ.vals 26 _ rfl (hp 26 (by kernel_rfl)))
        have t48 := hf.in (i := 24) (d := 48) (by kernel_rfl) (hp 24 (by kernel_rfl)) (hJ.vals 24 _ rfl (hp 24 (by kernel_rfl)))
        rw [if_pos (wanted_of rfl rfl t48)]
        go_simp
        refine (HEQ.out _ hJ.below).mono ?_
        rintro e wA ⟨rfl, hbA⟩
        exact hK _ _ (hJ.val (hbA) 27 _ (by kernel_rfl) rfl)
      case o28 =>
        intro L V aX wX K hl hp hf hJ hK
        have t48 := hf.in (i := 24) (d := 48) (by kernel_rfl) (hp 24 (by kernel_rfl)) (hJ.vals 24 _ rfl (hp 24 (by kernel_rfl)))
        have t51 := hf.in (i := 27) (d := 51) (by kernel_rfl) (hp 27 (by kernel_rfl)) (hJ.vals 27 _ rfl (hp 27 (by kernel_rfl)))
        rw [if_pos (by rfl)]
        go_simp
        exact hK _ _ (hJ.val (Below.refl _ _) 28 _ (by kernel_rfl) rfl)
      case o29 =>
        intro L V aX wX K hl hp hf hJ hK
        have t52 := hf.in (i := 28) (d := 52) (by kernel_rfl) (hp 28 (by kernel_rfl)) (hJ.vals 28 _ rfl (hp 28 (by kernel_rfl)))
        rw [if_pos (by rfl)]
        go_simp
        exact hK _ _ (hJ.val (Below.refl _ _) 29 _ (by kernel_rfl) rfl)
      case o30 =>
        intro L V aX wX K hl hp hf hJ hK
        have t53 := hf.in (i := 29) (d := 53) (by kernel_rfl) (hp 29 (by kernel_rfl)) (hJ.vals 29 _ rfl (hp 29 (by kernel_rfl)))
        rw [if_pos (wanted_of rfl rfl t53)]
        go_simp
        refine (HAW.out _ hJ.below).mono ?_
        rintro e wA ⟨rfl, hbA⟩
        exact hK _ _ (hJ.val (hbA) 30 _ (by kernel_rfl) rfl)
      case o31 =>
        intro L V aX wX K hl hp hf hJ hK
        have t53 := hf.in (i := 29) (d := 53) (by kernel_rfl) (hp 29 (by kernel_rfl)) (hJ.vals 29 _ rfl (hp 29 (by kernel_rfl)))
        have t54 := hf.in (i := 30) (d := 54) (by kernel_rfl) (hp 30 (by kernel_rfl)) (hJ.vals 30 _ rfl (hp 30 (by kernel_rfl)))
        rw [if_pos (by rfl)]
        go_simp
        exact hK _ _ (hJ.val (Below.refl _ _) 31 _ (by kernel_rfl) rfl)
      case o32 =>
        intro L V aX wX K hl hp hf hJ hK
        have t55 := hf.in (i := 31) (d := 55) (by kernel_rfl) (hp 31 (by kernel_rfl)) (hJ.vals 31 _ rfl (hp 31 (by kernel_rfl)))
        rw [if_pos (by rfl)]
        go_simp
        exact hK _ _ (hJ.val (Below.refl _ _) 32 _ (by kernel_rfl) rfl)
    intro V wZ hJ
    have hv := hJ.vals 32 _ rfl (by kernel_rfl)
    have HB := Lib.hid hJ.below
    simp only [puts, Act.put, List.setIfInBounds_toArray, List.set_cons_zero, List.set_cons_succ]
    rw [hv]
    clear hJ hv
    go_wp2_with fail
    go_ret
    exact ⟨rfl, HW.out.trans (HB.out.mono HW.out.size)⟩
theorem RegionChecks_z {w : World} (g : Rg) (hg : ∃ R, IsRings w g.a g.n g.c R ∧ Kept R) (p : Pt) :
    Calls Try.prog 6 #[g.val, ptV p] w fun e w' => e = .returned (.bool true) ∧ Below w.heap.size w w' := by
  obtain ⟨R, hr, hk⟩ := hg
  exact RegionChecks_any _ _ _ R p w hr hk
end Go.Proofs.Ytgijaaklhdcgeaa

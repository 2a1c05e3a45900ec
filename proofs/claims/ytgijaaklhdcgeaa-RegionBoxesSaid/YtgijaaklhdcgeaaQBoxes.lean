/- RegionBoxes: the walk -/
import Derived.Test.YtgijaaklhdcgeaaQAwake
import Derived.Test.YtgijaaklhdcgeaaQConcat
set_option linter.unusedSimpArgs false
set_option linter.unusedVariables false
namespace Go.Proofs.Ytgijaaklhdcgeaa
open Go.RowKit Go.Geo
attribute [local go_sem] Oper.semAt_some
theorem largeR_no {R : List (List Pt)} {a b : Nat} (h : false = largeR R a b) : R.length ≤ a ∧ sumLen R ≤ b := by
  unfold largeR at h
  constructor
  · apply Nat.le_of_not_lt; intro h1; rw [decide_eq_true h1] at h; cases h
  · apply Nat.le_of_not_lt; intro h1; rw [decide_eq_true h1, Bool.or_true] at h; cases h
/-- a step that keeps the law's boxes. -/
theorem keep_step {B n : Nat} {w w1 w2 : World} {c1 c2 : Obj} (hb : Below w1.heap.size w1 w2) (h0 : w1.heap[B]? = some c1) (h1 : w1.heap[B + 1]? = some c2) (hw : Below w.heap.size w w1) : w2.heap[B]? = some c1 ∧ w2.heap[B + 1]? = some c2 ∧ Below w.heap.size w w2 :=
  ⟨(hb.block _ (heap_lt' h0)).trans h0, (hb.block _ (heap_lt' h1)).trans h1, hw.trans (hb.mono hw.size)⟩
set_option maxRecDepth 100000 in
set_option maxHeartbeats 8000000 in
theorem RegionBoxes_any (ao : Option Addr) (n cap : Nat) (R : List (List Pt)) (p : Pt) (w : World) (h : IsRings w ao n cap R) (hk : Kept R) :
    Calls Try.prog 7 #[.agg #[.slice ao n cap], ptV p] w fun e w' => e = .returned (.bool true) ∧ Below w.heap.size w w' := by
  have HI := Lib.hid h
  have HK := Lib.hid hk
  have HAW := Lib.hid awake_any
  have hfd := fieldF0
  obtain ⟨W0, hW0⟩ : ∃ W, W = (w.alloc (.cells #[.slice ao n cap] 25)).alloc (.cells #[.int .i64 p.x, .int .i64 p.y] 27) := ⟨_, rfl⟩
  have a0 : W0.heap[w.heap.size]? = some (.cells #[.slice ao n cap] 25 (0, 0)) := by rw [hW0]; exact (Below.heap_alloc _ _ _ (by simp)).trans (alloc_new _ _)
  have a1 : W0.heap[w.heap.size + 1]? = some (.cells #[.int .i64 p.x, .int .i64 p.y] 27 (0, 0)) := by rw [hW0]; exact alloc_new2 _ _ _
  have hg0 : Below w.heap.size w W0 := by rw [hW0]; exact ((Below.refl _ _).alloc (Nat.le_refl _) _).alloc (by simp) _
  have H0 := Lib.hid (And.intro a0 (And.intro a1 hg0))
  clear h hk a0 a1 hg0
  unfold ptV
  go_enter Try.func7, Try.ntmps7
  go_wp2_with fail
  rw [← hW0]
  clear hW0
  refine (HAW.out _).mono ?_
  rintro e w1 ⟨rfl, hb1⟩
  have H1 := Lib.hid (keep_step (n := 0) hb1 H0.out.1 H0.out.2.1 H0.out.2.2)
  have c1 : w1.cell? ⟨w.heap.size, 0, none⟩ = some (.slice ao n cap) := cell_of_row _ _ _ _ _ _ H1.out.1
  have HLG := Lib.hid (LargeRegion_any ao n cap R 20 300 w1 (HI.out.later H1.out.2.2 (Nat.le_refl _)) HK.out (by omega) (by omega))
  obtain ⟨q, hq⟩ : ∃ q, q = largeR R 20 300 := ⟨_, rfl⟩
  rw [← hq] at HLG
  have HQ := Lib.hid hq
  clear hb1 hq
  cases q with
  | true =>
    go_wp2_with fail
    refine HLG.out.mono ?_
    rintro e w2 ⟨rfl, hg2⟩
    have H2 := Lib.hid (H1.out.2.2.trans (hg2.1.mono H1.out.2.2.size))
    clear hg2
    go_wp2_with fail
    go_ret
    exact ⟨rfl, H2.out⟩
  | false =>
    have HSM := Lib.hid (largeR_no HQ.out)
    go_wp2_with fail
    refine HLG.out.mono ?_
    rintro e w2 ⟨rfl, hg2⟩
    have H2 := Lib.hid (keep_step (n := 0) hg2.1 H1.out.1 H1.out.2.1 H1.out.2.2)
    have c2 : w2.cell? ⟨w.heap.size, 0, none⟩ = some (.slice ao n cap) := cell_of_row _ _ _ _ _ _ H2.out.1
    have HBX := Lib.hid (Box_region ao n cap R w2 (HI.out.later H2.out.2.2 (Nat.le_refl _)) (by have := HSM.out.2; omega))
    have hbv : ∃ lo hi : Pt, ∃ q : Bool, boundsV R.flatten = .tuple #[boxV lo hi, .bool q] ∧ (q = true → boundsP R.flatten = some (lo, hi)) ∧ (q = false → boundsP R.flatten = none) := by
      unfold boundsV
      split
      · rename_i lo hi hb
        exact ⟨lo, hi, true, rfl, fun _ => hb, fun h => by cases h⟩
      · rename_i hb
        exact ⟨_, _, false, rfl, (fun h => by cases h), fun _ => hb⟩
    obtain ⟨lo, hi, q, hbv, hb1, hb2⟩ := hbv
    rw [hbv] at HBX
    have HBB := Lib.hid (And.intro hb1 hb2)
    unfold boxV at HBX
    obtain ⟨f, hf⟩ : ∃ f, f = regionCheckP R := ⟨_, rfl⟩
    have HF := Lib.hid hf
    clear hg2 hbv hb1 hb2 hf c1
    go_wp2_with fail
    refine HBX.out.mono ?_
    rintro e w3 ⟨rfl, hb3⟩
    obtain ⟨W4, hW4⟩ : ∃ W, W = w3.alloc (.cells #[.int .i64 lo.x, .int .i64 lo.y, .int .i64 hi.x, .int .i64 hi.y] 47) := ⟨_, rfl⟩
    have hb34 : Below w3.heap.size w3 W4 := by rw [hW4]; exact (Below.refl _ _).alloc (Nat.le_refl _) _
    have h3 := keep_step (n := 0) hb3 H2.out.1 H2.out.2.1 H2.out.2.2
    have H4 := Lib.hid (keep_step (n := 0) hb34 h3.1 h3.2.1 h3.2.2)
    have hx4 := alloc_new w3 (.cells #[.int .i64 lo.x, .int .i64 lo.y, .int .i64 hi.x, .int .i64 hi.y] 47)
    rw [← hW4] at hx4
    have HX4 := Lib.hid hx4
    have c4 : W4.cell? ⟨w.heap.size, 0, none⟩ = some (.slice ao n cap) := cell_of_row _ _ _ _ _ _ H4.out.1
    have hck := Check_region ao n cap R W4 (HI.out.later H4.out.2.2 (Nat.le_refl _)) (by have := HSM.out.2; omega)
    rw [← HF.out] at hck
    have HCK := Lib.hid hck
    obtain ⟨f, f2⟩ := f
    unfold faultV at HCK
    try dsimp only at HCK
    rw [hW4] at c4
    clear hb3 hb34 h3 hx4 hck c2
    go_wp2_with fail
    try rw [← hW4]
    clear hW4 c4
    refine HCK.out.mono ?_
    rintro e w5 ⟨rfl, hb5⟩
    have H5 := Lib.hid (keep_step (n := 0) hb5 H4.out.1 H4.out.2.1 H4.out.2.2)
    have hx5 := (hb5.block _ (heap_lt' HX4.out)).trans HX4.out
    have HX5 := Lib.hid hx5
    have c5 : w5.cell? ⟨w.heap.size, 0, none⟩ = some (.slice ao n cap) := cell_of_row _ _ _ _ _ _ H5.out.1
    obtain ⟨p1, p2, _, _⟩ := pt_cells H5.out.2.1
    have HIN := Lib.hid (In_region p ao n cap R w5 (HI.out.later H5.out.2.2 (Nat.le_refl _)))
    unfold ptV at HIN
    obtain ⟨a, ha⟩ : ∃ a, a = inR p R := ⟨_, rfl⟩
    rw [← ha] at HIN
    have HA := Lib.hid ha
    have hundef : ∀ b, some undef = some (Value.bool b) → False := fun b h => by injection h with h; cases h
    clear hb5 hx5 ha
    cases q with
    | false =>
      have hf0 : ¬ f = 0 := fun h => by
        obtain ⟨lo, hi, hbb⟩ := region_box (g := R) (by rw [← HF.out]; exact h)
        rw [HBB.out.2 rfl] at hbb
        cases hbb
      have hfz : (f == 0) = false := by simp [hf0]
      clear hf0
      go_wp2_with fail
      all_goals first
        | (exfalso; exact hundef _ (by assumption))
        | (go_ret; exact ⟨rfl, H5.out.2.2⟩)
    | true =>
      cases a with
      | false =>
        by_cases hf0 : f = 0
        · subst hf0
          go_wp2_with fail
          refine HIN.out.mono ?_
          rintro e w6 ⟨rfl, hb6⟩
          have H6 := Lib.hid (H5.out.2.2.trans (hb6.mono H5.out.2.2.size))
          clear hb6 c5 p1 p2
          go_wp2_with fail
          all_goals first
            | (exfalso; exact hundef _ (by assumption))
            | (go_ret; exact ⟨rfl, H6.out⟩)
        · have hfz : (f == 0) = false := by simp [hf0]
          clear hf0
          go_wp2_with fail
          all_goals first
            | (exfalso; exact hundef _ (by assumption))
            | skip
          refine HIN.out.mono ?_
          rintro e w6 ⟨rfl, hb6⟩
          have H6 := Lib.hid (H5.out.2.2.trans (hb6.mono H5.out.2.2.size))
          clear hb6 c5 p1 p2
          go_wp2_with fail
          all_goals first
            | (exfalso; exact hundef _ (by assumption))
            | (go_ret; exact ⟨rfl, H6.out⟩)
      | true =>
        have hbi : boxIn p lo hi = true := inR_box (HBB.out.1 rfl) HA.out.symm
        have HPI := Lib.hid (In_any p lo hi)
        rw [hbi] at HPI
        unfold ptV boxV at HPI
        clear hbi
        by_cases hf0 : f = 0
        · subst hf0
          go_wp2_with fail
          all_goals first
            | (exfalso; exact hundef _ (by assumption))
            | skip
          refine HIN.out.mono ?_
          rintro e w6 ⟨rfl, hb6⟩
          have h6 := keep_step (n := 0) hb6 H5.out.1 H5.out.2.1 H5.out.2.2
          obtain ⟨q1, q2, _, _⟩ := pt_cells h6.2.1
          obtain ⟨x0, x1, x2, x3⟩ := box_cells ((hb6.block _ (heap_lt' HX5.out)).trans HX5.out)
          have H6 := Lib.hid h6.2.2
          clear hb6 h6 c5 p1 p2
          go_wp2_with fail
          refine (HPI.out _).mono ?_
          rintro e w7 ⟨rfl, hg7⟩
          have H7 := Lib.hid (H6.out.trans (hg7.1.mono H6.out.size))
          clear hg7 q1 q2 x0 x1 x2 x3
          go_wp2_with fail
          go_ret
          exact ⟨rfl, H7.out⟩
        · have hfz : (f == 0) = false := by simp [hf0]
          clear hf0
          go_wp2_with fail
          all_goals first
            | (exfalso; exact hundef _ (by assumption))
            | skip
          refine HIN.out.mono ?_
          rintro e w6 ⟨rfl, hb6⟩
          have h6 := keep_step (n := 0) hb6 H5.out.1 H5.out.2.1 H5.out.2.2
          obtain ⟨q1, q2, _, _⟩ := pt_cells h6.2.1
          obtain ⟨x0, x1, x2, x3⟩ := box_cells ((hb6.block _ (heap_lt' HX5.out)).trans HX5.out)
          have H6 := Lib.hid h6.2.2
          clear hb6 h6 c5 p1 p2
          go_wp2_with fail
          refine (HPI.out _).mono ?_
          rintro e w7 ⟨rfl, hg7⟩
          have H7 := Lib.hid (H6.out.trans (hg7.1.mono H6.out.size))
          clear hg7 q1 q2 x0 x1 x2 x3
          go_wp2_with fail
          go_ret
          exact ⟨rfl, H7.out⟩
theorem RegionBoxes_z {w : World} (g : Rg) (hg : ∃ R, IsRings w g.a g.n g.c R ∧ Kept R) (p : Pt) :
    Calls Try.prog 7 #[g.val, ptV p] w fun e w' => e = .returned (.bool true) ∧ Below w.heap.size w w' := by
  obtain ⟨R, hr, hk⟩ := hg
  exact RegionBoxes_any _ _ _ R p w hr hk
end Go.Proofs.Ytgijaaklhdcgeaa

/- the law's at, box, of, s, t, u -/
import Derived.Test.YtgijaaklhdcgeaaQRCheck
set_option linter.unusedSimpArgs false
set_option linter.unusedVariables false
namespace Go.Proofs.Ytgijaaklhdcgeaa
open Go.RowKit Go.Geo
attribute [local go_sem] Oper.semAt_some
theorem atLaw_any (x y : Int) (w : World) : Calls Try.prog 19 #[.int .i64 x, .int .i64 y] w fun e w' => e = .returned (.agg #[.int .i64 x, .int .i64 y]) ∧ Grew w w' := by
  go_enter Try.func19, Try.ntmps19
  go_wp2_with fail
  exact bodyPost_ret (results_point rfl rfl (alloc_new _ _)) rfl ⟨rfl, (Grew.refl _).alloc _⟩
/-- the points of a box's ring. -/
def boxP (lo hi : Pt) : List Pt := [lo, ⟨hi.x, lo.y⟩, hi, ⟨lo.x, hi.y⟩]
/-- a slice of points that the call has made. -/
def NewP (P : List Pt) (n : Nat) (w : World) (e : Ending) (w' : World) : Prop := ∃ g cap, e = .returned (.slice (some ⟨g, 0, none⟩) n cap) ∧ IsPts w' (some ⟨g, 0, none⟩) n cap P ∧ Below w.heap.size w w'
theorem pt4 (w : World) (lo hi : Pt) {g : Nat} (hg : w.heap.size = g) : IsPts (w.alloc (.cells #[.int .i64 lo.x, .int .i64 lo.y, .int .i64 hi.x, .int .i64 lo.y, .int .i64 hi.x, .int .i64 hi.y, .int .i64 lo.x, .int .i64 hi.y] 27)) (some ⟨g, 0, none⟩) 4 4 (boxP lo hi) := by
  subst hg
  refine ⟨rfl, Nat.le_refl _, by unfold maxLen; omega, fun _ => ⟨_, _, rfl, fun i hlt => ?_⟩, fun h => by cases h⟩
  have h := alloc_new w (.cells #[.int .i64 lo.x, .int .i64 lo.y, .int .i64 hi.x, .int .i64 lo.y, .int .i64 hi.x, .int .i64 hi.y, .int .i64 lo.x, .int .i64 hi.y] 27)
  match i, hlt with
  | 0, _ => exact ⟨cell_of_row _ _ _ _ _ _ h, cell_of_row _ _ _ _ _ _ h⟩
  | 1, _ => exact ⟨cell_of_row _ _ _ _ _ _ h, cell_of_row _ _ _ _ _ _ h⟩
  | 2, _ => exact ⟨cell_of_row _ _ _ _ _ _ h, cell_of_row _ _ _ _ _ _ h⟩
  | 3, _ => exact ⟨cell_of_row _ _ _ _ _ _ h, cell_of_row _ _ _ _ _ _ h⟩
theorem two_step {B : Nat} {lo hi : Pt} {W w1 w2 : World} (hb : Grew w1 w2) (hB : B + 2 ≤ W.heap.size)
    (h1 : w1.cell? ⟨B, 0, none⟩ = some (.int .i64 lo.x)) (h2 : w1.cell? ⟨B, 1, none⟩ = some (.int .i64 lo.y)) (h3 : w1.cell? ⟨B + 1, 0, none⟩ = some (.int .i64 hi.x)) (h4 : w1.cell? ⟨B + 1, 1, none⟩ = some (.int .i64 hi.y)) (h9 : Below W.heap.size W w1) :
    w2.cell? ⟨B, 0, none⟩ = some (.int .i64 lo.x) ∧ w2.cell? ⟨B, 1, none⟩ = some (.int .i64 lo.y) ∧ w2.cell? ⟨B + 1, 0, none⟩ = some (.int .i64 hi.x) ∧ w2.cell? ⟨B + 1, 1, none⟩ = some (.int .i64 hi.y) ∧ Below W.heap.size W w2 :=
  ⟨hb.cell h1, hb.cell h2, hb.cell h3, hb.cell h4, h9.trans (hb.1.mono h9.size)⟩
set_option maxRecDepth 100000 in
set_option maxHeartbeats 2000000 in
theorem boxLaw_any (lo hi : Pt) (w : World) : Calls Try.prog 50 #[ptV lo, ptV hi] w (NewP (boxP lo hi) 4 w) := by
  obtain ⟨W, hW⟩ : ∃ W, W = (w.alloc (.cells #[.int .i64 lo.x, .int .i64 lo.y] 27)).alloc (.cells #[.int .i64 hi.x, .int .i64 hi.y] 27) := ⟨_, rfl⟩
  have a0 : W.heap[w.heap.size]? = some (.cells #[.int .i64 lo.x, .int .i64 lo.y] 27 (0, 0)) := by rw [hW]; exact (Below.heap_alloc _ _ _ (by simp)).trans (alloc_new _ _)
  have a1 : W.heap[w.heap.size + 1]? = some (.cells #[.int .i64 hi.x, .int .i64 hi.y] 27 (0, 0)) := by rw [hW]; exact alloc_new2 _ _ _
  have hs : W.heap.size = w.heap.size + 2 := by rw [hW]; simp
  have hb : Below w.heap.size w W := by rw [hW]; exact ((Below.refl _ _).alloc (Nat.le_refl _) _).alloc (by simp) _
  obtain ⟨x0, x1, _, _⟩ := pt_cells a0
  obtain ⟨x2, x3, _, _⟩ := pt_cells a1
  have HS : Hid (w.heap.size + 2 ≤ W.heap.size) := Lib.hid (by omega)
  have HB := Lib.hid (And.intro hb hs)
  clear a0 a1 hs hb
  have HAT := Lib.hid atLaw_any
  unfold ptV
  go_enter Try.func50, Try.ntmps50
  go_wp2_with fail
  rw [← hW]
  have HW := Lib.hid hW
  clear hW
  go_region_held3 (fun w' => w'.cell? ⟨w.heap.size, 0, none⟩ = some (.int .i64 lo.x) ∧ w'.cell? ⟨w.heap.size, 1, none⟩ = some (.int .i64 lo.y) ∧ w'.cell? ⟨w.heap.size + 1, 0, none⟩ = some (.int .i64 hi.x) ∧ w'.cell? ⟨w.heap.size + 1, 1, none⟩ = some (.int .i64 hi.y) ∧ Below W.heap.size W w')
    (first
      | (exact ⟨x0, x1, x2, x3, (Below.refl _ _).drew⟩)
      | (go_split_ands; refine two_step hgr HS.out ?_ ?_ ?_ ?_ ?_; all_goals assumption)
      | (go_split_ands; refine two_step ((Grew.refl _).alloc _) HS.out ?_ ?_ ?_ ?_ ?_; all_goals assumption))
    (first
      | (go_at_call 19; go_split_ands; refine (HAT.out _ _ _).mono ?_; rintro e wA ⟨rfl, hgr⟩))
  go_wp2_with fail
  go_ret
  refine ⟨_, _, rfl, pt4 _ lo hi rfl, ?_⟩
  exact HB.out.1.trans (Below.mono (B := W.heap.size) (by first | assumption | (go_split_ands; assumption)) (by rw [HB.out.2]; omega))
theorem sLaw_any (w : World) : Calls Try.prog 29 #[] w (NewP (boxP ⟨0, 0⟩ ⟨9, 9⟩) 4 w) := by
  have HAT := Lib.hid atLaw_any
  have HBX := Lib.hid (boxLaw_any ⟨0, 0⟩ ⟨9, 9⟩)
  unfold ptV at HBX
  go_enter Try.func29, Try.ntmps29
  go_wp2_with fail
  refine (HAT.out _ _ _).mono ?_
  rintro e w1 ⟨rfl, hg1⟩
  have H1 := Lib.hid hg1
  clear hg1
  go_wp2_with fail
  refine (HAT.out _ _ _).mono ?_
  rintro e w2 ⟨rfl, hg2⟩
  have H2 := Lib.hid (H1.out.trans hg2)
  clear hg2
  go_wp2_with fail
  refine (HBX.out _).mono ?_
  rintro e w3 ⟨g, cap, rfl, hp, hb⟩
  have H3 := Lib.hid (And.intro hp (H2.out.1.trans (hb.mono H2.out.size)))
  clear hp hb
  go_wp2_with fail
  go_ret
  exact ⟨g, cap, rfl, H3.out.1, H3.out.2⟩
theorem tLaw_any (w : World) : Calls Try.prog 30 #[] w (NewP (boxP ⟨2, 2⟩ ⟨4, 4⟩) 4 w) := by
  have HAT := Lib.hid atLaw_any
  have HBX := Lib.hid (boxLaw_any ⟨2, 2⟩ ⟨4, 4⟩)
  unfold ptV at HBX
  go_enter Try.func30, Try.ntmps30
  go_wp2_with fail
  refine (HAT.out _ _ _).mono ?_
  rintro e w1 ⟨rfl, hg1⟩
  have H1 := Lib.hid hg1
  clear hg1
  go_wp2_with fail
  refine (HAT.out _ _ _).mono ?_
  rintro e w2 ⟨rfl, hg2⟩
  have H2 := Lib.hid (H1.out.trans hg2)
  clear hg2
  go_wp2_with fail
  refine (HBX.out _).mono ?_
  rintro e w3 ⟨g, cap, rfl, hp, hb⟩
  have H3 := Lib.hid (And.intro hp (H2.out.1.trans (hb.mono H2.out.size)))
  clear hp hb
  go_wp2_with fail
  go_ret
  exact ⟨g, cap, rfl, H3.out.1, H3.out.2⟩
theorem uLaw_any (w : World) : Calls Try.prog 39 #[] w (NewP (boxP ⟨2, 2⟩ ⟨12, 4⟩) 4 w) := by
  have HAT := Lib.hid atLaw_any
  have HBX := Lib.hid (boxLaw_any ⟨2, 2⟩ ⟨12, 4⟩)
  unfold ptV at HBX
  go_enter Try.func39, Try.ntmps39
  go_wp2_with fail
  refine (HAT.out _ _ _).mono ?_
  rintro e w1 ⟨rfl, hg1⟩
  have H1 := Lib.hid hg1
  clear hg1
  go_wp2_with fail
  refine (HAT.out _ _ _).mono ?_
  rintro e w2 ⟨rfl, hg2⟩
  have H2 := Lib.hid (H1.out.trans hg2)
  clear hg2
  go_wp2_with fail
  refine (HBX.out _).mono ?_
  rintro e w3 ⟨g, cap, rfl, hp, hb⟩
  have H3 := Lib.hid (And.intro hp (H2.out.1.trans (hb.mono H2.out.size)))
  clear hp hb
  go_wp2_with fail
  go_ret
  exact ⟨g, cap, rfl, H3.out.1, H3.out.2⟩
/-- two rings in a slice that the call has made. -/
theorem rings2 {w : World} {x y : Option Addr} {n m c d : Nat} {P Q : List Pt} (hP : IsPts w x n c P) (hQ : IsPts w y m d Q) {g : Nat} (hg : w.heap.size = g) : IsRings (w.alloc (.cells #[.slice x n c, .slice y m d] 28)) (some ⟨g, 0, none⟩) 2 2 [P, Q] := by
  subst hg
  have hb : Below w.heap.size w (w.alloc (.cells #[.slice x n c, .slice y m d] 28)) := (Below.refl _ _).alloc (Nat.le_refl _) _
  have h := alloc_new w (.cells #[.slice x n c, .slice y m d] 28)
  refine ⟨rfl, Nat.le_refl _, by unfold maxLen; omega, (fun h => by cases h), fun i hi => ?_⟩
  match i, hi with
  | 0, _ => exact ⟨_, _, _, _, _, rfl, cell_of_row _ _ _ _ _ _ h, hP.later hb (Nat.le_refl _)⟩
  | 1, _ => exact ⟨_, _, _, _, _, rfl, cell_of_row _ _ _ _ _ _ h, hQ.later hb (Nat.le_refl _)⟩
theorem ofLaw_any (ao : Option Addr) (n cap : Nat) (w : World) : Calls Try.prog 20 #[.slice ao n cap] w fun e w' => e = .returned (.agg #[.slice ao n cap]) ∧ Grew w w' := by
  go_enter Try.func20, Try.ntmps20
  go_wp2_with fail
  exact bodyPost_ret (results_cell_row rfl _ _ _ _ _ _ _ rfl (alloc_new _ _) Try.underlying25 rfl (by kernel_rfl)) rfl ⟨rfl, (Grew.refl _).alloc _⟩
end Go.Proofs.Ytgijaaklhdcgeaa

/- law13: what Build's slabs are; square, sample, is, awake -/
import Derived.Test.YtdikecfplohpeaaGreatMSBuild
import Derived.Test.YtdikecfplohpeaaGreatMSlabY
set_option linter.unusedSimpArgs false
set_option linter.unusedVariables false
namespace Go.Proofs.YtdikecfplohpeaaGreat
open Go.RowKit Go.Geo
attribute [local go_sem] Oper.semAt_some
theorem slabsR_len {R : List (List Pt)} : (slabsR R).length = (heightsP R).length - 1 := slabsK_len _ _
theorem slabsR_get {R : List (List Pt)} {i : Nat} (h : i + 1 < (heightsP R).length) : (slabsR R).getD i [] = slabI R i := by
  unfold slabsR slabsK
  rw [List.getD_eq_getElem?_getD, List.getElem?_map, List.getElem?_range (by omega)]; rfl
theorem heights_len (R : List (List Pt)) : (heightsP R).length ≤ sumLen R := by
  have key : ∀ (L : List Pt) (H : List Int), (L.foldl (fun H p => insH p.y H) H).length ≤ H.length + L.length := by
    intro L
    induction L with
    | nil => intro H; simp
    | cons p L ih =>
      intro H
      have h1 := ih (insH p.y H)
      have h2 : ∀ H : List Int, (insH p.y H).length ≤ H.length + 1 := by
        intro H
        induction H with
        | nil => simp [insH]
        | cons h t ih => unfold insH; split <;> (try split) <;> simp <;> omega
      have h3 := h2 H
      simp only [List.foldl_cons, List.length_cons]
      omega
  have h1 := key R.flatten []
  rw [sumLen_flatten] at h1
  simpa [heightsP] using h1
theorem slabs_is {w : World} {g : Nat} {R : List (List Pt)} (hc : (regionCheckP R).1 = 0) (h : SlabOwn w g (heightsP R) (slabsR R)) : SlabIs w g (heightsP R) (slabsR R) := by
  have h2 := heights_two hc
  have hs := (region_ok hc).2.2.1
  have hl := heights_len R
  refine h.is (by rw [slabsR_len]; omega) ?_ (by omega) ?_
  · have h3 := slab_first hc
    have h4 := flat_le (slabsR R) (k := 0) (by rw [slabsR_len]; omega)
    rw [slabsR_get (by omega)] at h4
    omega
  · have h5 := slabsK_bound R ((heightsP R).length - 1)
    have h6 := edgesP_len R
    refine Nat.le_trans h5 (Nat.le_trans (Nat.mul_le_mul (show _ ≤ 400 by omega) (show _ ≤ 400 by omega)) (by omega))
theorem crossE_R (R : List (List Pt)) (p : Pt) : crossE (heightsP R) (slabsR R) p = crossR p R := by
  rw [← cross_slab]
  unfold crossE crossS
  have hk := kH_le (heightsP R) p.y
  by_cases h : validP p = false ∨ kH (heightsP R) p.y = 0 ∨ kH (heightsP R) p.y = (heightsP R).length
  · rw [if_pos h, if_pos h]
  · rw [if_neg h, if_neg h, slabsR_get (by omega)]; rfl
theorem inR_slab (R : List (List Pt)) (p : Pt) : oddB (crossE (heightsP R) (slabsR R) p) = inR p R := by rw [crossE_R, inR_cross]
def sqP (a b : Int) : List Pt := [⟨a, a⟩, ⟨b, a⟩, ⟨b, b⟩, ⟨a, b⟩]
def smR : List (List Pt) := [sqP 0 9, sqP 2 4]
theorem sm_facts : regionCheckP smR = (0, 0) ∧ heightsP smR = [0, 2, 4, 9] ∧ (slabsR smR).map List.length = [2, 4, 2] ∧ crossR ⟨3, 3⟩ smR = 2 ∧ crossR ⟨1, 1⟩ smR = 1 ∧ crossR ⟨9, 1⟩ smR = 0 ∧ crossR ⟨1, 3⟩ smR = 3 ∧ mostE (slabsR smR) = 4 := by decide +kernel
set_option maxRecDepth 100000 in
theorem square_any (a b : Int) (w : World) : Calls Tryz.prog 32 #[.int .i64 a, .int .i64 b] w fun e w' => e = .returned (.slice (some ⟨w.heap.size, 0, none⟩) 4 4) ∧ w' = w.alloc (.cells #[.int .i64 a, .int .i64 a, .int .i64 b, .int .i64 a, .int .i64 b, .int .i64 b, .int .i64 a, .int .i64 b] 40) := by
  go_enter Tryz.func32, Tryz.ntmps32
  go_wp2_with fail
  go_ret
  exact ⟨rfl, rfl⟩
theorem sq_pts (w : World) (a b : Int) : IsPts (w.alloc (.cells #[.int .i64 a, .int .i64 a, .int .i64 b, .int .i64 a, .int .i64 b, .int .i64 b, .int .i64 a, .int .i64 b] 40)) (some ⟨w.heap.size, 0, none⟩) 4 4 (sqP a b) := by
  obtain ⟨ao, cap, e, h⟩ := (OwnP.lit w w.heap.size (Nat.le_refl _) (sqP a b) (by simp [sqP])).pts
  cases e
  exact h
theorem sm_rings {w : World} {x y : Option Addr} {g : Nat} (hP : IsPts w x 4 4 (sqP 0 9)) (hQ : IsPts w y 4 4 (sqP 2 4)) (hg : w.heap[g]? = some (.cells #[.slice x 4 4, .slice y 4 4] 25 (0, 0))) : IsRings w (some ⟨g, 0, none⟩) 2 2 smR := by
  refine ⟨rfl, Nat.le_refl _, by unfold maxLen; omega, (fun h => by cases h), fun k hk => ?_⟩
  match k, hk with
  | 0, _ => exact ⟨g, 0, x, 4, 4, rfl, cell_of_row _ _ _ _ _ _ hg, hP⟩
  | 1, _ => exact ⟨g, 0, y, 4, 4, rfl, cell_of_row _ _ _ _ _ _ hg, hQ⟩
set_option maxRecDepth 100000 in
set_option maxHeartbeats 1000000 in
theorem sample_any (w : World) : Calls Tryz.prog 15 #[] w fun e w' => ∃ g, e = .returned (.pointer (some ⟨g, 0, none⟩)) ∧ SlabIs w' g (heightsP smR) (slabsR smR) ∧ Below w.heap.size w w' := by
  have H1 := Lib.hid (square_any 0 9 w)
  go_enter Tryz.func15, Tryz.ntmps15
  go_wp2_with fail
  refine H1.out.mono ?_
  rintro e w1 ⟨rfl, hw1⟩
  have hp1 := sq_pts w 0 9
  rw [← hw1] at hp1
  have hb1 : Below w.heap.size w w1 := by rw [hw1]; exact (Below.refl _ _).alloc (Nat.le_refl _) _
  have hs1 : w1.heap.size = w.heap.size + 1 := by rw [hw1]; simp
  have HP1 := Lib.hid hp1
  have HB1 := Lib.hid hb1
  clear hw1 hp1 hb1
  go_wp2_with fail
  refine (square_any 2 4 w1).mono ?_
  rintro e w2 ⟨rfl, hw2⟩
  have hp2 := sq_pts w1 2 4
  rw [← hw2] at hp2
  have hb2 : Below w1.heap.size w1 w2 := by rw [hw2]; exact (Below.refl _ _).alloc (Nat.le_refl _) _
  have HP2 := Lib.hid hp2
  have HB2 := Lib.hid hb2
  obtain ⟨b1, hb1'⟩ : ∃ b, b = w1.heap.size := ⟨_, rfl⟩
  rw [← hb1'] at HP2 ⊢
  clear hw2 hp2 hb2
  obtain ⟨W3, hW3⟩ : ∃ W, W = w2.alloc (.cells #[.slice (some ⟨w.heap.size, 0, none⟩) 4 4, .slice (some ⟨b1, 0, none⟩) 4 4] 25) := ⟨_, rfl⟩
  have hb3 : Below w2.heap.size w2 W3 := by rw [hW3]; exact (Below.refl _ _).alloc (Nat.le_refl _) _
  have hr : IsRings W3 (some ⟨w2.heap.size, 0, none⟩) 2 2 smR := sm_rings ((HP1.out.later HB2.out (Nat.le_refl _)).later hb3 (Nat.le_refl _)) (HP2.out.later hb3 (Nat.le_refl _)) (by rw [hW3]; exact alloc_new _ _)
  have HBU := Lib.hid (Build_any _ 2 2 smR W3 hr (by decide))
  have HB3 := Lib.hid (HB1.out.trans ((HB2.out.trans (hb3.mono HB2.out.size)).mono HB1.out.size))
  clear hb1' hs1 hb3 hr
  go_wp2_with fail
  rw [← hW3]
  clear hW3
  refine HBU.out.mono ?_
  rintro e w4 ⟨hb4, hok, _⟩
  obtain ⟨g, rfl, hgs, how⟩ := hok (by rw [sm_facts.1])
  have HS4 := Lib.hid (slabs_is (by rw [sm_facts.1]) how)
  have HB4 := Lib.hid (HB3.out.trans (hb4.mono HB3.out.size))
  clear hb4 hok hgs how
  go_wp2_with fail
  go_ret
  exact ⟨g, rfl, HS4.out.later ((Below.refl _ _).alloc (Nat.le_refl _) _), HB4.out.alloc HB4.out.size _⟩
end Go.Proofs.YtdikecfplohpeaaGreat

/- inside.Counts -/
import Derived.Test.YtgijaaklhdcgeaaQMeets
set_option linter.unusedSimpArgs false
set_option linter.unusedVariables false
namespace Go.Proofs.Ytgijaaklhdcgeaa
open Go.RowKit Go.Geo
/-- three points in boxes of their own. -/
def Box3 (B : Nat) (a b c : Pt) (w : World) : Prop :=
  (w.heap[B]? = some (.cells #[.int .i64 a.x, .int .i64 a.y] 27 (0, 0))) ∧ (w.heap[B + 1]? = some (.cells #[.int .i64 b.x, .int .i64 b.y] 27 (0, 0))) ∧ (w.heap[B + 1 + 1]? = some (.cells #[.int .i64 c.x, .int .i64 c.y] 27 (0, 0)))
theorem box3_new (w : World) (a b c : Pt) : Box3 w.heap.size a b c (((w.alloc (.cells #[.int .i64 a.x, .int .i64 a.y] 27)).alloc (.cells #[.int .i64 b.x, .int .i64 b.y] 27)).alloc (.cells #[.int .i64 c.x, .int .i64 c.y] 27)) := by
  have h3 : ((w.alloc (.cells #[.int .i64 a.x, .int .i64 a.y] 27)).alloc (.cells #[.int .i64 b.x, .int .i64 b.y] 27)).heap.size = w.heap.size + 1 + 1 := by simp
  refine ⟨?_, ?_, ?_⟩
  · exact (Below.heap_alloc _ _ _ (by simp; omega)).trans ((Below.heap_alloc _ _ _ (by simp)).trans (alloc_new w _))
  · exact (Below.heap_alloc _ _ _ (by simp)).trans (alloc_new2 w _ _)
  · rw [← h3]; exact alloc_new _ _
theorem Box3.later {B base : Nat} {a b c : Pt} {w w' : World} (h : Box3 B a b c w) (hb : Below base w w') (hB : B + 3 ≤ base) : Box3 B a b c w' :=
  ⟨(hb.block _ (by omega)).trans h.1, (hb.block _ (by omega)).trans h.2.1, (hb.block _ (by omega)).trans h.2.2⟩
theorem pt_cells {w : World} {g : Nat} {a : Pt} (h : w.heap[g]? = some (.cells #[.int .i64 a.x, .int .i64 a.y] 27 (0, 0))) :
    w.cell? ⟨g, 0, none⟩ = some (.int .i64 a.x) ∧ w.cell? ⟨g, 1, none⟩ = some (.int .i64 a.y) ∧ w.frozen? ⟨g, 0, none⟩ = false ∧ w.frozen? ⟨g, 1, none⟩ = false :=
  ⟨cell_of_row _ _ _ _ _ _ h, cell_of_row _ _ _ _ _ _ h, frozen_of_row _ _ _ _ _ h, frozen_of_row _ _ _ _ _ h⟩
set_option maxRecDepth 100000 in
set_option maxHeartbeats 4000000 in
theorem Counts_any (p a b : Pt) (w : World) :
    Calls Try.prog 41 #[ptV p, ptV a, ptV b] w fun e w' => e = .returned (.bool (countsP p a b)) ∧ Grew w w' := by
  obtain ⟨B, hB⟩ : ∃ B, B = w.heap.size := ⟨_, rfl⟩
  have H3 := box3_new w p a b
  rw [← hB] at H3
  obtain ⟨W3, hW3⟩ : ∃ W, W = ((w.alloc (.cells #[.int .i64 p.x, .int .i64 p.y] 27)).alloc (.cells #[.int .i64 a.x, .int .i64 a.y] 27)).alloc (.cells #[.int .i64 b.x, .int .i64 b.y] 27) := ⟨_, rfl⟩
  rw [← hW3] at H3
  have hsz : W3.heap.size = B + 3 := by rw [hW3, hB]; simp
  have HB0 : Hid (Grew w W3) := Lib.hid (by rw [hW3]; exact (((Grew.refl _).alloc _).alloc _).alloc _)
  have HH3 := Lib.hid H3
  have HSZ := Lib.hid hsz
  have HBE := Lib.hid hB
  have HVP := Lib.hid (Valid_any p)
  have HVA := Lib.hid (Valid_any a)
  have HVB := Lib.hid (Valid_any b)
  have HTA := Lib.hid (Turn_any a b p)
  have HTB := Lib.hid (Turn_any b a p)
  have HTAR := Lib.hid (turnP_range a b p)
  have HTBR := Lib.hid (turnP_range b a p)
  obtain ⟨r, hr⟩ : ∃ r, r = countsP p a b := ⟨_, rfl⟩
  rw [← hr]
  unfold countsP at hr
  obtain ⟨vp, hvp⟩ : ∃ x, x = validP p := ⟨_, rfl⟩
  obtain ⟨va, hva⟩ : ∃ x, x = validP a := ⟨_, rfl⟩
  obtain ⟨vb, hvb⟩ : ∃ x, x = validP b := ⟨_, rfl⟩
  rw [← hvp, ← hva, ← hvb] at hr
  rw [← hvp] at HVP
  rw [← hva] at HVA
  rw [← hvb] at HVB
  obtain ⟨ta, hta⟩ : ∃ x, x = turnP a b p := ⟨_, rfl⟩
  obtain ⟨tb, htb⟩ : ∃ x, x = turnP b a p := ⟨_, rfl⟩
  rw [← hta] at HTA HTAR hr
  rw [← htb] at HTB HTBR hr
  have HR := Lib.hid hr
  clear hr hvp hva hvb hta htb
  obtain ⟨px, py⟩ := p
  obtain ⟨ax, ay⟩ := a
  obtain ⟨bx, bY⟩ := b
  unfold ptV at *
  dsimp only at *
  cases vp with
  | false =>
    go_enter Try.func41, Try.ntmps41
    go_wp2_with fail
    refine (HVP.out _).mono ?_
    rintro e w1 ⟨rfl, hg1⟩
    go_wp2_with fail
    go_ret
    exact ⟨by rw [HR.out]; rfl, (((Grew.refl _).alloc _).alloc _).alloc _ |>.trans hg1⟩
  | true =>
    go_enter Try.func41, Try.ntmps41
    go_wp2_with fail
    rw [← hW3, ← hB]
    refine (HVP.out _).mono ?_
    rintro e w1 ⟨rfl, hg1⟩
    have HG1 := Lib.hid (And.intro (HB0.out.trans hg1) (show B + 3 ≤ w1.heap.size by have := hg1.size; omega))
    have HK1 := Lib.hid (HH3.out.later hg1.1 (by rw [HSZ.out]; exact Nat.le_refl _))
    obtain ⟨k1, k2, _, _⟩ := pt_cells HK1.out.2.1
    clear hg1 H3 hW3 hB hsz
    dsimp only at k1 k2
    go_wp2_with fail
    refine (HVA.out _).mono ?_
    rintro e w2 ⟨rfl, hg2⟩
    have HG2 := Lib.hid (And.intro (HG1.out.1.trans hg2) (Nat.le_trans HG1.out.2 hg2.size))
    have HK2 := Lib.hid (HK1.out.later hg2.1 HG1.out.2)
    obtain ⟨m1, m2, _, _⟩ := pt_cells HK2.out.2.2
    clear hg2 k1 k2
    dsimp only at m1 m2
    cases va with
    | false =>
      go_wp2_with fail
      go_ret
      exact ⟨by rw [HR.out]; rfl, HG2.out.1⟩
    | true =>
      go_wp2_with fail
      refine (HVB.out _).mono ?_
      rintro e w3 ⟨rfl, hg3⟩
      have HG3 := Lib.hid (And.intro (HG2.out.1.trans hg3) (Nat.le_trans HG2.out.2 hg3.size))
      have HK3 := Lib.hid (HK2.out.later hg3.1 HG2.out.2)
      clear hg3 m1 m2
      cases vb with
      | false =>
        go_wp2_with fail
        go_ret
        exact ⟨by rw [HR.out]; rfl, HG3.out.1⟩
      | true =>
        obtain ⟨c1, c2, c3, c4⟩ := pt_cells HK3.out.1
        obtain ⟨k1, k2, k3, k4⟩ := pt_cells HK3.out.2.1
        obtain ⟨m1, m2, m3, m4⟩ := pt_cells HK3.out.2.2
        dsimp only at c1 c2 k1 k2 m1 m2
        by_cases hlt : bY < ay
        · have HLT := Lib.hid hlt
          have HGS : Hid (Grew w ((((w3.setCell ⟨B + 1, 0, none⟩ (.int .i64 bx)).setCell ⟨B + 1, 1, none⟩ (.int .i64 bY)).setCell ⟨B + 1 + 1, 0, none⟩ (.int .i64 ax)).setCell ⟨B + 1 + 1, 1, none⟩ (.int .i64 ay))) := Lib.hid (by
            have hb := HBE.out
            exact grew_setCell (grew_setCell (grew_setCell (grew_setCell HG3.out.1 (by omega) _) (by omega) _) (by omega) _) (by omega) _)
          by_cases q1 : bY ≤ py
          · by_cases q2 : py < ay
            · go_wp2_with fail
              refine (HTB.out _).mono ?_
              rintro e w9 ⟨rfl, hg9⟩
              have HG9 := Lib.hid ((HGS.out).trans hg9)
              clear hg9
              go_wp2_with fail
              go_ret
              refine ⟨?_, HG9.out⟩
              rw [HR.out, if_pos HLT.out]
              rcases HTBR.out with h | h | h <;> rw [h] <;> simp [HLT.out, q1, q2] <;> (intros; omega)
            · go_wp2_with fail
              go_ret
              refine ⟨?_, HGS.out⟩
              rw [HR.out, if_pos HLT.out]
              simp [HLT.out, q1, q2] <;> (intros; omega)
          · go_wp2_with fail
            go_ret
            refine ⟨?_, HGS.out⟩
            rw [HR.out, if_pos HLT.out]
            simp [HLT.out, q1] <;> (intros; omega)
        · have hlt2 : ay ≤ bY := by omega
          have HLT := Lib.hid hlt
          by_cases q1 : ay ≤ py
          · by_cases q2 : py < bY
            · go_wp2_with fail
              refine (HTA.out _).mono ?_
              rintro e w9 ⟨rfl, hg9⟩
              have HG9 := Lib.hid ((HG3.out.1).trans hg9)
              clear hg9
              go_wp2_with fail
              go_ret
              refine ⟨?_, HG9.out⟩
              rw [HR.out, if_neg (by have := HLT.out; omega)]
              rcases HTAR.out with h | h | h <;> rw [h] <;> simp [HLT.out, q1, q2] <;> (intros; omega)
            · go_wp2_with fail
              go_ret
              refine ⟨?_, HG3.out.1⟩
              rw [HR.out, if_neg (by have := HLT.out; omega)]
              simp [HLT.out, q1, q2] <;> (intros; omega)
          · go_wp2_with fail
            go_ret
            refine ⟨?_, HG3.out.1⟩
            rw [HR.out, if_neg (by have := HLT.out; omega)]
            simp [HLT.out, q1] <;> (intros; omega)
end Go.Proofs.Ytgijaaklhdcgeaa

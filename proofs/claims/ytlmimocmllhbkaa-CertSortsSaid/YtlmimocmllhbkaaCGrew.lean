/- cert: key, compare[int], order: that the world has only grown (what the library's sort asks of its 'cmp') -/
import Derived.Test.YtlmimocmllhbkaaCOrd
import Derived.Sort.Grow
namespace Go.Proofs.Ytlmimocmllhbkaa
open Go.RowKit
/-- the world has only grown: new blocks, draws. -/
def Grew (w w' : World) : Prop := Below w.heap.size w w' ∧ w.drawn ≤ w'.drawn
theorem Grew.refl (w : World) : Grew w w := ⟨Below.refl _ _, Nat.le_refl _⟩
theorem Grew.alloc {a w : World} (h : Grew a w) (o : Obj) : Grew a (w.alloc o) := ⟨h.1.alloc h.1.size _, h.2⟩
theorem Grew.drewN {a w : World} (h : Grew a w) (q : Nat) : Grew a (w.drewN q) := ⟨below_drewN h.1 q, Nat.le_trans h.2 (Nat.le_add_right _ _)⟩
theorem Grew.drew {a w : World} (h : Grew a w) : Grew a w.drew := ⟨h.1.drew, Nat.le_trans h.2 (Nat.le_succ _)⟩
theorem Grew.trans {a b c : World} (h : Grew a b) (k : Grew b c) : Grew a c := ⟨h.1.trans (k.1.mono h.1.size), Nat.le_trans h.2 k.2⟩
theorem Grew.grow {w w' : World} (h : Grew w w') : ∃ q os, w' = Sort.grow (w.drewN q) os := by
  obtain ⟨⟨ho, ht, hu, hs, hb⟩, hd⟩ := h
  refine ⟨w'.drawn - w.drawn, w'.heap.extract w.heap.size w'.heap.size, ?_⟩
  have hh : w'.heap = w.heap ++ w'.heap.extract w.heap.size w'.heap.size := by
    apply Array.ext_getElem?
    intro i
    rw [Array.getElem?_append]
    by_cases hi : i < w.heap.size
    · rw [if_pos hi]; exact hb i hi
    · rw [if_neg hi, Array.getElem?_extract]
      by_cases h2 : i < w'.heap.size
      · rw [if_pos (by omega)]; congr 1; omega
      · rw [if_neg (by omega), Array.getElem?_eq_none (by omega)]
  cases w'
  simp only at *
  unfold Sort.grow World.drewN
  simp only [World.mk.injEq]
  refine ⟨hh, ?_⟩
  first | exact ⟨ht, by omega, ho, hu⟩ | (refine ⟨?_, ?_, ?_, ?_⟩ <;> first | assumption | omega)
theorem key_grew (c : Crt) (w : World) :
    Calls Try.prog 27 #[c.val] w fun e w' => e = .returned c.val ∧ Grew w w' := by
  obtain ⟨c1, c2, c3, c4, c5⟩ := c
  unfold Crt.val
  dsimp only
  go_enter Try.func27, Try.ntmps27
  go_wp2
  refine bodyPost_ret (results_cell_row rfl _ _ _ _ _ _ _ rfl (alloc_new2 w _ _) Try.underlying47 rfl (by kernel_rfl)) rfl ⟨rfl, ?_⟩
  exact ((Grew.refl _).alloc _).alloc _
set_option maxRecDepth 100000 in
theorem compare_grew (a b : Crt) (w : World) :
    Calls Try.prog 26 #[a.val, b.val] w fun e w' => e = .returned (.int .i64 (cmpC a b)) ∧ Grew w w' := by
  have ha : a.val = .agg a.row := rfl
  have hb : b.val = .agg b.row := rfl
  rw [ha, hb]
  obtain ⟨ra, hra⟩ : ∃ r, r = a.row := ⟨_, rfl⟩
  obtain ⟨rb, hrb⟩ : ∃ r, r = b.row := ⟨_, rfl⟩
  have hsa : ra.size = 5 := by rw [hra]; rfl
  have hsb : rb.size = 5 := by rw [hrb]; rfl
  have hga : ∀ i, i < 5 → ra[i]? = some (.int .i64 (a.get i)) := by rw [hra]; exact a.row_get
  have hgb : ∀ i, i < 5 → rb[i]? = some (.int .i64 (b.get i)) := by rw [hrb]; exact b.row_get
  rw [← hra, ← hrb]
  have HGA := Lib.hid hga
  have HGB := Lib.hid hgb
  have HSA := Lib.hid hsa
  have HSB := Lib.hid hsb
  clear hga hgb hra hrb ha hb hsa hsb
  go_enter Try.func26, Try.ntmps26
  go_wp2
  go_loopw [7] (fun i wr => ∃ k : Nat, k ≤ 5 ∧ i = .int .i64 k ∧ Hid (wr.heap[w.heap.size]? = some (.cells ra 47 (0, 0))) ∧ Hid (wr.heap[w.heap.size + 1]? = some (.cells rb 47 (0, 0))) ∧ Hid (Grew w wr) ∧ Hid (cmpC a b = cmpL a.get b.get (5 - k) k)) (fun i _ => 5 - (intOf i).toNat)
  case atStart =>
    exact ⟨0, by omega, rfl, (Below.heap_alloc _ _ _ (by simp)).trans (alloc_new w _), alloc_new2 w _ _, ((Grew.refl _).alloc _).alloc _, rfl⟩
  case round =>
    obtain ⟨k, hk, rfl, h1, h2, hbl, hc⟩ := hrel
    by_cases hlt : k < 5
    · have hi0 : (0 : Int) ≤ (k : Int) := by omega
      have hi5 : (k : Int) < 5 := by omega
      have hca : wr.cell? ⟨w.heap.size, k, none⟩ = some (.int .i64 (a.get k)) := (cell_of_row _ _ _ _ _ _ h1.out).trans (HGA.out k hlt)
      have hcb : wr.cell? ⟨w.heap.size + 1, k, none⟩ = some (.int .i64 (b.get k)) := (cell_of_row _ _ _ _ _ _ h2.out).trans (HGB.out k hlt)
      obtain ⟨x, hx⟩ : ∃ x, x = a.get k := ⟨_, rfl⟩
      obtain ⟨y, hy⟩ : ∃ y, y = b.get k := ⟨_, rfl⟩
      rw [← hx] at hca
      rw [← hy] at hcb
      have HX := Lib.hid hx
      have HY := Lib.hid hy
      clear hx hy
      by_cases hz : cmpI x y = 0
      · have hcall : ∀ q', Calls Try.prog 31 #[.int .i64 x, .int .i64 y] (wr.drewN q') fun e w' => e = .returned (.int .i64 0) ∧ w' = wr.drewN q' := fun q' =>
          (cmp_any _ _ _).mono fun e w' h => ⟨by rw [h.1, hz], h.2.symm⟩
        have HC := Lib.hid hcall
        have HZ := Lib.hid hz
        clear hcall hz
        go_wp2_with fail
        go_quiet ((go_at_call 31; exact Calls.quiet_of_same (HC.out _)))
        go_wp2_with fail
        go_roundw
        case rel =>
          refine ⟨k + 1, by omega, by go_num, h1.out, h2.out, hbl.out.drewN _, ?_⟩
          have h := hc.out
          rw [show 5 - k = (5 - (k + 1)) + 1 by omega, cmpL, ← HX.out, ← HY.out, if_pos HZ.out] at h
          exact h
        case measure => simp [intOf]; omega
      · obtain ⟨r, hr⟩ : ∃ r, r = cmpI x y := ⟨_, rfl⟩
        have hcall : ∀ q', Calls Try.prog 31 #[.int .i64 x, .int .i64 y] (wr.drewN q') fun e w' => e = .returned (.int .i64 r) ∧ w' = wr.drewN q' := fun q' =>
          (cmp_any _ _ _).mono fun e w' h => ⟨by rw [h.1, hr], h.2.symm⟩
        rw [← hr] at hz
        have hz1 : (r == 0) = false := by simpa using hz
        have HC := Lib.hid hcall
        have HR := Lib.hid hr
        have HZ := Lib.hid hz
        clear hcall hr
        go_wp2_with fail
        go_quiet ((go_at_call 31; exact Calls.quiet_of_same (HC.out _)))
        go_wp2_with fail
        go_ret
        refine ⟨?_, hbl.out.drewN _⟩
        have h := hc.out
        rw [show 5 - k = (5 - (k + 1)) + 1 by omega, cmpL, ← HX.out, ← HY.out, if_neg (by rw [← HR.out]; exact HZ.out), ← HR.out] at h
        rw [h]
        rfl
    · obtain rfl : k = 5 := by omega
      go_wp2
      go_ret
      exact ⟨by rw [hc.out]; rfl, hbl.out⟩
theorem ordG_step {B : Nat} {a0 a1 a2 a3 a4 b0 b1 b2 b3 b4 : Int} {w0 w1 w2 : World} (hB : w0.heap.size = B + 2) (hbc : Grew w1 w2) (h0 : w1.cell? ⟨B, 0, none⟩ = some (.int .i64 a0)) (h1 : w1.cell? ⟨B, 1, none⟩ = some (.int .i64 a1)) (h2 : w1.cell? ⟨B, 2, none⟩ = some (.int .i64 a2)) (h3 : w1.cell? ⟨B, 3, none⟩ = some (.int .i64 a3)) (h4 : w1.cell? ⟨B, 4, none⟩ = some (.int .i64 a4)) (h5 : w1.cell? ⟨B + 1, 0, none⟩ = some (.int .i64 b0)) (h6 : w1.cell? ⟨B + 1, 1, none⟩ = some (.int .i64 b1)) (h7 : w1.cell? ⟨B + 1, 2, none⟩ = some (.int .i64 b2)) (h8 : w1.cell? ⟨B + 1, 3, none⟩ = some (.int .i64 b3)) (h9 : w1.cell? ⟨B + 1, 4, none⟩ = some (.int .i64 b4)) (hb : Grew w0 w1) :
    w2.cell? ⟨B, 0, none⟩ = some (.int .i64 a0) ∧ w2.cell? ⟨B, 1, none⟩ = some (.int .i64 a1) ∧ w2.cell? ⟨B, 2, none⟩ = some (.int .i64 a2) ∧ w2.cell? ⟨B, 3, none⟩ = some (.int .i64 a3) ∧ w2.cell? ⟨B, 4, none⟩ = some (.int .i64 a4) ∧ w2.cell? ⟨B + 1, 0, none⟩ = some (.int .i64 b0) ∧ w2.cell? ⟨B + 1, 1, none⟩ = some (.int .i64 b1) ∧ w2.cell? ⟨B + 1, 2, none⟩ = some (.int .i64 b2) ∧ w2.cell? ⟨B + 1, 3, none⟩ = some (.int .i64 b3) ∧ w2.cell? ⟨B + 1, 4, none⟩ = some (.int .i64 b4) ∧ Grew w0 w2 := by
  have hs := hb.1.size
  have hbc2 : Below w0.heap.size w1 w2 := hbc.1.mono hs
  refine ⟨?_, ?_, ?_, ?_, ?_, ?_, ?_, ?_, ?_, ?_, hb.trans hbc⟩
  all_goals exact (hbc2.cell (by dsimp only; omega)).trans (by assumption)
set_option maxHeartbeats 20000 in
theorem order_grew (a b : Crt) (w : World) :
    Calls Try.prog 19 #[a.val, b.val] w fun e w' => e = .returned (.int .i64 (cmpC a b)) ∧ Grew w w' := by
  obtain ⟨r, hr⟩ : ∃ r, r = cmpC a b := ⟨_, rfl⟩
  have HR := Lib.hid hr
  rw [← hr]
  clear hr
  have hk := fun c0 c1 c2 c3 c4 => key_grew ⟨c0, c1, c2, c3, c4⟩
  have hcm : ∀ w', Calls Try.prog 26 #[a.val, b.val] w' fun e w2 => e = .returned (.int .i64 r) ∧ Grew w' w2 := by rw [HR.out]; exact compare_grew a b
  obtain ⟨a0, a1, a2, a3, a4⟩ := a
  obtain ⟨b0, b1, b2, b3, b4⟩ := b
  unfold Crt.val at hk hcm ⊢
  dsimp only at hk hcm ⊢
  have HK := Lib.hid hk
  have HCM := Lib.hid hcm
  clear hk hcm
  go_enter Try.func19, Try.ntmps19
  go_wp2
  generalize hw0 : ((w.alloc (Obj.cells #[Value.int IntKind.i64 a0, Value.int IntKind.i64 a1, Value.int IntKind.i64 a2, Value.int IntKind.i64 a3, Value.int IntKind.i64 a4] 30)).alloc (Obj.cells #[Value.int IntKind.i64 b0, Value.int IntKind.i64 b1, Value.int IntKind.i64 b2, Value.int IntKind.i64 b3, Value.int IntKind.i64 b4] 30)) = w0
  have h1 : w0.heap[w.heap.size]? = some (.cells #[Value.int IntKind.i64 a0, Value.int IntKind.i64 a1, Value.int IntKind.i64 a2, Value.int IntKind.i64 a3, Value.int IntKind.i64 a4] 30 (0, 0)) := by rw [← hw0]; exact (Below.heap_alloc _ _ _ (by simp)).trans (alloc_new w _)
  have h2 : w0.heap[w.heap.size + 1]? = some (.cells #[Value.int IntKind.i64 b0, Value.int IntKind.i64 b1, Value.int IntKind.i64 b2, Value.int IntKind.i64 b3, Value.int IntKind.i64 b4] 30 (0, 0)) := by rw [← hw0]; exact alloc_new2 w _ _
  have hbl : Grew w w0 := by rw [← hw0]; exact ((Grew.refl _).alloc _).alloc _
  have hsz : w0.heap.size = w.heap.size + 2 := by rw [← hw0]; simp
  have HSZ := Lib.hid hsz
  clear hw0 hsz
  go_region_held3 (fun w' => w'.cell? ⟨w.heap.size, 0, none⟩ = some (.int .i64 a0) ∧ w'.cell? ⟨w.heap.size, 1, none⟩ = some (.int .i64 a1) ∧ w'.cell? ⟨w.heap.size, 2, none⟩ = some (.int .i64 a2) ∧ w'.cell? ⟨w.heap.size, 3, none⟩ = some (.int .i64 a3) ∧ w'.cell? ⟨w.heap.size, 4, none⟩ = some (.int .i64 a4) ∧ w'.cell? ⟨w.heap.size + 1, 0, none⟩ = some (.int .i64 b0) ∧ w'.cell? ⟨w.heap.size + 1, 1, none⟩ = some (.int .i64 b1) ∧ w'.cell? ⟨w.heap.size + 1, 2, none⟩ = some (.int .i64 b2) ∧ w'.cell? ⟨w.heap.size + 1, 3, none⟩ = some (.int .i64 b3) ∧ w'.cell? ⟨w.heap.size + 1, 4, none⟩ = some (.int .i64 b4) ∧ Grew w0 w')
    (first
      | (exact ⟨cell_of_row _ _ _ _ _ _ h1, cell_of_row _ _ _ _ _ _ h1, cell_of_row _ _ _ _ _ _ h1, cell_of_row _ _ _ _ _ _ h1, cell_of_row _ _ _ _ _ _ h1, cell_of_row _ _ _ _ _ _ h2, cell_of_row _ _ _ _ _ _ h2, cell_of_row _ _ _ _ _ _ h2, cell_of_row _ _ _ _ _ _ h2, cell_of_row _ _ _ _ _ _ h2, (Grew.refl _).drew⟩)
      | (go_split_ands; refine ordG_step HSZ.out hbc ?_ ?_ ?_ ?_ ?_ ?_ ?_ ?_ ?_ ?_ ?_; all_goals assumption))
    (first
      | (go_at_call 27; go_split_ands; refine (HK.out _ _ _ _ _ _).mono ?_; rintro e w1 ⟨rfl, hbc⟩)
      | (go_at_call 26; go_split_ands; refine (HCM.out _).mono ?_; rintro e w1 ⟨rfl, hbc⟩))
  go_wp2_with fail
  go_ret
  refine ⟨rfl, ?_⟩
  go_split_ands
  have hsz := HSZ.out
  exact hbl.trans (by assumption)
end Go.Proofs.Ytlmimocmllhbkaa

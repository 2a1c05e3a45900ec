/- the document's region: In -/
import Derived.Test.YtjiiikeniocmfaaGreatMR10b
import Derived.Test.YtjiiikeniocmfaaGreatMQRegIn
import Derived.IntWalk
set_option linter.unusedSimpArgs false
set_option linter.unusedVariables false
namespace Go.Proofs.YtjiiikeniocmfaaGreat
open Go.RowKit Go.Shelf Go.Geo
attribute [local go_sem] Oper.semAt_some
theorem four_step {W w1 w2 : World} {B1 B2 B3 o1 o2 o3 o4 : Nat} {v1 v2 v3 v4 : Value} (hb : Grew w1 w2)
    (h1 : w1.cell? ⟨B1, o1, none⟩ = some v1) (h2 : w1.cell? ⟨B1, o2, none⟩ = some v2) (h3 : w1.cell? ⟨B2, o3, none⟩ = some v3) (h4 : w1.cell? ⟨B3, o4, none⟩ = some v4) (h7 : Grew W w1) :
    w2.cell? ⟨B1, o1, none⟩ = some v1 ∧ w2.cell? ⟨B1, o2, none⟩ = some v2 ∧ w2.cell? ⟨B2, o3, none⟩ = some v3 ∧ w2.cell? ⟨B3, o4, none⟩ = some v4 ∧ Grew W w2 :=
  ⟨hb.cell h1, hb.cell h2, hb.cell h3, hb.cell h4, h7.trans hb⟩
theorem oddB_succ (c : Nat) (b : Bool) (s : Bool) (h : oddB c = b) : oddB (c + (if s then 1 else 0)) = (b ^^ s) := by rw [oddB_add, oddB_ite, h]
set_option maxRecDepth 100000 in
set_option maxHeartbeats 4000000 in
theorem rIn_region (p : Pt) (ao : Option Addr) (n cap : Nat) (R : List (List Pt)) (w : World) (h : IsRings w ao n cap R) :
    Calls Tryz.prog 37 #[ptV p, .agg #[.slice ao n cap]] w fun e w' => e = .returned (.bool (inR p R)) ∧ Grew w w' := by
  have HI := Lib.hid h
  have HIN := Lib.hid (rIn_ring p)
  have hcm := h.2.2.1
  have hnc := h.2.1
  have hl := h.1
  have HL := Lib.hid hl
  unfold maxLen at hcm
  obtain ⟨W2, hW2⟩ : ∃ W, W = (w.alloc (.cells #[.int .i64 p.x, .int .i64 p.y] 24)).alloc (.cells #[.slice ao n cap] 30) := ⟨_, rfl⟩
  have a0 : W2.heap[w.heap.size]? = some (.cells #[.int .i64 p.x, .int .i64 p.y] 24 (0, 0)) := by rw [hW2]; exact (Below.heap_alloc _ _ _ (by simp)).trans (alloc_new _ _)
  have a1 : W2.heap[w.heap.size + 1]? = some (.cells #[.slice ao n cap] 30 (0, 0)) := by rw [hW2]; exact alloc_new2 _ _ _
  have hA : Grew w W2 := by rw [hW2]; exact ((Grew.refl _).alloc _).alloc _
  have d0 : W2.cell? ⟨w.heap.size, 0, none⟩ = some (.int .i64 p.x) := cell_of_row _ _ _ _ _ _ a0
  have d1 : W2.cell? ⟨w.heap.size, 1, none⟩ = some (.int .i64 p.y) := cell_of_row _ _ _ _ _ _ a0
  have d2 : W2.cell? ⟨w.heap.size + 1, 0, none⟩ = some (.slice ao n cap) := cell_of_row _ _ _ _ _ _ a1
  have HA := Lib.hid (And.intro hA (And.intro d0 (And.intro d1 d2)))
  obtain ⟨rr, hrr⟩ : ∃ r, r = inR p R := ⟨_, rfl⟩
  rw [← hrr]
  have HRR := Lib.hid hrr
  clear hA a0 a1 d0 d1 d2 h hl hrr
  unfold ptV at HIN ⊢
  go_enter Tryz.func37, Tryz.ntmps37
  go_wp2
  try rw [← hW2]
  clear hW2
  go_loopw [5, 6] (fun v i wr => ∃ k : Nat, k ≤ n ∧ i = .int .i64 k ∧ (∃ c : Nat, v = .int .i64 c ∧ c ≤ k ∧ Hid (oddB c = inR p (R.take k))) ∧ Hid (Grew W2 wr)) (fun v i _ => n - (intOf i).toNat)
  case atStart => exact ⟨0, by omega, rfl, ⟨0, rfl, Nat.le_refl _, rfl⟩, Grew.refl _⟩
  case round =>
    obtain ⟨k, hk, rfl, ⟨c, rfl, hck, hq⟩, hb⟩ := hrel
    have c0 := hb.out.cell HA.out.2.1
    have c1 := hb.out.cell HA.out.2.2.1
    have r0 := hb.out.cell HA.out.2.2.2
    by_cases hlt : k < n
    · have hi0 : (0 : Int) ≤ (k : Int) := by omega
      have hi5 : (k : Int) < (n : Int) := by omega
      obtain ⟨b, off, x, y, z, rfl, e0, hp⟩ := (HI.out.later (HA.out.1.trans hb.out).1 (Nat.le_refl _)).2.2.2.2 k hlt
      have HP := Lib.hid hp
      have HC := Lib.hid (HIN.out x y z (R.getD k []))
      obtain ⟨s, hs⟩ : ∃ s, s = inP p (R.getD k []) := ⟨_, rfl⟩
      rw [← hs] at HC
      have HS : Hid (oddB (c + (if s then 1 else 0)) = inR p (R.take (k + 1))) := Lib.hid (by rw [inR_take (by rw [HL.out]; exact hlt), ← hs]; exact oddB_succ _ _ _ hq.out)
      have hwc : IntKind.i64.wrap ((c : Int) + 1) = (c : Int) + 1 := IntWalk.i64_in _ (by omega)
      clear hp hs hq
      go_wp2_with fail
      go_region_held3 (fun w' => w'.cell? ⟨w.heap.size, 0, none⟩ = some (.int .i64 p.x) ∧ w'.cell? ⟨w.heap.size, 1, none⟩ = some (.int .i64 p.y) ∧ w'.cell? ⟨w.heap.size + 1, 0, none⟩ = some (.slice (some ⟨b, off, none⟩) n cap) ∧ w'.cell? ⟨b, off + k, none⟩ = some (.slice x y z) ∧ Grew wr w')
        (first
          | (exact ⟨c0, c1, r0, e0, (Grew.refl _).drew⟩)
          | (go_split_ands; refine four_step hgr ?_ ?_ ?_ ?_ ?_; all_goals assumption))
        (first
          | (go_at_call 59; refine (HC.out wr.drew (IsPts.ofDrew HP.out)).mono ?_; rintro e wA ⟨rfl, hgr⟩)
          | fail)
      have HB : Hid (Grew wr wA) := Lib.hid (by first | assumption | (go_split_ands; assumption))
      clear c0 c1 r0 e0
      cases s
      all_goals (
        go_wp2_with fail
        go_roundw
        case rel => exact ⟨k + 1, by omega, by go_num, ⟨_, by go_num, by first | exact Nat.le_succ_of_le hck | exact Nat.succ_le_succ hck, HS⟩, Lib.hid (hb.out.trans HB.out)⟩
        case measure => simp [intOf]; omega)
    · obtain rfl : k = n := by omega
      have hi5 : ¬ ((k : Int) < (k : Int)) := by omega
      have ho := hq.out
      rw [List.take_of_length_le (by rw [HL.out]; exact Nat.le_refl _)] at ho
      obtain ⟨z, hz⟩ : ∃ z : Int, z = (c : Int) % 2 := ⟨_, rfl⟩
      have hrem : Int.tmod (c : Int) 2 = z := by rw [Int.tmod_eq_emod_of_nonneg (by omega), hz]
      have hrem2 : (c : Int) % 2 = z := hz.symm
      have hd : rr = decide (z = 1) := by
        rw [HRR.out, ← ho]; unfold oddB
        by_cases h : c % 2 = 1
        · rw [decide_eq_true h, decide_eq_true (by omega)]
        · rw [decide_eq_false h, decide_eq_false (by omega)]
      have HD := Lib.hid hd
      have hc0 : (0 : Int) ≤ (c : Int) := by omega
      clear hz hd ho hq
      go_wp2_with fail
      go_ret
      exact ⟨by rw [HD.out]; rfl, HA.out.1.trans hb.out⟩
end Go.Proofs.YtjiiikeniocmfaaGreat

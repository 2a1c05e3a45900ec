/- apportionref22.Ahead; apportionkit.SameCerts; apportionref22.Of -/
import Derived.Test.YtlmimocmllhbkaaCIn2
namespace Go.Proofs.Ytlmimocmllhbkaa
open Go.RowKit
theorem alloc_at (w : World) (o : Obj) (g : Nat) (hg : g = w.heap.size) : (w.alloc o).heap[g]? = some o := by subst hg; exact alloc_new w o
theorem cmpI_lt (a b : Int) : cmpI a b < 0 ↔ a < b := by
  unfold cmpI
  split
  · simp [*]
  · split <;> simp [*]
theorem cmpI_zero {a b : Int} : cmpI a b = 0 ↔ a = b := by
  unfold cmpI
  split
  · constructor
    · intro h; omega
    · intro h; omega
  · split
    · constructor <;> intro h <;> omega
    · constructor <;> intro h <;> omega
set_option maxRecDepth 100000 in
set_option maxHeartbeats 1000000 in
theorem Ahead_any (a b : Crt) (w : World) :
    Calls Try.prog 25 #[a.val, b.val] w fun e w' => e = .returned (.bool (decide (cmpC a b < 0))) ∧ Below w.heap.size w w' := by
  obtain ⟨B, hB⟩ : ∃ B, w.heap.size = B := ⟨_, rfl⟩
  have HBE := Lib.hid hB
  unfold Crt.val
  go_enter Try.func25, Try.ntmps25
  go_wp2
  go_loopw [7] (fun i wr => ∃ k : Nat, k ≤ 5 ∧ i = .int .i64 k ∧ Hid (wr.heap[B + 2]? = some (.cells a.row 3 (0, 0))) ∧ Hid (wr.heap[B + 3]? = some (.cells b.row 3 (0, 0))) ∧ Hid (Below B w wr) ∧ Hid (cmpC a b = cmpL a.get b.get (5 - k) k)) (fun i _ => 5 - (intOf i).toNat)
  case atStart =>
    refine ⟨0, by omega, rfl, Lib.hid ?_, Lib.hid (alloc_at _ _ _ (by simp [hB])), Lib.hid ?_, rfl⟩
    · rw [Below.heap_alloc _ _ _ (by simp [hB])]; exact alloc_at _ _ _ (by simp [hB])
    · rw [← hB]
      exact ((((Below.refl _ _).alloc (Nat.le_refl _) _).alloc (by simp) _).alloc (by simp; omega) _).alloc (by simp; omega) _
  case round =>
    obtain ⟨k, hk, rfl, h1, h2, hbl, hc⟩ := hrel
    by_cases hlt : k < 5
    · have hi0 : (0 : Int) ≤ (k : Int) := by omega
      have hi5 : (k : Int) < 5 := by omega
      have hca : wr.cell? ⟨B + 2, k, none⟩ = some (.int .i64 (a.get k)) := (cell_of_row _ _ _ _ _ _ h1.out).trans (a.row_get k hlt)
      have hcb : wr.cell? ⟨B + 3, k, none⟩ = some (.int .i64 (b.get k)) := (cell_of_row _ _ _ _ _ _ h2.out).trans (b.row_get k hlt)
      have hstep := hc.out
      rw [show 5 - k = (5 - (k + 1)) + 1 by omega, cmpL] at hstep
      obtain ⟨x, hx⟩ : ∃ x, x = a.get k := ⟨_, rfl⟩
      obtain ⟨y, hy⟩ : ∃ y, y = b.get k := ⟨_, rfl⟩
      rw [← hx] at hca
      rw [← hy] at hcb
      rw [← hx, ← hy] at hstep
      clear hx hy
      by_cases hz : x = y
      · subst hz
        rw [if_pos (cmpI_zero.2 rfl)] at hstep
        have HSTEP := Lib.hid hstep
        clear hstep
        go_wp2_with fail
        go_quiet (fail)
        go_wp2_with fail
        go_roundw
        case rel => exact ⟨k + 1, by omega, by go_num, h1.out, h2.out, below_drewN hbl.out _, HSTEP.out⟩
        case measure => simp [intOf]; omega
      · rw [if_neg (fun h => hz (cmpI_zero.1 h))] at hstep
        have HSTEP := Lib.hid hstep
        have hz1 : (x == y) = false := by simpa using hz
        have hz2 : (x != y) = true := by simpa using hz
        clear hstep hz
        go_wp2_with fail
        go_quiet (fail)
        go_wp2_with fail
        go_quiet (fail)
        go_wp2_with fail
        go_ret
        refine ⟨?_, by rw [HBE.out]; first | exact below_drewN (below_drewN hbl.out _) _ | exact below_drewN hbl.out _⟩
        show Ending.returned (Value.bool _) = Ending.returned (Value.bool _)
        rw [HSTEP.out]
        congr 2
        exact decide_eq_decide.2 (cmpI_lt x y).symm
    · obtain rfl : k = 5 := by omega
      go_wp2
      go_ret
      have hc' := hc.out
      refine ⟨?_, by first | exact hbl.out | (rw [HBE.out]; exact hbl.out)⟩
      rw [hc']
      rfl
end Go.Proofs.Ytlmimocmllhbkaa

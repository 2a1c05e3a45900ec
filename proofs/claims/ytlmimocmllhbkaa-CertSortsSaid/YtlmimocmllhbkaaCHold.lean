/- cert: question.holds -/
import Derived.Test.YtlmimocmllhbkaaCFit
namespace Go.Proofs.Ytlmimocmllhbkaa
open Go.RowKit
def holdsP (q : Qst) (c : Crt) : Bool := fitsP q c && (decide (c.fr ≤ q.da) && decide (q.da ≤ c.to))
theorem alloc_new (w : World) (o : Obj) : (w.alloc o).heap[w.heap.size]? = some o := by
  show (w.heap.push o)[w.heap.size]? = _
  simp
theorem alloc_new2 (w : World) (o o2 : Obj) : ((w.alloc o).alloc o2).heap[w.heap.size + 1]? = some o2 := by
  have := alloc_new (w.alloc o) o2
  rwa [show (w.alloc o).heap.size = w.heap.size + 1 by simp] at this
theorem holds_any (q : Qst) (c : Crt) (w : World) :
    Calls Try.prog 21 #[q.val, c.val] w fun e w' => e = .returned (.bool (holdsP q c)) ∧ Below w.heap.size w w' := by
  obtain ⟨p, hp⟩ : ∃ p, p = fitsP q c := ⟨_, rfl⟩
  unfold holdsP
  rw [← hp]
  have HP := Lib.hid hp
  clear hp
  cases p with
  | false =>
    go_enter Try.func21, Try.ntmps21
    unfold Crt.val Qst.val
    go_wp2_with fail
    refine (fits_any q c _).mono ?_
    rintro e w1 ⟨rfl, hb1⟩
    rw [← HP.out]
    go_wp2_with fail
    go_ret
    exact ⟨by simp, (((Below.refl _ _).alloc (Nat.le_refl _) _).alloc (by simp) _).trans (hb1.mono (by simp; omega))⟩
  | true =>
    go_enter Try.func21, Try.ntmps21
    unfold Crt.val Qst.val
    go_wp2_with fail
    refine (fits_any q c _).mono ?_
    rintro e w1 ⟨rfl, hb1⟩
    rw [← HP.out]
    have hq3 : w1.cell? ⟨w.heap.size, 3, none⟩ = some (.int .i64 q.da) := (hb1.cell (p := ⟨w.heap.size, 3, none⟩) (by simp; omega)).trans ((cell_of_row _ _ _ _ _ _ ((Below.heap_alloc _ _ _ (by simp)).trans (alloc_new w _))).trans rfl)
    have hc3 : w1.cell? ⟨w.heap.size + 1, 3, none⟩ = some (.int .i64 c.fr) := (hb1.cell (p := ⟨w.heap.size + 1, 3, none⟩) (by simp)).trans ((cell_of_row _ _ _ _ _ _ (alloc_new2 w _ _)).trans rfl)
    have hc4 : w1.cell? ⟨w.heap.size + 1, 4, none⟩ = some (.int .i64 c.to) := (hb1.cell (p := ⟨w.heap.size + 1, 4, none⟩) (by simp)).trans ((cell_of_row _ _ _ _ _ _ (alloc_new2 w _ _)).trans rfl)
    go_wp2_with fail
    refine (within_any q.da c.fr c.to w1).mono ?_
    rintro e w2 ⟨rfl, rfl⟩
    go_wp2_with fail
    go_ret
    exact ⟨by simp, (((Below.refl _ _).alloc (Nat.le_refl _) _).alloc (by simp) _).trans (hb1.mono (by simp; omega))⟩
end Go.Proofs.Ytlmimocmllhbkaa

/- cert: order -/
import Derived.Test.YtlmimocmllhbkaaCCmp
namespace Go.Proofs.Ytlmimocmllhbkaa
open Go.RowKit
theorem ordS_step {B : Nat} {a0 a1 a2 a3 a4 b0 b1 b2 b3 b4 : Int} {w0 w1 w2 : World} (hB : w0.heap.size = B + 2) (hbc : Below w1.heap.size w1 w2) (h0 : w1.cell? ⟨B, 0, none⟩ = some (.int .i64 a0)) (h1 : w1.cell? ⟨B, 1, none⟩ = some (.int .i64 a1)) (h2 : w1.cell? ⟨B, 2, none⟩ = some (.int .i64 a2)) (h3 : w1.cell? ⟨B, 3, none⟩ = some (.int .i64 a3)) (h4 : w1.cell? ⟨B, 4, none⟩ = some (.int .i64 a4)) (h5 : w1.cell? ⟨B + 1, 0, none⟩ = some (.int .i64 b0)) (h6 : w1.cell? ⟨B + 1, 1, none⟩ = some (.int .i64 b1)) (h7 : w1.cell? ⟨B + 1, 2, none⟩ = some (.int .i64 b2)) (h8 : w1.cell? ⟨B + 1, 3, none⟩ = some (.int .i64 b3)) (h9 : w1.cell? ⟨B + 1, 4, none⟩ = some (.int .i64 b4)) (hb : Below w0.heap.size w0 w1) :
    w2.cell? ⟨B, 0, none⟩ = some (.int .i64 a0) ∧ w2.cell? ⟨B, 1, none⟩ = some (.int .i64 a1) ∧ w2.cell? ⟨B, 2, none⟩ = some (.int .i64 a2) ∧ w2.cell? ⟨B, 3, none⟩ = some (.int .i64 a3) ∧ w2.cell? ⟨B, 4, none⟩ = some (.int .i64 a4) ∧ w2.cell? ⟨B + 1, 0, none⟩ = some (.int .i64 b0) ∧ w2.cell? ⟨B + 1, 1, none⟩ = some (.int .i64 b1) ∧ w2.cell? ⟨B + 1, 2, none⟩ = some (.int .i64 b2) ∧ w2.cell? ⟨B + 1, 3, none⟩ = some (.int .i64 b3) ∧ w2.cell? ⟨B + 1, 4, none⟩ = some (.int .i64 b4) ∧ Below w0.heap.size w0 w2 := by
  have hs := hb.size
  have hbc2 : Below w0.heap.size w1 w2 := hbc.mono hs
  refine ⟨?_, ?_, ?_, ?_, ?_, ?_, ?_, ?_, ?_, ?_, hb.trans hbc2⟩
  all_goals exact (hbc2.cell (by dsimp only; omega)).trans (by assumption)
set_option maxHeartbeats 20000 in
theorem order_any (a b : Crt) (w : World) :
    Calls Try.prog 19 #[a.val, b.val] w fun e w' => e = .returned (.int .i64 (cmpC a b)) ∧ Below w.heap.size w w' := by
  obtain ⟨r, hr⟩ : ∃ r, r = cmpC a b := ⟨_, rfl⟩
  have HR := Lib.hid hr
  rw [← hr]
  clear hr
  have hk := fun c0 c1 c2 c3 c4 => key_any ⟨c0, c1, c2, c3, c4⟩
  have hcm : ∀ w', Calls Try.prog 26 #[a.val, b.val] w' fun e w2 => e = .returned (.int .i64 r) ∧ Below w'.heap.size w' w2 := by rw [HR.out]; exact compare_any a b
  obtain ⟨a0, a1, a2, a3, a4⟩ := a
  obtain ⟨b0, b1, b2, b3, b4⟩ := b
  unfold Crt.val at hk hcm ⊢
  dsimp only at hk hcm ⊢
  have HK := Lib.hid hk
  have HCM := Lib.hid hcm
  clear hk hcm
  go_enter Try.func19, Try.ntmps19
  go_wp2
  generalize hw0 : ((w.alloc (Obj.cells #[Value.int IntKind.i64 a0, Value.int IntKind.i64 a1, Value.int IntKind.i64 a2, Value.int IntKind.i64 a3, Value.int IntKind.i64 a4] 30)).alloc (Obj.cells #[Value.int IntKind.i64 b0, Value.int IntKind.i64 b1, Value.int IntKind.i64 b2, Value.int IntKind.i64 b3, Value.int IntKind.i64 b4] 30)) = w0
  have h1 : w0.heap[w.heap.size]? = some (.cells #[Value.int IntKind.i64 a0, Value.int IntKind.i64 a1, Value.int IntKind.i64 a2, Value.int IntKind.i64 a3, Value.int IntKind.i64 a4] 30 (0, 0)) := by rw [← hw0]; exact (Below.heap_alloc _ _ _ (by simp)).trans (alloc_new w _)
  have h2 : w0.heap[w.heap.size + 1]? = some (.cells #[Value.int IntKind.i64 b0, Value.int IntKind.i64 b1, Value.int IntKind.i64 b2, Value.int IntKind.i64 b3, Value.int IntKind.i64 b4] 30 (0, 0)) := by rw [← hw0]; exact alloc_new2 w _ _
  have hbl : Below w.heap.size w w0 := by rw [← hw0]; exact ((Below.refl _ _).alloc (Nat.le_refl _) _).alloc (by simp) _
  have hsz : w0.heap.size = w.heap.size + 2 := by rw [← hw0]; simp
  have HSZ := Lib.hid hsz
  clear hw0 hsz
  go_region_held3 (fun w' => w'.cell? ⟨w.heap.size, 0, none⟩ = some (.int .i64 a0) ∧ w'.cell? ⟨w.heap.size, 1, none⟩ = some (.int .i64 a1) ∧ w'.cell? ⟨w.heap.size, 2, none⟩ = some (.int .i64 a2) ∧ w'.cell? ⟨w.heap.size, 3, none⟩ = some (.int .i64 a3) ∧ w'.cell? ⟨w.heap.size, 4, none⟩ = some (.int .i64 a4) ∧ w'.cell? ⟨w.heap.size + 1, 0, none⟩ = some (.int .i64 b0) ∧ w'.cell? ⟨w.heap.size + 1, 1, none⟩ = some (.int .i64 b1) ∧ w'.cell? ⟨w.heap.size + 1, 2, none⟩ = some (.int .i64 b2) ∧ w'.cell? ⟨w.heap.size + 1, 3, none⟩ = some (.int .i64 b3) ∧ w'.cell? ⟨w.heap.size + 1, 4, none⟩ = some (.int .i64 b4) ∧ Below w0.heap.size w0 w')
    (first
      | (exact ⟨cell_of_row _ _ _ _ _ _ h1, cell_of_row _ _ _ _ _ _ h1, cell_of_row _ _ _ _ _ _ h1, cell_of_row _ _ _ _ _ _ h1, cell_of_row _ _ _ _ _ _ h1, cell_of_row _ _ _ _ _ _ h2, cell_of_row _ _ _ _ _ _ h2, cell_of_row _ _ _ _ _ _ h2, cell_of_row _ _ _ _ _ _ h2, cell_of_row _ _ _ _ _ _ h2, (Below.refl _ _).drew⟩)
      | (go_split_ands; refine ordS_step HSZ.out hbc ?_ ?_ ?_ ?_ ?_ ?_ ?_ ?_ ?_ ?_ ?_; all_goals assumption))
    (first
      | (go_at_call 27; go_split_ands; refine (HK.out _ _ _ _ _ _).mono ?_; rintro e w1 ⟨rfl, hbc⟩)
      | (go_at_call 26; go_split_ands; refine (HCM.out _).mono ?_; rintro e w1 ⟨rfl, hbc⟩))
  go_wp2_with fail
  go_ret
  refine ⟨rfl, ?_⟩
  go_split_ands
  have hsz := HSZ.out
  exact hbl.trans (Below.mono (B := w0.heap.size) (by assumption) (by omega))
end Go.Proofs.Ytlmimocmllhbkaa

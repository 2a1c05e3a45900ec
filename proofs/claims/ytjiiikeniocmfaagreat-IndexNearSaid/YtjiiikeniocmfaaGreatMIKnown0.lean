/- IndexKnown's walk, its parts -/
import Derived.Test.YtjiiikeniocmfaaGreatMIAwake
import Derived.Test.YtjiiikeniocmfaaGreatMRegW
import Derived.Test.YtjiiikeniocmfaaGreatMIClone
set_option linter.unusedSimpArgs false
set_option linter.unusedVariables false
namespace Go.Proofs.YtjiiikeniocmfaaGreat
open Go.RowKit Go.Geo
attribute [local go_sem] Oper.semAt_some
theorem IIn_low (B g og sg i : Nat) (G : List Reg) (p : Pt) (w : World) (h : IdxOn (fun _ => False) w B g og sg G) (hi : i < G.length) (hB : B ≤ w.heap.size) :
    Calls Tryz.prog 15 #[.pointer (some ⟨g, 0, none⟩), .int .i64 (i : Int), ptV p] w fun e w' => e = .returned (.tuple #[.bool (inR p (G.getD i [])), .int .i64 0]) ∧ IdxOn (fun _ => False) w' B g og sg G ∧ Below B w w' := by
  refine (IIn_any (fun _ => False) B g og sg i G p w h (fun k hk => hk.elim) hi).mono ?_
  rintro e w' ⟨rfl, h1, h2⟩
  exact ⟨rfl, h1, h2.below h.lo h.ls hB⟩
theorem IAt_two (B g og sg : Nat) (G : List Reg) (p : Pt) (w : World) (h : IdxOn (fun _ => False) w B g og sg G) (hB : B ≤ w.heap.size) :
    Calls Tryz.prog 12 #[.pointer (some ⟨g, 0, none⟩), ptV p] w fun e w' => ∃ ao cap, e = .returned (.slice ao (askG (inR p) G).length cap) ∧ IsInts w' ao (askG (inR p) G).length cap (askG (inR p) G) ∧ IdxOn (fun _ => False) w' B g og sg G ∧ Below B w w' ∧ Two og sg w w' := by
  refine (IAt_any (fun _ => False) B g og sg G p w h (fun k hk => hk.elim)).mono ?_
  rintro e w' ⟨v, rfl, ho, hi, ht⟩
  obtain ⟨ao, cap, rfl, hs⟩ := ho.ints
  exact ⟨ao, cap, rfl, hs, hi.step (Nat.le_refl _) (fun _ _ _ => rfl) (fun k hk => hk.elim), ht.below h.lo h.ls hB, ht⟩
theorem one_int (w : World) (x : Int) : IsInts (w.alloc (Obj.cells #[.int .i64 x] 3)) (some ⟨w.heap.size, 0, none⟩) 1 1 [x] := by
  refine ⟨rfl, Nat.le_refl _, by unfold maxLen; omega, fun _ => ⟨_, 0, rfl, fun k hk => ?_⟩, fun h => by cases h⟩
  obtain rfl : k = 0 := by omega
  exact cell_of_row _ _ _ _ _ _ (alloc_new w _)
theorem INear_low (B g og sg : Nat) (G : List Reg) (p : Pt) (w : World) (h : IdxOn (fun _ => False) w B g og sg G) :
    Calls Tryz.prog 17 #[.pointer (some ⟨g, 0, none⟩), ptV p] w fun e w' => ∃ ao cap, e = .returned (.slice ao (askB (nearQ p) (boxesR G)).length cap) ∧ IsInts w' ao (askB (nearQ p) (boxesR G)).length cap (askB (nearQ p) (boxesR G)) ∧ Below w.heap.size w w' := by
  refine (Near_any (fun _ => False) B g og sg G p w h).mono ?_
  rintro e w' ⟨v, rfl, ho, hb⟩
  obtain ⟨ao, cap, rfl, hi⟩ := ho.ints
  exact ⟨ao, cap, rfl, hi, hb⟩
theorem make_regs65 (w : World) : ∃ w', (Instr.makeSlice 26 (.int .i64 65) (.int .i64 65)).run Tryz.prog w = .ok (.slice (some ⟨w.heap.size, 0, none⟩) 65 65) w' ∧ Below w.heap.size w w' ∧ IsRegs w' (some ⟨w.heap.size, 0, none⟩) 65 65 (List.replicate 65 []) := by
  obtain ⟨i0, hi, hz0, hz1, hz2⟩ := info_parts' Tryz.infoRg
  have h := run_makeSlice (P := Tryz.prog) w 26 30 i0 _ Tryz.underlying26 hi hz0 .i64 .i64 (65 : Int) (65 : Int) (by omega) (by omega) (by rw [hz1]; omega) (by rw [hz2]; omega) (by omega)
  rw [hz1] at h
  refine ⟨_, h, (Below.refl _ _).alloc (Nat.le_refl _) _, rfl, Nat.le_refl _, by unfold maxLen; omega, (fun h => by cases h), fun k hk => ?_⟩
  have hk1 : k % 1 = 0 := by omega
  have hc : (madeCells (Value.agg #[Value.slice none 0 0]).cells (Int.toNat 65 * 1))[0 + k]? = some (.slice none 0 0) := by
    rw [Nat.zero_add, made_at _ _ _ (by simp; omega)]
    show some ((#[Value.slice none 0 0] : Array Value)[k % 1]!) = _
    rw [hk1]; rfl
  refine ⟨_, 0, none, 0, 0, rfl, (cell_of_row _ _ _ _ _ _ (alloc_new _ _)).trans hc, ?_⟩
  have : (List.replicate 65 ([] : Reg)).getD k [] = [] := by
    rw [List.getD_eq_getElem?_getD, List.getElem?_replicate, if_pos hk]; rfl
  rw [this]
  exact ⟨rfl, Nat.le_refl _, by unfold maxLen; omega, fun _ => ⟨rfl, rfl⟩, fun j hj => absurd hj (by omega)⟩
def kn2 : List Reg := [[boxP 0 0 4 4], [[⟨0, 0⟩, ⟨1, 1⟩]]]
theorem kn2_regs (w : World) (q : Nat) (hq : IsRings w (some ⟨q, 0, none⟩) 1 1 [boxP 0 0 4 4]) :
    IsRegs (((w.alloc (Obj.cells #[.int .i64 0, .int .i64 0, .int .i64 1, .int .i64 1] 24)).alloc (Obj.cells #[.slice (some ⟨w.heap.size, 0, none⟩) 2 2] 40)).alloc (Obj.cells #[.slice (some ⟨q, 0, none⟩) 1 1, .slice (some ⟨w.heap.size + 1, 0, none⟩) 1 1] 30)) (some ⟨w.heap.size + 1 + 1, 0, none⟩) 2 2 kn2 ∧
    Below w.heap.size w (((w.alloc (Obj.cells #[.int .i64 0, .int .i64 0, .int .i64 1, .int .i64 1] 24)).alloc (Obj.cells #[.slice (some ⟨w.heap.size, 0, none⟩) 2 2] 40)).alloc (Obj.cells #[.slice (some ⟨q, 0, none⟩) 1 1, .slice (some ⟨w.heap.size + 1, 0, none⟩) 1 1] 30)) := by
  obtain ⟨W1, hW1⟩ : ∃ W, W = w.alloc (Obj.cells #[.int .i64 0, .int .i64 0, .int .i64 1, .int .i64 1] 24) := ⟨_, rfl⟩
  obtain ⟨W2, hW2⟩ : ∃ W, W = W1.alloc (Obj.cells #[.slice (some ⟨w.heap.size, 0, none⟩) 2 2] 40) := ⟨_, rfl⟩
  obtain ⟨W3, hW3⟩ : ∃ W, W = W2.alloc (Obj.cells #[.slice (some ⟨q, 0, none⟩) 1 1, .slice (some ⟨w.heap.size + 1, 0, none⟩) 1 1] 30) := ⟨_, rfl⟩
  rw [← hW1, ← hW2, ← hW3]
  have s1 : W1.heap.size = w.heap.size + 1 := by rw [hW1]; simp
  have s2 : W2.heap.size = w.heap.size + 1 + 1 := by rw [hW2]; simp [s1]
  have b1 : Below w.heap.size w W1 := by rw [hW1]; exact (Below.refl _ _).alloc (Nat.le_refl _) _
  have b2 : Below W1.heap.size W1 W2 := by rw [hW2]; exact (Below.refl _ _).alloc (Nat.le_refl _) _
  have b3 : Below W2.heap.size W2 W3 := by rw [hW3]; exact (Below.refl _ _).alloc (Nat.le_refl _) _
  have hb : Below w.heap.size w W3 := (b1.trans (b2.mono (by omega))).trans (b3.mono (by omega))
  have r1 : W1.heap[w.heap.size]? = some (.cells #[.int .i64 0, .int .i64 0, .int .i64 1, .int .i64 1] 24 (0, 0)) := by rw [hW1]; exact alloc_new _ _
  have r2 : W2.heap[w.heap.size + 1]? = some (.cells #[.slice (some ⟨w.heap.size, 0, none⟩) 2 2] 40 (0, 0)) := by rw [hW2, ← s1]; exact alloc_new _ _
  have r3 : W3.heap[w.heap.size + 1 + 1]? = some (.cells #[.slice (some ⟨q, 0, none⟩) 1 1, .slice (some ⟨w.heap.size + 1, 0, none⟩) 1 1] 30 (0, 0)) := by rw [hW3, ← s2]; exact alloc_new _ _
  have q1 := (b3.block _ (by omega)).trans ((b2.block _ (by omega)).trans r1)
  have q2 := (b3.block _ (by omega)).trans r2
  refine ⟨⟨rfl, Nat.le_refl _, by unfold maxLen; omega, (fun h => by cases h), fun k hk => ?_⟩, hb⟩
  match k, hk with
  | 0, _ => exact ⟨_, 0, _, _, _, rfl, cell_of_row _ _ _ _ _ _ r3, hq.later hb (Nat.le_refl _)⟩
  | 1, _ =>
    refine ⟨_, 0, _, _, _, rfl, cell_of_row _ _ _ _ _ _ r3, rfl, Nat.le_refl _, by unfold maxLen; omega, (fun h => by cases h), fun k hk => ?_⟩
    obtain rfl : k = 0 := by omega
    refine ⟨_, 0, _, _, _, rfl, cell_of_row _ _ _ _ _ _ q2, rfl, Nat.le_refl _, by unfold maxLen; omega, fun _ => ⟨_, 0, rfl, fun i hi => ?_⟩, fun h => by cases h⟩
    match i, hi with
    | 0, _ => exact ⟨cell_of_row _ _ _ _ _ _ q1, cell_of_row _ _ _ _ _ _ q1⟩
    | 1, _ => exact ⟨cell_of_row _ _ _ _ _ _ q1, cell_of_row _ _ _ _ _ _ q1⟩
theorem kn1_bad : idxCheckP (List.replicate 65 []) = (3, 0) := by decide +kernel
theorem kn2_bad : idxCheckP kn2 = (190, 1) := by decide +kernel
theorem kn_at : askG (inR ⟨5, 5⟩) smG = [2] := by decide +kernel
theorem kn_near : askB (nearQ ⟨8, 8⟩) (boxesR smG) = [2] := by decide +kernel
theorem kn_in1 : inR ⟨4, 1⟩ (smG.getD 1 []) = true := by decide +kernel
theorem kn_in0 : inR ⟨4, 1⟩ (smG.getD 0 []) = false := by decide +kernel
end Go.Proofs.YtjiiikeniocmfaaGreat

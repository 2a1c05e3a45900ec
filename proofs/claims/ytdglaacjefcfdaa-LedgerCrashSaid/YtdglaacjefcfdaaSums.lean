import Derived.Test.YtdglaacjefcfdaaRows
import Derived.Test.YtdglaacjefcfdaaFrBits
import Derived.WalkKit
import Derived.WalkSpells
import Derived.WalkLawsBesides
import Derived.Lib.Hide
namespace Go.Proofs.Ytdglaacjefcfdaa
open Go.RowKit
def zero256 : Array Value := Array.replicate 256 (.int .u32 0)
def tab (k : Nat) : Array Value := (Array.range 256).map (fun i => if i < k then .int .u32 ((Fr.fk 8 (BitVec.ofNat 32 i)).toNat : Int) else .int .u32 0)
theorem zero_tab : zero256 = tab 0 := by
  apply Array.ext
  · simp [zero256, tab]
  · intro i h1 h2; simp [zero256, tab]
theorem tab_get (k i : Nat) (h : i < 256) : (tab k)[i]? = some (if i < k then .int .u32 ((Fr.fk 8 (BitVec.ofNat 32 i)).toNat : Int) else .int .u32 0) := by
  simp [tab, h]
theorem tab_set (k : Nat) (_h : k < 256) : (tab k).setIfInBounds k (.int .u32 ((Fr.fk 8 (BitVec.ofNat 32 k)).toNat : Int)) = tab (k + 1) := by
  apply Array.ext_getElem?
  intro i
  rw [Array.getElem?_setIfInBounds]
  by_cases hi : i < 256
  · rw [tab_get k i hi, tab_get (k + 1) i hi]
    by_cases hik : k = i
    · subst hik; simp [tab, _h]
    · simp only [hik, if_false]
      by_cases h : i < k
      · simp [h, show i < k + 1 by omega]
      · simp [h, show ¬ i < k + 1 by omega]
  · rw [if_neg (by omega)]; simp [tab, hi]
theorem Try.zeroValue_tab (w : World) : (zeroValue 105).run Try.prog w = .ok (.agg zero256) w := by kernel_rfl
set_option maxRecDepth 100000 in
set_option maxHeartbeats 400000 in
theorem sums_any (w : World) :
    Calls Try.prog 54 #[] w fun e w' => e = .returned (.agg (tab 256)) ∧ Below w.heap.size w w' := by
  have hz := Try.zeroValue_tab
  go_enter Try.func54, Try.ntmps54
  go_wp2
  obtain ⟨B, hB⟩ : ∃ B, B = w.heap.size := ⟨_, rfl⟩
  have hh : (w.alloc (.cells zero256 105)).heap[B]? = some (.cells (tab 0) 105 (0, 0)) := by
    rw [hB, ← zero_tab]; exact heap_alloc_new _ _
  have hb : Below B w (w.alloc (.cells zero256 105)) := (Below.refl _ _).alloc (by omega) _
  rw [← hB]
  obtain ⟨W, hW⟩ : ∃ W, W = w.alloc (.cells zero256 105) := ⟨_, rfl⟩
  rw [← hW] at hh hb ⊢
  clear hW
  go_loopw [1, 2, 3, 8] (fun _ _ i _ wr => ∃ k : Nat, k ≤ 256 ∧ i = .int .i64 k ∧ wr.heap[B]? = some (.cells (tab k) 105 (0, 0)) ∧ Below B w wr) (fun _ _ i _ _ => 256 - (intOf i).toNat)
  case atStart => exact ⟨0, by omega, rfl, hh, hb⟩
  case round =>
    obtain ⟨k, hk, rfl, hh, hb⟩ := hrel
    by_cases hlt : k < 256
    · have HB := Lib.hid hB
      clear hB
      have HH := Lib.hid hh
      clear hh
      have hc : wr.cell? ⟨B, k, none⟩ = some (.int .u32 0) := by
        rw [cell_of_row _ _ _ _ _ _ HH.out, tab_get k k hlt, if_neg (by omega)]
      have hf : wr.frozen? ⟨B, k, none⟩ = false := frozen_of_row _ _ _ _ _ HH.out
      go_wp2
      go_loop [2, 8] (fun n j => ∃ m : Nat, m ≤ 8 ∧ j = .int .i64 m ∧ n = .int .u32 ((Fr.fk m (BitVec.ofNat 32 k)).toNat : Int)) (fun _ j => 8 - (intOf j).toNat)
      case atStart => exact ⟨0, by omega, rfl, by simp [Fr.fk]; omega⟩
      case round =>
        obtain ⟨m, hm, rfl, rfl⟩ := hrel
        by_cases hmt : m < 8
        · have hlim := (Fr.fk m (BitVec.ofNat 32 k)).isLt
          go_wp2
          go_round
          case rel => exact ⟨m + 1, by omega, by go_num, by rw [Fr.step_f1, Fr.fk_succ]⟩
          case measure => simp [intOf]; omega
        · obtain rfl : m = 8 := by omega
          go_wp2
          go_roundw
          case rel =>
            refine ⟨k + 1, by omega, by go_num, ?_, hb.setCell (by simp) _⟩
            rw [heap_setCell_same _ _ _ _ _ _ HH.out, tab_set k hlt]
          case measure => simp [intOf]; omega
    · obtain rfl : k = 256 := by omega
      have HB := Lib.hid hB
      clear hB
      have hs : (tab 256).size = 256 := by simp [tab]
      have h1 : (tab 256).all (·.oneCell') = true := by
        rw [Array.all_eq_true]
        intro i hi
        have := tab_get 256 i (by omega)
        rw [Array.getElem?_eq_getElem hi] at this
        injection this with this
        rw [this, if_pos (by omega)]; rfl
      have H1 := Lib.hid h1
      have HS := Lib.hid hs
      clear hs h1
      go_wp2_with (first | (refine wpList_load_row rfl 105 _ rfl B rfl _ (tab 256) _ _ hh Try.underlying105 rfl (by rw [HS.out]; kernel_rfl) ?_) | (refine wpList_store_row rfl 105 _ _ rfl B (tab 256) rfl rfl _ (tab 256) hh (by rw [HS.out]; kernel_rfl) rfl H1.out ?_))
      have hh2 := setRow_heap wr B (tab 256) (tab 256) _ _ hh
      refine bodyPost_ret (results_cell_row rfl _ _ B _ (tab 256) _ _ rfl hh2 Try.underlying105 rfl (by rw [HS.out]; kernel_rfl)) rfl ⟨rfl, ?_⟩
      rw [← HB.out]
      exact ⟨hb.os, hb.tape, hb.output, by simpa using hb.size, fun k hk => (setRow_other _ _ _ _ (by omega)).trans (hb.block k hk)⟩
end Go.Proofs.Ytdglaacjefcfdaa

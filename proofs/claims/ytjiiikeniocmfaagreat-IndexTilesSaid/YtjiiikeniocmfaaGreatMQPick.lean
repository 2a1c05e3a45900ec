/- Pick -/
import Derived.Test.YtjiiikeniocmfaaGreatMQPoint
set_option linter.unusedSimpArgs false
set_option linter.unusedVariables false
namespace Go.Proofs.YtjiiikeniocmfaaGreat
open Go.RowKit Go.Geo
def pickP (x n : Int) : Int := if n < 1 then 0 else x % n
set_option maxRecDepth 100000 in
theorem Pick_any (x n : Int) (w : World) (hx : n ≤ 9223372036854775807) : Calls Tryz.prog 9 #[.int .i64 x, .int .i64 n] w fun e w' => e = .returned (.int .i64 (pickP x n)) ∧ w = w' := by
  by_cases h1 : n < 1
  · have hp : pickP x n = 0 := by unfold pickP; rw [if_pos h1]
    rw [hp]
    go_enter Tryz.func9, Tryz.ntmps9
    go_wp2_with fail
    go_ret
    exact ⟨rfl, rfl⟩
  · have hn : n ≠ 0 := by omega
    have a1 := Int.lt_tmod_of_pos x (show (0 : Int) < n by omega)
    have a2 := Int.tmod_lt_of_pos x (show (0 : Int) < n by omega)
    have hd := Int.tmod_def x n
    have hp : pickP x n = if Int.tmod x n < 0 then Int.tmod x n + n else Int.tmod x n := by
      unfold pickP
      rw [if_neg h1]
      have key : x % n = (Int.tmod x n) % n := by
        rw [hd, Int.sub_eq_add_neg, ← Int.mul_neg, Int.add_mul_emod_self_left]
      rw [key]
      split
      · rw [← Int.add_emod_right, Int.emod_eq_of_lt (by omega) (by omega)]
      · rw [Int.emod_eq_of_lt (by omega) (by omega)]
    rw [hp]
    clear hp hd
    have hw : wrap64 (x.tmod n + n) = x.tmod n + n ∨ 0 ≤ x.tmod n := by
      by_cases h : 0 ≤ x.tmod n
      · exact .inr h
      · left; unfold wrap64; omega
    by_cases hneg : x.tmod n < 0
    · have hw := hw.resolve_right (by omega)
      rw [if_pos hneg]
      go_enter Tryz.func9, Tryz.ntmps9
      go_wp2_with fail
      go_ret
      exact ⟨by first | rfl | simp [hw], rfl⟩
    · rw [if_neg hneg]
      go_enter Tryz.func9, Tryz.ntmps9
      go_wp2_with fail
      go_ret
      exact ⟨rfl, rfl⟩
end Go.Proofs.YtjiiikeniocmfaaGreat

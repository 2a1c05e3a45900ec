/- ref12.ahead -/
import Derived.Test.YtlmmejdcjhbppaaMBRLess
import Derived.Test.YtlmmejdcjhbppaaMBIn
set_option linter.unusedSimpArgs false
set_option linter.unusedVariables false
namespace Go.Proofs.Ytlmmejdcjhbppaa
open Go.RowKit Go.Geo
attribute [local go_sem] Oper.semAt_some
set_option maxRecDepth 100000 in
set_option maxHeartbeats 2000000 in
theorem RAhead_any (x y : Bx) (lev : Nat) (ac : Bool) (w : World) (hx : InX x) (hy : InX y) (hac : ac = decide (lev % 2 = 0)) (hlev : lev ≤ 1000000) : Calls Try.prog 50 #[boxV x.1 x.2, boxV y.1 y.2, .int .i64 (lev : Int)] w fun e w' => e = .returned (.bool (decide (keyB ac x < keyB ac y))) ∧ Below w.heap.size w w' := by
  unfold boxV
  obtain ⟨W0, hW0⟩ : ∃ W, W = w.alloc (.cells #[.int .i64 x.1.x, .int .i64 x.1.y, .int .i64 x.2.x, .int .i64 x.2.y] 33) := ⟨_, rfl⟩
  obtain ⟨W, hW⟩ : ∃ W, W = W0.alloc (.cells #[.int .i64 y.1.x, .int .i64 y.1.y, .int .i64 y.2.x, .int .i64 y.2.y] 33) := ⟨_, rfl⟩
  have hb0 : Below w.heap.size w W0 := by rw [hW0]; exact (Below.refl _ _).alloc (Nat.le_refl _) _
  have hb1 : Below W0.heap.size W0 W := by rw [hW]; exact (Below.refl _ _).alloc (Nat.le_refl _) _
  have HB := Lib.hid (hb0.trans (hb1.mono hb0.size))
  have HX := Lib.hid (RLess_any x.1.x x.2.x y.1.x y.2.x W hx.1 hx.2.2.1 hy.1 hy.2.2.1)
  have HY := Lib.hid (RLess_any x.1.y x.2.y y.1.y y.2.y W hx.2.1 hx.2.2.2 hy.2.1 hy.2.2.2)
  clear hb0 hb1
  rw [hW0] at hW
  by_cases h : lev % 2 = 0
  · have hq : Int.tmod (lev : Int) 2 = 0 := by rw [Int.tmod_eq_emod_of_nonneg (by omega)]; omega
    obtain rfl : ac = true := by rw [hac]; exact decide_eq_true h
    clear hac HY h
    unfold keyB
    rw [if_pos rfl, if_pos rfl]
    go_enter Try.func50, Try.ntmps50
    go_wp2_with fail
    rw [← hW]
    refine HX.out.mono ?_
    rintro e w1 ⟨rfl, hb⟩
    have HB1 := Lib.hid hb
    clear hb
    go_wp2_with fail
    go_ret
    exact ⟨rfl, HB.out.trans (HB1.out.mono HB.out.size)⟩
  · have hq : Int.tmod (lev : Int) 2 = 1 := by rw [Int.tmod_eq_emod_of_nonneg (by omega)]; omega
    obtain rfl : ac = false := by rw [hac]; exact decide_eq_false h
    clear hac HX h
    unfold keyB
    rw [if_neg (by decide), if_neg (by decide)]
    go_enter Try.func50, Try.ntmps50
    go_wp2_with fail
    rw [← hW]
    refine HY.out.mono ?_
    rintro e w1 ⟨rfl, hb⟩
    have HB1 := Lib.hid hb
    clear hb
    go_wp2_with fail
    go_ret
    exact ⟨rfl, HB.out.trans (HB1.out.mono HB.out.size)⟩
end Go.Proofs.Ytlmmejdcjhbppaa

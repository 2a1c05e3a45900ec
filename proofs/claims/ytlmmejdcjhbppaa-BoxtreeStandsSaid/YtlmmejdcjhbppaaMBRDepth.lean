/- ref12.Depth -/
import Derived.Test.YtlmmejdcjhbppaaMBLaw0
set_option linter.unusedSimpArgs false
set_option linter.unusedVariables false
namespace Go.Proofs.Ytlmmejdcjhbppaa
open Go.RowKit Go.Geo
attribute [local go_sem] Oper.semAt_some
theorem rdepth_facts : ∀ n : Nat, n ≤ 1000 → (n ≤ 1 → depthN n = n) ∧ (1 < n → depthN n = 1 + depthN ((n + 1) / 2)) ∧ depthN n ≤ 11 := by decide +kernel
set_option maxRecDepth 100000 in
theorem RDepth_any : ∀ (k n : Nat), n ≤ k → n ≤ 1000 → ∀ w, Calls Try.prog 23 #[.int .i64 (n : Int)] w fun e w' => e = .returned (.int .i64 (depthN n : Int)) ∧ w = w' := by
  intro k
  induction k with
  | zero =>
    intro n hk hn w
    obtain rfl : n = 0 := by omega
    go_enter Try.func23, Try.ntmps23
    go_wp2_with fail
    go_ret
    exact ⟨rfl, rfl⟩
  | succ k ih =>
    intro n hk hn w
    obtain ⟨q1, q2, q3⟩ := rdepth_facts n hn
    by_cases h1 : n ≤ 1
    · have h5 : (n : Int) ≤ 1 := by omega
      rw [q1 h1]
      clear ih q1 q2 q3
      go_enter Try.func23, Try.ntmps23
      go_wp2_with fail
      go_ret
      exact ⟨rfl, rfl⟩
    · have h5 : ¬ (n : Int) ≤ 1 := by omega
      obtain ⟨q4, q5, q6⟩ := rdepth_facts ((n + 1) / 2) (by omega)
      have HD := Lib.hid (ih ((n + 1) / 2) (by omega) (by omega) w)
      obtain ⟨m, hm⟩ : ∃ m, m = (n + 1) / 2 := ⟨_, rfl⟩
      have hq : Int.tdiv ((n : Int) + 1) 2 = (m : Int) := by rw [hm, Int.tdiv_eq_ediv_of_nonneg (by omega)]; omega
      have hw : IntKind.i64.wrap ((n : Int) + 1) = (n : Int) + 1 := IntWalk.i64_in _ (by omega)
      have hwm : IntKind.i64.wrap (m : Int) = (m : Int) := IntWalk.i64_in _ (by omega)
      rw [← hm] at HD q6
      rw [q2 (by omega), ← hm]
      obtain ⟨D, hD⟩ : ∃ D, D = depthN m := ⟨_, rfl⟩
      rw [← hD] at HD q6 ⊢
      have hwd : IntKind.i64.wrap (1 + (D : Int)) = 1 + (D : Int) := IntWalk.i64_in _ (by omega)
      clear ih q1 q2 q3 q4 q5 hm hD
      go_enter Try.func23, Try.ntmps23
      go_wp2_with fail
      refine HD.out.mono ?_
      rintro e w1 ⟨rfl, rfl⟩
      go_wp2_with fail
      go_ret
      exact ⟨by simp, rfl⟩
end Go.Proofs.Ytlmmejdcjhbppaa

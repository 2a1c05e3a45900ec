/- ref12.Order -/
import Derived.Test.YtlmmejdcjhbppaaMBROrd
set_option linter.unusedSimpArgs false
set_option linter.unusedVariables false
namespace Go.Proofs.Ytlmmejdcjhbppaa
open Go.RowKit Go.Geo
attribute [local go_sem] Oper.semAt_some
set_option maxRecDepth 100000 in
set_option maxHeartbeats 4000000 in
theorem ROrder_any (ao : Option Addr) (n cap : Nat) (L : List Bx) (hin : InB L) (hn5 : n ≤ 1000) (w : World) (hx : IsX w ao n cap L) :
    Calls Try.prog 24 #[.slice ao n cap] w (OrdR L true (allI n) w) := by
  have hxc := hx.2.1
  have hxcm : cap ≤ 9223372036854775807 := hx.2.2.1
  have HX := Lib.hid hx
  have HIN := Lib.hid hin
  clear hx hin
  go_enter Try.func24, Try.ntmps24
  go_wp2_with fail
  go_loopw [3, 4] (fun ov iv wr => ∃ i : Nat, i ≤ n ∧ iv = .int .i64 i ∧ Hid (OwnI wr w.heap.size ov (allI i) ∧ Below w.heap.size w wr)) (fun _ iv _ => n - (intOf iv).toNat)
  case atStart => exact ⟨0, by omega, rfl, Lib.hid ⟨OwnI.nil _ _, Below.refl _ _⟩⟩
  case round =>
    rename_i ov iv
    obtain ⟨i, hi, rfl, hst⟩ := hrel
    have HST := hst
    clear hst
    by_cases hlt : i < n
    · have hi5 : (i : Int) < (n : Int) := by omega
      have hwi : IntKind.i64.wrap ((i : Int) + 1) = (i : Int) + 1 := IntWalk.i64_in _ (by omega)
      have HKL : Hid ((allI i).length + 1 ≤ 1000000000) := Lib.hid (by rw [allI_len]; omega)
      have HOWN := Lib.hid (HST.out.1.later ((Below.refl _ _).alloc (Nat.le_refl _) (.cells #[.int .i64 (i : Int)] 3)))
      have HSZ := Lib.hid HST.out.2.size
      go_wp2_with (at_builtin; refine wpList_append_ints rfl _ _ rfl w.heap.size _ (allI i) rfl HOWN.out _ _ _ [(i : Int)] rfl (one_ints wr (i : Int)) HKL.out (by have := HSZ.out; simp; omega) ?_
                   intro v7 w7 hown7 hg7
                   have hb7 : Below w.heap.size w w7 := (HST.out.2.alloc HSZ.out (.cells #[.int .i64 (i : Int)] 3)).grown hg7 (by have := HSZ.out; simp; omega) (fun b hb => (HOWN.out.lt b hb).1)
                   have H7 := Lib.hid (And.intro hown7 hb7)
                   clear hown7 hg7 hb7)
      go_roundw
      case rel => exact ⟨i + 1, by omega, by go_num, Lib.hid ⟨by rw [allI_succ]; exact H7.out.1, H7.out.2⟩⟩
      case measure => simp [intOf]; omega
    · have hin2 : i = n := by omega
      subst hin2
      obtain ⟨pa, pc, hpv, hpi⟩ := HST.out.1.ints
      rw [allI_len] at hpv hpi
      subst hpv
      have HO := Lib.hid (ROrd_any ao i cap L HIN.out hn5 i pa i pc (allI i) 0 true wr (Nat.le_refl _) (by omega) rfl (HX.out.later HST.out.2 (Nat.le_refl _)) hpi (allI_nodup i) (fun x hx => allI_mem.1 hx))
      clear hpi
      go_wp2_with fail
      refine HO.out.mono ?_
      rintro e w5 ⟨v, O, rfl, hR, hL, hb⟩
      have H5 := Lib.hid (And.intro hR (And.intro hL hb))
      clear hR hL hb
      go_wp2_with fail
      go_ret
      exact ⟨_, O, rfl, H5.out.1, H5.out.2.1, HST.out.2.trans (H5.out.2.2.mono HST.out.2.size)⟩
end Go.Proofs.Ytlmmejdcjhbppaa

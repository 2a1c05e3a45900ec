/- the reference's disk: Remove -/
import Derived.Test.YtmpjjkfbojhfoaaRRemove
namespace Go.Proofs.Ytmpjjkfbojhfoaa
open Go.RowKit
set_option linter.unusedSectionVars false
variable [Zone]
set_option maxRecDepth 100000 in
set_option maxHeartbeats 2000000 in
theorem rRemove_any (s : ByteArray) (r base : Nat) (R : List FileV) (N : Int) (fz : Bool) (lf : Int) (out : Bool) (w : World) (hN0 : 0 ≤ N) (hN1 : N ≤ 1000000) (hl0 : 0 ≤ lf) (hl1 : lf ≤ 9223372036854775807) (h : RefAt w r base R N fz lf out) (hR : R.length ≤ 1000000) :
    Calls Try.prog 63 #[.pointer (some ⟨r, 0, none⟩), .string s] w fun e w' => RCall s r base R (fun k => R.take k ++ R.drop (k + 1)) N fz lf out w e w' := by
  have HAt := Lib.hid (At_any s r base R N fz lf out w h)
  obtain ⟨v, hrow⟩ := h.row
  have r4 := hrow.cells.2.2.2.2
  have H := Lib.hid (And.intro h hR)
  clear h hR hrow
  go_enter Try.func63, Try.ntmps63
  go_wp2_with fail
  refine HAt.out.mono ?_
  rintro e w' ⟨z, rfl, hz, rfl⟩
  have HZ := Lib.hid hz
  cases out with
  | true =>
    go_wp2_with fail
    go_ret
    exact .inl ⟨rfl, rfl, rfl⟩
  | false =>
    rcases hz with ⟨k, rfl, hk, _, _⟩ | ⟨rfl, _⟩
    · have hk0 : ¬ (k : Int) < 0 := by omega
      have hk1 : (0 : Int) ≤ (k : Int) := by omega
      have HKK := Lib.hid hk
      clear hk
      go_wp2_with fail
      refine (rstep_any r base R N fz lf false w hN0 hN1 hl0 hl1 H.out.1).mono ?_
      rintro e W ⟨hmv, ⟨hq, rfl, hout⟩ | ⟨hq, rfl, hW⟩⟩
      · have HQ := Lib.hid (And.intro hmv (And.intro hq hout))
        clear hmv hq hout
        go_wp2_with fail
        go_ret
        exact .inr ⟨rfl, _, HZ.out, .inr ⟨hk1, HQ.out.1, .inl ⟨HQ.out.2.1, rfl, HQ.out.2.2⟩⟩⟩
      · have HQ := Lib.hid (And.intro hmv (And.intro hq hW))
        clear hmv hq hW
        go_wp2_with fail
        refine (remove_any k r base R (N + 1) fz (if fz = true then lf - 1 else lf) false W HQ.out.2.2 HKK.out H.out.2).mono ?_
        rintro e w2 ⟨rfl, hR2, hM2⟩
        have H2 := Lib.hid (And.intro hR2 hM2)
        clear hR2 hM2
        go_wp2_with fail
        go_ret
        exact .inr ⟨rfl, _, HZ.out, .inr ⟨hk1, HQ.out.1.trans H2.out.2, .inr ⟨HQ.out.2.1, rfl, H2.out.1⟩⟩⟩
    · go_wp2_with fail
      go_ret
      exact .inr ⟨rfl, -1, HZ.out, .inl ⟨by omega, rfl, rfl⟩⟩
end Go.Proofs.Ytmpjjkfbojhfoaa

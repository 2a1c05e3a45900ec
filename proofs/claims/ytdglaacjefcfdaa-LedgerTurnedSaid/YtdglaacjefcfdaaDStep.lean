/- disk: step, no fuse being laid; Sync -/
import Derived.Test.YtdglaacjefcfdaaDSync
namespace Go.Proofs.Ytdglaacjefcfdaa
open Go.RowKit
set_option maxRecDepth 100000 in
theorem step_any (d mb : Nat) (st fu : Int) (g : Nat) (binds : Array Value) (w : World) (h : DiskRow w d mb st fu false) (hfu : fu < 0) (eg : ∀ args w, (callFunc g args).run Try.prog w = .ok (.enter g args) w) (Q : World → Prop)
    (hdo : Calls Try.prog g binds (w.setCell ⟨d, 1, none⟩ (.int .i64 (wrap64 (st + 1)))) fun e w' => e = .returned (.tuple #[]) ∧ Q w') :
    Calls Try.prog 33 #[.pointer (some ⟨d, 0, none⟩), .func (.func g) #[] binds] w fun e w' => e = .returned (.int .i64 0) ∧ Q w' := by
  obtain ⟨h0, h1, h2, h3⟩ := h.cells
  have z1 : w.frozen? ⟨d, 1, none⟩ = false := frozen_of_row _ _ _ _ _ h
  have hq : (fu == 0) = false := by simp; omega
  have hq2 : ¬ 0 < fu := by omega
  have HA := Lib.hid (AddInt_any d 1 st w h1 z1)
  have HD := Lib.hid hdo
  clear h h0 h1 h3 z1 hdo
  go_enter Try.func33, Try.ntmps33
  go_wp2_with fail
  refine HA.out.mono ?_
  rintro e w' ⟨⟨v, rfl⟩, rfl⟩
  go_wp2_with fail
  refine HD.out.mono ?_
  rintro e w' ⟨rfl, hq⟩
  go_wp2_with fail
  go_ret
  exact ⟨rfl, hq⟩
end Go.Proofs.Ytdglaacjefcfdaa

/- layer 27's statements: reads -/
import Derived.Test.YtmpjjkfbojhfoaaDOps
namespace Go.Proofs.Ytmpjjkfbojhfoaa
open Go.RowKit
set_option linter.unusedSectionVars false
variable [Zone]
variable {nm : ByteArray}
set_option maxRecDepth 100000 in
theorem reads_G (d mb base f : Nat) (M : List Ent) (C : Cont) (st fu : Int) (ao : Option Addr) (n cap : Nat) (l : List UInt8) (w : World) (h : DiskG w st fu false d mb base M C) (hfo : fileOf nm M = some f) (hl : IsBytes w ao n cap l) :
    Calls Try.prog 14 #[.pointer (some ⟨d, 0, none⟩), .string nm, .slice ao n cap] w fun e w' => e = .returned (.bool (runD (C f).1 (C f).2 == l)) ∧ Below w.heap.size w w' := by
  have HR := Lib.hid (Read_G (nm := nm) d mb base f M C st fu w h hfo)
  have HL := Lib.hid hl
  clear h hfo hl
  go_enter Try.func14, Try.ntmps14
  go_wp2_with fail
  refine HR.out.mono ?_
  rintro e w1 ⟨v, rfl, hown, hb⟩
  obtain ⟨av, cv, rfl, hbs, _⟩ := hown.bytes
  have HB := Lib.hid (And.intro hb hbs)
  clear hb hown hbs
  go_wp2_with fail
  refine (SameBytes_any _ _ _ _ _ _ _ _ w1 HB.out.2 (HL.out.later HB.out.1)).mono ?_
  rintro e w2 ⟨rfl, rfl⟩
  go_wp2_with fail
  go_ret
  exact ⟨rfl, HB.out.1⟩
end Go.Proofs.Ytmpjjkfbojhfoaa

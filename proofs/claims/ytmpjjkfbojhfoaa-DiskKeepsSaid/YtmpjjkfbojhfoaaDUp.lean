/- disk: Up (only programs that reach it; move to tpl27 for seat r27) -/
import Derived.Test.YtmpjjkfbojhfoaaDGone
namespace Go.Proofs.Ytmpjjkfbojhfoaa
open Go.RowKit
theorem Up_any (d mb : Nat) (st fu : Int) (out : Bool) (w : World) (h : DiskRow w d mb st fu out) :
    Calls Try.prog 25 #[.pointer (some ⟨d, 0, none⟩)] w fun e w' => e = .returned (.bool (!out)) ∧ w = w' := by
  obtain ⟨h0, h1, h2, h3⟩ := h.cells
  have H := Lib.hid h
  clear h h0 h1 h2
  go_enter Try.func25, Try.ntmps25
  go_wp2_with fail
  refine (none_any _ _ _ _ _ _ H.out).mono ?_
  rintro e w' ⟨rfl, rfl⟩
  go_wp2_with fail
  go_ret
  exact ⟨by first | rfl | (cases out <;> rfl), rfl⟩
end Go.Proofs.Ytmpjjkfbojhfoaa

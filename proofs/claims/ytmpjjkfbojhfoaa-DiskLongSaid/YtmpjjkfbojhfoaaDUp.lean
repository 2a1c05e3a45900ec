/- disk: a disk that is out; Up; an unfit call -/
import Derived.Test.YtmpjjkfbojhfoaaDFuse
namespace Go.Proofs.Ytmpjjkfbojhfoaa
open Go.RowKit
theorem down_out (d mb : Nat) (st fu : Int) (w : World) (h : DiskRow w d mb st fu true) :
    Calls Try.prog 34 #[.pointer (some ⟨d, 0, none⟩)] w fun e w' => e = .returned (.int .i64 10) ∧ w = w' := by
  obtain ⟨h0, h1, h2, h3⟩ := h.cells
  have H := Lib.hid h
  clear h h0 h1 h2
  go_enter Try.func34, Try.ntmps34
  go_wp2_with fail
  refine (none_any _ _ _ _ _ _ H.out).mono ?_
  rintro e w' ⟨rfl, rfl⟩
  go_wp2_with fail
  go_ret
  exact ⟨rfl, rfl⟩
theorem open_out (d mb : Nat) (st fu : Int) (nm : Value) (w : World) (h : DiskRow w d mb st fu true) :
    Calls Try.prog 40 #[.pointer (some ⟨d, 0, none⟩), nm] w fun e w' => e = .returned (.tuple #[.pointer none, .int .i64 10]) ∧ w = w' := by
  have H := Lib.hid h
  clear h
  go_enter Try.func40, Try.ntmps40
  go_wp2_with fail
  refine (down_out _ _ _ _ _ H.out).mono ?_
  rintro e w' ⟨rfl, rfl⟩
  go_wp2_with fail
  go_ret2
  exact ⟨rfl, rfl⟩
theorem Append_gone (d mb : Nat) (st fu : Int) (nm : ByteArray) (ao : Option Addr) (n cap : Nat) (w : World) (h : DiskRow w d mb st fu true) :
    Calls Try.prog 12 #[.pointer (some ⟨d, 0, none⟩), .string nm, .slice ao n cap] w fun e w' => e = .returned (.int .i64 10) ∧ Below w.heap.size w w' := by
  have H := Lib.hid h
  clear h
  go_enter Try.func12, Try.ntmps12
  go_wp2_with fail
  have hb : Below w.heap.size w (((w.alloc (.cells #[.pointer (some ⟨d, 0, none⟩)] 27)).alloc (.cells #[.string nm] 9)).alloc (.cells #[.slice ao n cap] 23)) := (((Below.refl _ _).alloc (Nat.le_refl _) _).alloc (by simp) _).alloc (by simp; omega) _
  generalize (((w.alloc (.cells #[.pointer (some ⟨d, 0, none⟩)] 27)).alloc (.cells #[.string nm] 9)).alloc (.cells #[.slice ao n cap] 23)) = w1 at hb ⊢
  have HB := Lib.hid hb
  refine (down_out _ _ _ _ _ ((hb.block _ H.out.lt).trans H.out)).mono ?_
  clear hb
  rintro e w' ⟨rfl, rfl⟩
  go_wp2_with fail
  go_ret
  exact ⟨rfl, HB.out⟩
theorem Sync_gone (d mb : Nat) (st fu : Int) (nm : ByteArray) (w : World) (h : DiskRow w d mb st fu true) :
    Calls Try.prog 13 #[.pointer (some ⟨d, 0, none⟩), .string nm] w fun e w' => e = .returned (.int .i64 10) ∧ Below w.heap.size w w' := by
  have H := Lib.hid h
  clear h
  go_enter Try.func13, Try.ntmps13
  go_wp2_with fail
  refine (open_out d mb st fu _ _ H.out).mono ?_
  rintro e w' ⟨rfl, rfl⟩
  have hb := Below.refl w.heap.size w
  go_wp2_with fail
  go_ret
  exact ⟨rfl, by first | exact Below.refl _ _ | exact (Below.refl _ _).alloc (Nat.le_refl _) _⟩
end Go.Proofs.Ytmpjjkfbojhfoaa

/- disk: Up (only programs that reach it; move to tpl27 for seat r27) -/
namespace Go.Proofs.Ytmpjjkfbojhfoaa
open Go.RowKit
theorem Up_any (d mb : Nat) (st fu : Int) (out : Bool) (w : World) (h : DiskRow w d mb st fu out) :
    Calls Try.prog 25 #[.pointer (some ⟨d, 0, none⟩)] w fun e w' => e = .returned (.bool (!out)) ∧ w = w' := by
  obtain ⟨h0, h1, h2, h3⟩ := h.cells
  have H := Lib.hid h
  clear h h0 h1 h2
  go_enter Try.func25, Try.ntmps25
  go_wp2_with fail
  refine (none_any _ _ _ _ _ _ H.out).mono ?_
  rintro e w' ⟨rfl, rfl⟩
  go_wp2_with fail
  go_ret
  exact ⟨by first | rfl | (cases out <;> rfl), rfl⟩
end Go.Proofs.Ytmpjjkfbojhfoaa

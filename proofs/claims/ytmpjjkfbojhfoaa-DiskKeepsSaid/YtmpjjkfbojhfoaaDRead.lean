/- disk: a file's bytes; Read -/
import Derived.Test.YtmpjjkfbojhfoaaDAfter
namespace Go.Proofs.Ytmpjjkfbojhfoaa
open Go.RowKit
variable {nm : ByteArray}
/-- a file: its safe bytes, what is under way. -/
structure FileAt (w : World) (f : Nat) (S : List UInt8) (D : List Deed) : Prop where
  row : ∃ ao n cap al m capl, FileRow w f (.slice ao n cap) (.slice al m capl) ∧ IsBytes w ao n cap S ∧ IsDeeds w al m capl D
  fit : fitsD S D
  small : S.length + (D.map Deed.units).sum ≤ 4294967296
def unitsD (D : List Deed) : Nat := (D.map Deed.units).sum
/-- all of a file's bytes. -/
def allB (S : List UInt8) (D : List Deed) : List UInt8 := afterZ S D (unitsD D : Nat)
set_option maxRecDepth 100000 in
theorem bytes_any (f : Nat) (S : List UInt8) (D : List Deed) (w : World) (h : FileAt w f S D) :
    Calls Try.prog 36 #[.pointer (some ⟨f, 0, none⟩)] w fun e w' => ∃ v, e = .returned v ∧ OwnB w' w.heap.size v (allB S D) ∧ Below w.heap.size w w' := by
  obtain ⟨⟨ao, n, cap, al, m, capl, hr, hs, hd⟩, hf, hsm⟩ := h
  have hn := hs.1
  have HR := Lib.hid hr
  have HS := Lib.hid hs
  have HD := Lib.hid hd
  have HF := Lib.hid hf
  have HM : Hid (n + (D.map Deed.units).sum ≤ 4294967296) := Lib.hid (by rw [← hn]; exact hsm)
  have hl := loose_any f _ al m capl D w hr hd (by omega)
  have HL := Lib.hid hl
  clear hr hs hd hf hsm hn hl
  obtain ⟨z, hz⟩ : ∃ z : Nat, z = (D.map Deed.units).sum := ⟨_, rfl⟩
  have HZ := Lib.hid hz
  clear hz
  go_enter Try.func36, Try.ntmps36
  go_wp2_with fail
  refine HL.out.mono ?_
  rintro e w' ⟨rfl, rfl⟩
  go_wp2_with fail
  refine (after_any f ao n cap S al m capl D _ _ HR.out HS.out HD.out HF.out (by have := HM.out; omega) (by omega) (by have := HM.out; omega) (by have := HM.out; omega)).mono ?_
  rintro e w1 ⟨v, rfl, hown, hb⟩
  go_wp2_with fail
  go_ret
  exact ⟨v, rfl, hown, hb⟩
set_option maxRecDepth 100000 in
theorem Read_log (d mb c f : Nat) (M : List Ent) (st fu : Int) (S : List UInt8) (D : List Deed) (w : World) (h : DiskRow w d mb st fu false) (hm : w.heap[mb]? = some (.map (ents M) c)) (hfo : fileOf nm M = some f) (hf : FileAt w f S D) :
    Calls Try.prog 28 #[.pointer (some ⟨d, 0, none⟩), .string nm] w fun e w' => ∃ v, e = .returned (.tuple #[v, .int .i64 0]) ∧ OwnB w' w.heap.size v (allB S D) ∧ Below w.heap.size w w' := by
  have ho := open_log d mb c f M st fu w h hm hfo
  have HO := Lib.hid ho
  have HB := Lib.hid (bytes_any f S D w hf)
  clear ho h hm hf hfo
  go_enter Try.func28, Try.ntmps28
  go_wp2_with fail
  refine HO.out.mono ?_
  rintro e w' ⟨rfl, rfl⟩
  go_wp2_with fail
  refine HB.out.mono ?_
  rintro e w1 ⟨v, rfl, hown, hb⟩
  go_wp2_with fail
  go_ret2
  exact ⟨v, rfl, hown, hb⟩
set_option maxRecDepth 100000 in
theorem Read_none (d mb c : Nat) (M : List Ent) (st fu : Int) (w : World) (h : DiskRow w d mb st fu false) (hm : w.heap[mb]? = some (.map (ents M) c)) (hfo : fileOf nm M = none) :
    Calls Try.prog 28 #[.pointer (some ⟨d, 0, none⟩), .string nm] w fun e w' => e = .returned (.tuple #[.slice none 0 0, .int .i64 6]) ∧ w = w' := by
  have ho := open_none d mb c M st fu w h hm hfo
  have HO := Lib.hid ho
  clear ho h hm hfo
  go_enter Try.func28, Try.ntmps28
  go_wp2_with fail
  refine HO.out.mono ?_
  rintro e w' ⟨rfl, rfl⟩
  go_wp2_with fail
  go_ret2
  exact ⟨rfl, rfl⟩
set_option maxRecDepth 100000 in
theorem Read_nil (nv : Value) (w : World) : Calls Try.prog 28 #[.pointer none, nv] w fun e w' => e = .returned (.tuple #[.slice none 0 0, .int .i64 1]) ∧ w = w' := by
  go_enter Try.func28, Try.ntmps28
  go_wp2_with fail
  refine (open_nil nv _).mono ?_
  rintro e w' ⟨rfl, rfl⟩
  go_wp2_with fail
  go_ret2
  exact ⟨rfl, rfl⟩
end Go.Proofs.Ytmpjjkfbojhfoaa

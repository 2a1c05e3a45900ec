/- disk: a file's bytes; Read -/
import Derived.Test.YtdglaacjefcfdaaDAfter
namespace Go.Proofs.Ytdglaacjefcfdaa
open Go.RowKit
/-- a file: its safe bytes, what is under way. -/
structure FileAt (w : World) (f : Nat) (S : List UInt8) (D : List Deed) : Prop where
  row : ∃ ao n cap al m capl, FileRow w f (.slice ao n cap) (.slice al m capl) ∧ IsBytes w ao n cap S ∧ IsDeeds w al m capl D
  fit : fitsD S D
  small : S.length + (D.map Deed.units).sum ≤ 4294967296
def unitsD (D : List Deed) : Nat := (D.map Deed.units).sum
/-- all of a file's bytes. -/
def allB (S : List UInt8) (D : List Deed) : List UInt8 := afterZ S D (unitsD D : Nat)
set_option maxRecDepth 100000 in
theorem bytes_any (f : Nat) (S : List UInt8) (D : List Deed) (w : World) (h : FileAt w f S D) :
    Calls Try.prog 30 #[.pointer (some ⟨f, 0, none⟩)] w fun e w' => ∃ v, e = .returned v ∧ OwnB w' w.heap.size v (allB S D) ∧ Below w.heap.size w w' := by
  obtain ⟨⟨ao, n, cap, al, m, capl, hr, hs, hd⟩, hf, hsm⟩ := h
  have hn := hs.1
  have HR := Lib.hid hr
  have HS := Lib.hid hs
  have HD := Lib.hid hd
  have HF := Lib.hid hf
  have HM : Hid (n + (D.map Deed.units).sum ≤ 4294967296) := Lib.hid (by rw [← hn]; exact hsm)
  have hl := loose_any f _ al m capl D w hr hd (by omega)
  have HL := Lib.hid hl
  clear hr hs hd hf hsm hn hl
  obtain ⟨z, hz⟩ : ∃ z : Nat, z = (D.map Deed.units).sum := ⟨_, rfl⟩
  have HZ := Lib.hid hz
  clear hz
  go_enter Try.func30, Try.ntmps30
  go_wp2_with fail
  refine HL.out.mono ?_
  rintro e w' ⟨rfl, rfl⟩
  go_wp2_with fail
  refine (after_any f ao n cap S al m capl D _ _ HR.out HS.out HD.out HF.out (by have := HM.out; omega) (by omega) (by have := HM.out; omega) (by have := HM.out; omega)).mono ?_
  rintro e w1 ⟨v, rfl, hown, hb⟩
  go_wp2_with fail
  go_ret
  exact ⟨v, rfl, hown, hb⟩
set_option maxRecDepth 100000 in
theorem Read_log (d mb c b f : Nat) (st fu : Int) (S : List UInt8) (D : List Deed) (w : World) (h : DiskRow w d mb st fu false) (hm : w.heap[mb]? = some (.map #[{ key := .string logB, val := .pointer (some ⟨f, 0, none⟩), born := b }] c)) (hf : FileAt w f S D) :
    Calls Try.prog 12 #[.pointer (some ⟨d, 0, none⟩), .string logB] w fun e w' => ∃ v, e = .returned (.tuple #[v, .int .i64 0]) ∧ OwnB w' w.heap.size v (allB S D) ∧ Below w.heap.size w w' := by
  have ho := open_log d mb c b f st fu w h hm
  have HO := Lib.hid ho
  have HB := Lib.hid (bytes_any f S D w hf)
  clear ho h hm hf
  generalize logB = nm at HO ⊢
  go_enter Try.func12, Try.ntmps12
  go_wp2_with fail
  refine HO.out.mono ?_
  rintro e w' ⟨rfl, rfl⟩
  go_wp2_with fail
  refine HB.out.mono ?_
  rintro e w1 ⟨v, rfl, hown, hb⟩
  go_wp2_with fail
  go_ret2
  exact ⟨v, rfl, hown, hb⟩
set_option maxRecDepth 100000 in
theorem Read_none (d mb c : Nat) (st fu : Int) (w : World) (h : DiskRow w d mb st fu false) (hm : w.heap[mb]? = some (.map #[] c)) :
    Calls Try.prog 12 #[.pointer (some ⟨d, 0, none⟩), .string logB] w fun e w' => e = .returned (.tuple #[.slice none 0 0, .int .i64 6]) ∧ w = w' := by
  have ho := open_none d mb c st fu w h hm
  have HO := Lib.hid ho
  clear ho h hm
  generalize logB = nm at HO ⊢
  go_enter Try.func12, Try.ntmps12
  go_wp2_with fail
  refine HO.out.mono ?_
  rintro e w' ⟨rfl, rfl⟩
  go_wp2_with fail
  go_ret2
  exact ⟨rfl, rfl⟩
set_option maxRecDepth 100000 in
theorem Read_nil (nm : Value) (w : World) : Calls Try.prog 12 #[.pointer none, nm] w fun e w' => e = .returned (.tuple #[.slice none 0 0, .int .i64 1]) ∧ w = w' := by
  go_enter Try.func12, Try.ntmps12
  go_wp2_with fail
  refine (open_nil nm _).mono ?_
  rintro e w' ⟨rfl, rfl⟩
  go_wp2_with fail
  go_ret2
  exact ⟨rfl, rfl⟩
end Go.Proofs.Ytdglaacjefcfdaa

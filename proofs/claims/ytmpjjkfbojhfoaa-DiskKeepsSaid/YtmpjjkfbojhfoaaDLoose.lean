/- disk: what is under way of a file; units, loose -/
import Derived.Test.YtmpjjkfbojhfoaaDOpen
namespace Go.Proofs.Ytmpjjkfbojhfoaa
open Go.RowKit
set_option linter.unusedSectionVars false
/-- something under way: more bytes, or a cut. -/
inductive Deed where
  | more (b : List UInt8)
  | cut (n : Nat)
def Deed.units : Deed → Nat
  | .more b => b.length
  | .cut _ => 1
/-- a cell holds a deed. -/
def IsDeed (w : World) (v : Value) : Deed → Prop
  | .more b => ∃ a n c, v = .iface 79 (.slice a n c) ∧ IsBytes w a n c b
  | .cut n => v = .iface 93 (.int .i64 (n : Int))
theorem units_more (ao : Option Addr) (n cap : Nat) (w : World) : Calls Try.prog 117 #[.slice ao n cap] w fun e w' => e = .returned (.int .i64 (n : Int)) ∧ w = w' := by
  go_enter Try.func117, Try.ntmps117
  go_wp2
  go_ret
  exact ⟨rfl, rfl⟩
theorem units_cut (n : Int) (w : World) : Calls Try.prog 118 #[.int .i64 n] w fun e w' => e = .returned (.int .i64 1) ∧ w = w' := by
  go_enter Try.func118, Try.ntmps118
  go_wp2
  go_ret
  exact ⟨rfl, rfl⟩
/-- a file's two cells. -/
def FileRow (w : World) (f : Nat) (sv lv : Value) : Prop := w.heap[f]? = some (.cells #[sv, lv] 76 (0, 0))
/-- a slice of deeds. -/
def IsDeeds (w : World) (ao : Option Addr) (n cap : Nat) (D : List Deed) : Prop :=
  D.length = n ∧ n ≤ cap ∧ cap ≤ maxLen ∧ (ao = none → n = 0 ∧ cap = 0) ∧ ∀ i, i < n → ∃ b off v, ao = some ⟨b, off, none⟩ ∧ w.cell? ⟨b, off + i, none⟩ = some v ∧ IsDeed w v (D.getD i (.cut 0))
theorem take_units {D : List Deed} {k n : Nat} (hl : D.length = n) (hk : k < n) : ((D.take (k + 1)).map Deed.units).sum = ((D.take k).map Deed.units).sum + (D.getD k (.cut 0)).units := by
  rw [List.take_succ_eq_append_getElem (by omega), List.map_append, List.sum_append, List.getD_eq_getElem?_getD, List.getElem?_eq_getElem (by omega)]
  simp
theorem take_units_le (D : List Deed) (k : Nat) : ((D.take k).map Deed.units).sum ≤ (D.map Deed.units).sum := by
  conv => rhs; rw [← List.take_append_drop k D, List.map_append, List.sum_append]
  omega
theorem meth_more (v : Value) (w : World) : (method 251 79 v "apportion/disk.units").run Try.prog w = .ok (117, v) w := by kernel_rfl
theorem meth_cut (v : Value) (w : World) : (method 251 93 v "apportion/disk.units").run Try.prog w = .ok (118, v) w := by kernel_rfl
set_option maxRecDepth 100000 in
theorem loose_any (f : Nat) (sv : Value) (ao : Option Addr) (n cap : Nat) (D : List Deed) (w : World) (h : FileRow w f sv (.slice ao n cap)) (hd : IsDeeds w ao n cap D) (hu : (D.map Deed.units).sum ≤ 1099511627776) :
    Calls Try.prog 43 #[.pointer (some ⟨f, 0, none⟩)] w fun e w' => e = .returned (.int .i64 ((D.map Deed.units).sum : Nat)) ∧ w = w' := by
  have f1 : w.cell? ⟨f, 1, none⟩ = some (.slice ao n cap) := cell_of_row _ _ _ _ _ _ h
  have hn := hd.2.1
  have hcm := hd.2.2.1
  have HD := Lib.hid hd
  unfold maxLen at hcm
  clear h hd
  go_enter Try.func43, Try.ntmps43
  go_wp2
  go_loopw [3, 11] (fun s i wr => ∃ k : Nat, k ≤ n ∧ i = .int .i64 k ∧ s = .int .i64 (((D.take k).map Deed.units).sum : Nat) ∧ w = wr) (fun _ i _ => n - (intOf i).toNat)
  case atStart => exact ⟨0, by omega, rfl, rfl, rfl⟩
  case round =>
    obtain ⟨k, hk, rfl, rfl, rfl⟩ := hrel
    by_cases hlt : k < n
    · have hi0 : (0 : Int) ≤ (k : Int) := by omega
      have hi5 : (k : Int) < (n : Int) := by omega
      obtain ⟨b, off, v, rfl, hc, hv⟩ := HD.out.2.2.2.2 k hlt
      obtain ⟨x, hx⟩ : ∃ x, x = D.getD k (.cut 0) := ⟨_, rfl⟩
      rw [← hx] at hv
      have hstep := take_units HD.out.1 hlt
      rw [← hx] at hstep
      have hle := take_units_le D (k + 1)
      obtain ⟨t, ht⟩ : ∃ t, t = ((D.take k).map Deed.units).sum := ⟨_, rfl⟩
      rw [← ht] at hstep ⊢
      have HST := Lib.hid hstep
      have hle2 : (D.take (k + 1)).map Deed.units |>.sum |> (· ≤ 1099511627776) := Nat.le_trans hle hu
      have HLE := Lib.hid hle2
      clear hle hle2 hx
      cases x with
      | more bs =>
        obtain ⟨a, m, c, rfl, hbs⟩ := hv
        have hm := fun w' => meth_more (.slice a m c) w'
        have hbl : bs.length = m := hbs.1
        have hw : IntKind.i64.wrap ((t : Int) + (m : Int)) = (t : Int) + (m : Int) := IntWalk.i64_in _ (by
          have h1 := HST.out; have h2 := HLE.out
          simp only [Deed.units] at h1
          omega)
        have HB := Lib.hid hbl
        clear hbs hstep hbl ht
        go_wp2_with fail
        refine (units_more a m c _).mono ?_
        rintro e w' ⟨rfl, rfl⟩
        go_wp2_with fail
        go_roundw
        case rel => exact ⟨k + 1, by omega, by go_num, by have h1 := HST.out; simp only [Deed.units] at h1; rw [h1, HB.out]; push_cast; rfl, trivial⟩
        case measure => simp [intOf]; omega
      | cut z =>
        obtain rfl := hv
        have hm := fun w' => meth_cut (.int .i64 (z : Int)) w'
        have hw : IntKind.i64.wrap ((t : Int) + 1) = (t : Int) + 1 := IntWalk.i64_in _ (by
          have h1 := HST.out; have h2 := HLE.out
          simp only [Deed.units] at h1
          omega)
        clear hstep ht
        go_wp2_with fail
        refine (units_cut _ _).mono ?_
        rintro e w' ⟨rfl, rfl⟩
        go_wp2_with fail
        go_roundw
        case rel => exact ⟨k + 1, by omega, by go_num, by have h1 := HST.out; simp only [Deed.units] at h1; rw [h1]; push_cast; rfl, trivial⟩
        case measure => simp [intOf]; omega
    · obtain rfl : k = n := by omega
      go_wp2
      go_ret
      refine ⟨?_, rfl⟩
      have := HD.out.1
      rw [show D.take k = D from List.take_of_length_le (by omega)]
      rfl
end Go.Proofs.Ytmpjjkfbojhfoaa

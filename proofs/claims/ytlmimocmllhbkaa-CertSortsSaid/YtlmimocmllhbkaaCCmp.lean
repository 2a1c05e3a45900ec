/- cert: compare[int], order -/
import Derived.Test.YtlmimocmllhbkaaCKey
import Derived.Deep.RegionWith
import Derived.Deep.RegionHeld3
import Derived.Orders
import Derived.OrdersIn
import Derived.BigQuiet
import Derived.Shelf.Abstract
namespace Go.Proofs.Ytlmimocmllhbkaa
open Go.RowKit
theorem below_drewN {B : Nat} {a w : World} (h : Below B a w) (q : Nat) : Below B a (w.drewN q) := ⟨h.os, h.tape, h.output, h.size, h.block⟩
def Crt.get (c : Crt) : Nat → Int
  | 0 => c.cu | 1 => c.ju | 2 => c.ca | 3 => c.fr | _ => c.to
def Crt.row (c : Crt) : Array Value := #[.int .i64 c.cu, .int .i64 c.ju, .int .i64 c.ca, .int .i64 c.fr, .int .i64 c.to]
theorem Crt.row_get (c : Crt) (i : Nat) (h : i < 5) : c.row[i]? = some (.int .i64 (c.get i)) := by
  match i, h with
  | 0, _ => rfl
  | 1, _ => rfl
  | 2, _ => rfl
  | 3, _ => rfl
  | 4, _ => rfl
def cmpL (a b : Nat → Int) : Nat → Nat → Int
  | 0, _ => 0
  | k + 1, i => if cmpI (a i) (b i) = 0 then cmpL a b k (i + 1) else cmpI (a i) (b i)
def cmpC (a b : Crt) : Int := cmpL a.get b.get 5 0
set_option maxRecDepth 100000 in
theorem compare_any (a b : Crt) (w : World) :
    Calls Try.prog 26 #[a.val, b.val] w fun e w' => e = .returned (.int .i64 (cmpC a b)) ∧ Below w.heap.size w w' := by
  have ha : a.val = .agg a.row := rfl
  have hb : b.val = .agg b.row := rfl
  rw [ha, hb]
  obtain ⟨ra, hra⟩ : ∃ r, r = a.row := ⟨_, rfl⟩
  obtain ⟨rb, hrb⟩ : ∃ r, r = b.row := ⟨_, rfl⟩
  have hsa : ra.size = 5 := by rw [hra]; rfl
  have hsb : rb.size = 5 := by rw [hrb]; rfl
  have hga : ∀ i, i < 5 → ra[i]? = some (.int .i64 (a.get i)) := by rw [hra]; exact a.row_get
  have hgb : ∀ i, i < 5 → rb[i]? = some (.int .i64 (b.get i)) := by rw [hrb]; exact b.row_get
  rw [← hra, ← hrb]
  have HGA := Lib.hid hga
  have HGB := Lib.hid hgb
  have HSA := Lib.hid hsa
  have HSB := Lib.hid hsb
  clear hga hgb hra hrb ha hb hsa hsb
  go_enter Try.func26, Try.ntmps26
  go_wp2
  go_loopw [7] (fun i wr => ∃ k : Nat, k ≤ 5 ∧ i = .int .i64 k ∧ Hid (wr.heap[w.heap.size]? = some (.cells ra 47 (0, 0))) ∧ Hid (wr.heap[w.heap.size + 1]? = some (.cells rb 47 (0, 0))) ∧ Hid (Below w.heap.size w wr) ∧ Hid (cmpC a b = cmpL a.get b.get (5 - k) k)) (fun i _ => 5 - (intOf i).toNat)
  case atStart =>
    exact ⟨0, by omega, rfl, (Below.heap_alloc _ _ _ (by simp)).trans (alloc_new w _), alloc_new2 w _ _, ((Below.refl _ _).alloc (Nat.le_refl _) _).alloc (by simp) _, rfl⟩
  case round =>
    obtain ⟨k, hk, rfl, h1, h2, hbl, hc⟩ := hrel
    by_cases hlt : k < 5
    · have hi0 : (0 : Int) ≤ (k : Int) := by omega
      have hi5 : (k : Int) < 5 := by omega
      have hca : wr.cell? ⟨w.heap.size, k, none⟩ = some (.int .i64 (a.get k)) := (cell_of_row _ _ _ _ _ _ h1.out).trans (HGA.out k hlt)
      have hcb : wr.cell? ⟨w.heap.size + 1, k, none⟩ = some (.int .i64 (b.get k)) := (cell_of_row _ _ _ _ _ _ h2.out).trans (HGB.out k hlt)
      obtain ⟨x, hx⟩ : ∃ x, x = a.get k := ⟨_, rfl⟩
      obtain ⟨y, hy⟩ : ∃ y, y = b.get k := ⟨_, rfl⟩
      rw [← hx] at hca
      rw [← hy] at hcb
      have HX := Lib.hid hx
      have HY := Lib.hid hy
      clear hx hy
      by_cases hz : cmpI x y = 0
      · have hcall : ∀ q', Calls Try.prog 31 #[.int .i64 x, .int .i64 y] (wr.drewN q') fun e w' => e = .returned (.int .i64 0) ∧ w' = wr.drewN q' := fun q' =>
          (cmp_any _ _ _).mono fun e w' h => ⟨by rw [h.1, hz], h.2.symm⟩
        have HC := Lib.hid hcall
        have HZ := Lib.hid hz
        clear hcall hz
        go_wp2_with fail
        go_quiet ((go_at_call 31; exact Calls.quiet_of_same (HC.out _)))
        go_wp2_with fail
        go_roundw
        case rel =>
          refine ⟨k + 1, by omega, by go_num, h1.out, h2.out, below_drewN hbl.out _, ?_⟩
          have h := hc.out
          rw [show 5 - k = (5 - (k + 1)) + 1 by omega, cmpL, ← HX.out, ← HY.out, if_pos HZ.out] at h
          exact h
        case measure => simp [intOf]; omega
      · obtain ⟨r, hr⟩ : ∃ r, r = cmpI x y := ⟨_, rfl⟩
        have hcall : ∀ q', Calls Try.prog 31 #[.int .i64 x, .int .i64 y] (wr.drewN q') fun e w' => e = .returned (.int .i64 r) ∧ w' = wr.drewN q' := fun q' =>
          (cmp_any _ _ _).mono fun e w' h => ⟨by rw [h.1, hr], h.2.symm⟩
        rw [← hr] at hz
        have hz1 : (r == 0) = false := by simpa using hz
        have HC := Lib.hid hcall
        have HR := Lib.hid hr
        have HZ := Lib.hid hz
        clear hcall hr
        go_wp2_with fail
        go_quiet ((go_at_call 31; exact Calls.quiet_of_same (HC.out _)))
        go_wp2_with fail
        go_ret
        refine ⟨?_, below_drewN hbl.out _⟩
        have h := hc.out
        rw [show 5 - k = (5 - (k + 1)) + 1 by omega, cmpL, ← HX.out, ← HY.out, if_neg (by rw [← HR.out]; exact HZ.out), ← HR.out] at h
        rw [h]
        rfl
    · obtain rfl : k = 5 := by omega
      go_wp2
      go_ret
      exact ⟨by rw [hc.out]; rfl, hbl.out⟩
end Go.Proofs.Ytlmimocmllhbkaa

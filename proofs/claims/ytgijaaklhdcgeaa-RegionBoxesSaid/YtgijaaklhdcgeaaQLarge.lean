/- apportionkit.LargeRegion -/
import Derived.Test.YtgijaaklhdcgeaaQIn2
import Derived.Test.YtgijaaklhdcgeaaQTurn
import Derived.Test.YtgijaaklhdcgeaaGeo8
set_option linter.unusedSimpArgs false
set_option linter.unusedVariables false
namespace Go.Proofs.Ytgijaaklhdcgeaa
open Go.RowKit Go.Geo
attribute [local go_sem] Oper.semAt_some
def largeR (R : List (List Pt)) (a b : Nat) : Bool := decide (a < R.length) || decide (b < sumLen R)
theorem sumLen_kept {R : List (List Pt)} (hk : Kept R) : ∀ k, k ≤ R.length → sumLen (R.take k) ≤ k * 8796093022208
  | 0, _ => by simp [sumLen]
  | k + 1, h => by
    have := sumLen_kept hk k (by omega)
    have h2 := hk k (by omega)
    rw [sumLen_take (by omega)]
    omega
set_option maxRecDepth 100000 in
set_option maxHeartbeats 1000000 in
theorem LargeRegion_any (ao : Option Addr) (n cap : Nat) (R : List (List Pt)) (a b : Nat) (w : World) (h : IsRings w ao n cap R) (hk : Kept R) (ha : a ≤ 1000) (hb : b ≤ 1000000) :
    Calls Try.prog 14 #[.agg #[.slice ao n cap], .int .i64 a, .int .i64 b] w fun e w' => e = .returned (.bool (largeR R a b)) ∧ Grew w w' := by
  have HI := Lib.hid h
  have hcm := h.2.2.1
  have hnc := h.2.1
  have HL := Lib.hid h.1
  unfold maxLen at hcm
  have HK := Lib.hid hk
  obtain ⟨z, hz⟩ : ∃ z, z = largeR R a b := ⟨_, rfl⟩
  rw [← hz]
  have HZ := Lib.hid hz
  have hA : Grew w (w.alloc (.cells #[.slice ao n cap] 25)) := (Grew.refl _).alloc _
  have HA := Lib.hid hA
  have hc0 : (w.alloc (.cells #[.slice ao n cap] 25)).cell? ⟨w.heap.size, 0, none⟩ = some (.slice ao n cap) := alloc_cell _ _ _
  have hb9 : (b : Int) ≤ 1000000 := by omega
  clear h hk hz hA
  by_cases hbig : a < n
  · have hz : z = true := by rw [HZ.out]; unfold largeR; rw [HL.out, decide_eq_true hbig]; rfl
    subst hz
    have t1 : decide ((a : Int) < (n : Int)) = true := decide_eq_true (by omega)
    go_enter Try.func14, Try.ntmps14
    go_wp2_with fail
    go_loopw [7, 8] (fun s i wr => ∃ k : Nat, k ≤ n ∧ i = .int .i64 k ∧ (∃ t : Int, s = .int .i64 t) ∧ wr = w.alloc (.cells #[.slice ao n cap] 25)) (fun s i _ => n - (intOf i).toNat)
    case atStart => exact ⟨0, by omega, rfl, ⟨0, rfl⟩, rfl⟩
    case round =>
      obtain ⟨k, hk, rfl, ⟨t, rfl⟩, rfl⟩ := hrel
      by_cases hlt : k < n
      · have hi0 : (0 : Int) ≤ (k : Int) := by omega
        have hi5 : (k : Int) < (n : Int) := by omega
        obtain ⟨b, off, x, y, z, rfl, e0, hp⟩ := (HI.out.later HA.out.1 (Nat.le_refl _)).2.2.2.2 k hlt
        clear hp
        go_wp2_with fail
        go_roundw
        case rel => exact ⟨k + 1, by omega, by go_num, ⟨_, rfl⟩, by first | trivial | rfl⟩
        case measure => simp [intOf]; omega
      · obtain rfl : k = n := by omega
        have hi5 : ¬ ((k : Int) < (k : Int)) := by omega
        have hundef : ∀ b, some undef = some (Value.bool b) → False := fun b h => by injection h with h; cases h
        go_wp2_with fail
        all_goals first
          | (exfalso; exact hundef _ (by assumption))
          | (go_ret; exact ⟨rfl, HA.out⟩)
  · have t1 : decide ((a : Int) < (n : Int)) = false := decide_eq_false (by omega)
    go_enter Try.func14, Try.ntmps14
    go_wp2_with fail
    go_loopw [7, 8] (fun s i wr => ∃ k : Nat, k ≤ n ∧ i = .int .i64 k ∧ (∃ t : Nat, s = .int .i64 t ∧ Hid (t = sumLen (R.take k))) ∧ wr = w.alloc (.cells #[.slice ao n cap] 25)) (fun s i _ => n - (intOf i).toNat)
    case atStart => exact ⟨0, by omega, rfl, ⟨0, rfl, rfl⟩, rfl⟩
    case round =>
      obtain ⟨k, hk, rfl, ⟨t, rfl, ht⟩, rfl⟩ := hrel
      have htk := sumLen_kept HK.out k (by rw [HL.out]; exact hk)
      have htb : (t : Int) ≤ 8796093022208000 := by have h3 := ht.out; omega
      have ht0 : (0 : Int) ≤ (t : Int) := by omega
      clear htk
      by_cases hlt : k < n
      · have hi0 : (0 : Int) ≤ (k : Int) := by omega
        have hi5 : (k : Int) < (n : Int) := by omega
        obtain ⟨b, off, x, y, z, rfl, e0, hp⟩ := (HI.out.later HA.out.1 (Nat.le_refl _)).2.2.2.2 k hlt
        have hy : (y : Int) ≤ 8796093022208 := by
          have h1 := hp.1
          have h2 := HK.out k (by rw [HL.out]; exact hlt)
          omega
        have hy0 : (0 : Int) ≤ (y : Int) := by omega
        have HT : Hid (t + y = sumLen (R.take (k + 1))) := Lib.hid (by rw [sumLen_take (by rw [HL.out]; exact hlt), ← ht.out, hp.1])
        clear hp
        go_wp2_with fail
        go_roundw
        case rel => exact ⟨k + 1, by omega, by go_num, ⟨t + y, by go_num, HT⟩, by first | trivial | rfl⟩
        case measure => simp [intOf]; omega
      · obtain rfl : k = n := by omega
        have hi5 : ¬ ((k : Int) < (k : Int)) := by omega
        have HT : Hid (t = sumLen R) := Lib.hid (by have := ht.out; rw [List.take_of_length_le (by rw [HL.out]; exact Nat.le_refl _)] at this; exact this)
        have hundef : ∀ b, some undef = some (Value.bool b) → False := fun b h => by injection h with h; cases h
        by_cases h2 : b < t
        · have t2 : decide ((b : Int) < (t : Int)) = true := decide_eq_true (by omega)
          have hzz : z = true := by rw [HZ.out]; unfold largeR; rw [← HT.out, decide_eq_true h2, Bool.or_true]
          subst hzz
          go_wp2_with fail
          go_ret
          exact ⟨rfl, HA.out⟩
        · have t2 : decide ((b : Int) < (t : Int)) = false := decide_eq_false (by omega)
          have hzz : z = false := by rw [HZ.out]; unfold largeR; rw [← HT.out, decide_eq_false h2, HL.out, decide_eq_false hbig]; rfl
          subst hzz
          go_wp2_with fail
          go_ret
          exact ⟨rfl, HA.out⟩
end Go.Proofs.Ytgijaaklhdcgeaa

/- layer 27's statements: long -/
import Derived.Test.YtmpjjkfbojhfoaaDActs
namespace Go.Proofs.Ytmpjjkfbojhfoaa
open Go.RowKit
/-- how many bytes the first calls have. -/
def sumA (X : List ActV) (k : Nat) : Nat := ((X.take k).map (·.bn)).sum
theorem sumA_succ {X : List ActV} {k : Nat} (h : k < X.length) : sumA X (k + 1) = sumA X k + (X.getD k act0).bn := by
  unfold sumA
  rw [List.take_succ_eq_append_getElem h, List.map_append, List.sum_append, List.getD_eq_getElem?_getD, List.getElem?_eq_getElem h]
  simp
/-- a call's names and numbers are not too long. -/
def ActV.fits (x : ActV) : Prop := x.nm.size ≤ 100 ∧ x.to.size ≤ 100 ∧ x.kn ≤ 100
/-- what 'long' tells: 'no' says that nothing is too long. -/
def LongR (X : List ActV) (n : Nat) (w : World) (e : Ending) (w' : World) : Prop := ∃ r, e = .returned (.bool r) ∧ (r = false → n ≤ 100 ∧ sumA X n ≤ 3000 ∧ ∀ i, i < n → (X.getD i act0).fits) ∧ w = w'
theorem LongR.yes {X : List ActV} {n : Nat} {w : World} : LongR X n w (.returned (.bool true)) w := ⟨true, rfl, (fun h => by cases h), rfl⟩
theorem LongR.no {X : List ActV} {n : Nat} {w : World} (h : n ≤ 100 ∧ sumA X n ≤ 3000 ∧ ∀ i, i < n → (X.getD i act0).fits) : LongR X n w (.returned (.bool false)) w := ⟨false, rfl, (fun _ => h), rfl⟩
set_option maxRecDepth 100000 in
set_option maxHeartbeats 1000000 in
theorem long_any (ao : Option Addr) (n cap : Nat) (X : List ActV) (w : World) (hX : IsActs w ao n cap X) (hs : ∀ k, k ≤ n → k ≤ 101 → sumA X k ≤ 9223372036854775807) :
    Calls Try.prog 31 #[.slice ao n cap] w fun e w' => LongR X n w e w' := by
  have hn1 := hX.2.1
  have hc1 := hX.2.2.1
  unfold maxLen at hc1
  have HX := Lib.hid hX
  have HS := Lib.hid hs
  clear hX hs
  go_enter Try.func31, Try.ntmps31
  go_wp2_with fail
  go_loopw [3, 4] (fun s i wr => ∃ k : Nat, k ≤ n ∧ k ≤ 101 ∧ i = .int .i64 k ∧ s = .int .i64 ((sumA X k : Nat) : Int) ∧ Hid (∀ i, i < k → (X.getD i act0).fits) ∧ w = wr) (fun _ i _ => 101 - (intOf i).toNat)
  case atStart => exact ⟨0, by omega, by omega, rfl, rfl, Lib.hid (fun i hi => absurd hi (by omega)), rfl⟩
  case round =>
    obtain ⟨k, hk, hk1, rfl, rfl, hfit, rfl⟩ := hrel
    by_cases hlt : k < n
    · have hi0 : (0 : Int) ≤ (k : Int) := by omega
      have hi1 : (k : Int) < (n : Int) := by omega
      by_cases h101 : (k : Int) < 101
      · obtain ⟨b, off, rfl, hcs⟩ := HX.out.2.2.2 (by omega)
        obtain ⟨hcell, hok⟩ := hcs k hlt
        have hstep := sumA_succ (X := X) (k := k) (by rw [HX.out.1]; exact hlt)
        have hle := HS.out (k + 1) (by omega) (by omega)
        have HFT : Hid ((X.getD k act0).nm.size ≤ 100 → (X.getD k act0).to.size ≤ 100 → (X.getD k act0).kn ≤ 100 → ∀ i, i < k + 1 → (X.getD i act0).fits) := Lib.hid (fun q1 q2 q3 i hi => by
          by_cases h : i < k
          · exact hfit.out i h
          · obtain rfl : i = k := by omega
            exact ⟨q1, q2, q3⟩)
        have hKn := hok.K.2.1
        have hKc := hok.K.2.2.1
        have hBn := hok.B.2.1
        have hBc := hok.B.2.2.1
        have hnm := hok.nm
        have hto := hok.to
        obtain ⟨x, hx⟩ : ∃ x, x = X.getD k act0 := ⟨_, rfl⟩
        rw [← hx] at hcell hstep HFT hKn hKc hBn hBc hnm hto
        clear hok hcs hx
        obtain ⟨xk, xs, nm, to, ba, bn, bc, B, ka, kn, kc, K⟩ := x
        unfold maxLen at hKc hBc hnm hto
        dsimp only at hKn hKc hBn hBc hnm hto hstep HFT
        have g2 : w.cell? ⟨b, off + k * 6 + 2, none⟩ = some (.string nm) := hcell 2 (by omega)
        have g3 : w.cell? ⟨b, off + k * 6 + 3, none⟩ = some (.string to) := hcell 3 (by omega)
        have g4 : w.cell? ⟨b, off + k * 6 + 4, none⟩ = some (.slice ba bn bc) := hcell 4 (by omega)
        have g5 : w.cell? ⟨b, off + k * 6 + 5, none⟩ = some (.slice ka kn kc) := hcell 5 (by omega)
        have hw : IntKind.i64.wrap (((sumA X k : Nat) : Int) + (bn : Int)) = ((sumA X k : Nat) : Int) + (bn : Int) := IntWalk.i64_in _ (by omega)
        have HST := Lib.hid hstep
        clear hcell hstep hle
        by_cases q1 : (100 : Int) < (nm.size : Int)
        · go_wp2_with fail
          go_ret
          exact LongR.yes
        by_cases q2 : (100 : Int) < (to.size : Int)
        · go_wp2_with fail
          go_ret
          exact LongR.yes
        by_cases q3 : (100 : Int) < (kn : Int)
        · go_wp2_with fail
          go_ret
          exact LongR.yes
        go_wp2_with fail
        go_roundw
        case rel => exact ⟨k + 1, by omega, by omega, by go_num, by rw [HST.out]; push_cast; rfl, Lib.hid (HFT.out (by omega) (by omega) (by omega)), trivial⟩
        case measure => simp [intOf]; omega
      · have hn : (100 : Int) < (n : Int) := by omega
        go_wp2_with fail
        go_ret
        exact LongR.yes
    · obtain rfl : k = n := by omega
      by_cases hn : (100 : Int) < (k : Int)
      · go_wp2_with fail
        go_ret
        exact LongR.yes
      · obtain ⟨sm, hsm⟩ : ∃ sm, sm = sumA X k := ⟨_, rfl⟩
        rw [← hsm]
        have HSM := Lib.hid hsm
        clear hsm
        by_cases h3 : (3000 : Int) < (sm : Int)
        · go_wp2_with fail
          go_ret
          exact LongR.yes
        · go_wp2_with fail
          go_ret
          exact LongR.no ⟨by omega, by rw [← HSM.out]; omega, hfit.out⟩
end Go.Proofs.Ytmpjjkfbojhfoaa

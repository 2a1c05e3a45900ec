/- the reference's disk: name -/
import Derived.Test.YtmpjjkfbojhfoaaDOpen
namespace Go.Proofs.Ytmpjjkfbojhfoaa
open Go.RowKit
set_option maxRecDepth 100000 in
theorem rname_any (nm : ByteArray) (w : World) (hnm : nm.size ≤ 1099511627776) : Calls Try.prog 50 #[.string nm] w fun e w' => e = .returned (.bool (nameP nm.data.toList)) ∧ w = w' := by
  go_enter Try.func50, Try.ntmps50
  go_wp2
  go_loopw [3] (fun i wr => ∃ k : Nat, k ≤ nm.size ∧ i = .int .i64 k ∧ Hid (∀ j (hj : j < nm.size), j < k → 33 ≤ (nm[j]'hj).toNat ∧ (nm[j]'hj).toNat ≤ 126) ∧ w = wr) (fun i _ => nm.size - (intOf i).toNat)
  case atStart => exact ⟨0, by omega, rfl, Lib.hid (fun j hj h => absurd h (by omega)), rfl⟩
  case round =>
    obtain ⟨k, hk, rfl, hall, rfl⟩ := hrel
    by_cases hlt : k < nm.size
    · have hk0 : (0 : Int) ≤ (k : Int) := by omega
      have hk1 : (k : Int) < (nm.size : Int) := by omega
      by_cases hr1 : ((nm[k].toNat : Nat) : Int) < 33
      · have hbad := Lib.hid (name_bad hlt (.inl (by omega)))
        go_wp2
        go_ret
        exact ⟨by rw [hbad.out]; rfl, rfl⟩
      by_cases hr2 : (126 : Int) < ((nm[k].toNat : Nat) : Int)
      · have hbad := Lib.hid (name_bad hlt (.inr (by omega)))
        go_wp2
        go_ret
        exact ⟨by rw [hbad.out]; rfl, rfl⟩
      go_wp2
      go_roundw
      case rel =>
        refine ⟨k + 1, by omega, by go_num, Lib.hid (fun j hj h => ?_), trivial⟩
        by_cases hjk : j < k
        · exact hall.out j hj hjk
        · obtain rfl : j = k := by omega
          omega
      case measure => simp [intOf]; omega
    · obtain rfl : k = nm.size := by omega
      have HF := Lib.hid (name_fit (fun j hj => hall.out j hj hj))
      by_cases h1 : (1 : Int) ≤ (nm.size : Int)
      · by_cases h2 : (nm.size : Int) ≤ 64
        · go_wp2
          go_ret
          exact ⟨by rw [HF.out]; simp; omega, rfl⟩
        · go_wp2
          go_ret
          exact ⟨by rw [HF.out]; simp; omega, rfl⟩
      · go_wp2
        go_ret
        exact ⟨by rw [HF.out]; simp; omega, rfl⟩
end Go.Proofs.Ytmpjjkfbojhfoaa

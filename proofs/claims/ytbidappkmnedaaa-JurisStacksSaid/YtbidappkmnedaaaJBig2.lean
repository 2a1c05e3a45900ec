/- apportionkit.BigJuris: 'no' says that all is small -/
import Derived.Test.YtbidappkmnedaaaJIn3
import Derived.Test.YtbidappkmnedaaaJCopyJ
namespace Go.Proofs.Ytbidappkmnedaaa
open Go.RowKit
/-- not more rings than z, none longer. -/
def AllLe (R : List (List (Int × Int))) (z : Int) : Prop := (R.length : Int) ≤ z ∧ ∀ j, j < R.length → ((R.getD j []).length : Int) ≤ z
theorem AllLe.mono {R : List (List (Int × Int))} {y z : Int} (h : AllLe R y) (hz : y ≤ z) : AllLe R z := ⟨by have := h.1; omega, fun j hj => by have := h.2 j hj; omega⟩
theorem AllLe.small {R : List (List (Int × Int))} {z : Int} (h : AllLe R z) (hz : z ≤ 400) : Small R := ⟨by have := h.1; omega, fun j hj => by have := h.2 j hj; omega⟩
/-- some answer; 'no': not more than q, and small. -/
def BigS (q : Int) (n : Nat) (RR : List (List (List (Int × Int)))) (e : Ending) : Prop := ∃ b, e = .returned (.bool b) ∧ (b = false → (n : Int) ≤ q ∧ ∀ i, i < n → Small (RR.getD i []))
set_option maxRecDepth 100000 in
set_option maxHeartbeats 1000000 in
theorem BigJuris2_any (ao : Option Addr) (n cap : Nat) (L : List Jur) (RR : List (List (List (Int × Int)))) (q : Int) (w : World) (h : IsJurs w ao n cap L) (hd : JursD w L RR) (hkp : ∀ i, i < n → Kept (RR.getD i [])) :
    Calls Try.prog 8 #[.slice ao n cap, .int .i64 q] w fun e w' => BigS q n RR e ∧ w = w' := by
  have hnc := h.2.1
  have hcm := h.2.2.1
  unfold maxLen at hcm
  have HL : Hid (L.length = n) := h.1
  have HJ := Lib.hid h
  have HD := Lib.hid hd
  have HK := Lib.hid hkp
  clear h hd hkp
  go_enter Try.func8, Try.ntmps8
  go_wp2
  go_loop [5, 6] (fun sm i => ∃ (k : Nat) (z : Int), k ≤ n ∧ i = .int .i64 k ∧ sm = .int .i64 z ∧ 0 ≤ z ∧ Hid (z ≤ 400 → ∀ i, i < k → AllLe (RR.getD i []) z)) (fun _ i => n - (intOf i).toNat)
  case atStart => exact ⟨0, 0, by omega, rfl, rfl, by omega, fun _ i hi => absurd hi (by omega)⟩
  case round =>
    obtain ⟨k, z, hk, rfl, rfl, hz0, hall⟩ := hrel
    by_cases hgo : k < n ∧ z ≤ 400
    · obtain ⟨hlt, hz⟩ := hgo
      have hk0 : (0 : Int) ≤ (k : Int) := by omega
      have hk1 : (k : Int) < (n : Int) := by omega
      obtain ⟨b, off, rfl, hcs⟩ := HJ.out.2.2.2.1 (by omega)
      obtain ⟨c, hc⟩ : ∃ c, c = L.getD k j0 := ⟨_, rfl⟩
      have e4 := hcs k hlt 4 (by omega)
      have hrk := HD.out k (by rw [HL.out]; exact hlt)
      rw [← hc] at e4 hrk
      obtain ⟨d1, d2, d3, d4, ra, rn, rc⟩ := c
      change w.cell? ⟨b, off + k * 5 + 4, none⟩ = some (.slice ra rn rc) at e4
      dsimp only at hrk
      obtain ⟨R, hR⟩ : ∃ R, R = RR.getD k [] := ⟨_, rfl⟩
      rw [← hR] at hrk
      have hrl := hrk.1
      have hrn : rn ≤ 9223372036854775807 := by have h1 := hrk.2.1; have h2 := hrk.2.2.1; unfold maxLen at h2; omega
      have HRK := Lib.hid hrk
      have HRL := Lib.hid hrl
      have HRE := Lib.hid hR
      have HKR : Hid (Kept R) := by rw [hR]; exact HK.out k hlt
      have HZ := Lib.hid (hall.out hz)
      clear hcs hc hrk hrl hR
      go_wp2_with fail
      go_loop [5, 7] (fun sm i => ∃ (p : Nat) (y : Int), p ≤ rn ∧ i = .int .i64 p ∧ sm = .int .i64 y ∧ z ≤ y ∧ (p : Int) ≤ y ∧ Hid (∀ j, j < p → ((R.getD j []).length : Int) ≤ y)) (fun _ i => rn - (intOf i).toNat)
      case atStart => exact ⟨0, z, by omega, rfl, rfl, by omega, by omega, fun j hj => absurd hj (by omega)⟩
      case round =>
        obtain ⟨p, y, hp, rfl, rfl, hzy, hpy, hys⟩ := hrel
        by_cases hgo2 : p < rn ∧ y ≤ 400
        · obtain ⟨hlt2, hy⟩ := hgo2
          have hp0 : (0 : Int) ≤ (p : Int) := by omega
          have hp1 : (p : Int) < (rn : Int) := by omega
          obtain ⟨b2, off2, x1, y1, z1, rfl, hc2, hpt⟩ := HRK.out.2.2.2.2 p hlt2
          have hln : y1 ≤ 8796093022208 := by rw [← hpt.1]; exact HKR.out p (by rw [HRL.out]; exact hlt2)
          have HLN := Lib.hid hpt.1
          have hy0 : 0 ≤ y := by omega
          have hw1 : IntKind.i64.wrap (y + 1) = y + 1 := IntWalk.i64_in _ (by omega)
          have hw2 : IntKind.i64.wrap (y + 1 + (y1 : Int)) = y + 1 + (y1 : Int) := IntWalk.i64_in _ (by omega)
          clear hpt
          go_wp2_with fail
          go_round
          case rel =>
            refine ⟨p + 1, y + 1 + (y1 : Int), by omega, by go_num, rfl, by omega, by omega, fun j hj => ?_⟩
            by_cases hjp : j < p
            · have := hys.out j hjp; omega
            · obtain rfl : j = p := by omega
              rw [HLN.out]; omega
          case measure => simp [intOf]; omega
        · by_cases hp2 : p < rn
          · have hy : ¬ y ≤ 400 := by omega
            go_wp2_with fail
            go_round
            case rel => exact ⟨k + 1, y, by omega, by go_num, rfl, by omega, fun h => absurd h hy⟩
            case measure => simp [intOf]; omega
          · have hfin : Hid (∀ i, i < k + 1 → AllLe (RR.getD i []) y) := Lib.hid fun i hi => by
              by_cases hik : i < k
              · exact (HZ.out i hik).mono hzy
              · obtain rfl : i = k := by omega
                rw [← HRE.out]
                have hl := HRL.out
                exact ⟨by omega, fun j hj => hys.out j (by omega)⟩
            go_wp2_with fail
            go_round
            case rel => exact ⟨k + 1, y, by omega, by go_num, rfl, by omega, fun _ => hfin.out⟩
            case measure => simp [intOf]; omega
    · by_cases hq : q < (n : Int)
      · by_cases hk2 : k < n
        · have hz : ¬ z ≤ 400 := by omega
          go_wp2_with fail
          go_ret
          exact ⟨⟨_, rfl, fun h => by cases h⟩, rfl⟩
        · go_wp2_with fail
          go_ret
          exact ⟨⟨_, rfl, fun h => by cases h⟩, rfl⟩
      · by_cases hk2 : k < n
        · have hz : ¬ z ≤ 400 := by omega
          have hzb : 400 < z := by omega
          go_wp2_with fail
          go_ret
          exact ⟨⟨true, rfl, fun h => by cases h⟩, rfl⟩
        · by_cases hz : 400 < z
          · go_wp2_with fail
            go_ret
            exact ⟨⟨true, rfl, fun h => by cases h⟩, rfl⟩
          · have HFA := Lib.hid (hall.out (by omega))
            have hkn : k = n := by omega
            have HKN := Lib.hid hkn
            go_wp2_with fail
            go_ret
            exact ⟨⟨false, rfl, fun _ => ⟨by omega, fun i hi => (HFA.out i (by rw [HKN.out]; exact hi)).small (by omega)⟩⟩, rfl⟩
end Go.Proofs.Ytbidappkmnedaaa

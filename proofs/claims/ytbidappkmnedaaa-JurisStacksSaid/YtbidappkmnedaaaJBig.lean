/- apportionkit.BigJuris: it answers -/
import Derived.Test.YtbidappkmnedaaaJCheck
namespace Go.Proofs.Ytbidappkmnedaaa
open Go.RowKit
/-- a slice of rings: each is a slice. -/
def RingsOk (w : World) (ao : Option Addr) (n : Nat) : Prop := n ≤ 9223372036854775807 ∧ ∀ k, k < n → ∃ b off x y z, ao = some ⟨b, off, none⟩ ∧ w.cell? ⟨b, off + k, none⟩ = some (.slice x y z)
theorem RingsOk.grew {w w' : World} {ao : Option Addr} {n : Nat} (h : RingsOk w ao n) (hg : Grew w w') : RingsOk w' ao n := by
  refine ⟨h.1, fun k hk => ?_⟩
  obtain ⟨b, off, x, y, z, e, hc⟩ := h.2 k hk
  exact ⟨b, off, x, y, z, e, hg.cell hc⟩
/-- the jurisdictions' regions are there. -/
def JursR (w : World) (L : List Jur) : Prop := ∀ i, i < L.length → RingsOk w (L.getD i j0).ra (L.getD i j0).rn
theorem JursR.grew {w w' : World} {L : List Jur} (h : JursR w L) (hg : Grew w w') : JursR w' L := fun i hi => (h i hi).grew hg
/-- some answer; 'no' if there are not more than q. -/
def BigR (q : Int) (n : Nat) (e : Ending) : Prop := ∃ b, e = .returned (.bool b) ∧ (b = false → (n : Int) ≤ q)
set_option maxRecDepth 100000 in
set_option maxHeartbeats 1000000 in
theorem BigJuris_any (ao : Option Addr) (n cap : Nat) (L : List Jur) (q : Int) (w : World) (h : IsJurs w ao n cap L) (hr : JursR w L) :
    Calls Try.prog 8 #[.slice ao n cap, .int .i64 q] w fun e w' => BigR q n e ∧ w = w' := by
  have hnc := h.2.1
  have hcm := h.2.2.1
  unfold maxLen at hcm
  have HL : Hid (L.length = n) := h.1
  have HJ := Lib.hid h
  have HR := Lib.hid hr
  clear h hr
  go_enter Try.func8, Try.ntmps8
  go_wp2
  go_loop [5, 6] (fun sm i => ∃ (k : Nat) (z : Int), k ≤ n ∧ i = .int .i64 k ∧ sm = .int .i64 z) (fun _ i => n - (intOf i).toNat)
  case atStart => exact ⟨0, 0, by omega, rfl, rfl⟩
  case round =>
    obtain ⟨k, z, hk, rfl, rfl⟩ := hrel
    by_cases hgo : k < n ∧ z ≤ 400
    · obtain ⟨hlt, hz⟩ := hgo
      have hk0 : (0 : Int) ≤ (k : Int) := by omega
      have hk1 : (k : Int) < (n : Int) := by omega
      obtain ⟨b, off, rfl, hcs⟩ := HJ.out.2.2.2.1 (by omega)
      obtain ⟨c, hc⟩ : ∃ c, c = L.getD k j0 := ⟨_, rfl⟩
      have e4 := hcs k hlt 4 (by omega)
      have hrk := HR.out k (by rw [HL.out]; exact hlt)
      rw [← hc] at e4 hrk
      obtain ⟨d1, d2, d3, d4, ra, rn, rc⟩ := c
      change w.cell? ⟨b, off + k * 5 + 4, none⟩ = some (.slice ra rn rc) at e4
      dsimp only at hrk
      have hrn := hrk.1
      have HRK := Lib.hid hrk
      clear hcs hc hrk
      go_wp2_with fail
      go_loop [5, 7] (fun sm i => ∃ (p : Nat) (y : Int), p ≤ rn ∧ i = .int .i64 p ∧ sm = .int .i64 y) (fun _ i => rn - (intOf i).toNat)
      case atStart => exact ⟨0, z, by omega, rfl, rfl⟩
      case round =>
        obtain ⟨p, y, hp, rfl, rfl⟩ := hrel
        by_cases hgo2 : p < rn ∧ y ≤ 400
        · obtain ⟨hlt2, hy⟩ := hgo2
          have hp0 : (0 : Int) ≤ (p : Int) := by omega
          have hp1 : (p : Int) < (rn : Int) := by omega
          obtain ⟨b2, off2, x1, y1, z1, rfl, hc2⟩ := HRK.out.2 p hlt2
          go_wp2_with fail
          go_round
          case rel => exact ⟨p + 1, _, by omega, by go_num, rfl⟩
          case measure => simp [intOf]; omega
        · by_cases hp2 : p < rn
          · have hy : ¬ y ≤ 400 := by omega
            go_wp2_with fail
            go_round
            case rel => exact ⟨k + 1, y, by omega, by go_num, rfl⟩
            case measure => simp [intOf]; omega
          · go_wp2_with fail
            go_round
            case rel => exact ⟨k + 1, y, by omega, by go_num, rfl⟩
            case measure => simp [intOf]; omega
    · by_cases hq : q < (n : Int)
      · by_cases hk2 : k < n
        · have hz : ¬ z ≤ 400 := by omega
          go_wp2_with fail
          go_ret
          exact ⟨⟨_, rfl, fun h => by cases h⟩, rfl⟩
        · go_wp2_with fail
          go_ret
          exact ⟨⟨_, rfl, fun h => by cases h⟩, rfl⟩
      · by_cases hk2 : k < n
        · have hz : ¬ z ≤ 400 := by omega
          go_wp2_with fail
          go_ret
          exact ⟨⟨_, rfl, fun _ => by omega⟩, rfl⟩
        · by_cases hz : 400 < z
          · go_wp2_with fail
            go_ret
            exact ⟨⟨_, rfl, fun _ => by omega⟩, rfl⟩
          · go_wp2_with fail
            go_ret
            exact ⟨⟨_, rfl, fun _ => by omega⟩, rfl⟩
end Go.Proofs.Ytbidappkmnedaaa

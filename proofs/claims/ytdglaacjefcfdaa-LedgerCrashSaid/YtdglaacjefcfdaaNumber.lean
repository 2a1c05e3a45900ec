/- frame.number, frame.word, walked -/
import Derived.Test.YtdglaacjefcfdaaSum
namespace Go.Proofs.Ytdglaacjefcfdaa
open Go.RowKit
/-- the first k bytes of four as a number. -/
def numK (l : List UInt8) : Nat → Nat
  | 0 => 0
  | k + 1 => numK l k + 256 ^ k * (l.getD k 0).toNat
theorem numK_lt (l : List UInt8) (k : Nat) : numK l k < 256 ^ k := by
  induction k with
  | zero => simp [numK]
  | succ k ih =>
    have := (l.getD k 0).toNat_lt
    have h2 : 256 ^ k * (l.getD k 0).toNat ≤ 256 ^ k * 255 := Nat.mul_le_mul_left _ (by omega)
    rw [Nat.pow_succ]; unfold numK; omega
theorem numK_four (l : List UInt8) (h : 4 ≤ l.length) : numK l 4 = Fr.num4 l := by
  match l, h with
  | a :: b :: c :: d :: _, _ => simp [numK, Fr.num4]
theorem or_byte (x c m : Nat) (hx : x < 2 ^ m) : x ||| c * 2 ^ m = x + 2 ^ m * c := by
  rw [Nat.or_comm, nat_join m (c * 2 ^ m) x (by simp) hx, Nat.mul_comm, Nat.add_comm]
set_option maxRecDepth 100000 in
set_option maxHeartbeats 400000 in
theorem number_any (ao : Option Addr) (n cap : Nat) (l : List UInt8) (w : World) (hs : IsBytes w ao n cap l) (h4 : 4 ≤ n) :
    Calls Try.prog 57 #[.slice ao n cap] w fun e w' => e = .returned (.int .u32 (Fr.num4 l : Int)) ∧ w = w' := by
  obtain ⟨hl, hnc, hcm, hat, _⟩ := hs
  unfold maxLen at hcm
  obtain ⟨b, off, rfl, hat2⟩ := hat (by intro h; rw [h] at hl; simp at hl; omega)
  have HL := Lib.hid hl
  clear hl hat
  have hp : (4 : Int) ≤ (n : Int) := by omega
  go_enter Try.func57, Try.ntmps57
  go_wp2
  go_loop [3, 4, 5] (fun s _ i => ∃ k : Nat, k ≤ 4 ∧ i = .int .i64 k ∧ s = .int .u32 (numK l k : Int)) (fun _ _ i => 4 - (intOf i).toNat)
  case atStart => exact ⟨0, by omega, rfl, by simp [numK]⟩
  case round =>
    obtain ⟨k, hk, rfl, rfl⟩ := hrel
    by_cases hlt : k < 4
    · have hcell : w.cell? ⟨b, off + k, none⟩ = some (.int .u8 ((l.getD k 0).toNat : Int)) := hat2 k (by have := HL.out; omega)
      have hx := numK_lt l k
      have hn : numK l (k + 1) = numK l k + 256 ^ k * (l.getD k 0).toNat := rfl
      obtain ⟨x, hxd⟩ : ∃ x, x = numK l k := ⟨_, rfl⟩
      obtain ⟨c, hcd⟩ : ∃ c, c = l.getD k 0 := ⟨_, rfl⟩
      rw [← hxd] at hx hn ⊢
      rw [← hcd] at hcell hn
      have hcl := c.toNat_lt
      have HN := Lib.hid hn
      have HX := Lib.hid hxd
      have HC := Lib.hid hcd
      clear hn hxd hcd hat2
      have hfin : ∀ m, 256 ^ k = 2 ^ m → m ≤ 24 → bits .or .u32 (x : Int) ((c.toNat : Int) * 2 ^ m) = (numK l (k + 1) : Int) := by
        intro m hm hm24
        have h256 : c.toNat * 2 ^ m ≤ 255 * 2 ^ 24 := Nat.mul_le_mul (by omega) (Nat.pow_le_pow_right (by omega) hm24)
        have hx2 : x < 2 ^ m := by rw [← hm]; exact hx
        have hx3 : (2 : Nat) ^ m ≤ 2 ^ 24 := Nat.pow_le_pow_right (by omega) hm24
        have e : ((c.toNat : Int) * 2 ^ m) = ((c.toNat * 2 ^ m : Nat) : Int) := by push_cast; rfl
        rw [e, u32_or_nat _ _ (by omega) (by omega), HN.out, hm, or_byte _ _ _ hx2]
      have hk4 : k = 0 ∨ k = 1 ∨ k = 2 ∨ k = 3 := by omega
      have HF := Lib.hid hfin
      clear hfin hx
      rcases hk4 with rfl | rfl | rfl | rfl
      · rw [Nat.add_zero] at hcell
        go_wp2
        go_round
        case rel =>
          have hq : bits .or .u32 (x : Int) (c.toNat : Int) = (numK l (0 + 1) : Int) := by have := HF.out 0 (by decide) (by omega); simpa using this
          exact ⟨0 + 1, by omega, rfl, by rw [hq]⟩
        case measure => simp [intOf]
      · go_wp2
        go_round
        case rel =>
          have hq : bits .or .u32 (x : Int) ((c.toNat : Int) * 256) = (numK l (1 + 1) : Int) := by have := HF.out 8 (by decide) (by omega); simpa using this
          exact ⟨1 + 1, by omega, rfl, by rw [hq]⟩
        case measure => simp [intOf]
      · go_wp2
        go_round
        case rel =>
          have hq : bits .or .u32 (x : Int) ((c.toNat : Int) * 65536) = (numK l (2 + 1) : Int) := by have := HF.out 16 (by decide) (by omega); simpa using this
          exact ⟨2 + 1, by omega, rfl, by rw [hq]⟩
        case measure => simp [intOf]
      · go_wp2
        go_round
        case rel =>
          have hq : bits .or .u32 (x : Int) ((c.toNat : Int) * 16777216) = (numK l (3 + 1) : Int) := by have := HF.out 24 (by decide) (by omega); simpa using this
          exact ⟨3 + 1, by omega, rfl, by rw [hq]⟩
        case measure => simp [intOf]
    · obtain rfl : k = 4 := by omega
      go_wp2
      go_ret
      exact ⟨by rw [numK_four l (by have := HL.out; omega)]; rfl, rfl⟩
end Go.Proofs.Ytdglaacjefcfdaa

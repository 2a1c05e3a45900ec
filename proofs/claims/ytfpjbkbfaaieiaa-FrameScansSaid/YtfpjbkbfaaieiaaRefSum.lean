/- apportionref06: Sum, word, number, Put -/
import Derived.Test.YtfpjbkbfaaieiaaPut
namespace Go.Proofs.Ytfpjbkbfaaieiaa
open Go.RowKit
/-- k bits of a byte through the register. -/
def bitK (s : BitVec 32) (c : BitVec 8) (k : Nat) : BitVec 32 := Fr.rbs s (Fr.bitsN k (c.setWidth 32))
theorem bitK_succ (s : BitVec 32) (c : BitVec 8) (k : Nat) : bitK s c (k + 1) = Fr.rb (bitK s c k) ((c.setWidth 32).getLsbD k) := by
  unfold bitK
  rw [Fr.bitsN_succ, Fr.rbs_append]; rfl
theorem bitK_all (s : BitVec 32) (c : BitVec 8) : bitK s c 8 = Fr.bs s c := (Fr.bs_bits s c).symm
theorem rb_val (s : BitVec 32) (b : Bool) : Fr.rb s b = if s.getLsbD 0 != b then (s >>> 1) ^^^ 0xEDB88320#32 else s >>> 1 := by
  unfold Fr.rb Fr.f1
  have h0 : (s ^^^ Fr.b01 b).getLsbD 0 = (s.getLsbD 0 != b) := by
    rw [BitVec.getLsbD_xor, Fr.b01_bit]
    cases s.getLsbD 0 <;> cases b <;> rfl
  have h1 : (s ^^^ Fr.b01 b) >>> 1 = s >>> 1 := by
    apply BitVec.eq_of_getLsbD_eq
    intro i hi
    rw [BitVec.getLsbD_ushiftRight, BitVec.getLsbD_ushiftRight, BitVec.getLsbD_xor, Fr.b01_bit]
    simp
  rw [h0, h1]
theorem bit_of (s : BitVec 32) : s.getLsbD 0 = decide (s.toNat % 2 = 1) := by
  show s.toNat.testBit 0 = _
  rw [Nat.testBit_zero]
theorem bit_of8 (c : UInt8) (k : Nat) (hk : k < 8) : (c.toBitVec.setWidth 32).getLsbD k = decide (c.toNat / 2 ^ k % 2 = 1) := by
  rw [BitVec.getLsbD_setWidth]
  simp only [show k < 32 by omega, decide_true, Bool.true_and]
  show c.toNat.testBit k = _
  rw [Nat.testBit_eq_decide_div_mod_eq]
theorem rb_num (s : BitVec 32) (c : UInt8) (k : Nat) (hk : k < 8) :
    ((s.toNat % 2 = c.toNat / 2 ^ k % 2) → (((Fr.rb s ((c.toBitVec.setWidth 32).getLsbD k)).toNat : Nat) : Int) = (s.toNat : Int) / 2) ∧
    (¬ (s.toNat % 2 = c.toNat / 2 ^ k % 2) → (((Fr.rb s ((c.toBitVec.setWidth 32).getLsbD k)).toNat : Nat) : Int) = bits .xor .u32 ((s.toNat : Int) / 2) 3988292384) := by
  have hs := s.isLt
  have e3 : (s >>> 1).toNat = s.toNat / 2 := by rw [BitVec.toNat_ushiftRight, Nat.shiftRight_eq_div_pow]
  rw [rb_val, bit_of, bit_of8 c k hk]
  refine ⟨fun h => ?_, fun h => ?_⟩
  · rw [h]; simp [e3]
  · have hne : (decide (s.toNat % 2 = 1) != decide (c.toNat / 2 ^ k % 2 = 1)) = true := by
      rw [bne_iff_ne]
      intro h2
      apply h
      by_cases h1 : s.toNat % 2 = 1
      · simp [h1] at h2; omega
      · simp [h1] at h2; omega
    rw [hne, if_pos rfl, BitVec.toNat_xor, e3]
    have e2 : ((s.toNat : Int) / 2) = ((s.toNat / 2 : Nat) : Int) := by omega
    rw [e2, show (3988292384 : Int) = ((3988292384 : Nat) : Int) from rfl, u32_xor_nat _ _ (by omega) (by omega)]
    rfl
set_option maxRecDepth 100000 in
set_option maxHeartbeats 1000000 in
theorem RefSum_any (ao : Option Addr) (n cap : Nat) (l : List UInt8) (w : World) (hs : IsBytes w ao n cap l) :
    Calls Try.prog 16 #[.slice ao n cap] w fun e w' => e = .returned (.int .u32 ((Fr.sumB l).toNat : Int)) ∧ w = w' := by
  obtain ⟨hl, hnc, hcm, hat, _⟩ := hs
  unfold maxLen at hcm
  have HL := Lib.hid hl
  have HAT := Lib.hid hat
  clear hl hat
  go_enter Try.func16, Try.ntmps16
  go_wp2
  go_loop [3, 4, 5, 6] (fun s i _ _ => ∃ k : Nat, k ≤ n ∧ i = .int .i64 k ∧ s = .int .u32 ((Fr.crcL (BitVec.allOnes 32) (Fr.bv (l.take k))).toNat : Int)) (fun _ i _ _ => n - (intOf i).toNat)
  case atStart => exact ⟨0, by omega, rfl, by simp [Fr.crcL, Fr.bv]⟩
  case round =>
    obtain ⟨k, hk, rfl, rfl⟩ := hrel
    by_cases hlt : k < n
    · obtain ⟨b, off, rfl, hat2⟩ := HAT.out (by intro h; have := HL.out; rw [h] at this; simp at this; omega)
      have hcell : w.cell? ⟨b, off + k, none⟩ = some (.int .u8 ((l.getD k 0).toNat : Int)) := hat2 k (by have := HL.out; omega)
      have hsucc := crcL_succ l k (BitVec.allOnes 32) (by have := HL.out; omega)
      obtain ⟨s, hsd⟩ : ∃ s, s = Fr.crcL (BitVec.allOnes 32) (Fr.bv (l.take k)) := ⟨_, rfl⟩
      rw [← hsd] at hsucc ⊢
      obtain ⟨c, hc⟩ : ∃ c, c = l.getD k 0 := ⟨_, rfl⟩
      rw [← hc] at hsucc hcell
      have hcl := c.toNat_lt
      have hcl : c.toNat < 256 := hcl
      have hsl := s.isLt
      have HSS := Lib.hid hsucc
      have HSD := Lib.hid hsd
      have HC := Lib.hid hc
      clear hsucc hsd hc hat2
      go_wp2
      go_loop [3, 5, 6] (fun x j _ => ∃ m : Nat, m ≤ 8 ∧ j = .int .i64 m ∧ x = .int .u32 ((bitK s c.toBitVec m).toNat : Int)) (fun _ j _ => 8 - (intOf j).toNat)
      case atStart => exact ⟨0, by omega, rfl, by simp [bitK, Fr.bitsN, Fr.rbs]⟩
      case round =>
        obtain ⟨m, hm, rfl, rfl⟩ := hrel
        by_cases hlt2 : m < 8
        · have hnum := rb_num (bitK s c.toBitVec m) c m hlt2
          rw [← bitK_succ] at hnum
          obtain ⟨x, hxd⟩ : ∃ x, x = bitK s c.toBitVec m := ⟨_, rfl⟩
          rw [← hxd] at hnum ⊢
          have hxl := x.isLt
          have HN := Lib.hid hnum
          have HXD := Lib.hid hxd
          clear hnum hxd
          by_cases hb : x.toNat % 2 = c.toNat / 2 ^ m % 2
          · have ht : ((x.toNat : Int) % 2 != (c.toNat : Int) / 2 ^ m % 2) = false := by
              rw [bne_eq_false_iff_eq]
              have e : ((c.toNat : Int) / 2 ^ m % 2) = ((c.toNat / 2 ^ m % 2 : Nat) : Int) := by push_cast; rfl
              rw [e]; omega
            have hv := HN.out.1 hb
            have HV := Lib.hid hv
            clear hv hb
            go_wp2
            go_round
            case rel => exact ⟨m + 1, by omega, by go_num, by rw [HV.out]⟩
            case measure => simp [intOf]; omega
          · have ht : ((x.toNat : Int) % 2 != (c.toNat : Int) / 2 ^ m % 2) = true := by
              rw [bne_iff_ne]
              have e : ((c.toNat : Int) / 2 ^ m % 2) = ((c.toNat / 2 ^ m % 2 : Nat) : Int) := by push_cast; rfl
              rw [e]; omega
            have hv := HN.out.2 hb
            have HV := Lib.hid hv
            clear hv hb
            go_wp2
            go_round
            case rel => exact ⟨m + 1, by omega, by go_num, by rw [HV.out]⟩
            case measure => simp [intOf]; omega
        · obtain rfl : m = 8 := by omega
          go_wp2
          go_round
          case rel => exact ⟨k + 1, by omega, by go_num, by rw [HSS.out, bitK_all]⟩
          case measure => simp [intOf]; omega
    · obtain rfl : k = n := by omega
      go_wp2
      go_ret
      refine ⟨?_, rfl⟩
      rw [List.take_of_length_le (by have := HL.out; omega)]
      unfold Fr.sumB
      exact congrArg (fun x => Ending.returned (.int .u32 x)) (Fr.not_u32 _)
end Go.Proofs.Ytfpjbkbfaaieiaa

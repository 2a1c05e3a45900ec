/- the model's bits of numbers of 32 and 8 bits, as the plain law's -/
import Derived.Test.YtdglaacjefcfdaaPFrame4
import Derived.WalkKit
namespace Go.Proofs.Ytdglaacjefcfdaa.Fr
open Go.RowKit
theorem step_f1 (s : BitVec 32) : bits .xor .u32 ((s.toNat : Int) / 2) (3988292384 * bits .and .u32 (s.toNat : Int) 1 % 4294967296) = ((f1 s).toNat : Int) := by
  have h := s.isLt
  have e1 : bits .and .u32 (s.toNat : Int) 1 = ((s.toNat % 2 : Nat) : Int) := by
    have := u32_and_nat s.toNat 1 h (by omega)
    rw [nat_mask1] at this; exact this
  have e0 : s.getLsbD 0 = decide (s.toNat % 2 = 1) := by
    show s.toNat.testBit 0 = _
    rw [Nat.testBit_zero]
  rw [e1]
  have e2 : ((s.toNat : Int) / 2) = ((s.toNat / 2 : Nat) : Int) := by omega
  rw [e2]
  have e3 : (s >>> 1).toNat = s.toNat / 2 := by rw [BitVec.toNat_ushiftRight, Nat.shiftRight_eq_div_pow]
  by_cases hp : s.toNat % 2 = 1
  · have e4 : (3988292384 * ((s.toNat % 2 : Nat) : Int) % 4294967296) = ((3988292384 : Nat) : Int) := by rw [hp]; rfl
    rw [e4, u32_xor_nat _ _ (by omega) (by omega)]
    unfold f1
    rw [e0, hp]
    simp only [decide_true, if_true, BitVec.toNat_xor, e3]
    rfl
  · have e4 : (3988292384 * ((s.toNat % 2 : Nat) : Int) % 4294967296) = ((0 : Nat) : Int) := by rw [show s.toNat % 2 = 0 by omega]; rfl
    rw [e4, u32_xor_nat _ _ (by omega) (by omega)]
    unfold f1
    rw [e0]
    simp [hp, e3]
theorem fk_succ (m : Nat) (s : BitVec 32) : fk (m + 1) s = f1 (fk m s) := by rw [fk_add m 1]; rfl
/-- a byte through the register, as 'frame.Sum' reckons it. -/
theorem step_bs (s : BitVec 32) (c : UInt8) :
    bits .xor .u32 ((s.toNat : Int) / 256) ((fk 8 (BitVec.ofNat 32 (bits .xor .u8 ((s.toNat : Int) % 256) (c.toNat : Int)).toNat)).toNat : Int) = ((bs s c.toBitVec).toNat : Int) := by
  have h := s.isLt
  have hc := c.toNat_lt
  have e1 : ((s.toNat : Int) % 256) = ((s.toNat % 256 : Nat) : Int) := by omega
  have e2 : ((s.toNat : Int) / 256) = ((s.toNat / 256 : Nat) : Int) := by omega
  rw [e1, e2, u8_xor_nat _ _ (by omega) (by omega), u32_xor_nat _ _ (by omega) (BitVec.isLt _), bs_table, BitVec.toNat_xor, BitVec.toNat_ushiftRight, Nat.shiftRight_eq_div_pow]
  congr 3
  have : BitVec.ofNat 32 ((((s.toNat % 256) ^^^ c.toNat : Nat) : Int)).toNat = (s ^^^ c.toBitVec.setWidth 32) &&& 255#32 := by
    apply BitVec.eq_of_toNat_eq
    have h3 : (s.toNat % 256) ^^^ c.toNat < 256 := Nat.xor_lt_two_pow (n := 8) (by omega) (by omega)
    have h5 : (c.toBitVec.setWidth 32).toNat = c.toNat := by
      rw [BitVec.toNat_setWidth]; exact Nat.mod_eq_of_lt (by show c.toNat < _; omega)
    rw [BitVec.toNat_ofNat, Int.toNat_natCast, BitVec.toNat_and, BitVec.toNat_xor, h5, Nat.mod_eq_of_lt (by omega)]
    show _ = (s.toNat ^^^ c.toNat) &&& 255
    rw [nat_mask8, Nat.xor_mod_two_pow (n := 8), Nat.mod_eq_of_lt (a := c.toNat) (by omega)]
  rw [this]
theorem not_u32 (s : BitVec 32) : bits .xor .u32 IntKind.u32.max (s.toNat : Int) = ((~~~ s).toNat : Int) := by
  have h := s.isLt
  have e : IntKind.u32.max = ((4294967295 : Nat) : Int) := by decide
  rw [e, u32_xor_nat _ _ (by omega) h]
  have : (4294967295 ^^^ s.toNat) = (~~~ s).toNat := by
    rw [← BitVec.xor_allOnes, BitVec.xor_comm, BitVec.toNat_xor, BitVec.toNat_allOnes]
  rw [this]
theorem not_nat (n : Nat) (h : n < 4294967296) : bits .xor .u32 IntKind.u32.max (n : Int) = ((4294967295 - n : Nat) : Int) := by
  have := not_u32 (BitVec.ofNat 32 n)
  rw [BitVec.toNat_ofNat, Nat.mod_eq_of_lt (by omega)] at this
  rw [this, BitVec.toNat_not, BitVec.toNat_ofNat, Nat.mod_eq_of_lt (by omega)]
end Go.Proofs.Ytdglaacjefcfdaa.Fr

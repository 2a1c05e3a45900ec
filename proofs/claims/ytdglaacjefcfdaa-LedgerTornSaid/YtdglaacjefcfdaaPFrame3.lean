/- the plain law of the frame and its checksum: no program in sight -/
import Derived.Test.YtdglaacjefcfdaaPFrame2
namespace Go.Proofs.Ytdglaacjefcfdaa.Fr
/-! bits turned -/
def bitAt (l : List UInt8) (j : Nat) : Bool := ((l.getD (j / 8) 0).toBitVec).getLsbD (j % 8)
def flipBit (l : List UInt8) (j : Nat) : List UInt8 := l.set (j / 8) ⟨(l.getD (j / 8) 0).toBitVec ^^^ (1#8 <<< (j % 8))⟩

theorem flipBit_length (l : List UInt8) (j : Nat) : (flipBit l j).length = l.length := by simp [flipBit]

theorem one8_bit (k i : Nat) (hk : k < 8) : (1#8 <<< k).getLsbD i = decide (i = k) := by
  rw [BitVec.getLsbD_shiftLeft]
  by_cases h : i < k
  · have : ¬ i = k := by omega
    simp [h, this]
  · by_cases h2 : i = k
    · subst h2; simp [hk]
    · have : ¬ i - k = 0 := by omega
      simp [h2, this]

theorem bitAt_flip (l : List UInt8) (j i : Nat) (hj : j < 8 * l.length) : bitAt (flipBit l j) i = (bitAt l i ^^ decide (i = j)) := by
  unfold bitAt flipBit
  by_cases h : i / 8 = j / 8
  · rw [h]
    have e : (l.set (j / 8) ⟨(l.getD (j / 8) 0).toBitVec ^^^ (1#8 <<< (j % 8))⟩).getD (j / 8) 0 = ⟨(l.getD (j / 8) 0).toBitVec ^^^ (1#8 <<< (j % 8))⟩ := by
      rw [List.getD_eq_getElem?_getD, List.getElem?_set_self (by omega)]; rfl
    rw [e, BitVec.getLsbD_xor, one8_bit _ _ (by omega)]
    congr 1
    by_cases h2 : i = j
    · subst h2; simp
    · have : ¬ i % 8 = j % 8 := by omega
      simp [h2, this]
  · have e : ∀ v, (l.set (j / 8) v).getD (i / 8) 0 = l.getD (i / 8) 0 := fun v => by
      rw [List.getD_eq_getElem?_getD, List.getElem?_set_ne (by omega), ← List.getD_eq_getElem?_getD]
    have : ¬ i = j := by omega
    rw [e]; simp [this]

/-- the bits of mask, the first i of them, turned from one on. -/
def turnN (l : List UInt8) (start : Nat) (mask : BitVec 32) : Nat → List UInt8
  | 0 => l
  | i + 1 => if mask.getLsbD i then flipBit (turnN l start mask i) (start + i) else turnN l start mask i

theorem turnN_length (l : List UInt8) (start : Nat) (mask : BitVec 32) (i : Nat) : (turnN l start mask i).length = l.length := by
  induction i with
  | zero => rfl
  | succ i ih => unfold turnN; split <;> simp [flipBit_length, ih]

theorem bitAt_turn (l : List UInt8) (start : Nat) (mask : BitVec 32) (k : Nat) (hk : start + k ≤ 8 * l.length) (i : Nat) :
    bitAt (turnN l start mask k) i = (bitAt l i ^^ (decide (start ≤ i) && decide (i < start + k) && mask.getLsbD (i - start))) := by
  induction k with
  | zero =>
    have : ¬ (start ≤ i ∧ i < start + 0) := by omega
    by_cases h : start ≤ i
    · simp [turnN, show ¬ i < start by omega]
    · simp [turnN, h]
  | succ k ih =>
    have ih := ih (by omega)
    unfold turnN
    by_cases hi : i = start + k
    · subst hi
      have e0 : start + k - start = k := by omega
      split
      · rename_i hm
        rw [bitAt_flip _ _ _ (by rw [turnN_length]; omega), ih, e0, hm]; simp
      · rename_i hm
        rw [ih, e0]; simp [hm]
    · have hd : decide (i < start + (k + 1)) = decide (i < start + k) := by
        by_cases h : i < start + k
        · simp [h]; omega
        · simp [h]; omega
      split
      · rw [bitAt_flip _ _ _ (by rw [turnN_length]; omega), ih, hd]; simp [hi]
      · rw [ih, hd]

theorem byteBits_get (c : UInt8) (i : Nat) (hi : i < 8) : (byteBits c.toBitVec)[i]? = some (c.toBitVec.getLsbD i) := by
  unfold byteBits bitsN
  rw [List.getElem?_map, List.getElem?_range hi]
  simp [BitVec.getLsbD_setWidth]; omega

theorem byteBits_length (c : BitVec 8) : (byteBits c).length = 8 := by simp [byteBits, bitsN]

theorem allBits_length (l : List UInt8) : (allBits (bv l)).length = 8 * l.length := by
  induction l with
  | nil => rfl
  | cons c l ih =>
    have : allBits (bv (c :: l)) = byteBits c.toBitVec ++ allBits (bv l) := rfl
    rw [this, List.length_append, byteBits_length, ih]; simp; omega

theorem allBits_get : ∀ (l : List UInt8) (i : Nat), i < 8 * l.length → (allBits (bv l))[i]? = some (bitAt l i)
  | [], i, h => by simp at h
  | c :: l, i, h => by
    have e : allBits (bv (c :: l)) = byteBits c.toBitVec ++ allBits (bv l) := rfl
    rw [e]
    by_cases hi : i < 8
    · rw [List.getElem?_append_left (by rw [byteBits_length]; exact hi), byteBits_get c i hi]
      simp [bitAt, show i / 8 = 0 by omega, show i % 8 = i by omega]
    · rw [List.getElem?_append_right (by rw [byteBits_length]; omega), byteBits_length, allBits_get l (i - 8) (by simp at h; omega)]
      obtain ⟨j, rfl⟩ : ∃ j, i = j + 8 := ⟨i - 8, by omega⟩
      have e1 : (j + 8) / 8 = j / 8 + 1 := by omega
      have e2 : (j + 8) % 8 = j % 8 := by omega
      simp [bitAt, e1, e2]

theorem allBits_append (l m : List UInt8) : allBits (bv (l ++ m)) = allBits (bv l) ++ allBits (bv m) := by simp [allBits, bv]

/-- a window of bits. -/
theorem zip_window (l : List UInt8) (start : Nat) (mask : BitVec 32) (h : start + 32 ≤ 8 * l.length) :
    List.zipWith Bool.xor (allBits (bv l)) (allBits (bv (turnN l start mask 32))) = List.replicate start false ++ bitsN 32 mask ++ List.replicate (8 * l.length - start - 32) false := by
  apply List.ext_getElem?
  intro i
  by_cases hi : i < 8 * l.length
  · rw [List.getElem?_zipWith, allBits_get l i hi, allBits_get _ i (by rw [turnN_length]; exact hi), bitAt_turn l start mask 32 h i]
    simp only
    by_cases h1 : i < start
    · rw [List.append_assoc, List.getElem?_append_left (by simpa using h1), List.getElem?_replicate]
      simp [h1, show ¬ start ≤ i by omega]
    · by_cases h2 : i < start + 32
      · rw [List.append_assoc, List.getElem?_append_right (by simp; omega), List.getElem?_append_left (by simp [bitsN]; omega)]
        simp only [List.length_replicate, bitsN, List.getElem?_map]
        rw [List.getElem?_range (by omega)]
        simp [show start ≤ i by omega, h2]
      · rw [List.getElem?_append_right (by simp [bitsN]; omega), List.getElem?_replicate]
        simp [bitsN, h2]; omega
  · rw [List.getElem?_eq_none, List.getElem?_eq_none]
    · simp [bitsN]; omega
    · simp [allBits_length]; omega

/-! a word behind a record -/
def word4 (l : List UInt8) : BitVec 32 := BitVec.ofNat 32 (num4 l)

theorem word4_bit (a b c d : UInt8) (i : Nat) (hi : i < 32) : (word4 [a, b, c, d]).getLsbD i = bitAt [a, b, c, d] i := by
  have ha := a.toNat_lt; have hb := b.toNat_lt; have hc := c.toNat_lt; have hd := d.toNat_lt
  have tb : ∀ x : UInt8, ∀ k, x.toBitVec.getLsbD k = x.toNat.testBit k := fun x k => rfl
  unfold word4 bitAt
  rw [BitVec.getLsbD_ofNat]
  simp only [hi, decide_true, Bool.true_and, num4, tb, Nat.testBit_eq_decide_div_mod_eq]
  have e : ∀ n k : Nat, n / 2 ^ (8 * (k / 8) + k % 8) = n / 2 ^ (8 * (k / 8)) / 2 ^ (k % 8) := fun n k => by rw [Nat.pow_add, Nat.div_div_eq_div_mul]
  have ei : i = 8 * (i / 8) + i % 8 := by omega
  have hq : i / 8 = 0 ∨ i / 8 = 1 ∨ i / 8 = 2 ∨ i / 8 = 3 := by omega
  have hr : i % 8 < 8 := by omega
  have key : ∀ (x y k : Nat), k < 8 → (x + 256 * y) / 2 ^ k % 2 = x / 2 ^ k % 2 := fun x y k hk => by
    have : 256 * y = 2 ^ k * (2 * (2 ^ (7 - k) * y)) := by
      rw [← Nat.mul_assoc, ← Nat.mul_assoc, ← Nat.pow_succ, ← Nat.pow_add, show k + 1 + (7 - k) = 8 by omega]
    rw [this, Nat.add_mul_div_left _ _ (Nat.two_pow_pos k), Nat.add_mul_mod_self_left]
  have hn : (a.toNat + 256 * b.toNat + 65536 * c.toNat + 16777216 * d.toNat) / 2 ^ i % 2 = (([a, b, c, d].getD (i / 8) 0).toNat) / 2 ^ (i % 8) % 2 := by
    conv => lhs; rw [ei]
    rw [e]
    rcases hq with h | h | h | h <;> rw [h]
    · have : (a.toNat + 256 * b.toNat + 65536 * c.toNat + 16777216 * d.toNat) / 2 ^ (8 * 0) = a.toNat + 256 * (b.toNat + 256 * c.toNat + 65536 * d.toNat) := by omega
      rw [this, key _ _ _ hr]; rfl
    · have : (a.toNat + 256 * b.toNat + 65536 * c.toNat + 16777216 * d.toNat) / 2 ^ (8 * 1) = b.toNat + 256 * (c.toNat + 256 * d.toNat) := by omega
      rw [this, key _ _ _ hr]; rfl
    · have : (a.toNat + 256 * b.toNat + 65536 * c.toNat + 16777216 * d.toNat) / 2 ^ (8 * 2) = c.toNat + 256 * d.toNat := by omega
      rw [this, key _ _ _ hr]; rfl
    · have : (a.toNat + 256 * b.toNat + 65536 * c.toNat + 16777216 * d.toNat) / 2 ^ (8 * 3) = d.toNat := by omega
      rw [this]; rfl
  rw [hn]

theorem allBits_word (l : List UInt8) (h : l.length = 4) : allBits (bv l) = bitsN 32 (word4 l) := by
  match l, h with
  | [a, b, c, d], _ =>
    apply List.ext_getElem?
    intro i
    by_cases hi : i < 32
    · rw [allBits_get _ i (by simpa using hi), bitsN, List.getElem?_map, List.getElem?_range hi]
      simp [word4_bit a b c d i hi]
    · rw [List.getElem?_eq_none (by rw [allBits_length]; simp; omega), List.getElem?_eq_none (by simp [bitsN]; omega)]

/-- a record and its sum bring the register to one place, whatever the record. -/
theorem crc_closed (r c : List UInt8) (hc : c.length = 4) (h : num4 c = (sumB r).toNat) : crcL (BitVec.allOnes 32) (bv (r ++ c)) = fk 32 (BitVec.allOnes 32) := by
  rw [crcL_bits, allBits_append, rbs_append, ← crcL_bits (bv r), allBits_word c hc, rbs_word]
  have : word4 c = sumB r := by unfold word4; rw [h]; simp
  rw [this, sumB]
  congr 1
  apply BitVec.eq_of_getLsbD_eq
  intro i hi
  rw [BitVec.getLsbD_xor, BitVec.getLsbD_not, BitVec.getLsbD_allOnes]
  cases (crcL (BitVec.allOnes 32) (bv r)).getLsbD i <;> simp only [hi, decide_true] <;> rfl

theorem turned_bad (r : List UInt8) (hr : r.length ≤ 65536) (f rest : List UInt8) (start : Nat) (mask : BitVec 32) (hm : mask ≠ 0#32)
    (h8 : f.take 8 = (putF r).take 8) (ht : f.drop 8 = turnN ((putF r).drop 8) start mask 32) (hs : start + 32 ≤ 8 * (r.length + 4)) : headF (f ++ rest) = .inl 2 := by
  have hlen := putF_length r
  have hd : ((putF r).drop 8) = r ++ le4 (sumB r).toNat := by
    unfold putF; simp only [List.append_assoc]
    rw [← List.append_assoc, List.drop_left' (by simp [le4_length])]
  have hfl : f.length = r.length + 12 := by
    have h1 := congrArg List.length h8
    have h2 := congrArg List.length ht
    rw [turnN_length] at h2
    simp at h1 h2
    omega
  have e1 : num4 (f ++ rest) = r.length := by
    rw [← num4_take (n := 8) (by omega), List.take_append_of_le_length (by omega), h8, num4_take (by omega)]
    unfold putF; simp only [List.append_assoc]; exact num4_le4 _ (by omega) _
  have e2 : num4 ((f ++ rest).drop 4) = 4294967295 - r.length := by
    rw [← num4_take (n := 4) (by omega), List.take_drop, List.take_append_of_le_length (by omega), h8, List.drop_take, num4_take (by omega)]
    unfold putF; simp only [List.append_assoc]
    rw [List.drop_left' (le4_length _)]; exact num4_le4 _ (by omega) _
  unfold headF
  rw [e1, e2, if_neg (by simp; omega), if_neg (by omega), if_neg (by simp; omega)]
  have d8 : (f ++ rest).drop 8 = f.drop 8 ++ rest := List.drop_append_of_le_length (by omega)
  have d9 : (f ++ rest).drop (8 + r.length) = f.drop (8 + r.length) ++ rest := List.drop_append_of_le_length (by omega)
  rw [d8, d9, List.take_append_of_le_length (by simp; omega), num4_append (by simp; omega)]
  rw [if_pos]
  intro hc
  have c1 := crc_closed ((f.drop 8).take r.length) (f.drop (8 + r.length)) (by simp; omega) hc
  have c2 := crc_closed r (le4 (sumB r).toNat) rfl (by have := num4_le4 (sumB r).toNat (sumB r).isLt []; simpa using this)
  have ef : (f.drop 8).take r.length ++ f.drop (8 + r.length) = f.drop 8 := by
    rw [← List.drop_drop, List.take_append_drop]
  rw [ef, ht, hd] at c1
  have hx := rbs_xor (allBits (bv (r ++ le4 (sumB r).toNat))) (allBits (bv (turnN (r ++ le4 (sumB r).toNat) start mask 32))) (BitVec.allOnes 32) (BitVec.allOnes 32)
    (by rw [allBits_length, allBits_length, turnN_length])
  rw [← crcL_bits (bv (r ++ le4 (sumB r).toNat)), ← crcL_bits (bv (turnN _ _ _ _)), c1, c2, BitVec.xor_self, BitVec.xor_self, zip_window _ _ _ (by simp [le4_length]; omega)] at hx
  exact hm (burst _ _ _ hx.symm)
end Go.Proofs.Ytdglaacjefcfdaa.Fr

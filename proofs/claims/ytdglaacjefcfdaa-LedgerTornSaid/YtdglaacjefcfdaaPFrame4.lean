/- the plain law of the frame and its checksum: no program in sight -/
import Derived.Test.YtdglaacjefcfdaaPFrame3
namespace Go.Proofs.Ytdglaacjefcfdaa.Fr
theorem bitAt_append (l m : List UInt8) (i : Nat) (h : i < 8 * l.length) : bitAt (l ++ m) i = bitAt l i := by
  unfold bitAt
  rw [List.getD_eq_getElem?_getD, List.getD_eq_getElem?_getD, List.getElem?_append_left (by omega)]

theorem num4_flip (l : List UInt8) (hl : l.length = 4) (j : Nat) (hj : j < 32) : num4 (flipBit l j) ≠ num4 l := by
  match l, hl with
  | [a, b, c, d], _ =>
    intro h
    have hw : word4 (flipBit [a, b, c, d] j) = word4 [a, b, c, d] := by unfold word4; rw [h]
    obtain ⟨a', b', c', d', hf⟩ : ∃ a' b' c' d', flipBit [a, b, c, d] j = [a', b', c', d'] := by
      have := flipBit_length [a, b, c, d] j
      match hq : flipBit [a, b, c, d] j, this with
      | [a', b', c', d'], _ => exact ⟨_, _, _, _, rfl⟩
    have h1 := congrArg (fun x : BitVec 32 => x.getLsbD j) hw
    simp only [hf] at h1
    rw [word4_bit _ _ _ _ _ hj, word4_bit _ _ _ _ _ hj, ← hf, bitAt_flip _ _ _ (by simpa using hj)] at h1
    simp at h1

theorem flipBit_append (l m : List UInt8) (j : Nat) (h : j < 8 * l.length) : flipBit (l ++ m) j = flipBit l j ++ m := by
  unfold flipBit
  have : (l ++ m).getD (j / 8) 0 = l.getD (j / 8) 0 := by
    rw [List.getD_eq_getElem?_getD, List.getD_eq_getElem?_getD, List.getElem?_append_left (by omega)]
  rw [this, List.set_append_left _ _ (by omega)]

theorem flipBit_behind (l m : List UInt8) (j : Nat) : flipBit (l ++ m) (8 * l.length + j) = l ++ flipBit m j := by
  unfold flipBit
  have e1 : (8 * l.length + j) / 8 = l.length + j / 8 := by omega
  have e2 : (8 * l.length + j) % 8 = j % 8 := by omega
  have : (l ++ m).getD (l.length + j / 8) 0 = m.getD (j / 8) 0 := by
    rw [List.getD_eq_getElem?_getD, List.getD_eq_getElem?_getD, List.getElem?_append_right (by omega)]; simp
  rw [e1, e2, this, List.set_append_right _ _ (by omega)]
  simp

theorem heads_bad (r : List UInt8) (hr : r.length ≤ 65536) (rest : List UInt8) (j : Nat) (hj : j < 64) : headF (flipBit (putF r) j ++ rest) = .inl 2 := by
  obtain ⟨A, hA⟩ : ∃ A, A = le4 r.length := ⟨_, rfl⟩
  obtain ⟨B, hB⟩ : ∃ B, B = le4 (4294967295 - r.length) := ⟨_, rfl⟩
  have la : A.length = 4 := by rw [hA]; rfl
  have lb : B.length = 4 := by rw [hB]; rfl
  have na : num4 A = r.length := by rw [hA]; have := num4_le4 r.length (by omega) []; simpa using this
  have nb : num4 B = 4294967295 - r.length := by rw [hB]; have := num4_le4 (4294967295 - r.length) (by omega) []; simpa using this
  have e : putF r = A ++ (B ++ (r ++ le4 (sumB r).toNat)) := by unfold putF; rw [hA, hB]; simp only [List.append_assoc]
  obtain ⟨t, ht⟩ : ∃ t, t = r ++ le4 (sumB r).toNat := ⟨_, rfl⟩
  rw [← ht] at e
  rw [e]
  by_cases h32 : j < 32
  · rw [flipBit_append _ _ _ (by omega)]
    have lf := flipBit_length A j
    have nf := num4_flip A la j h32
    unfold headF
    have d4 : (flipBit A j ++ (B ++ t) ++ rest).drop 4 = B ++ (t ++ rest) := by
      rw [List.append_assoc, List.drop_left' (by omega), List.append_assoc]
    have n1 : num4 (flipBit A j ++ (B ++ t) ++ rest) = num4 (flipBit A j) := by rw [List.append_assoc, num4_append (by omega)]
    have := num4_lt (flipBit A j)
    rw [d4, n1, num4_append (by omega), if_neg (by simp; omega), if_pos (by rw [nb]; left; omega)]
  · obtain ⟨k, rfl⟩ : ∃ k, j = 8 * A.length + k := ⟨j - 32, by omega⟩
    rw [flipBit_behind, flipBit_append _ _ _ (by omega)]
    have lf := flipBit_length B k
    have nf := num4_flip B lb k (by omega)
    unfold headF
    have d4 : (A ++ (flipBit B k ++ t) ++ rest).drop 4 = flipBit B k ++ (t ++ rest) := by
      rw [List.append_assoc, List.drop_left' (by omega), List.append_assoc]
    have n1 : num4 (A ++ (flipBit B k ++ t) ++ rest) = num4 A := by rw [List.append_assoc, num4_append (by omega)]
    rw [d4, n1, num4_append (by omega), if_neg (by simp; omega), if_pos (by rw [na]; left; omega)]
end Go.Proofs.Ytdglaacjefcfdaa.Fr

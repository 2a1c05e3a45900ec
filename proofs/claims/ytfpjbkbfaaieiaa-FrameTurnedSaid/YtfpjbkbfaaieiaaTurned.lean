/- apportionlaw06.FrameTurned -/
import Derived.Test.YtfpjbkbfaaieiaaHeads
namespace Go.Proofs.Ytfpjbkbfaaieiaa
open Go.RowKit
theorem turnN_behind (l m : List UInt8) (s : Nat) (mask : BitVec 32) : ∀ k, Fr.turnN (l ++ m) (8 * l.length + s) mask k = l ++ Fr.turnN m s mask k
  | 0 => rfl
  | k + 1 => by
    unfold Fr.turnN
    rw [turnN_behind l m s mask k]
    split
    · rw [show 8 * l.length + s + k = 8 * l.length + (s + k) by omega, Fr.flipBit_behind]
    · rfl
theorem turnN_append (l m : List UInt8) (s : Nat) (mask : BitVec 32) : ∀ k, s + k ≤ 8 * l.length → Fr.turnN (l ++ m) s mask k = Fr.turnN l s mask k ++ m
  | 0, _ => rfl
  | k + 1, h => by
    unfold Fr.turnN
    rw [turnN_append l m s mask k (by omega)]
    split
    · rw [Fr.flipBit_append _ _ _ (by rw [Fr.turnN_length]; omega)]
    · rfl
/-- bits turned within a record or its checksum: the scan ends ahead of it. -/
theorem scan_turned (L : List (List UInt8)) (W D : Nat) (mask : BitVec 32) (hm : mask ≠ 0#32) (hW : W < L.length) (hD : D + 32 ≤ 8 * ((L.getD W []).length + 4)) (hs : ∀ r ∈ L, r.length ≤ 65536) :
    Fr.scanF (Fr.turnN (Fr.putAll L) (8 * ((Fr.putAll (L.take W)).length + 8) + D) mask 32) = (L.take W, (Fr.putAll (L.take W)).length, 2) := by
  obtain ⟨r, hr⟩ : ∃ r, r = L.getD W [] := ⟨_, rfl⟩
  have e1 : Fr.putAll L = Fr.putAll (L.take W) ++ (Fr.putF r ++ Fr.putAll (L.drop (W + 1))) := by
    conv => lhs; rw [← List.take_append_drop W L, putAll_append]
    congr 1
    rw [List.drop_eq_getElem_cons hW]
    have : r = L[W] := by simp [hr, List.getD, List.getElem?_eq_getElem hW]
    rw [this]; rfl
  have hmem : r ∈ L := by
    rw [hr, List.getD_eq_getElem?_getD, List.getElem?_eq_getElem hW]
    exact List.getElem_mem _
  rw [← hr] at hD
  have hl8 : ((Fr.putF r).take 8).length = 8 := by rw [List.length_take, Fr.putF_length]; omega
  have e2 : Fr.turnN (Fr.putF r) (64 + D) mask 32 = (Fr.putF r).take 8 ++ Fr.turnN ((Fr.putF r).drop 8) D mask 32 := by
    conv => lhs; rw [← List.take_append_drop 8 (Fr.putF r)]
    rw [show 64 + D = 8 * ((Fr.putF r).take 8).length + D by rw [hl8], turnN_behind]
  have e3 : Fr.turnN (Fr.putAll L) (8 * ((Fr.putAll (L.take W)).length + 8) + D) mask 32 = Fr.putAll (L.take W) ++ (((Fr.putF r).take 8 ++ Fr.turnN ((Fr.putF r).drop 8) D mask 32) ++ Fr.putAll (L.drop (W + 1))) := by
    rw [e1, show 8 * ((Fr.putAll (L.take W)).length + 8) + D = 8 * (Fr.putAll (L.take W)).length + (64 + D) by omega, turnN_behind, turnN_append _ _ _ _ _ (by rw [Fr.putF_length]; omega), e2]
  rw [e3, Fr.scanF_putAll _ _ (fun r hr => hs r (List.mem_of_mem_take hr))]
  have hbad := Fr.turned_bad r (hs r hmem) ((Fr.putF r).take 8 ++ Fr.turnN ((Fr.putF r).drop 8) D mask 32) (Fr.putAll (L.drop (W + 1))) D mask hm
    (List.take_left' hl8) (List.drop_left' hl8) (by omega)
  rw [Fr.scanF_eq (_ ++ Fr.putAll (L.drop (W + 1))), hbad]
  simp
theorem mask_bit (m : Nat) (i : Nat) (hi : i < 32) : (BitVec.ofNat 32 m).getLsbD i = decide (m / 2 ^ i % 2 = 1) := by
  rw [BitVec.getLsbD_ofNat]
  simp only [hi, decide_true, Bool.true_and]
  rw [Nat.testBit_eq_decide_div_mod_eq]
theorem mask_ne (m : Nat) (h : m < 4294967296) (h0 : m ≠ 0) : BitVec.ofNat 32 m ≠ 0#32 := by
  intro e
  have := congrArg BitVec.toNat e
  rw [BitVec.toNat_ofNat, Nat.mod_eq_of_lt h] at this
  exact h0 this
theorem turn_on (l : List UInt8) (F : Nat) (mask : BitVec 32) (k Q M : Nat) (hM : M < 8) (hF : F + k = 8 * Q + M) (h : mask.getLsbD k = true) :
    Fr.turnN l F mask (k + 1) = (Fr.turnN l F mask k).set Q ⟨((Fr.turnN l F mask k).getD Q 0).toBitVec ^^^ (1#8 <<< M)⟩ := by
  rw [show Fr.turnN l F mask (k + 1) = if mask.getLsbD k then Fr.flipBit (Fr.turnN l F mask k) (F + k) else Fr.turnN l F mask k from rfl, if_pos h, hF]
  unfold Fr.flipBit
  rw [show (8 * Q + M) / 8 = Q by omega, show (8 * Q + M) % 8 = M by omega]
theorem turn_off (l : List UInt8) (F : Nat) (mask : BitVec 32) (k : Nat) (h : mask.getLsbD k = false) : Fr.turnN l F mask (k + 1) = Fr.turnN l F mask k := by
  rw [show Fr.turnN l F mask (k + 1) = if mask.getLsbD k then Fr.flipBit (Fr.turnN l F mask k) (F + k) else Fr.turnN l F mask k from rfl, h]
  rfl
end Go.Proofs.Ytfpjbkbfaaieiaa

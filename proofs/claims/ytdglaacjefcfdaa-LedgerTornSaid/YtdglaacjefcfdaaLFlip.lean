/- a bit turned anywhere in frames -/
import Derived.Test.YtdglaacjefcfdaaKit
import Derived.Test.YtdglaacjefcfdaaPFrame4
namespace Go.Proofs.Ytdglaacjefcfdaa
open Go.RowKit
theorem xor_u8 (c d : UInt8) : bits .xor .u8 (c.toNat : Int) (d.toNat : Int) = (((c ^^^ d).toNat : Nat) : Int) := by
  rw [u8_xor_nat _ _ c.toNat_lt d.toNat_lt, UInt8.toNat_xor]
/-- the row of an owned slice of bytes, opened. -/
theorem OwnB.row {w : World} {base n cap : Nat} {ao : Option Addr} {l : List UInt8} (h : OwnB w base (.slice ao n cap) l) (hl : 0 < n) :
    ∃ g cur, ao = some ⟨g, 0, none⟩ ∧ base ≤ g ∧ w.heap[g]? = some (.cells cur 5 (0, 0)) ∧ l.length = n ∧ n ≤ cur.size := by
  rcases h.1.2 with ⟨e, h0⟩ | ⟨g, cap2, cur, e, hb, hg, hn, hm, hs, ht⟩
  · injection e with e1 e2 e3; omega
  · injection e with e1 e2 e3
    exact ⟨g, cur, e1, hb, hg, e2.symm, by omega⟩
theorem IsBytes.set {w : World} {g n cap i : Nat} {l : List UInt8} {c : UInt8} {cur : Array Value} (h : IsBytes w (some ⟨g, 0, none⟩) n cap l) (hg : w.heap[g]? = some (.cells cur 5 (0, 0))) (hi : i < n) (hsz : n ≤ cur.size) :
    IsBytes (w.setCell ⟨g, i, none⟩ (.int .u8 (c.toNat : Int))) (some ⟨g, 0, none⟩) n cap (l.set i c) := by
  obtain ⟨h1, h2, h3, h4, h5⟩ := h
  refine ⟨by simpa using h1, h2, h3, fun _ => ⟨g, 0, rfl, fun j hj => ?_⟩, h5⟩
  obtain ⟨b, off, e, hat⟩ := h4 (by intro hh; rw [hh] at h1; simp at h1; omega)
  injection e with e
  injection e with e1 e2 _
  subst e1; subst e2
  have hj2 : j < l.length := by simpa using hj
  have hc := hat j hj2
  rw [cell_of_row _ _ _ _ _ _ hg] at hc
  rw [cell_of_row _ _ _ _ _ _ (heap_setCell_same w g i _ _ (.int .u8 (c.toNat : Int)) hg)]
  rw [Nat.zero_add] at hc ⊢
  by_cases hij : i = j
  · subst hij
    rw [Array.getElem?_setIfInBounds_self_of_lt (by omega)]
    simp [List.getD, List.getElem?_set_self hj2]
  · rw [Array.getElem?_setIfInBounds_ne hij, hc]
    simp [List.getD, List.getElem?_set_ne hij]
theorem xor_pow (c : UInt8) (M : Nat) (h : M < 8) : bits .xor .u8 (c.toNat : Int) (2 ^ M % 256) = (((⟨c.toBitVec ^^^ (1#8 <<< M)⟩ : UInt8).toNat : Nat) : Int) := by
  have hd : ((2 : Int) ^ M % 256) = ((((⟨1#8 <<< M⟩ : UInt8)).toNat : Nat) : Int) := by
    have hM : M = 0 ∨ M = 1 ∨ M = 2 ∨ M = 3 ∨ M = 4 ∨ M = 5 ∨ M = 6 ∨ M = 7 := by omega
    rcases hM with rfl | rfl | rfl | rfl | rfl | rfl | rfl | rfl <;> decide
  rw [hd, xor_u8]
  rfl
theorem flip_set (l : List UInt8) (S Q M : Nat) (h : M < 8) : Fr.flipBit l (8 * S + (8 * Q + M)) = l.set (S + Q) ⟨(l.getD (S + Q) 0).toBitVec ^^^ (1#8 <<< M)⟩ := by
  unfold Fr.flipBit
  rw [show (8 * S + (8 * Q + M)) / 8 = S + Q by omega, show (8 * S + (8 * Q + M)) % 8 = M by omega]
theorem turnN_one (l : List UInt8) (start k : Nat) (hk : k < 32) : ∀ n, Fr.turnN l start (1#32 <<< k) n = if k < n then Fr.flipBit l (start + k) else l
  | 0 => by simp [Fr.turnN]
  | n + 1 => by
    have hb : (1#32 <<< k).getLsbD n = decide (n = k) := by
      rw [BitVec.getLsbD_shiftLeft]
      by_cases h : n = k
      · subst h; simp [hk]
      · by_cases h2 : n < k
        · simp [h2, h]
        · have : n - k ≠ 0 := by omega
          simp [h2, h, BitVec.getLsbD_one, this]
    unfold Fr.turnN
    rw [hb, turnN_one l start k hk n]
    by_cases h : n = k
    · subst h; simp
    · have e : (k < n + 1) ↔ k < n := by omega
      simp only [h, decide_false, Bool.false_eq_true, if_false, e]
theorem flip_take (l : List UInt8) (j : Nat) (h : 64 ≤ j) : (Fr.flipBit l j).take 8 = l.take 8 := by
  unfold Fr.flipBit
  rw [List.take_set_of_le (by omega)]
theorem flip_drop (l : List UInt8) (j : Nat) (h : 8 ≤ l.length) : (Fr.flipBit l (64 + j)).drop 8 = Fr.flipBit (l.drop 8) j := by
  have e := Fr.flipBit_behind (l.take 8) (l.drop 8) j
  rw [List.take_append_drop, List.length_take, Nat.min_eq_left h] at e
  rw [show 64 + j = 8 * 8 + j by omega, e, List.drop_left' (by rw [List.length_take]; omega)]
/-- a bit of a frame turned: no record is there. -/
theorem head_flip (r : List UInt8) (hr : r.length ≤ 65536) (rest : List UInt8) (j : Nat) (hj : j < 8 * (r.length + 12)) : Fr.headF (Fr.flipBit (Fr.putF r) j ++ rest) = .inl 2 := by
  by_cases h64 : j < 64
  · exact Fr.heads_bad r hr rest j h64
  · have hl := Fr.putF_length r
    obtain ⟨i, rfl⟩ : ∃ i, j = 64 + i := ⟨j - 64, by omega⟩
    by_cases hi : i < 32
    · refine Fr.turned_bad r hr _ rest 0 (1#32 <<< i) (fun e => ?_) (flip_take _ _ (by omega)) ?_ (by omega)
      · have := congrArg (fun b : BitVec 32 => b.getLsbD i) e
        simp [BitVec.getLsbD_shiftLeft, hi] at this
      · rw [turnN_one _ _ _ hi, if_pos hi, flip_drop _ _ (by omega), Nat.zero_add]
    · refine Fr.turned_bad r hr _ rest (i - 31) (1#32 <<< 31) (by decide) (flip_take _ _ (by omega)) ?_ (by omega)
      rw [turnN_one _ _ _ (by omega), if_pos (by omega), flip_drop _ _ (by omega)]
      congr 1
      omega
/-- a bit of frames turned: the scan is bad. -/
theorem scan_flip : ∀ (L : List (List UInt8)) (j : Nat), (∀ r ∈ L, r.length ≤ 65536) → j < 8 * (Fr.putAll L).length → (Fr.scanF (Fr.flipBit (Fr.putAll L) j)).2.2 = 2
  | [], j, _, h => by simp [Fr.putAll] at h
  | r :: L, j, hr, h => by
    have e : Fr.putAll (r :: L) = Fr.putF r ++ Fr.putAll L := rfl
    have hl := Fr.putF_length r
    rw [e] at h ⊢
    by_cases hj : j < 8 * (Fr.putF r).length
    · rw [Fr.flipBit_append _ _ _ hj, Fr.scanF_eq, head_flip r (hr r (by simp)) _ j (by omega)]
    · obtain ⟨i, rfl⟩ : ∃ i, j = 8 * (Fr.putF r).length + i := ⟨j - 8 * (Fr.putF r).length, by omega⟩
      rw [Fr.flipBit_behind, Fr.scanF_put _ _ (hr r (by simp))]
      exact scan_flip L i (fun x hx => hr x (by simp [hx])) (by rw [List.length_append] at h; omega)
end Go.Proofs.Ytdglaacjefcfdaa

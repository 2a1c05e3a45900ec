/- the plain law of the frame and its checksum: no program in sight -/
import Derived.Test.YtdglaacjefcfdaaPCrc
namespace Go.Proofs.Ytdglaacjefcfdaa.Fr
/-! THE FRAME, PLAIN -/
def bv (l : List UInt8) : List (BitVec 8) := l.map (·.toBitVec)
/-- the checksum. -/
def sumB (l : List UInt8) : BitVec 32 := ~~~ (crcL (BitVec.allOnes 32) (bv l))
def le4 (n : Nat) : List UInt8 := [UInt8.ofNat n, UInt8.ofNat (n / 256), UInt8.ofNat (n / 65536), UInt8.ofNat (n / 16777216)]
def num4 : List UInt8 → Nat
  | a :: b :: c :: d :: _ => a.toNat + 256 * b.toNat + 65536 * c.toNat + 16777216 * d.toNat
  | _ => 0

theorem num4_lt (l : List UInt8) : num4 l < 4294967296 := by
  match l with
  | a :: b :: c :: d :: _ =>
    have := a.toNat_lt; have := b.toNat_lt; have := c.toNat_lt; have := d.toNat_lt
    simp only [num4]; omega
  | [] => simp [num4]
  | [_] => simp [num4]
  | [_, _] => simp [num4]
  | [_, _, _] => simp [num4]

theorem num4_le4 (n : Nat) (h : n < 4294967296) (l : List UInt8) : num4 (le4 n ++ l) = n := by
  simp only [le4, List.cons_append, num4, UInt8.toNat_ofNat']
  omega

theorem le4_length (n : Nat) : (le4 n).length = 4 := rfl

/-- the frame of a record. -/
def putF (r : List UInt8) : List UInt8 := le4 r.length ++ le4 (4294967295 - r.length) ++ r ++ le4 (sumB r).toNat

theorem putF_length (r : List UInt8) : (putF r).length = r.length + 12 := by
  simp [putF, le4_length]; omega

/-- what stands at the head of bytes: how the rest is (0 none, 1 torn, 2 bad), or a record. -/
abbrev HeadT := Sum Nat (List UInt8)

def headF (b : List UInt8) : HeadT :=
  if b.length < 8 then .inl (if b.length = 0 then 0 else 1)
  else if num4 (b.drop 4) ≠ 4294967295 - num4 b ∨ 65536 < num4 b then .inl 2
  else if b.length < num4 b + 12 then .inl 1
  else if num4 (b.drop (8 + num4 b)) ≠ (sumB ((b.drop 8).take (num4 b))).toNat then .inl 2
  else .inr ((b.drop 8).take (num4 b))

def scanN : Nat → List UInt8 → List (List UInt8) × Nat × Nat
  | 0, _ => ([], 0, 0)
  | f + 1, b => match headF b with
    | .inl k => ([], 0, k)
    | .inr r => let x := scanN f (b.drop (r.length + 12)); (r :: x.1, r.length + 12 + x.2.1, x.2.2)

def scanF (b : List UInt8) : List (List UInt8) × Nat × Nat := scanN (b.length + 1) b

theorem headF_rec {b r : List UInt8} (h : headF b = .inr r) : r.length = num4 b ∧ r.length + 12 ≤ b.length ∧ num4 b ≤ 65536 ∧
    num4 (b.drop 4) = 4294967295 - num4 b ∧ r = (b.drop 8).take (num4 b) ∧ num4 (b.drop (8 + num4 b)) = (sumB r).toNat := by
  unfold headF at h
  split at h
  · cases h
  split at h
  · cases h
  split at h
  · cases h
  split at h
  · cases h
  · rename_i h1 h2 h3 h4
    injection h with h
    have hl : r.length = num4 b := by rw [← h]; simp; omega
    exact ⟨hl, by omega, by omega, Decidable.byContradiction fun e => h2 (.inl e), h.symm, by rw [← h]; exact Decidable.byContradiction fun e => h4 e⟩

theorem scanN_enough : ∀ (f g : Nat) (b : List UInt8), b.length < f → b.length < g → scanN f b = scanN g b
  | 0, _, _, h, _ => absurd h (by omega)
  | _, 0, _, _, h => absurd h (by omega)
  | f + 1, g + 1, b, hf, hg => by
    simp only [scanN]
    cases h : headF b with
    | inl k => rfl
    | inr r =>
      have := headF_rec h
      simp only
      rw [scanN_enough f g (b.drop (r.length + 12)) (by simp; omega) (by simp; omega)]

/-- the law of the scan. -/
theorem scanF_eq (b : List UInt8) : scanF b = match headF b with
    | .inl k => ([], 0, k)
    | .inr r => (r :: (scanF (b.drop (r.length + 12))).1, r.length + 12 + (scanF (b.drop (r.length + 12))).2.1, (scanF (b.drop (r.length + 12))).2.2) := by
  unfold scanF
  rw [scanN]
  cases h : headF b with
  | inl k => rfl
  | inr r =>
    have := headF_rec h
    simp only
    rw [scanN_enough b.length ((b.drop (r.length + 12)).length + 1) _ (by simp; omega) (by simp)]

theorem headF_put (r l : List UInt8) (h : r.length ≤ 65536) : headF (putF r ++ l) = .inr r := by
  have hlen := putF_length r
  have e1 : num4 (putF r ++ l) = r.length := by
    unfold putF; simp only [List.append_assoc]; exact num4_le4 _ (by omega) _
  have e2 : num4 ((putF r ++ l).drop 4) = 4294967295 - r.length := by
    unfold putF; simp only [List.append_assoc]
    rw [List.drop_left' (le4_length _)]; exact num4_le4 _ (by omega) _
  have e3 : (putF r ++ l).drop 8 = r ++ (le4 (sumB r).toNat ++ l) := by
    unfold putF; simp only [List.append_assoc]
    rw [← List.append_assoc, List.drop_left' (by simp [le4_length])]
  have e4 : num4 ((putF r ++ l).drop (8 + r.length)) = (sumB r).toNat := by
    rw [← List.drop_drop, e3, List.drop_left' rfl]
    exact num4_le4 _ (by have := (sumB r).isLt; omega) _
  have e5 : ((putF r ++ l).drop 8).take r.length = r := by rw [e3, List.take_left' rfl]
  unfold headF
  rw [if_neg (by simp; omega), e1, e2, if_neg (by omega), if_neg (by simp; omega), e4, e5, if_neg (by simp)]

theorem scanF_put (r l : List UInt8) (h : r.length ≤ 65536) : scanF (putF r ++ l) = (r :: (scanF l).1, r.length + 12 + (scanF l).2.1, (scanF l).2.2) := by
  rw [scanF_eq, headF_put r l h]
  simp only
  rw [List.drop_left' (putF_length r)]

def putAll (L : List (List UInt8)) : List UInt8 := L.flatMap putF

theorem scanF_putAll (L : List (List UInt8)) (l : List UInt8) (h : ∀ r ∈ L, r.length ≤ 65536) :
    scanF (putAll L ++ l) = (L ++ (scanF l).1, (putAll L).length + (scanF l).2.1, (scanF l).2.2) := by
  induction L with
  | nil => simp [putAll]
  | cons r L ih =>
    have e : putAll (r :: L) = putF r ++ putAll L := rfl
    rw [e, List.append_assoc, scanF_put _ _ (h r (by simp)), ih (fun x hx => h x (by simp [hx]))]
    simp [putF_length]; omega

theorem scanF_nil : scanF [] = ([], 0, 0) := by rw [scanF_eq]; simp [headF]
end Go.Proofs.Ytdglaacjefcfdaa.Fr

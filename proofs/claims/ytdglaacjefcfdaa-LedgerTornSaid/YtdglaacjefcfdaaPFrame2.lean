/- the plain law of the frame and its checksum: no program in sight -/
import Derived.Test.YtdglaacjefcfdaaPFrame
namespace Go.Proofs.Ytdglaacjefcfdaa.Fr
/-! cut short -/
def wholeN : List (List UInt8) → Nat → Nat
  | [], _ => 0
  | r :: L, at_ => if r.length + 12 ≤ at_ then wholeN L (at_ - (r.length + 12)) + 1 else 0

theorem num4_take {l : List UInt8} {n : Nat} (h : 4 ≤ n) : num4 (l.take n) = num4 l := by
  match n, h with
  | n + 4, _ =>
    match l with
    | a :: b :: c :: d :: _ => simp [num4]
    | [] => simp
    | [_] => simp [num4]
    | [_, _] => simp [num4]
    | [_, _, _] => simp [num4]

theorem headF_short (r l : List UInt8) (at_ : Nat) (h : r.length ≤ 65536) (h1 : at_ < r.length + 12) :
    headF ((putF r ++ l).take at_) = .inl (if at_ = 0 then 0 else 1) := by
  have hlen := putF_length r
  have hl : ((putF r ++ l).take at_).length = at_ := by simp; omega
  have e1 : num4 (putF r ++ l) = r.length := by
    unfold putF; simp only [List.append_assoc]; exact num4_le4 _ (by omega) _
  have e2 : num4 ((putF r ++ l).drop 4) = 4294967295 - r.length := by
    unfold putF; simp only [List.append_assoc]
    rw [List.drop_left' (le4_length _)]; exact num4_le4 _ (by omega) _
  unfold headF
  rw [hl]
  by_cases h8 : at_ < 8
  · rw [if_pos h8]
  · rw [if_neg h8, List.drop_take, num4_take (by omega), num4_take (by omega), e1, e2, if_neg (by omega), if_pos (by omega), if_neg (by omega)]

theorem scan_cut : ∀ (L : List (List UInt8)) (at_ : Nat), (∀ r ∈ L, r.length ≤ 65536) → at_ ≤ (putAll L).length →
    scanF ((putAll L).take at_) = (L.take (wholeN L at_), (putAll (L.take (wholeN L at_))).length, if (putAll (L.take (wholeN L at_))).length = at_ then 0 else 1)
  | [], at_, _, h => by
    have : at_ = 0 := by simpa [putAll] using h
    subst this
    simp [putAll, wholeN, scanF_nil]
  | r :: L, at_, hr, h => by
    have e : putAll (r :: L) = putF r ++ putAll L := rfl
    have hlen := putF_length r
    by_cases hw : r.length + 12 ≤ at_
    · have e2 : (putAll (r :: L)).take at_ = putF r ++ (putAll L).take (at_ - (r.length + 12)) := by
        rw [e, List.take_append, List.take_of_length_le (by omega), hlen]
      have ih := scan_cut L (at_ - (r.length + 12)) (fun x hx => hr x (by simp [hx])) (by rw [e] at h; simp [hlen] at h; omega)
      have e3 : putAll (List.take (wholeN L (at_ - (r.length + 12)) + 1) (r :: L)) = putF r ++ putAll (L.take (wholeN L (at_ - (r.length + 12)))) := rfl
      rw [e2, scanF_put _ _ (hr r (by simp)), ih, wholeN, if_pos hw, e3]
      simp only [List.take_succ_cons, List.length_append, hlen]
      congr 2
      by_cases hq : (putAll (L.take (wholeN L (at_ - (r.length + 12))))).length = at_ - (r.length + 12)
      · rw [if_pos hq, if_pos (by omega)]
      · rw [if_neg hq, if_neg (by omega)]
    · rw [e, scanF_eq, headF_short r _ at_ (hr r (by simp)) (by omega), wholeN, if_neg hw]
      simp [putAll, eq_comm]

/-! more bytes behind -/
theorem num4_append {l m : List UInt8} (h : 4 ≤ l.length) : num4 (l ++ m) = num4 l := by
  match l, h with
  | a :: b :: c :: d :: _, _ => simp [num4]

theorem headF_more_rec {b r : List UInt8} (m : List UInt8) (h : headF b = .inr r) : headF (b ++ m) = .inr r := by
  obtain ⟨h1, h2, h3, h4, h5, h6⟩ := headF_rec h
  have hb : b.length = (b.take 8).length + (b.drop 8).length := by simp; omega
  unfold headF
  have d4 : (b ++ m).drop 4 = b.drop 4 ++ m := List.drop_append_of_le_length (by omega)
  have d8 : (b ++ m).drop 8 = b.drop 8 ++ m := List.drop_append_of_le_length (by omega)
  have d9 : (b ++ m).drop (8 + num4 b) = b.drop (8 + num4 b) ++ m := List.drop_append_of_le_length (by omega)
  rw [num4_append (by omega), d4, d8, d9, num4_append (by simp; omega), num4_append (by simp; omega), List.take_append_of_le_length (by simp; omega), ← h5]
  rw [if_neg (by simp; omega), if_neg (by omega), if_neg (by simp; omega), if_neg (by omega)]

theorem headF_more_bad {b : List UInt8} (m : List UInt8) (h : headF b = .inl 2) : headF (b ++ m) = .inl 2 := by
  unfold headF at h
  split at h
  · rename_i h8; exfalso; injection h with h; split at h <;> omega
  rename_i h8
  have d4 : (b ++ m).drop 4 = b.drop 4 ++ m := List.drop_append_of_le_length (by omega)
  have d8 : (b ++ m).drop 8 = b.drop 8 ++ m := List.drop_append_of_le_length (by omega)
  unfold headF
  rw [num4_append (by omega), d4, d8, num4_append (l := b.drop 4) (by simp; omega), if_neg (by simp; omega)]
  split at h
  · rename_i h1; rw [if_pos h1]
  rename_i h1
  rw [if_neg h1]
  split at h
  · simp at h
  rename_i h2
  split at h
  · rename_i h3
    have d9 : (b ++ m).drop (8 + num4 b) = b.drop (8 + num4 b) ++ m := List.drop_append_of_le_length (by omega)
    rw [if_neg (by simp; omega), List.take_append_of_le_length (by simp; omega), d9, num4_append (by simp; omega), if_pos h3]
  · simp at h

theorem headF_stop {b : List UInt8} {k : Nat} (h : headF b = .inl k) : (k = 0 ↔ b.length = 0) ∧ k ≤ 2 := by
  unfold headF at h
  split at h
  · injection h with h
    split at h <;> (subst h; exact ⟨by omega, by omega⟩)
  split at h
  · injection h with h; subst h; exact ⟨by omega, by omega⟩
  split at h
  · injection h with h; subst h; exact ⟨by omega, by omega⟩
  split at h
  · injection h with h; subst h; exact ⟨by omega, by omega⟩
  · cases h

theorem le4_num4 {l : List UInt8} (h : 4 ≤ l.length) : le4 (num4 l) = l.take 4 := by
  match l, h with
  | a :: b :: c :: d :: _, _ =>
    have ha := a.toNat_lt; have hb := b.toNat_lt; have hc := c.toNat_lt; have hd := d.toNat_lt
    have key : ∀ (x : UInt8) (n : Nat), n % 256 = x.toNat → UInt8.ofNat n = x := fun x n hn => by
      apply UInt8.toNat_inj.1; rw [UInt8.toNat_ofNat']; exact hn
    simp only [num4, le4, List.take_succ_cons, List.take_zero]
    rw [key a _ (by omega), key b _ (by omega), key c _ (by omega), key d _ (by omega)]

theorem headF_put_back {b r : List UInt8} (h : headF b = .inr r) : b = putF r ++ b.drop (r.length + 12) := by
  obtain ⟨h1, h2, h3, h4, h5, h6⟩ := headF_rec h
  have e1 : le4 r.length = b.take 4 := by rw [h1]; exact le4_num4 (by omega)
  have e2 : le4 (4294967295 - r.length) = (b.drop 4).take 4 := by rw [h1, ← h4]; exact le4_num4 (by simp; omega)
  have e3 : le4 (sumB r).toNat = (b.drop (8 + r.length)).take 4 := by rw [← h6, h1]; exact le4_num4 (by simp; omega)
  have e5 : r = (b.drop 8).take r.length := by rw [h1]; exact h5
  unfold putF
  rw [e1, e2, e3]
  conv => lhs; rw [← List.take_append_drop 4 b, ← List.take_append_drop 4 (b.drop 4), List.drop_drop, ← List.take_append_drop r.length (b.drop (4 + 4)), List.drop_drop, ← e5, ← List.take_append_drop 4 (b.drop (4 + 4 + r.length)), List.drop_drop]
  simp only [List.append_assoc]
  rw [show 4 + 4 + r.length + 4 = r.length + 12 by omega, show 4 + 4 + r.length = 8 + r.length by omega]

/-- what the law FrameMore asks. -/
theorem scan_more : ∀ (n : Nat) (b m : List UInt8), b.length < n →
    (scanF b).2.1 ≤ b.length ∧ (scanF b).2.1 ≤ (scanF (b ++ m)).2.1 ∧ (∃ t, (scanF (b ++ m)).1 = (scanF b).1 ++ t) ∧
    ((scanF b).2.2 = 2 → (scanF (b ++ m)).2.2 = 2 ∧ (scanF (b ++ m)).2.1 = (scanF b).2.1) ∧
    ((scanF b).2.2 = 0 ↔ (scanF b).2.1 = b.length) ∧ putAll (scanF b).1 = b.take (scanF b).2.1 ∧ (∀ r ∈ (scanF b).1, r.length ≤ 65536)
  | 0, _, _, h => absurd h (by omega)
  | n + 1, b, m, hn => by
    cases h : headF b with
    | inl k =>
      have hs := headF_stop h
      have e : scanF b = ([], 0, k) := by rw [scanF_eq, h]
      rw [e]
      refine ⟨by simp, by simp, ⟨_, rfl⟩, ?_, ?_, by simp [putAll], by simp⟩
      · intro hk
        simp only at hk
        subst hk
        rw [scanF_eq, headF_more_bad m h]; simp
      · simp only; rw [hs.1]; omega
    | inr r =>
      have h' := headF_rec h
      have e : scanF b = (r :: (scanF (b.drop (r.length + 12))).1, r.length + 12 + (scanF (b.drop (r.length + 12))).2.1, (scanF (b.drop (r.length + 12))).2.2) := by rw [scanF_eq, h]
      have e2 : scanF (b ++ m) = (r :: (scanF (b.drop (r.length + 12) ++ m)).1, r.length + 12 + (scanF (b.drop (r.length + 12) ++ m)).2.1, (scanF (b.drop (r.length + 12) ++ m)).2.2) := by
        rw [scanF_eq, headF_more_rec m h]
        simp only
        rw [List.drop_append_of_le_length (by omega)]
      obtain ⟨i1, i2, ⟨t, i3⟩, i4, i5, i6, i7⟩ := scan_more n (b.drop (r.length + 12)) m (by simp; omega)
      rw [e, e2]
      simp only
      refine ⟨by simp at i1; omega, by omega, ⟨t, by rw [i3]; rfl⟩, fun hk => ⟨(i4 hk).1, by rw [(i4 hk).2]⟩, ?_, ?_, ?_⟩
      · rw [i5]; simp; omega
      · have hb := headF_put_back h
        have e3 : putAll (r :: (scanF (b.drop (r.length + 12))).1) = putF r ++ putAll (scanF (b.drop (r.length + 12))).1 := rfl
        have e4 : ∀ k, b.take (r.length + 12 + k) = putF r ++ (b.drop (r.length + 12)).take k := fun k => by
          have := congrArg (List.take (r.length + 12 + k)) hb
          rw [List.take_append, List.take_of_length_le (l := putF r) (by rw [putF_length]; omega), putF_length, show r.length + 12 + k - (r.length + 12) = k by omega] at this
          exact this
        rw [e3, i6, e4]
      · intro x hx
        rcases List.mem_cons.1 hx with rfl | hx
        · omega
        · exact i7 x hx
end Go.Proofs.Ytdglaacjefcfdaa.Fr

/- plain law: numbers digit by digit, to the base 65536: no program in sight -/
import Derived.Test.YtjiiikeniocmfaaGreatMQCont
import Derived.Test.YtjiiikeniocmfaaGreatMQRing1
import Derived.Laws.Tables
import Derived.BigRegion
import Derived.Deep.CutBlock
import Derived.Deep.DeepCutAuto
namespace Go.Geo
/-- the number that digits say, the lowest first. -/
def valD : List Int → Int
  | [] => 0
  | d :: D => d + 65536 * valD D
theorem valD_append : ∀ (D E : List Int), valD (D ++ E) = valD D + 65536 ^ D.length * valD E
  | [], E => by simp [valD]
  | d :: D, E => by
    rw [List.cons_append, valD, valD, valD_append D E, List.length_cons, Int.pow_succ]
    generalize (65536 : Int) ^ D.length = p
    grind
theorem valD_split (D : List Int) (i : Nat) (h : i ≤ D.length) : valD D = valD (D.take i) + 65536 ^ i * valD (D.drop i) := by
  have := valD_append (D.take i) (D.drop i)
  rw [List.take_append_drop, List.length_take, Nat.min_eq_left h] at this
  exact this
theorem valD_set : ∀ (D : List Int) (i : Nat) (v : Int), i < D.length → valD (D.set i v) = valD D + 65536 ^ i * (v - D.getD i 0)
  | d :: D, 0, v, _ => by
    simp [valD]
    omega
  | d :: D, i + 1, v, h => by
    have ih := valD_set D i v (by simpa using h)
    rw [List.set_cons_succ, valD, ih, valD, Int.pow_succ]
    simp only [List.getD_cons_succ]
    generalize (65536 : Int) ^ i = p
    grind
theorem pow_pos' (i : Nat) : (0 : Int) < 65536 ^ i := Int.pow_pos (by decide)
/-- digits that are ones. -/
def Digits (D : List Int) : Prop := ∀ d ∈ D, 0 ≤ d ∧ d < 65536
theorem valD_range : ∀ (D : List Int), Digits D → 0 ≤ valD D ∧ valD D < 65536 ^ D.length
  | [], _ => by simp [valD]
  | d :: D, h => by
    have ih := valD_range D (fun x hx => h x (by simp [hx]))
    have hd := h d (by simp)
    rw [valD, List.length_cons, Int.pow_succ]
    generalize (65536 : Int) ^ D.length = p at ih ⊢
    omega
theorem valD_nonneg : ∀ (D : List Int), (∀ d ∈ D, 0 ≤ d) → 0 ≤ valD D
  | [], _ => by simp [valD]
  | d :: D, h => by
    have ih := valD_nonneg D (fun x hx => h x (by simp [hx]))
    have hd := h d (by simp)
    rw [valD]
    omega
theorem getD_mem {D : List Int} {i : Nat} (h : i < D.length) : D.getD i 0 ∈ D := by
  rw [List.getD_eq_getElem?_getD, List.getElem?_eq_getElem h]; exact List.getElem_mem h
theorem drop_get {D : List Int} {i : Nat} (h : i < D.length) : D.drop i = D.getD i 0 :: D.drop (i + 1) := by
  rw [List.drop_eq_getElem_cons h, List.getD_eq_getElem?_getD, List.getElem?_eq_getElem h]; rfl
/-- the carries, as far as the i-th digit. -/
def Carry (i : Nat) (v : Int) (D : List Int) : Prop := D.length = 12 ∧ valD D = v ∧ (∀ j, j < i → 0 ≤ D.getD j 0 ∧ D.getD j 0 < 65536) ∧ (∀ j, i ≤ j → j < 12 → 0 ≤ D.getD j 0 ∧ D.getD j 0 ≤ 281474976710656 + (if j = i then 8589934592 else 0))
theorem getD_set {D : List Int} {i j : Nat} {v : Int} (h : i < D.length) : (D.set i v).getD j 0 = if j = i then v else D.getD j 0 := by
  rw [List.getD_eq_getElem?_getD, List.getElem?_set]
  by_cases e : i = j
  · subst e; simp [h]
  · rw [if_neg e, if_neg (fun h => e h.symm), List.getD_eq_getElem?_getD]
theorem Carry.step {i : Nat} {v : Int} {D : List Int} (h : Carry i v D) (hi : i < 11) : Carry (i + 1) v ((D.set (i + 1) (D.getD (i + 1) 0 + D.getD i 0 / 65536)).set i (D.getD i 0 % 65536)) := by
  obtain ⟨h1, h2, h3, h4⟩ := h
  have hdi := h4 i (Nat.le_refl _) (by omega)
  rw [if_pos rfl] at hdi
  have hdn := h4 (i + 1) (by omega) (by omega)
  rw [if_neg (by omega)] at hdn
  have l1 : i + 1 < D.length := by omega
  have l2 : i < (D.set (i + 1) (D.getD (i + 1) 0 + D.getD i 0 / 65536)).length := by simp; omega
  refine ⟨by simp [h1], ?_, fun j hj => ?_, fun j hj hj2 => ?_⟩
  · rw [valD_set _ _ _ l2, valD_set _ _ _ l1, getD_set l1, if_neg (by omega), h2, Int.pow_succ]
    generalize (65536 : Int) ^ i = p
    have e : D.getD i 0 = 65536 * (D.getD i 0 / 65536) + D.getD i 0 % 65536 := by omega
    generalize D.getD i 0 / 65536 = q at *
    generalize D.getD i 0 % 65536 = r at *
    rw [e]
    grind
  · rw [getD_set l2]
    by_cases e : j = i
    · rw [if_pos e]; omega
    · rw [if_neg e, getD_set l1, if_neg (by omega)]
      exact h3 j (by omega)
  · rw [getD_set l2, if_neg (by omega), getD_set l1]
    by_cases e : j = i + 1
    · rw [if_pos e, if_pos e]
      subst e
      omega
    · rw [if_neg e, if_neg e]
      have := h4 j (by omega) hj2
      rw [if_neg (by omega)] at this
      exact this
theorem Carry.done {v : Int} {D : List Int} (h : Carry 11 v D) (hv : v < 65536 ^ 12) : Digits D := by
  obtain ⟨h1, h2, h3, h4⟩ := h
  have h11 := h4 11 (Nat.le_refl _) (by omega)
  have hs := valD_split D 11 (by omega)
  have hn : 0 ≤ valD (D.take 11) := valD_nonneg _ (fun d hd => by
    obtain ⟨j, hj, rfl⟩ := List.mem_iff_getElem.1 hd
    have hj2 : j < 11 := by simp at hj; omega
    have := h3 j hj2
    rw [List.getD_eq_getElem?_getD, List.getElem?_eq_getElem (by omega)] at this
    rw [List.getElem_take]
    exact this.1)
  have hd : valD (D.drop 11) = D.getD 11 0 := by
    rw [drop_get (by omega), List.drop_of_length_le (by omega), valD, valD]; omega
  rw [hd, h2] at hs
  intro d hd
  obtain ⟨j, hj, rfl⟩ := List.mem_iff_getElem.1 hd
  have e : D[j] = D.getD j 0 := by rw [List.getD_eq_getElem?_getD, List.getElem?_eq_getElem hj]; rfl
  rw [e]
  by_cases hj2 : j < 11
  · exact h3 j hj2
  · obtain rfl : j = 11 := by omega
    refine ⟨h11.1, ?_⟩
    generalize D.getD 11 0 = x at *
    have e2 : (65536 : Int) ^ 12 = 65536 ^ 11 * 65536 := rfl
    rw [e2] at hv
    have hp : (0 : Int) < 65536 ^ 11 := pow_pos' 11
    generalize (65536 : Int) ^ 11 = p at *
    by_cases hx : x < 65536
    · exact hx
    · exfalso
      have := Int.mul_le_mul_of_nonneg_left (show 65536 ≤ x by omega) (Int.le_of_lt hp)
      omega
theorem Carry.start {D : List Int} (h : D.length = 12) (hd : ∀ d ∈ D, 0 ≤ d ∧ d ≤ 281474976710656) : Carry 0 (valD D) D := by
  refine ⟨h, rfl, fun j hj => absurd hj (by omega), fun j _ hj => ?_⟩
  have := hd _ (getD_mem (D := D) (i := j) (by omega))
  split <;> omega
theorem take_get {D : List Int} {k : Nat} (h : k < D.length) : valD (D.take (k + 1)) = valD (D.take k) + 65536 ^ k * D.getD k 0 := by
  have e : D.take (k + 1) = D.take k ++ [D.getD k 0] := by
    rw [List.take_succ_eq_append_getElem h, List.getD_eq_getElem?_getD, List.getElem?_eq_getElem h]; rfl
  rw [e, valD_append, List.length_take, Nat.min_eq_left (by omega)]
  simp [valD]
/-- a sum, digit by digit, as far as the k-th. -/
def AddTo (k : Nat) (X Y D : List Int) : Prop := D.length = 12 ∧ valD D = valD X + valD (Y.take k) ∧ (∀ j, j < 12 → 0 ≤ D.getD j 0 ∧ D.getD j 0 ≤ 131070) ∧ ∀ j, k ≤ j → D.getD j 0 = X.getD j 0
theorem AddTo.start {X Y : List Int} (hX : Digits X) (h : X.length = 12) : AddTo 0 X Y X :=
  ⟨h, by simp [valD], (fun j hj => by have := hX _ (getD_mem (D := X) (i := j) (by omega)); omega), fun _ _ => rfl⟩
theorem AddTo.step {k : Nat} {X Y D : List Int} (h : AddTo k X Y D) (hX : Digits X) (hY : Digits Y) (hx : X.length = 12) (hy : Y.length = 12) (hk : k < 12) : AddTo (k + 1) X Y (D.set k (D.getD k 0 + Y.getD k 0)) := by
  obtain ⟨h1, h2, h3, h4⟩ := h
  have hyk := hY _ (getD_mem (D := Y) (i := k) (by omega))
  have hxk := hX _ (getD_mem (D := X) (i := k) (by omega))
  have hdk := h4 k (Nat.le_refl _)
  refine ⟨by simp [h1], ?_, fun j hj => ?_, fun j hj => ?_⟩
  · rw [valD_set _ _ _ (by omega), h2, take_get (by omega)]
    generalize (65536 : Int) ^ k = p
    grind
  · rw [getD_set (by omega)]
    split
    · omega
    · exact h3 j hj
  · rw [getD_set (by omega), if_neg (by omega)]
    exact h4 j (by omega)
/-- a difference, digit by digit, as far as the k-th; what is lent is taken of the next one. -/
def SubTo (k : Nat) (X Y D : List Int) : Prop := D.length = 12 ∧ valD D = valD X - valD (Y.take k) ∧ (∀ j, j < k → j < 11 → 0 ≤ D.getD j 0 ∧ D.getD j 0 < 65536) ∧ (k < 12 → X.getD k 0 - 1 ≤ D.getD k 0 ∧ D.getD k 0 ≤ X.getD k 0) ∧ (∀ j, k < j → D.getD j 0 = X.getD j 0)
theorem SubTo.start {X Y : List Int} (h : X.length = 12) : SubTo 0 X Y X :=
  ⟨h, by simp [valD], (fun j hj => absurd hj (by omega)), (fun _ => ⟨by omega, Int.le_refl _⟩), fun _ _ => rfl⟩
/-- without a loan; with one. -/
theorem SubTo.step {k : Nat} {X Y D : List Int} (h : SubTo k X Y D) (hX : Digits X) (hY : Digits Y) (hx : X.length = 12) (hy : Y.length = 12) (hk : k < 12) (hn : 0 ≤ D.getD k 0 - Y.getD k 0 ∨ k = 11) : SubTo (k + 1) X Y (D.set k (D.getD k 0 - Y.getD k 0)) := by
  obtain ⟨h1, h2, h3, h4, h5⟩ := h
  have hyk := hY _ (getD_mem (D := Y) (i := k) (by omega))
  have hxk := hX _ (getD_mem (D := X) (i := k) (by omega))
  have hdk := h4 hk
  refine ⟨by simp [h1], ?_, fun j hj hj2 => ?_, fun hk2 => ?_, fun j hj => ?_⟩
  · rw [valD_set _ _ _ (by omega), h2, take_get (by omega)]
    generalize (65536 : Int) ^ k = p
    grind
  · rw [getD_set (by omega)]
    split
    · omega
    · exact h3 j (by omega) hj2
  · rw [getD_set (by omega), if_neg (by omega), h5 (k + 1) (by omega)]
    omega
  · rw [getD_set (by omega), if_neg (by omega)]
    exact h5 j (by omega)
theorem SubTo.done {X Y D : List Int} (h : SubTo 12 X Y D) (hy : Y.length = 12) (hle : valD Y ≤ valD X) : (∀ d ∈ D, 0 ≤ d) ∧ valD D = valD X - valD Y := by
  obtain ⟨h1, h2, h3, _, _⟩ := h
  rw [List.take_of_length_le (by omega)] at h2
  refine ⟨?_, h2⟩
  have hs := valD_split D 11 (by omega)
  have hdig : Digits (D.take 11) := fun d hd => by
    obtain ⟨j, hj, rfl⟩ := List.mem_iff_getElem.1 hd
    have hj2 : j < 11 := by simp at hj; omega
    have := h3 j (by omega) hj2
    rw [List.getD_eq_getElem?_getD, List.getElem?_eq_getElem (by omega)] at this
    rw [List.getElem_take]
    exact this
  have hr := valD_range _ hdig
  rw [List.length_take, Nat.min_eq_left (by omega)] at hr
  have hd : valD (D.drop 11) = D.getD 11 0 := by
    rw [drop_get (by omega), List.drop_of_length_le (by omega), valD, valD]; omega
  rw [hd] at hs
  intro d hd
  obtain ⟨j, hj, rfl⟩ := List.mem_iff_getElem.1 hd
  have e : D[j] = D.getD j 0 := by rw [List.getD_eq_getElem?_getD, List.getElem?_eq_getElem hj]; rfl
  rw [e]
  by_cases hj2 : j < 11
  · exact (h3 j (by omega) hj2).1
  · obtain rfl : j = 11 := by omega
    generalize D.getD 11 0 = x at *
    have hp : (0 : Int) < 65536 ^ 11 := pow_pos' 11
    generalize (65536 : Int) ^ 11 = p at *
    by_cases hx : 0 ≤ x
    · exact hx
    · exfalso
      have := Int.mul_le_mul_of_nonneg_left (show x ≤ -1 by omega) (Int.le_of_lt hp)
      omega
/-- a product of two of four digits, as far as the k-th of the i-th. -/
def MulTo (i k : Nat) (X Y D : List Int) : Prop := D.length = 12 ∧ valD D = valD (X.take i) * valD (Y.take 4) + 65536 ^ i * (X.getD i 0 * valD (Y.take k)) ∧ ∀ j, j < 12 → 0 ≤ D.getD j 0 ∧ D.getD j 0 ≤ (4 * i + k : Nat) * 4294836225
theorem MulTo.step {i k : Nat} {X Y D : List Int} (h : MulTo i k X Y D) (hX : Digits X) (hY : Digits Y) (hx : X.length = 12) (hy : Y.length = 12) (hi : i < 4) (hk : k < 4) : MulTo i (k + 1) X Y (D.set (i + k) (D.getD (i + k) 0 + X.getD i 0 * Y.getD k 0)) := by
  obtain ⟨h1, h2, h3⟩ := h
  have hyk := hY _ (getD_mem (D := Y) (i := k) (by omega))
  have hxk := hX _ (getD_mem (D := X) (i := i) (by omega))
  have hm0 : 0 ≤ X.getD i 0 * Y.getD k 0 := Int.mul_nonneg hxk.1 hyk.1
  have hm1 : X.getD i 0 * Y.getD k 0 ≤ 65535 * 65535 := Int.mul_le_mul (by omega) (by omega) hyk.1 (by decide)
  refine ⟨by simp [h1], ?_, fun j hj => ?_⟩
  · have ht := take_get (D := Y) (k := k) (by omega)
    rw [valD_set _ _ _ (by omega), h2, ht, Int.pow_add]
    generalize (65536 : Int) ^ k = p
    generalize (65536 : Int) ^ i = q
    clear hm0 hm1 h3 h2 ht hX hY hyk hxk
    grind
  · have hj3 := h3 j hj
    rw [getD_set (by omega)]
    split
    · subst_vars
      omega
    · omega
theorem MulTo.next {i : Nat} {X Y D : List Int} (h : MulTo i 4 X Y D) (hx : X.length = 12) (hi : i < 4) : MulTo (i + 1) 0 X Y D := by
  obtain ⟨h1, h2, h3⟩ := h
  refine ⟨h1, ?_, fun j hj => ?_⟩
  · rw [h2, take_get (D := X) (by omega)]
    simp only [List.take_zero, valD, Int.mul_zero, Int.add_zero]
    generalize (65536 : Int) ^ i = q
    grind
  · have := h3 j hj
    omega
theorem MulTo.start (X Y : List Int) : MulTo 0 0 X Y (List.replicate 12 0) := by
  refine ⟨rfl, ?_, fun j hj => ?_⟩
  · simp [valD]
  · match j, hj with
    | 0, _ | 1, _ | 2, _ | 3, _ | 4, _ | 5, _ | 6, _ | 7, _ | 8, _ | 9, _ | 10, _ | 11, _ => simp
/-- four digits, and no more. -/
def Four (D : List Int) : Prop := ∀ j, 4 ≤ j → D.getD j 0 = 0
theorem Four.val {D : List Int} (h : Four D) (hl : D.length = 12) : valD (D.take 4) = valD D := by
  have hs := valD_split D 4 (by omega)
  have h0 : valD (D.drop 4) = 0 := by
    have key : ∀ (E : List Int), (∀ d ∈ E, d = 0) → valD E = 0 := by
      intro E
      induction E with
      | nil => intro _; rfl
      | cons d E ih =>
        intro hE
        rw [valD, ih (fun x hx => hE x (by simp [hx])), hE d (by simp)]
        rfl
    refine key _ fun d hd => ?_
    obtain ⟨j, hj, rfl⟩ := List.mem_iff_getElem.1 hd
    have := h (4 + j) (by omega)
    rw [List.getElem_drop]
    rw [List.getD_eq_getElem?_getD, List.getElem?_eq_getElem (by simp at hj; omega)] at this
    exact this
  rw [h0] at hs
  omega
end Go.Geo

/- the document's numbers: their values; zero -/
set_option linter.unusedSimpArgs false
set_option linter.unusedVariables false
namespace Go.Proofs.YtjiiikeniocmfaaGreat
open Go.RowKit Go.Geo
attribute [local go_sem] Oper.semAt_some
end Go.Proofs.YtjiiikeniocmfaaGreat

/- the document's numbers: carried -/
set_option linter.unusedSimpArgs false
set_option linter.unusedVariables false
namespace Go.Proofs.YtjiiikeniocmfaaGreat
open Go.RowKit Go.Geo
attribute [local go_sem] Oper.semAt_some
end Go.Proofs.YtjiiikeniocmfaaGreat

/- the document's numbers: Less, Sgn, size -/
set_option linter.unusedSimpArgs false
set_option linter.unusedVariables false
namespace Go.Proofs.YtjiiikeniocmfaaGreat
open Go.RowKit Go.Geo
attribute [local go_sem] Oper.semAt_some
end Go.Proofs.YtjiiikeniocmfaaGreat

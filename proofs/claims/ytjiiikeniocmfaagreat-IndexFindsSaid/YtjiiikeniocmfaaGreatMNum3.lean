/- plain law: numbers digit by digit, to the base 65536: no program in sight -/
import Derived.Test.YtjiiikeniocmfaaGreatMQCont
import Derived.Test.YtjiiikeniocmfaaGreatMQRing1
import Derived.Laws.Tables
import Derived.BigRegion
import Derived.Deep.CutBlock
import Derived.Deep.DeepCutAuto
namespace Go.Geo
def sgnN (n : Int) : Int := if n < 0 then -1 else if n = 0 then 0 else 1
/-- the number that digits say, the lowest first. -/
def valD : List Int → Int
  | [] => 0
  | d :: D => d + 65536 * valD D
theorem valD_append : ∀ (D E : List Int), valD (D ++ E) = valD D + 65536 ^ D.length * valD E
  | [], E => by simp [valD]
  | d :: D, E => by
    rw [List.cons_append, valD, valD, valD_append D E, List.length_cons, Int.pow_succ]
    generalize (65536 : Int) ^ D.length = p
    grind
theorem valD_split (D : List Int) (i : Nat) (h : i ≤ D.length) : valD D = valD (D.take i) + 65536 ^ i * valD (D.drop i) := by
  have := valD_append (D.take i) (D.drop i)
  rw [List.take_append_drop, List.length_take, Nat.min_eq_left h] at this
  exact this
theorem valD_set : ∀ (D : List Int) (i : Nat) (v : Int), i < D.length → valD (D.set i v) = valD D + 65536 ^ i * (v - D.getD i 0)
  | d :: D, 0, v, _ => by
    simp [valD]
    omega
  | d :: D, i + 1, v, h => by
    have ih := valD_set D i v (by simpa using h)
    rw [List.set_cons_succ, valD, ih, valD, Int.pow_succ]
    simp only [List.getD_cons_succ]
    generalize (65536 : Int) ^ i = p
    grind
theorem pow_pos' (i : Nat) : (0 : Int) < 65536 ^ i := Int.pow_pos (by decide)
/-- digits that are ones. -/
def Digits (D : List Int) : Prop := ∀ d ∈ D, 0 ≤ d ∧ d < 65536
theorem valD_range : ∀ (D : List Int), Digits D → 0 ≤ valD D ∧ valD D < 65536 ^ D.length
  | [], _ => by simp [valD]
  | d :: D, h => by
    have ih := valD_range D (fun x hx => h x (by simp [hx]))
    have hd := h d (by simp)
    rw [valD, List.length_cons, Int.pow_succ]
    generalize (65536 : Int) ^ D.length = p at ih ⊢
    omega
theorem valD_nonneg : ∀ (D : List Int), (∀ d ∈ D, 0 ≤ d) → 0 ≤ valD D
  | [], _ => by simp [valD]
  | d :: D, h => by
    have ih := valD_nonneg D (fun x hx => h x (by simp [hx]))
    have hd := h d (by simp)
    rw [valD]
    omega
theorem valD_zero : ∀ (D : List Int), (∀ d ∈ D, 0 ≤ d) → (valD D = 0 ↔ ∀ d ∈ D, d = 0)
  | [], _ => by simp [valD]
  | d :: D, h => by
    have h1 := valD_nonneg D (fun x hx => h x (by simp [hx]))
    have ih := valD_zero D (fun x hx => h x (by simp [hx]))
    have hd := h d (by simp)
    rw [valD]
    constructor
    · intro he x hx
      have hv : valD D = 0 := by omega
      have hd0 : d = 0 := by omega
      rcases List.mem_cons.1 hx with rfl | hx
      · exact hd0
      · exact ih.1 hv x hx
    · intro hz
      have h2 := ih.2 (fun x hx => hz x (by simp [hx]))
      have h3 := hz d (by simp)
      omega
theorem getD_mem {D : List Int} {i : Nat} (h : i < D.length) : D.getD i 0 ∈ D := by
  rw [List.getD_eq_getElem?_getD, List.getElem?_eq_getElem h]; exact List.getElem_mem h
theorem drop_get {D : List Int} {i : Nat} (h : i < D.length) : D.drop i = D.getD i 0 :: D.drop (i + 1) := by
  rw [List.drop_eq_getElem_cons h, List.getD_eq_getElem?_getD, List.getElem?_eq_getElem h]; rfl
/-- the first digit from above that is another one tells which is more. -/
theorem valD_less {D E : List Int} {i : Nat} (hD : Digits D) (hE : Digits E) (hl : D.length = E.length) (hi : i < D.length) (h : D.drop (i + 1) = E.drop (i + 1)) (hd : D.getD i 0 < E.getD i 0) : valD D < valD E := by
  rw [valD_split D i (by omega), valD_split E i (by omega), drop_get hi, drop_get (D := E) (by omega), valD, valD, h]
  have h1 := valD_range (D.take i) (fun x hx => hD x (List.mem_of_mem_take hx))
  have h2 := valD_range (E.take i) (fun x hx => hE x (List.mem_of_mem_take hx))
  rw [List.length_take, Nat.min_eq_left (by omega)] at h1 h2
  generalize valD (E.drop (i + 1)) = r
  generalize hp : (65536 : Int) ^ i = p at *
  have hp0 : 0 < p := by rw [← hp]; exact pow_pos' i
  have h3 : p * (D.getD i 0 + 65536 * r) + p ≤ p * (E.getD i 0 + 65536 * r) := by
    have : D.getD i 0 + 65536 * r + 1 ≤ E.getD i 0 + 65536 * r := by omega
    have := Int.mul_le_mul_of_nonneg_left this (Int.le_of_lt hp0)
    rw [Int.mul_add, Int.mul_one] at this
    exact this
  omega
/-- a number: its sign, and the number that its digits say. -/
def numZ (neg : Bool) (D : List Int) : Int := if neg then - valD D else valD D
/-- twelve digits that are ones; no sign of nothing. -/
def Canon (neg : Bool) (D : List Int) (z : Int) : Prop := D.length = 12 ∧ Digits D ∧ z = numZ neg D ∧ (valD D = 0 → neg = false)
/-- the carries, as far as the i-th digit. -/
def Carry (i : Nat) (v : Int) (D : List Int) : Prop := D.length = 12 ∧ valD D = v ∧ (∀ j, j < i → 0 ≤ D.getD j 0 ∧ D.getD j 0 < 65536) ∧ (∀ j, i ≤ j → j < 12 → 0 ≤ D.getD j 0 ∧ D.getD j 0 ≤ 281474976710656 + (if j = i then 8589934592 else 0))
theorem getD_set {D : List Int} {i j : Nat} {v : Int} (h : i < D.length) : (D.set i v).getD j 0 = if j = i then v else D.getD j 0 := by
  rw [List.getD_eq_getElem?_getD, List.getElem?_set]
  by_cases e : i = j
  · subst e; simp [h]
  · rw [if_neg e, if_neg (fun h => e h.symm), List.getD_eq_getElem?_getD]
theorem Carry.step {i : Nat} {v : Int} {D : List Int} (h : Carry i v D) (hi : i < 11) : Carry (i + 1) v ((D.set (i + 1) (D.getD (i + 1) 0 + D.getD i 0 / 65536)).set i (D.getD i 0 % 65536)) := by
  obtain ⟨h1, h2, h3, h4⟩ := h
  have hdi := h4 i (Nat.le_refl _) (by omega)
  rw [if_pos rfl] at hdi
  have hdn := h4 (i + 1) (by omega) (by omega)
  rw [if_neg (by omega)] at hdn
  have l1 : i + 1 < D.length := by omega
  have l2 : i < (D.set (i + 1) (D.getD (i + 1) 0 + D.getD i 0 / 65536)).length := by simp; omega
  refine ⟨by simp [h1], ?_, fun j hj => ?_, fun j hj hj2 => ?_⟩
  · rw [valD_set _ _ _ l2, valD_set _ _ _ l1, getD_set l1, if_neg (by omega), h2, Int.pow_succ]
    generalize (65536 : Int) ^ i = p
    have e : D.getD i 0 = 65536 * (D.getD i 0 / 65536) + D.getD i 0 % 65536 := by omega
    generalize D.getD i 0 / 65536 = q at *
    generalize D.getD i 0 % 65536 = r at *
    rw [e]
    grind
  · rw [getD_set l2]
    by_cases e : j = i
    · rw [if_pos e]; omega
    · rw [if_neg e, getD_set l1, if_neg (by omega)]
      exact h3 j (by omega)
  · rw [getD_set l2, if_neg (by omega), getD_set l1]
    by_cases e : j = i + 1
    · rw [if_pos e, if_pos e]
      subst e
      omega
    · rw [if_neg e, if_neg e]
      have := h4 j (by omega) hj2
      rw [if_neg (by omega)] at this
      exact this
theorem Carry.done {v : Int} {D : List Int} (h : Carry 11 v D) (hv : v < 65536 ^ 12) : Digits D := by
  obtain ⟨h1, h2, h3, h4⟩ := h
  have h11 := h4 11 (Nat.le_refl _) (by omega)
  have hs := valD_split D 11 (by omega)
  have hn : 0 ≤ valD (D.take 11) := valD_nonneg _ (fun d hd => by
    obtain ⟨j, hj, rfl⟩ := List.mem_iff_getElem.1 hd
    have hj2 : j < 11 := by simp at hj; omega
    have := h3 j hj2
    rw [List.getD_eq_getElem?_getD, List.getElem?_eq_getElem (by omega)] at this
    rw [List.getElem_take]
    exact this.1)
  have hd : valD (D.drop 11) = D.getD 11 0 := by
    rw [drop_get (by omega), List.drop_of_length_le (by omega), valD, valD]; omega
  rw [hd, h2] at hs
  intro d hd
  obtain ⟨j, hj, rfl⟩ := List.mem_iff_getElem.1 hd
  have e : D[j] = D.getD j 0 := by rw [List.getD_eq_getElem?_getD, List.getElem?_eq_getElem hj]; rfl
  rw [e]
  by_cases hj2 : j < 11
  · exact h3 j hj2
  · obtain rfl : j = 11 := by omega
    refine ⟨h11.1, ?_⟩
    generalize D.getD 11 0 = x at *
    have e2 : (65536 : Int) ^ 12 = 65536 ^ 11 * 65536 := rfl
    rw [e2] at hv
    have hp : (0 : Int) < 65536 ^ 11 := pow_pos' 11
    generalize (65536 : Int) ^ 11 = p at *
    by_cases hx : x < 65536
    · exact hx
    · exfalso
      have := Int.mul_le_mul_of_nonneg_left (show 65536 ≤ x by omega) (Int.le_of_lt hp)
      omega
theorem Carry.start {D : List Int} (h : D.length = 12) (hd : ∀ d ∈ D, 0 ≤ d ∧ d ≤ 281474976710656) : Carry 0 (valD D) D := by
  refine ⟨h, rfl, fun j hj => absurd hj (by omega), fun j _ hj => ?_⟩
  have := hd _ (getD_mem (D := D) (i := j) (by omega))
  split <;> omega
/-- the carried number, its sign mended. -/
theorem Carry.canon {neg : Bool} {v : Int} {D : List Int} (h : Carry 11 v D) (hv : v < 65536 ^ 12) : Canon (if decide (valD D = 0) then false else neg) D (if neg then -v else v) := by
  refine ⟨h.1, h.done hv, ?_, fun hz => by rw [if_pos (decide_eq_true hz)]⟩
  unfold numZ
  rw [h.2.1]
  by_cases hz : v = 0
  · rw [decide_eq_true hz]; subst hz; cases neg <;> rfl
  · rw [decide_eq_false hz]; cases neg <;> rfl
theorem take_get {D : List Int} {k : Nat} (h : k < D.length) : valD (D.take (k + 1)) = valD (D.take k) + 65536 ^ k * D.getD k 0 := by
  have e : D.take (k + 1) = D.take k ++ [D.getD k 0] := by
    rw [List.take_succ_eq_append_getElem h, List.getD_eq_getElem?_getD, List.getElem?_eq_getElem h]; rfl
  rw [e, valD_append, List.length_take, Nat.min_eq_left (by omega)]
  simp [valD]
/-- a sum, digit by digit, as far as the k-th. -/
def AddTo (k : Nat) (X Y D : List Int) : Prop := D.length = 12 ∧ valD D = valD X + valD (Y.take k) ∧ (∀ j, j < 12 → 0 ≤ D.getD j 0 ∧ D.getD j 0 ≤ 131070) ∧ ∀ j, k ≤ j → D.getD j 0 = X.getD j 0
theorem AddTo.start {X Y : List Int} (hX : Digits X) (h : X.length = 12) : AddTo 0 X Y X :=
  ⟨h, by simp [valD], (fun j hj => by have := hX _ (getD_mem (D := X) (i := j) (by omega)); omega), fun _ _ => rfl⟩
theorem AddTo.step {k : Nat} {X Y D : List Int} (h : AddTo k X Y D) (hX : Digits X) (hY : Digits Y) (hx : X.length = 12) (hy : Y.length = 12) (hk : k < 12) : AddTo (k + 1) X Y (D.set k (D.getD k 0 + Y.getD k 0)) := by
  obtain ⟨h1, h2, h3, h4⟩ := h
  have hyk := hY _ (getD_mem (D := Y) (i := k) (by omega))
  have hxk := hX _ (getD_mem (D := X) (i := k) (by omega))
  have hdk := h4 k (Nat.le_refl _)
  refine ⟨by simp [h1], ?_, fun j hj => ?_, fun j hj => ?_⟩
  · rw [valD_set _ _ _ (by omega), h2, take_get (by omega)]
    generalize (65536 : Int) ^ k = p
    grind
  · rw [getD_set (by omega)]
    split
    · omega
    · exact h3 j hj
  · rw [getD_set (by omega), if_neg (by omega)]
    exact h4 j (by omega)
/-- a difference, digit by digit, as far as the k-th; what is lent is taken of the next one. -/
def SubTo (k : Nat) (X Y D : List Int) : Prop := D.length = 12 ∧ valD D = valD X - valD (Y.take k) ∧ (∀ j, j < k → j < 11 → 0 ≤ D.getD j 0 ∧ D.getD j 0 < 65536) ∧ (k < 12 → X.getD k 0 - 1 ≤ D.getD k 0 ∧ D.getD k 0 ≤ X.getD k 0) ∧ (∀ j, k < j → D.getD j 0 = X.getD j 0)
theorem SubTo.start {X Y : List Int} (h : X.length = 12) : SubTo 0 X Y X :=
  ⟨h, by simp [valD], (fun j hj => absurd hj (by omega)), (fun _ => ⟨by omega, Int.le_refl _⟩), fun _ _ => rfl⟩
/-- without a loan; with one. -/
theorem SubTo.step {k : Nat} {X Y D : List Int} (h : SubTo k X Y D) (hX : Digits X) (hY : Digits Y) (hx : X.length = 12) (hy : Y.length = 12) (hk : k < 12) (hn : 0 ≤ D.getD k 0 - Y.getD k 0 ∨ k = 11) : SubTo (k + 1) X Y (D.set k (D.getD k 0 - Y.getD k 0)) := by
  obtain ⟨h1, h2, h3, h4, h5⟩ := h
  have hyk := hY _ (getD_mem (D := Y) (i := k) (by omega))
  have hxk := hX _ (getD_mem (D := X) (i := k) (by omega))
  have hdk := h4 hk
  refine ⟨by simp [h1], ?_, fun j hj hj2 => ?_, fun hk2 => ?_, fun j hj => ?_⟩
  · rw [valD_set _ _ _ (by omega), h2, take_get (by omega)]
    generalize (65536 : Int) ^ k = p
    grind
  · rw [getD_set (by omega)]
    split
    · omega
    · exact h3 j (by omega) hj2
  · rw [getD_set (by omega), if_neg (by omega), h5 (k + 1) (by omega)]
    omega
  · rw [getD_set (by omega), if_neg (by omega)]
    exact h5 j (by omega)
theorem SubTo.lend {k : Nat} {X Y D : List Int} (h : SubTo k X Y D) (hX : Digits X) (hY : Digits Y) (hx : X.length = 12) (hy : Y.length = 12) (hk : k < 11) (hn : D.getD k 0 - Y.getD k 0 < 0) : SubTo (k + 1) X Y ((D.set k (D.getD k 0 - Y.getD k 0 + 65536)).set (k + 1) (D.getD (k + 1) 0 - 1)) := by
  obtain ⟨h1, h2, h3, h4, h5⟩ := h
  have hyk := hY _ (getD_mem (D := Y) (i := k) (by omega))
  have hxk := hX _ (getD_mem (D := X) (i := k) (by omega))
  have hdk := h4 (by omega)
  have hdn := h5 (k + 1) (by omega)
  have l1 : k < D.length := by omega
  have l2 : k + 1 < (D.set k (D.getD k 0 - Y.getD k 0 + 65536)).length := by simp; omega
  refine ⟨by simp [h1], ?_, fun j hj hj2 => ?_, fun hk2 => ?_, fun j hj => ?_⟩
  · rw [valD_set _ _ _ l2, valD_set _ _ _ l1, getD_set l1, if_neg (by omega), h2, take_get (by omega), Int.pow_succ]
    generalize (65536 : Int) ^ k = p
    grind
  · rw [getD_set l2, if_neg (by omega), getD_set l1]
    split
    · omega
    · exact h3 j (by omega) hj2
  · rw [getD_set l2, if_pos rfl]
    omega
  · rw [getD_set l2, if_neg (by omega), getD_set l1, if_neg (by omega)]
    exact h5 j (by omega)
theorem SubTo.done {X Y D : List Int} (h : SubTo 12 X Y D) (hy : Y.length = 12) (hle : valD Y ≤ valD X) : (∀ d ∈ D, 0 ≤ d) ∧ valD D = valD X - valD Y := by
  obtain ⟨h1, h2, h3, _, _⟩ := h
  rw [List.take_of_length_le (by omega)] at h2
  refine ⟨?_, h2⟩
  have hs := valD_split D 11 (by omega)
  have hdig : Digits (D.take 11) := fun d hd => by
    obtain ⟨j, hj, rfl⟩ := List.mem_iff_getElem.1 hd
    have hj2 : j < 11 := by simp at hj; omega
    have := h3 j (by omega) hj2
    rw [List.getD_eq_getElem?_getD, List.getElem?_eq_getElem (by omega)] at this
    rw [List.getElem_take]
    exact this
  have hr := valD_range _ hdig
  rw [List.length_take, Nat.min_eq_left (by omega)] at hr
  have hd : valD (D.drop 11) = D.getD 11 0 := by
    rw [drop_get (by omega), List.drop_of_length_le (by omega), valD, valD]; omega
  rw [hd] at hs
  intro d hd
  obtain ⟨j, hj, rfl⟩ := List.mem_iff_getElem.1 hd
  have e : D[j] = D.getD j 0 := by rw [List.getD_eq_getElem?_getD, List.getElem?_eq_getElem hj]; rfl
  rw [e]
  by_cases hj2 : j < 11
  · exact (h3 j (by omega) hj2).1
  · obtain rfl : j = 11 := by omega
    generalize D.getD 11 0 = x at *
    have hp : (0 : Int) < 65536 ^ 11 := pow_pos' 11
    generalize (65536 : Int) ^ 11 = p at *
    by_cases hx : 0 ≤ x
    · exact hx
    · exfalso
      have := Int.mul_le_mul_of_nonneg_left (show x ≤ -1 by omega) (Int.le_of_lt hp)
      omega
/-- a product of two of four digits, as far as the k-th of the i-th. -/
def MulTo (i k : Nat) (X Y D : List Int) : Prop := D.length = 12 ∧ valD D = valD (X.take i) * valD (Y.take 4) + 65536 ^ i * (X.getD i 0 * valD (Y.take k)) ∧ ∀ j, j < 12 → 0 ≤ D.getD j 0 ∧ D.getD j 0 ≤ (4 * i + k : Nat) * 4294836225
theorem MulTo.step {i k : Nat} {X Y D : List Int} (h : MulTo i k X Y D) (hX : Digits X) (hY : Digits Y) (hx : X.length = 12) (hy : Y.length = 12) (hi : i < 4) (hk : k < 4) : MulTo i (k + 1) X Y (D.set (i + k) (D.getD (i + k) 0 + X.getD i 0 * Y.getD k 0)) := by
  obtain ⟨h1, h2, h3⟩ := h
  have hyk := hY _ (getD_mem (D := Y) (i := k) (by omega))
  have hxk := hX _ (getD_mem (D := X) (i := i) (by omega))
  have hm0 : 0 ≤ X.getD i 0 * Y.getD k 0 := Int.mul_nonneg hxk.1 hyk.1
  have hm1 : X.getD i 0 * Y.getD k 0 ≤ 65535 * 65535 := Int.mul_le_mul (by omega) (by omega) hyk.1 (by decide)
  refine ⟨by simp [h1], ?_, fun j hj => ?_⟩
  · have ht := take_get (D := Y) (k := k) (by omega)
    rw [valD_set _ _ _ (by omega), h2, ht, Int.pow_add]
    generalize (65536 : Int) ^ k = p
    generalize (65536 : Int) ^ i = q
    clear hm0 hm1 h3 h2 ht hX hY hyk hxk
    grind
  · have hj3 := h3 j hj
    rw [getD_set (by omega)]
    split
    · subst_vars
      omega
    · omega
theorem MulTo.next {i : Nat} {X Y D : List Int} (h : MulTo i 4 X Y D) (hx : X.length = 12) (hi : i < 4) : MulTo (i + 1) 0 X Y D := by
  obtain ⟨h1, h2, h3⟩ := h
  refine ⟨h1, ?_, fun j hj => ?_⟩
  · rw [h2, take_get (D := X) (by omega)]
    simp only [List.take_zero, valD, Int.mul_zero, Int.add_zero]
    generalize (65536 : Int) ^ i = q
    grind
  · have := h3 j hj
    omega
theorem MulTo.start (X Y : List Int) : MulTo 0 0 X Y (List.replicate 12 0) := by
  refine ⟨rfl, ?_, fun j hj => ?_⟩
  · simp [valD]
  · match j, hj with
    | 0, _ | 1, _ | 2, _ | 3, _ | 4, _ | 5, _ | 6, _ | 7, _ | 8, _ | 9, _ | 10, _ | 11, _ => simp
/-- four digits, and no more. -/
def Four (D : List Int) : Prop := ∀ j, 4 ≤ j → D.getD j 0 = 0
theorem Four.val {D : List Int} (h : Four D) (hl : D.length = 12) : valD (D.take 4) = valD D := by
  have hs := valD_split D 4 (by omega)
  have h0 : valD (D.drop 4) = 0 := by
    have key : ∀ (E : List Int), (∀ d ∈ E, d = 0) → valD E = 0 := by
      intro E
      induction E with
      | nil => intro _; rfl
      | cons d E ih =>
        intro hE
        rw [valD, ih (fun x hx => hE x (by simp [hx])), hE d (by simp)]
        rfl
    refine key _ fun d hd => ?_
    obtain ⟨j, hj, rfl⟩ := List.mem_iff_getElem.1 hd
    have := h (4 + j) (by omega)
    rw [List.getElem_drop]
    rw [List.getD_eq_getElem?_getD, List.getElem?_eq_getElem (by simp at hj; omega)] at this
    exact this
  rw [h0] at hs
  omega
theorem sgn_canon {neg : Bool} {D : List Int} {z : Int} (h : Canon neg D z) : sgnN z = if valD D = 0 then 0 else if neg then -1 else 1 := by
  obtain ⟨h1, h2, h3, h4⟩ := h
  have hr := (valD_range D h2).1
  unfold sgnN
  subst h3
  unfold numZ
  by_cases hz : valD D = 0
  · rw [if_pos hz, h4 hz, hz]; rfl
  · rw [if_neg hz]
    cases neg
    · simp only [Bool.false_eq_true, if_false]; rw [if_neg (by omega), if_neg hz]
    · simp only [if_true]; rw [if_pos (by omega)]
end Go.Geo

/- the document's numbers: their values; zero -/
set_option linter.unusedSimpArgs false
set_option linter.unusedVariables false
namespace Go.Proofs.YtjiiikeniocmfaaGreat
open Go.RowKit Go.Geo
attribute [local go_sem] Oper.semAt_some
/-- a number's cells. -/
def numA (neg : Bool) (D : List Int) : Array Value := (Value.bool neg :: D.map (Value.int .i64)).toArray
theorem numA_size {neg : Bool} {D : List Int} (h : D.length = 12) : (numA neg D).size = 13 := by simp [numA, h]
theorem numA_get {neg : Bool} {D : List Int} {i : Nat} (h : i < D.length) : (numA neg D)[1 + i]? = some (.int .i64 (D.getD i 0)) := by
  unfold numA
  rw [List.getElem?_toArray, Nat.add_comm, List.getElem?_cons_succ, List.getElem?_map, List.getElem?_eq_getElem h, List.getD_eq_getElem?_getD, List.getElem?_eq_getElem h]
  rfl
theorem num_cell {w : World} {g : Nat} {neg : Bool} {D : List Int} {t : TypeId} {fr : Nat × Nat} (h : w.heap[g]? = some (.cells (numA neg D) t fr)) {i : Nat} (hi : i < D.length) : w.cell? ⟨g, 1 + i, none⟩ = some (.int .i64 (D.getD i 0)) :=
  (cell_of_row _ _ _ _ _ _ h).trans (numA_get hi)
theorem num_sign {w : World} {g : Nat} {neg : Bool} {D : List Int} {t : TypeId} {fr : Nat × Nat} (h : w.heap[g]? = some (.cells (numA neg D) t fr)) : w.cell? ⟨g, 0, none⟩ = some (.bool neg) :=
  (cell_of_row _ _ _ _ _ _ h).trans (by simp [numA])
theorem num_put {w : World} {g : Nat} {neg : Bool} {D : List Int} {t : TypeId} (h : w.heap[g]? = some (.cells (numA neg D) t (0, 0))) (i : Nat) (v : Int) : (w.setCell ⟨g, 1 + i, none⟩ (.int .i64 v)).heap[g]? = some (.cells (numA neg (D.set i v)) t (0, 0)) := by
  have := heap_setCell_same w g (1 + i) _ _ (.int .i64 v) h
  rw [this]
  congr 2
  unfold numA
  rw [List.setIfInBounds_toArray, Nat.add_comm, List.set_cons_succ, List.map_set]
theorem info_num : (Tryz.prog.info? 220).map (·.size) = some 13 := by kernel_rfl
theorem eqItems_all (xs ys : Array Value) (f g : Nat → Int) (w : World) : ∀ (is : List Nat), (∀ i ∈ is, xs[i]? = some (.int .i64 (f i)) ∧ ys[i]? = some (.int .i64 (g i))) → (Op.eqItems 9999 3 1 xs ys is).run Tryz.prog w = .ok (is.all fun i => decide (f i = g i)) w
  | [], _ => by unfold Op.eqItems; rfl
  | i :: is, h => by
    obtain ⟨h1, h2⟩ := h i (by simp)
    rw [eqItems_cons xs ys i is (f i) (g i) w h1 h2, eqItems_all xs ys f g w is (fun j hj => h j (by simp [hj]))]
    by_cases e : f i = g i <;> simp [e]
theorem twelve {D : List Int} (h : D.length = 12) : ∃ d0 d1 d2 d3 d4 d5 d6 d7 d8 d9 d10 d11, D = [d0, d1, d2, d3, d4, d5, d6, d7, d8, d9, d10, d11] := by
  match D, h with
  | [d0, d1, d2, d3, d4, d5, d6, d7, d8, d9, d10, d11], _ => exact ⟨d0, d1, d2, d3, d4, d5, d6, d7, d8, d9, d10, d11, rfl⟩
theorem numA_lit (neg : Bool) (d0 d1 d2 d3 d4 d5 d6 d7 d8 d9 d10 d11 : Int) : numA neg [d0, d1, d2, d3, d4, d5, d6, d7, d8, d9, d10, d11] = #[.bool neg, .int .i64 d0, .int .i64 d1, .int .i64 d2, .int .i64 d3, .int .i64 d4, .int .i64 d5, .int .i64 d6, .int .i64 d7, .int .i64 d8, .int .i64 d9, .int .i64 d10, .int .i64 d11] := rfl
set_option maxRecDepth 100000 in
theorem eq12 (d0 d1 d2 d3 d4 d5 d6 d7 d8 d9 d10 d11 : Int) (w : World) (hd : ∀ d ∈ [d0, d1, d2, d3, d4, d5, d6, d7, d8, d9, d10, d11], 0 ≤ d) : (Op.equalIn 10000 218 (.agg #[.int .i64 d0, .int .i64 d1, .int .i64 d2, .int .i64 d3, .int .i64 d4, .int .i64 d5, .int .i64 d6, .int .i64 d7, .int .i64 d8, .int .i64 d9, .int .i64 d10, .int .i64 d11]) (.agg #[.int .i64 0, .int .i64 0, .int .i64 0, .int .i64 0, .int .i64 0, .int .i64 0, .int .i64 0, .int .i64 0, .int .i64 0, .int .i64 0, .int .i64 0, .int .i64 0])).run Tryz.prog w = .ok (decide (valD [d0, d1, d2, d3, d4, d5, d6, d7, d8, d9, d10, d11] = 0)) w := by
  obtain ⟨i, hi, _⟩ := info_parts' Tryz.infoInt
  rw [show (10000 : Nat) = 9999 + 1 from rfl, run_equalIn_array w 9999 _ _ Tryz.underlying218 hi, Tryz.cellsI]
  rw [eqItems_all _ _ (fun i => [d0, d1, d2, d3, d4, d5, d6, d7, d8, d9, d10, d11].getD i 0) (fun _ => 0) w (List.range 12) (fun i hi => by
    have hi := List.mem_range.1 hi
    match i, hi with
    | 0, _ | 1, _ | 2, _ | 3, _ | 4, _ | 5, _ | 6, _ | 7, _ | 8, _ | 9, _ | 10, _ | 11, _ => exact ⟨rfl, rfl⟩)]
  congr 1
  rw [Bool.eq_iff_iff, List.all_eq_true, decide_eq_true_iff, valD_zero _ hd]
  constructor
  · intro h d hm
    obtain ⟨j, hj, rfl⟩ := List.mem_iff_getElem.1 hm
    have := h j (List.mem_range.2 (by simpa using hj))
    rw [decide_eq_true_iff, List.getD_eq_getElem?_getD, List.getElem?_eq_getElem hj] at this
    exact this
  · intro h j hj
    have hj := List.mem_range.1 hj
    rw [decide_eq_true_iff]
    exact h _ (getD_mem (D := [d0, d1, d2, d3, d4, d5, d6, d7, d8, d9, d10, d11]) (by simpa using hj))
set_option maxRecDepth 100000 in
theorem run_eq12 (d0 d1 d2 d3 d4 d5 d6 d7 d8 d9 d10 d11 : Int) (w : World) (hd : ∀ d ∈ [d0, d1, d2, d3, d4, d5, d6, d7, d8, d9, d10, d11], 0 ≤ d) : (binOp .eql 218 (.agg #[.int .i64 d0, .int .i64 d1, .int .i64 d2, .int .i64 d3, .int .i64 d4, .int .i64 d5, .int .i64 d6, .int .i64 d7, .int .i64 d8, .int .i64 d9, .int .i64 d10, .int .i64 d11]) (.agg #[.int .i64 0, .int .i64 0, .int .i64 0, .int .i64 0, .int .i64 0, .int .i64 0, .int .i64 0, .int .i64 0, .int .i64 0, .int .i64 0, .int .i64 0, .int .i64 0])).run Tryz.prog w = .ok (.bool (decide (valD [d0, d1, d2, d3, d4, d5, d6, d7, d8, d9, d10, d11] = 0))) w := by
  rw [run_eql_struct, eq12 _ _ _ _ _ _ _ _ _ _ _ _ w hd]
  rfl
set_option maxRecDepth 100000 in
set_option maxHeartbeats 1000000 in
theorem zero_any (neg : Bool) (D : List Int) (w : World) (h : D.length = 12) (hd : ∀ d ∈ D, 0 ≤ d) :
    Calls Tryz.prog 196 #[.agg (numA neg D)] w fun e w' => e = .returned (.bool (decide (valD D = 0))) ∧ Grew w w' := by
  obtain ⟨d0, d1, d2, d3, d4, d5, d6, d7, d8, d9, d10, d11, rfl⟩ := twelve h
  have h1 := fun w => eq12 d0 d1 d2 d3 d4 d5 d6 d7 d8 d9 d10 d11 w hd
  have h2 := fun w => run_eq12 d0 d1 d2 d3 d4 d5 d6 d7 d8 d9 d10 d11 w hd
  obtain ⟨z, hz⟩ : ∃ z, z = decide (valD [d0, d1, d2, d3, d4, d5, d6, d7, d8, d9, d10, d11] = 0) := ⟨_, rfl⟩
  rw [← hz] at h1 h2 ⊢
  rw [numA_lit]
  clear hz h hd
  go_enter Tryz.func196, Tryz.ntmps196
  go_wp2_with fail
  go_ret
  exact ⟨rfl, (Grew.refl _).alloc _⟩
end Go.Proofs.YtjiiikeniocmfaaGreat

/- the document's numbers: carried -/
set_option linter.unusedSimpArgs false
set_option linter.unusedVariables false
namespace Go.Proofs.YtjiiikeniocmfaaGreat
open Go.RowKit Go.Geo
attribute [local go_sem] Oper.semAt_some
theorem heap_ltN {w : World} {j : Nat} {o : Obj} (h : w.heap[j]? = some o) : j < w.heap.size := (Array.getElem?_eq_some_iff.1 h).1
/-- a number, handed back. -/
def NumR (z : Int) (w : World) (e : Ending) (w' : World) : Prop := ∃ neg D, e = .returned (.agg (numA neg D)) ∧ Canon neg D z ∧ Grew w w'
theorem num13 {w : World} {g : Nat} {neg : Bool} {d0 d1 d2 d3 d4 d5 d6 d7 d8 d9 d10 d11 : Int} {t : TypeId} (h : w.heap[g]? = some (.cells (numA neg [d0, d1, d2, d3, d4, d5, d6, d7, d8, d9, d10, d11]) t (0, 0))) :
    w.cell? ⟨g, 0, none⟩ = some (.bool neg) ∧ w.cell? ⟨g, 1, none⟩ = some (.int .i64 d0) ∧ w.cell? ⟨g, 2, none⟩ = some (.int .i64 d1) ∧ w.cell? ⟨g, 3, none⟩ = some (.int .i64 d2) ∧ w.cell? ⟨g, 4, none⟩ = some (.int .i64 d3) ∧ w.cell? ⟨g, 5, none⟩ = some (.int .i64 d4) ∧ w.cell? ⟨g, 6, none⟩ = some (.int .i64 d5) ∧ w.cell? ⟨g, 7, none⟩ = some (.int .i64 d6) ∧ w.cell? ⟨g, 8, none⟩ = some (.int .i64 d7) ∧ w.cell? ⟨g, 9, none⟩ = some (.int .i64 d8) ∧ w.cell? ⟨g, 10, none⟩ = some (.int .i64 d9) ∧ w.cell? ⟨g, 11, none⟩ = some (.int .i64 d10) ∧ w.cell? ⟨g, 12, none⟩ = some (.int .i64 d11) :=
  ⟨num_sign h, (cell_of_row _ _ _ _ _ _ h), (cell_of_row _ _ _ _ _ _ h), (cell_of_row _ _ _ _ _ _ h), (cell_of_row _ _ _ _ _ _ h), (cell_of_row _ _ _ _ _ _ h), (cell_of_row _ _ _ _ _ _ h), (cell_of_row _ _ _ _ _ _ h), (cell_of_row _ _ _ _ _ _ h), (cell_of_row _ _ _ _ _ _ h), (cell_of_row _ _ _ _ _ _ h), (cell_of_row _ _ _ _ _ _ h), (cell_of_row _ _ _ _ _ _ h)⟩
theorem fro13 {w : World} {g : Nat} {c : Array Value} {t : TypeId} (h : w.heap[g]? = some (.cells c t (0, 0))) : w.frozen? ⟨g, 0, none⟩ = false ∧ w.frozen? ⟨g, 1, none⟩ = false ∧ w.frozen? ⟨g, 2, none⟩ = false ∧ w.frozen? ⟨g, 3, none⟩ = false ∧ w.frozen? ⟨g, 4, none⟩ = false ∧ w.frozen? ⟨g, 5, none⟩ = false ∧ w.frozen? ⟨g, 6, none⟩ = false ∧ w.frozen? ⟨g, 7, none⟩ = false ∧ w.frozen? ⟨g, 8, none⟩ = false ∧ w.frozen? ⟨g, 9, none⟩ = false ∧ w.frozen? ⟨g, 10, none⟩ = false ∧ w.frozen? ⟨g, 11, none⟩ = false ∧ w.frozen? ⟨g, 12, none⟩ = false :=
  ⟨frozen_of_row _ _ _ _ _ h, frozen_of_row _ _ _ _ _ h, frozen_of_row _ _ _ _ _ h, frozen_of_row _ _ _ _ _ h, frozen_of_row _ _ _ _ _ h, frozen_of_row _ _ _ _ _ h, frozen_of_row _ _ _ _ _ h, frozen_of_row _ _ _ _ _ h, frozen_of_row _ _ _ _ _ h, frozen_of_row _ _ _ _ _ h, frozen_of_row _ _ _ _ _ h, frozen_of_row _ _ _ _ _ h, frozen_of_row _ _ _ _ _ h⟩
/-- a number is written over another one. -/
theorem put13 {w : World} {g : Nat} {neg : Bool} {D : List Int} {t : TypeId} (h : w.heap[g]? = some (.cells (numA neg D) t (0, 0))) (hl : D.length = 12) (c : Array Value) (hc : c.size = 13) : (w.setCells g 0 c.toList).heap[g]? = some (.cells c t (0, 0)) := by
  have key : ∀ (vs : List Value) (o : Nat) (w : World) (cur : Array Value), w.heap[g]? = some (.cells cur t (0, 0)) → o + vs.length ≤ cur.size → ∃ c2, (w.setCells g o vs).heap[g]? = some (.cells c2 t (0, 0)) ∧ c2.size = cur.size ∧ (∀ j, j < o → c2[j]? = cur[j]?) ∧ (∀ j, j < vs.length → c2[o + j]? = vs[j]?) ∧ (∀ j, o + vs.length ≤ j → c2[j]? = cur[j]?) := by
    intro vs
    induction vs with
    | nil => intro o w cur h _; exact ⟨cur, h, rfl, fun _ _ => rfl, fun j hj => absurd hj (by simp), fun _ _ => rfl⟩
    | cons v vs ih =>
      intro o w cur h hsz
      simp only [List.length_cons] at hsz
      have h1 := heap_setCell_same w g o _ _ v h
      obtain ⟨c2, k1, k2, k3, k4, k5⟩ := ih (o + 1) _ _ h1 (by simp; omega)
      refine ⟨c2, k1, by simpa using k2, fun j hj => ?_, fun j hj => ?_, fun j hj => ?_⟩
      · rw [k3 j (by omega), Array.getElem?_setIfInBounds, if_neg (by omega)]
      · match j, hj with
        | 0, _ =>
          rw [Nat.add_zero, k3 o (by omega), Array.getElem?_setIfInBounds, if_pos rfl, if_pos (by omega)]
          rfl
        | j + 1, hj =>
          have := k4 j (by simpa using hj)
          rw [show o + (j + 1) = o + 1 + j by omega, this]
          rfl
      · simp only [List.length_cons] at hj
        rw [k5 j (by omega), Array.getElem?_setIfInBounds, if_neg (by omega)]
  obtain ⟨c2, k1, k2, _, k4, _⟩ := key c.toList 0 w _ h (by rw [numA_size hl]; simp [hc])
  rw [k1]
  have : c2 = c := by
    apply Array.ext_getElem?
    intro j
    by_cases hj : j < 13
    · have := k4 j (by simp [hc, hj])
      rw [Nat.zero_add] at this
      rw [this, Array.getElem?_toList]
    · rw [Array.getElem?_eq_none (by rw [k2, numA_size hl]; omega), Array.getElem?_eq_none (by omega)]
  rw [this]
theorem grew_setCells {w w1 : World} (h : Grew w w1) {g : Nat} (hg : w.heap.size ≤ g) : ∀ (vs : List Value) (o : Nat), Grew w (w1.setCells g o vs) := by
  intro vs
  induction vs generalizing w1 with
  | nil => intro o; exact h
  | cons v vs ih => intro o; exact ih (grew_setCell h hg v) (o + 1)
/-- the end: the answer stands in the result's cells. -/
theorem num_end {fn : Func} {p : Tmp} {w w2 w3 : World} {a : Act} {neg n0 : Bool} {D D0 : List Int} {z : Int} {g : Nat} (h : fn.results = #[.cell p 220]) (hp : a.tmps.getD p undef = .pointer (some ⟨g, 0, none⟩)) (hd : a.defers = []) (hg : w.heap.size ≤ g)
    (hr : Hid (Grew w w2 ∧ w2.heap[g]? = some (.cells (numA n0 D0) 220 (0, 0)) ∧ D0.length = 12)) (hc : Hid (Canon neg D z)) (hw : w3 = w2.setCells g 0 (numA neg D).toList) :
    bodyPost Tryz.prog fn (NumR z w) .ret a w3 := by
  subst hw
  have hl := hc.out.1
  have hrow := put13 hr.out.2.1 hr.out.2.2 (numA neg D) (numA_size hl)
  exact bodyPost_ret (results_cell_row h a.tmps _ _ _ _ _ _ hp hrow Tryz.underlying220 rfl (by rw [numA_size hl]; exact info_num)) hd ⟨neg, D, rfl, hc.out, grew_setCells hr.out.1 hg _ _⟩
set_option maxRecDepth 100000 in
set_option maxHeartbeats 4000000 in
theorem carried_any (neg : Bool) (D : List Int) (v z : Int) (w : World) (h : Carry 0 v D) (hv : v < 65536 ^ 12) (hz : z = if neg then -v else v) :
    Calls Tryz.prog 194 #[.agg (numA neg D)] w (NumR z w) := by
  have HC := Lib.hid h
  have HV := Lib.hid hv
  have HZE := Lib.hid hz
  have HZ := Lib.hid zero_any
  have hrow := alloc_new w (.cells (numA neg D) 220)
  obtain ⟨W0, hW0⟩ : ∃ W, W = (w.alloc (.cells (numA neg D) 220)).alloc (.cells #[.bool false, .int .i64 0, .int .i64 0, .int .i64 0, .int .i64 0, .int .i64 0, .int .i64 0, .int .i64 0, .int .i64 0, .int .i64 0, .int .i64 0, .int .i64 0, .int .i64 0] 220) := ⟨_, rfl⟩
  have a0 : W0.heap[w.heap.size]? = some (.cells (numA neg D) 220 (0, 0)) := by rw [hW0]; exact (Below.heap_alloc _ _ _ (by simp)).trans (alloc_new _ _)
  have a1 : W0.heap[w.heap.size + 1]? = some (.cells (numA false [0,0,0,0,0,0,0,0,0,0,0,0]) 220 (0, 0)) := by rw [hW0]; exact alloc_new2 _ _ _
  have hg0 : Grew w W0 := by rw [hW0]; exact ((Grew.refl _).alloc _).alloc _
  have H0 := Lib.hid (And.intro a0 (And.intro a1 hg0))
  clear h hv hrow hz a0 a1 hg0
  go_enter Tryz.func194, Tryz.ntmps194
  go_wp2_with fail
  rw [← hW0]
  clear hW0
  go_loopw [3] (fun i wr => ∃ k : Nat, k ≤ 11 ∧ i = .int .i64 k ∧ ∃ E, Hid (Carry k v E ∧ wr.heap[w.heap.size]? = some (.cells (numA neg E) 220 (0, 0)) ∧ wr.heap[w.heap.size + 1]? = some (.cells (numA false [0,0,0,0,0,0,0,0,0,0,0,0]) 220 (0, 0)) ∧ Grew w wr)) (fun i _ => 11 - (intOf i).toNat)
  case atStart => exact ⟨0, by omega, rfl, D, Lib.hid ⟨HC.out, H0.out.1, H0.out.2.1, H0.out.2.2⟩⟩
  case round =>
    obtain ⟨k, hk, rfl, E, hr⟩ := hrel
    by_cases hlt : k < 11
    · have hk0 : (0 : Int) ≤ (k : Int) := by omega
      have hk5 : (k : Int) < 11 := by omega
      have hl := hr.out.1.1
      have e0 := num_cell hr.out.2.1 (i := k) (by omega)
      have e1 := num_cell hr.out.2.1 (i := k + 1) (by omega)
      have r0 := hr.out.1.2.2.2 k (Nat.le_refl _) (by omega)
      have r1 := hr.out.1.2.2.2 (k + 1) (by omega) (by omega)
      rw [if_pos rfl] at r0
      rw [if_neg (by omega)] at r1
      obtain ⟨x, hx⟩ : ∃ x, x = E.getD k 0 := ⟨_, rfl⟩
      obtain ⟨y, hy⟩ : ∃ x, x = E.getD (k + 1) 0 := ⟨_, rfl⟩
      rw [← hx] at e0 r0
      rw [← hy] at e1 r1
      obtain ⟨r01, r02⟩ := r0
      obtain ⟨r11, r12⟩ := r1
      have f0 := frozen_of_row _ w.heap.size (1 + k) _ _ hr.out.2.1
      have f1 := frozen_of_row _ w.heap.size (1 + (k + 1)) _ _ hr.out.2.1
      have hs := hr.out.1.step hlt
      rw [← hx, ← hy] at hs
      have HS := Lib.hid hs
      have HX := Lib.hid (And.intro hx hy)
      have hk1 : (0 : Int) ≤ (k : Int) + 1 := by omega
      have hk2 : (k : Int) + 1 < 12 := by omega
      have hk3 : (k : Int) < 12 := by omega
      have hq0 : 0 ≤ x / 65536 := by omega
      have hq1 : x / 65536 ≤ 8589934592 := by omega
      clear hx hy hs hl
      go_wp2_with fail
      go_region
      have p1 := num_put hr.out.2.1 (k + 1) (y + x / 65536)
      have a1 : (wr.setCell ⟨w.heap.size, 1 + (k + 1), none⟩ (.int .i64 (y + x / 65536))).heap[w.heap.size + 1]? = _ := (heap_other (by omega)).trans hr.out.2.2.1
      have g1 := (grew_setCell hr.out.2.2.2 (Nat.le_refl w.heap.size) (o := 1 + (k + 1)) (.int .i64 (y + x / 65536))).drew
      obtain ⟨W4, hW4⟩ : ∃ W, W = (wr.setCell ⟨w.heap.size, 1 + (k + 1), none⟩ (.int .i64 (y + x / 65536))).drew := ⟨_, rfl⟩
      have p1 : W4.heap[w.heap.size]? = some (.cells (numA neg (E.set (k + 1) (y + x / 65536))) 220 (0, 0)) := by rw [hW4]; exact p1
      have a1 : W4.heap[w.heap.size + 1]? = some (.cells (numA false [0,0,0,0,0,0,0,0,0,0,0,0]) 220 (0, 0)) := by rw [hW4]; exact a1
      rw [← hW4] at g1
      try rw [← hW4]
      have hl := hr.out.1.1
      have e2 := num_cell p1 (i := k) (by simp; omega)
      rw [getD_set (by omega), if_neg (by omega), ← HX.out.1] at e2
      have f2 := frozen_of_row _ w.heap.size (1 + k) _ _ p1
      have H4 := Lib.hid (And.intro p1 (And.intro a1 g1))
      have hm0 : 0 ≤ x % 65536 := by omega
      have hm1 : x % 65536 < 65536 := by omega
      clear p1 a1 g1 hW4 e0 e1 f0 f1 hl
      go_wp2_with fail
      go_roundw
      case rel =>
        refine ⟨k + 1, by omega, by go_num, _, Lib.hid ⟨HS.out, num_put H4.out.1 k (x % 65536), ?_, ?_⟩⟩
        · exact (heap_other (by omega)).trans H4.out.2.1
        · exact grew_setCell H4.out.2.2 (Nat.le_refl _) _
      case measure => simp [intOf]; omega
    · obtain rfl : k = 11 := by omega
      have hcn := hr.out.1.canon (neg := neg) HV.out
      have hdg := hr.out.1.done HV.out
      obtain ⟨d0, d1, d2, d3, d4, d5, d6, d7, d8, d9, d10, d11, rfl⟩ := twelve hr.out.1.1
      obtain ⟨x0, x1, x2, x3, x4, x5, x6, x7, x8, x9, x10, x11, x12⟩ := num13 hr.out.2.1
      have hzc := HZ.out neg _ wr hr.out.1.1 (fun d hd => (hdg d hd).1)
      obtain ⟨q, hq⟩ : ∃ q, q = decide (valD [d0, d1, d2, d3, d4, d5, d6, d7, d8, d9, d10, d11] = 0) := ⟨_, rfl⟩
      rw [← hq] at hzc hcn
      rw [numA_lit] at hzc
      rw [← HZE.out] at hcn
      have HZC := Lib.hid hzc
      have HCN := Lib.hid hcn
      clear hcn hdg hzc hq
      go_wp2_with fail
      refine HZC.out.mono ?_
      rintro e w5 ⟨rfl, hg5⟩
      have p5 := (hg5.1.block _ (heap_ltN hr.out.2.1)).trans hr.out.2.1
      have p6 := (hg5.1.block _ (heap_ltN hr.out.2.2.1)).trans hr.out.2.2.1
      have H5 := Lib.hid (And.intro p5 (And.intro p6 (hr.out.2.2.2.trans hg5)))
      clear hg5 p5 p6 x0 x1 x2 x3 x4 x5 x6 x7 x8 x9 x10 x11 x12
      obtain ⟨y0, y1, y2, y3, y4, y5, y6, y7, y8, y9, y10, y11, y12⟩ := num13 H5.out.2.1
      obtain ⟨f0, f1, f2, f3, f4, f5, f6, f7, f8, f9, f10, f11, f12⟩ := fro13 H5.out.2.1
      cases q with
      | false =>
        obtain ⟨x0, x1, x2, x3, x4, x5, x6, x7, x8, x9, x10, x11, x12⟩ := num13 H5.out.1
        go_wp2_with fail
        exact num_end (g := w.heap.size + 1) rfl rfl rfl (Nat.le_succ _) (Lib.hid ⟨H5.out.2.2, H5.out.2.1, rfl⟩) HCN rfl
      | true =>
        obtain ⟨x0, x1, x2, x3, x4, x5, x6, x7, x8, x9, x10, x11, x12⟩ := num13 H5.out.1
        have zf := frozen_of_row _ w.heap.size 0 _ _ H5.out.1
        have H6 := Lib.hid (And.intro (grew_setCell H5.out.2.2 (Nat.le_refl w.heap.size) (o := 0) (.bool false)) ((heap_other (w := w5) (off := 0) (v := .bool false) (show w.heap.size + 1 ≠ w.heap.size by omega)).trans H5.out.2.1))
        go_wp2_with fail
        exact num_end (g := w.heap.size + 1) rfl rfl rfl (Nat.le_succ _) (Lib.hid ⟨H6.out.1, H6.out.2, rfl⟩) HCN rfl
end Go.Proofs.YtjiiikeniocmfaaGreat

/- the document's numbers: Less, Sgn, size -/
set_option linter.unusedSimpArgs false
set_option linter.unusedVariables false
namespace Go.Proofs.YtjiiikeniocmfaaGreat
open Go.RowKit Go.Geo
attribute [local go_sem] Oper.semAt_some
theorem numA_zero : numA false [0,0,0,0,0,0,0,0,0,0,0,0] = #[.bool false, .int .i64 0, .int .i64 0, .int .i64 0, .int .i64 0, .int .i64 0, .int .i64 0, .int .i64 0, .int .i64 0, .int .i64 0, .int .i64 0, .int .i64 0, .int .i64 0] := rfl
theorem digits_carry {D : List Int} (h : Digits D) (hl : D.length = 12) : Carry 0 (valD D) D ∧ valD D < 65536 ^ 12 :=
  ⟨Carry.start hl (fun d hd => by have := h d hd; omega), by have := (valD_range D h).2; rw [hl] at this; exact this⟩
set_option maxRecDepth 100000 in
set_option maxHeartbeats 4000000 in
theorem Less_any (neg : Bool) (D : List Int) (z : Int) (w : World) (h : Canon neg D z) :
    Calls Tryz.prog 182 #[.agg (numA neg D)] w (NumR (-z) w) := by
  have hcy := digits_carry h.2.1 h.1
  have hz : -z = if !neg then -(valD D) else valD D := by
    rw [h.2.2.1]; unfold numZ; cases neg
    · rfl
    · simp
  obtain ⟨d0, d1, d2, d3, d4, d5, d6, d7, d8, d9, d10, d11, rfl⟩ := twelve h.1
  have HCR := Lib.hid (fun w => carried_any (!neg) _ _ _ w hcy.1 hcy.2 hz)
  rw [numA_lit] at HCR ⊢
  obtain ⟨y, hy⟩ : ∃ y, y = -z := ⟨_, rfl⟩
  rw [← hy] at HCR ⊢
  obtain ⟨W0, hW0⟩ : ∃ W, W = (w.alloc (.cells (numA neg [d0, d1, d2, d3, d4, d5, d6, d7, d8, d9, d10, d11]) 220)).alloc (.cells (numA false [0,0,0,0,0,0,0,0,0,0,0,0]) 220) := ⟨_, rfl⟩
  have a0 : W0.heap[w.heap.size]? = some (.cells (numA neg [d0, d1, d2, d3, d4, d5, d6, d7, d8, d9, d10, d11]) 220 (0, 0)) := by rw [hW0]; exact (Below.heap_alloc _ _ _ (by simp)).trans (alloc_new _ _)
  have a1 : W0.heap[w.heap.size + 1]? = some (.cells (numA false [0,0,0,0,0,0,0,0,0,0,0,0]) 220 (0, 0)) := by rw [hW0]; exact alloc_new2 _ _ _
  have hg0 : Grew w W0 := by rw [hW0]; exact ((Grew.refl _).alloc _).alloc _
  have H0 := Lib.hid (And.intro a0 (And.intro a1 hg0))
  rw [numA_lit, numA_zero] at hW0
  clear h hcy hz hy a0 a1 hg0
  go_enter Tryz.func182, Tryz.ntmps182
  go_upto_region 1 with fail
  rw [← hW0]
  clear hW0
  obtain ⟨x0, x1, x2, x3, x4, x5, x6, x7, x8, x9, x10, x11, x12⟩ := num13 H0.out.1
  have f0 := frozen_of_row _ w.heap.size 0 _ _ H0.out.1
  have H1 := Lib.hid (And.intro (grew_setCell H0.out.2.2 (Nat.le_refl w.heap.size) (o := 0) (.bool (!neg))) ((heap_other (w := W0) (off := 0) (v := .bool (!neg)) (show w.heap.size + 1 ≠ w.heap.size by omega)).trans H0.out.2.1))
  go_wp2_with fail
  refine (HCR.out _).mono ?_
  rintro e w3 ⟨n3, D3, rfl, hc3, hg3⟩
  obtain ⟨e0, e1, e2, e3, e4, e5, e6, e7, e8, e9, e10, e11, rfl⟩ := twelve hc3.1
  have p1 := (hg3.1.block _ (heap_ltN H1.out.2)).trans H1.out.2
  have H3 := Lib.hid (And.intro (H1.out.1.trans hg3) p1)
  have HC3 := Lib.hid hc3
  obtain ⟨y0, y1, y2, y3, y4, y5, y6, y7, y8, y9, y10, y11, y12⟩ := num13 p1
  obtain ⟨g0, g1, g2, g3, g4, g5, g6, g7, g8, g9, g10, g11, g12⟩ := fro13 p1
  rw [numA_lit]
  clear hg3 p1 hc3 x0 x1 x2 x3 x4 x5 x6 x7 x8 x9 x10 x11 x12 f0
  go_wp2_with fail
  exact num_end (g := w.heap.size + 1) rfl rfl rfl (Nat.le_succ _) (Lib.hid ⟨H3.out.1, H3.out.2, rfl⟩) HC3 rfl
set_option maxRecDepth 100000 in
set_option maxHeartbeats 4000000 in
theorem Sgn_any (neg : Bool) (D : List Int) (z : Int) (w : World) (h : Canon neg D z) :
    Calls Tryz.prog 183 #[.agg (numA neg D)] w fun e w' => e = .returned (.int .i64 (sgnN z)) ∧ Grew w w' := by
  have hs := sgn_canon h
  have hzz := fun w => zero_any neg D w h.1 (fun d hd => (h.2.1 d hd).1)
  obtain ⟨y, hy⟩ : ∃ y, y = sgnN z := ⟨_, rfl⟩
  rw [← hy] at hs ⊢
  obtain ⟨q, hq⟩ : ∃ q, q = decide (valD D = 0) := ⟨_, rfl⟩
  rw [← hq] at hzz
  obtain ⟨d0, d1, d2, d3, d4, d5, d6, d7, d8, d9, d10, d11, rfl⟩ := twelve h.1
  have HZ := Lib.hid hzz
  rw [numA_lit] at HZ ⊢
  have hA : Grew w (w.alloc (.cells (numA neg [d0, d1, d2, d3, d4, d5, d6, d7, d8, d9, d10, d11]) 220)) := (Grew.refl _).alloc _
  have hrow := alloc_new w (.cells (numA neg [d0, d1, d2, d3, d4, d5, d6, d7, d8, d9, d10, d11]) 220)
  have HA := Lib.hid (And.intro hA hrow)
  clear hA hrow h hzz hy
  cases q with
  | true =>
    have hy0 : y = 0 := by rw [hs, if_pos (of_decide_eq_true hq.symm)]
    subst hy0
    clear hs hq
    go_enter Tryz.func183, Tryz.ntmps183
    go_wp2_with fail
    refine (HZ.out _).mono ?_
    rintro e w1 ⟨rfl, hg1⟩
    have H1 := Lib.hid (HA.out.1.trans hg1)
    clear hg1
    go_wp2_with fail
    go_ret
    exact ⟨rfl, H1.out⟩
  | false =>
    rw [if_neg (of_decide_eq_false hq.symm)] at hs
    clear hq
    cases neg with
    | true =>
      rw [if_pos rfl] at hs
      subst hs
      go_enter Tryz.func183, Tryz.ntmps183
      go_wp2_with fail
      refine (HZ.out _).mono ?_
      rintro e w1 ⟨rfl, hg1⟩
      have c0 := num_sign ((hg1.1.block _ (heap_ltN HA.out.2)).trans HA.out.2)
      have H1 := Lib.hid (HA.out.1.trans hg1)
      clear hg1
      go_wp2_with fail
      go_ret
      exact ⟨rfl, H1.out⟩
    | false =>
      rw [if_neg (by decide)] at hs
      subst hs
      go_enter Tryz.func183, Tryz.ntmps183
      go_wp2_with fail
      refine (HZ.out _).mono ?_
      rintro e w1 ⟨rfl, hg1⟩
      have c0 := num_sign ((hg1.1.block _ (heap_ltN HA.out.2)).trans HA.out.2)
      have H1 := Lib.hid (HA.out.1.trans hg1)
      clear hg1
      go_wp2_with fail
      go_ret
      exact ⟨rfl, H1.out⟩
end Go.Proofs.YtjiiikeniocmfaaGreat

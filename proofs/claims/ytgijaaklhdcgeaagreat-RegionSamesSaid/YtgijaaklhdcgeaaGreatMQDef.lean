/- plain law of points, turns, rings: no program in sight -/
import Derived.Test.YtgijaaklhdcgeaaGreatRows
import Derived.WalkKit
import Derived.ProofKit
import Derived.Below
import Derived.Lib.Hide
import Derived.Sort.Grow
import Derived.Deep.RegionWith
import Derived.Deep.RegionHeld3
import Derived.Orders
import Derived.OrdersIn
import Derived.BigQuiet
import Derived.Shelf.Abstract
import Derived.StillTactics
import Derived.Laws.AppendOwnNone
import Derived.Lib.SliceRun
import Derived.WalkSpells
import Derived.Laws.Rows
import Derived.Laws.ResultCell
import Derived.Deep.Slices
import Derived.ChangeShapes
import Derived.SizedLaws
import Derived.Laws.StructEq
import Derived.Deep.QuietTactic
namespace Go.Geo
structure Pt where
  x : Int
  y : Int
deriving DecidableEq
/-- a coordinate that may be. -/
def fitsC (n : Int) : Bool := decide (-1099511627775 ≤ n) && decide (n ≤ 1099511627775)
def validP (p : Pt) : Bool := fitsC p.x && fitsC p.y
theorem validP_iff (p : Pt) : validP p = true ↔ (-1099511627775 ≤ p.x ∧ p.x ≤ 1099511627775) ∧ (-1099511627775 ≤ p.y ∧ p.y ≤ 1099511627775) := by simp [validP, fitsC]
def sgn (n : Int) : Int := if n < 0 then -1 else if n = 0 then 0 else 1
theorem sgn_one {n : Int} : sgn n = 1 ↔ 0 < n := by unfold sgn; split <;> (try split) <;> omega
theorem sgn_zero {n : Int} : sgn n = 0 ↔ n = 0 := by unfold sgn; split <;> (try split) <;> omega
theorem sgn_neg {n : Int} : sgn n = -1 ↔ n < 0 := by unfold sgn; split <;> (try split) <;> omega
/-- twice the area. -/
def area (a b c : Pt) : Int := (b.x - a.x) * (c.y - a.y) - (b.y - a.y) * (c.x - a.x)
def turnP (a b c : Pt) : Int := if validP a && validP b && validP c then sgn (area a b c) else 0
def countsP (p a b : Pt) : Bool :=
  validP p && validP a && validP b && (if b.y < a.y then decide (b.y ≤ p.y) && decide (p.y < a.y) && decide (turnP b a p = 1) else decide (a.y ≤ p.y) && decide (p.y < b.y) && decide (turnP a b p = 1))
theorem countsP_comm (p a b : Pt) : countsP p a b = countsP p b a := by
  unfold countsP
  by_cases h : b.y < a.y
  · rw [if_pos h, if_neg (by omega)]
    cases validP a <;> cases validP b <;> simp
  · by_cases h2 : a.y < b.y
    · rw [if_neg h, if_pos h2]
      cases validP a <;> cases validP b <;> simp
    · rw [if_neg h, if_neg h2]
      have e1 : (decide (a.y ≤ p.y) && decide (p.y < b.y)) = false := by simp; omega
      have e2 : (decide (b.y ≤ p.y) && decide (p.y < a.y)) = false := by simp; omega
      rw [e1, e2]
      simp
/-- the edges from a on, each put in or out. -/
def xorP (f : Pt → Pt → Bool) : Pt → List Pt → Bool
  | _, [] => false
  | a, b :: l => f a b ^^ xorP f b l
/-- the last of a list, or a. -/
def lastP (a : Pt) (l : List Pt) : Pt := l.getLastD a
def inP (p : Pt) (l : List Pt) : Bool := match l with
  | [] => false
  | a :: m => xorP (countsP p) (lastP a m) (a :: m)
theorem lastP_cons (a b : Pt) (l : List Pt) : lastP a (b :: l) = lastP b l := by cases l <;> rfl
theorem xorP_alike {f : Pt → Pt → Bool} {g : Pt → Bool} : ∀ (l : List Pt) (a : Pt), (∀ u v, u ∈ a :: l → v ∈ a :: l → f u v = (g u ^^ g v)) → xorP f a l = (g a ^^ g (lastP a l))
  | [], a, _ => by simp [xorP, lastP]
  | b :: l, a, h => by
    rw [xorP, h a b (by simp) (by simp), xorP_alike l b (fun u v hu hv => h u v (List.mem_cons_of_mem _ hu) (List.mem_cons_of_mem _ hv)), lastP_cons]
    cases g a <;> cases g b <;> cases g (lastP b l) <;> rfl
theorem xorP_none {f : Pt → Pt → Bool} : ∀ (l : List Pt) (a : Pt), (∀ u v, u ∈ a :: l → v ∈ a :: l → f u v = false) → xorP f a l = false
  | [], a, _ => rfl
  | b :: l, a, h => by
    rw [xorP, h a b (by simp) (by simp), xorP_none l b (fun u v hu hv => h u v (List.mem_cons_of_mem _ hu) (List.mem_cons_of_mem _ hv))]
    rfl
theorem lastP_mem (a : Pt) (l : List Pt) : lastP a l ∈ a :: l := by
  unfold lastP
  rw [List.getLastD_eq_getLast?]
  cases h : l.getLast? with
  | none => simp
  | some z => simp [List.mem_of_getLast? h]
/-- what is put in stands among the points. -/
theorem xorP_mem {f g : Pt → Pt → Bool} : ∀ (l : List Pt) (a : Pt), (∀ u v, u ∈ a :: l → v ∈ a :: l → f u v = g u v) → xorP f a l = xorP g a l
  | [], a, _ => rfl
  | b :: l, a, h => by
    rw [xorP, xorP, h a b (by simp) (by simp), xorP_mem l b (fun u v hu hv => h u v (List.mem_cons_of_mem _ hu) (List.mem_cons_of_mem _ hv))]
theorem area_swap (a b p : Pt) : area b a p = - area a b p := by
  unfold area
  grind
/-- left of all: an edge counts just where it goes over the height. -/
theorem counts_left {p a b : Pt} (hp : validP p = true) (ha : validP a = true) (hb : validP b = true) (h1 : p.x < a.x) (h2 : p.x < b.x) : countsP p a b = (decide (a.y ≤ p.y) ^^ decide (b.y ≤ p.y)) := by
  have key : ∀ a b : Pt, validP a = true → validP b = true → p.x < a.x → p.x < b.x → a.y ≤ p.y → p.y < b.y → turnP a b p = 1 := by
    intro a b ha hb h1 h2 h3 h4
    unfold turnP
    rw [ha, hb, hp]
    simp only [Bool.and_self, if_true]
    rw [sgn_one]
    have e : area a b p = (p.y - a.y) * (b.x - p.x) + (b.y - p.y) * (a.x - p.x) := by unfold area; grind
    rw [e]
    have q1 : 0 ≤ (p.y - a.y) * (b.x - p.x) := Int.mul_nonneg (by omega) (by omega)
    have q2 : 0 < (b.y - p.y) * (a.x - p.x) := Int.mul_pos (by omega) (by omega)
    omega
  unfold countsP
  rw [hp, ha, hb]
  by_cases h : b.y < a.y
  · rw [if_pos h]
    by_cases q1 : b.y ≤ p.y
    · by_cases q2 : p.y < a.y
      · rw [key b a hb ha h2 h1 q1 q2]
        have : ¬ a.y ≤ p.y := by omega
        simp [q1, q2, this]
      · have : a.y ≤ p.y := by omega
        simp [q1, q2, this]
    · have : ¬ a.y ≤ p.y := by omega
      simp [q1, this]
  · rw [if_neg h]
    by_cases q1 : a.y ≤ p.y
    · by_cases q2 : p.y < b.y
      · rw [key a b ha hb h1 h2 q1 q2]
        have : ¬ b.y ≤ p.y := by omega
        simp [q1, q2, this]
      · have : b.y ≤ p.y := by omega
        simp [q1, q2, this]
    · have : ¬ b.y ≤ p.y := by omega
      simp [q1, this]
/-- an edge that counts goes over the height, and to the right of the point. -/
theorem counts_right {p a b : Pt} (h : countsP p a b = true) : (a.y ≤ p.y ∧ p.y < b.y ∨ b.y ≤ p.y ∧ p.y < a.y) ∧ (p.x < a.x ∨ p.x < b.x) ∧ validP p = true ∧ validP a = true ∧ validP b = true := by
  have key : ∀ a b : Pt, turnP a b p = 1 → a.y ≤ p.y → p.y < b.y → p.x < a.x ∨ p.x < b.x := by
    intro a b ht h3 h4
    unfold turnP at ht
    split at ht
    · rw [sgn_one] at ht
      have e : area a b p = (p.y - a.y) * (b.x - p.x) + (b.y - p.y) * (a.x - p.x) := by unfold area; grind
      rw [e] at ht
      by_cases q : p.x < a.x ∨ p.x < b.x
      · exact q
      · have q1 : (p.y - a.y) * (b.x - p.x) ≤ 0 := Int.mul_nonpos_of_nonneg_of_nonpos (by omega) (by omega)
        have q2 : (b.y - p.y) * (a.x - p.x) ≤ 0 := Int.mul_nonpos_of_nonneg_of_nonpos (by omega) (by omega)
        omega
    · cases ht
  unfold countsP at h
  simp only [Bool.and_eq_true] at h
  obtain ⟨⟨⟨hp, ha⟩, hb⟩, h⟩ := h
  by_cases q : b.y < a.y
  · rw [if_pos q] at h
    simp only [Bool.and_eq_true, decide_eq_true_eq] at h
    obtain ⟨⟨h1, h2⟩, h3⟩ := h
    have := key b a h3 h1 h2
    exact ⟨.inr ⟨h1, h2⟩, this.symm, hp, ha, hb⟩
  · rw [if_neg q] at h
    simp only [Bool.and_eq_true, decide_eq_true_eq] at h
    obtain ⟨⟨h1, h2⟩, h3⟩ := h
    exact ⟨.inl ⟨h1, h2⟩, key a b h3 h1 h2, hp, ha, hb⟩
theorem xorP_some {f : Pt → Pt → Bool} : ∀ (l : List Pt) (a : Pt), xorP f a l = true → ∃ u v, u ∈ a :: l ∧ v ∈ a :: l ∧ f u v = true
  | [], a, h => by cases h
  | b :: l, a, h => by
    by_cases q : f a b = true
    · exact ⟨a, b, by simp, by simp, q⟩
    · rw [xorP] at h
      have q : f a b = false := by simpa using q
      rw [q] at h
      obtain ⟨u, v, hu, hv, hf⟩ := xorP_some l b (by simpa using h)
      exact ⟨u, v, List.mem_cons_of_mem _ hu, List.mem_cons_of_mem _ hv, hf⟩
/-- what is in a ring is in any box of its points. -/
theorem in_box {p : Pt} {l : List Pt} {lx ly hx hy : Int} (h : inP p l = true) (hall : ∀ v ∈ l, validP v = true) (hb : ∀ v ∈ l, lx ≤ v.x ∧ v.x ≤ hx ∧ ly ≤ v.y ∧ v.y ≤ hy) : lx ≤ p.x ∧ p.x < hx ∧ ly ≤ p.y ∧ p.y < hy := by
  cases l with
  | nil => cases h
  | cons a m =>
    have h : xorP (countsP p) (lastP a m) (a :: m) = true := h
    have hm : ∀ v, v ∈ lastP a m :: a :: m → v ∈ a :: m := fun v hv => by
      rcases List.mem_cons.1 hv with rfl | hv
      · exact lastP_mem a m
      · exact hv
    obtain ⟨u, v, hu, hv, hf⟩ := xorP_some _ _ h
    obtain ⟨h1, h2, hp, _, _⟩ := counts_right hf
    have b1 := hb u (hm u hu)
    have b2 := hb v (hm v hv)
    refine ⟨?_, by omega, by omega, by omega⟩
    by_cases q : lx ≤ p.x
    · exact q
    exfalso
    -- all edges that may be count by the height alone
    have hval : ∀ v, v ∈ a :: m → p.x < v.x := fun v hv => by have := hb v hv; omega
    have := xorP_alike (f := countsP p) (g := fun v => decide (v.y ≤ p.y)) (a :: m) (lastP a m) (fun u v hu hv => counts_left hp (hall u (hm u hu)) (hall v (hm v hv)) (hval u (hm u hu)) (hval v (hm v hv)))
    rw [h, lastP_cons] at this
    simp at this
theorem xorP_append {f : Pt → Pt → Bool} : ∀ (l : List Pt) (a : Pt) (m : List Pt), xorP f a (l ++ m) = (xorP f a l ^^ xorP f (lastP a l) m)
  | [], a, m => by simp [xorP, lastP]
  | b :: l, a, m => by
    rw [List.cons_append, xorP, xorP_append l b m, xorP, lastP_cons]
    cases f a b <;> simp
theorem lastP_append (a : Pt) (l : List Pt) (b : Pt) : lastP a (l ++ [b]) = b := by simp [lastP, List.getLastD_eq_getLast?]
/-- a path, there and back. -/
theorem xorP_reverse {f : Pt → Pt → Bool} (hf : ∀ a b, f a b = f b a) : ∀ (l : List Pt) (a : Pt), xorP f (lastP a l) ((a :: l).reverse.drop 1) = xorP f a l
  | [], a => rfl
  | b :: l, a => by
    have e : (a :: b :: l).reverse.drop 1 = ((b :: l).reverse.drop 1) ++ [a] := by
      simp only [List.reverse_cons]
      rw [List.drop_append_of_le_length (by simp)]
    rw [e, lastP_cons, xorP_append, xorP_reverse hf l b]
    have e2 : lastP (lastP b l) ((b :: l).reverse.drop 1) = b := by
      cases l with
      | nil => rfl
      | cons c l =>
        have : (b :: c :: l).reverse.drop 1 = ((c :: l).reverse.drop 1) ++ [b] := by
          simp only [List.reverse_cons]
          rw [List.drop_append_of_le_length (by simp)]
        rw [this, lastP_append]
    rw [e2, xorP, xorP, hf b a]
    show _ = (f a b ^^ xorP f b l)
    cases f a b <;> cases xorP f b l <;> rfl
theorem area_low (a b p : Pt) : area a b p = (p.y - a.y) * (b.x - p.x) + (b.y - p.y) * (a.x - p.x) := by unfold area; grind
/-- a vertical edge. -/
theorem counts_vert {p a b : Pt} (hp : validP p = true) (ha : validP a = true) (hb : validP b = true) (hx : a.x = b.x) : countsP p a b = ((decide (a.y ≤ p.y) ^^ decide (b.y ≤ p.y)) && decide (p.x < a.x)) := by
  by_cases h : p.x < a.x
  · rw [counts_left hp ha hb h (by omega)]
    simp [h]
  · have : countsP p a b = false := by
      cases q : countsP p a b with
      | false => rfl
      | true => have := counts_right q; omega
    rw [this]
    simp [h]
/-- a level edge. -/
theorem counts_level {p a b : Pt} (hy : a.y = b.y) : countsP p a b = false := by
  cases q : countsP p a b with
  | false => rfl
  | true => have := counts_right q; omega
theorem counts_invalid {p a b : Pt} (hp : validP p = false) : countsP p a b = false := by
  cases q : countsP p a b with
  | false => rfl
  | true => have := (counts_right q).2.2.1; rw [hp] at this; cases this
/-- a box cut by a line: a point of it is in just one of the two. -/
theorem tiles {p low high a b : Pt} {line : List Pt} (hlv : validP low = true) (hhv : validP high = true) (hx : low.x < high.x) (hy : low.y < high.y) (ha : a.x = low.x ∧ low.y ≤ a.y ∧ a.y ≤ high.y) (hb : b.x = high.x ∧ low.y ≤ b.y ∧ b.y ≤ high.y) (hl : lastP a line = b) :
    (inP p (low :: ⟨high.x, low.y⟩ :: (a :: line).reverse) ^^ inP p (high :: ⟨low.x, high.y⟩ :: a :: line)) = (decide (low.x ≤ p.x) && decide (p.x < high.x) && decide (low.y ≤ p.y) && decide (p.y < high.y)) := by
  rw [validP_iff] at hlv hhv
  obtain ⟨c, hc⟩ : ∃ c : Pt, c = ⟨high.x, low.y⟩ := ⟨_, rfl⟩
  obtain ⟨d, hd⟩ : ∃ d : Pt, d = ⟨low.x, high.y⟩ := ⟨_, rfl⟩
  rw [← hc, ← hd]
  have hcx : c.x = high.x := by rw [hc]
  have hcy : c.y = low.y := by rw [hc]
  have hdx : d.x = low.x := by rw [hd]
  have hdy : d.y = high.y := by rw [hd]
  by_cases hp : validP p = true
  · have ev : ∀ v : Pt, (low.x ≤ v.x ∧ v.x ≤ high.x) → (low.y ≤ v.y ∧ v.y ≤ high.y) → validP v = true := fun v h1 h2 => by rw [validP_iff]; omega
    have vl := ev low (by omega) (by omega)
    have vh := ev high (by omega) (by omega)
    have vc := ev c (by omega) (by omega)
    have vd := ev d (by omega) (by omega)
    have va := ev a (by omega) (by omega)
    have vb := ev b (by omega) (by omega)
    have e1 : inP p (low :: c :: (a :: line).reverse) = (countsP p a low ^^ countsP p c b ^^ xorP (countsP p) a line) := by
      have er : (a :: line).reverse = b :: (a :: line).reverse.drop 1 := by
        rw [← hl]
        cases line with
        | nil => rfl
        | cons z l =>
          have : (a :: z :: l).reverse ≠ [] := by simp
          obtain ⟨x, m, hm⟩ := List.exists_cons_of_ne_nil this
          rw [hm, List.drop_one, List.tail_cons]
          have h2 : (a :: z :: l).reverse.head? = some x := by rw [hm]; rfl
          rw [List.head?_reverse] at h2
          unfold lastP
          rw [List.getLastD_eq_getLast?]
          have : (a :: z :: l).getLast? = (z :: l).getLast? := by simp
          rw [this] at h2
          rw [h2]
          rfl
      have el : lastP low (c :: (a :: line).reverse) = a := by
        rw [lastP_cons]
        have : (a :: line).reverse = line.reverse ++ [a] := by simp
        rw [this, lastP_append]
      show xorP (countsP p) (lastP low (c :: (a :: line).reverse)) (low :: c :: (a :: line).reverse) = _
      rw [el, er, xorP, xorP, xorP]
      have := xorP_reverse (f := countsP p) (countsP_comm p) line a
      rw [hl] at this
      rw [this, counts_level (a := low) (b := c) (by omega)]
      cases countsP p a low <;> cases countsP p c b <;> cases xorP (countsP p) a line <;> rfl
    have e2 : inP p (high :: d :: a :: line) = (countsP p b high ^^ countsP p d a ^^ xorP (countsP p) a line) := by
      show xorP (countsP p) (lastP high (d :: a :: line)) (high :: d :: a :: line) = _
      rw [lastP_cons, lastP_cons, hl, xorP, xorP, xorP, counts_level (a := high) (b := d) (by omega)]
      cases countsP p b high <;> cases countsP p d a <;> cases xorP (countsP p) a line <;> rfl
    rw [e1, e2, counts_vert hp va vl (by omega), counts_vert hp vc vb (by omega), counts_vert hp vb vh (by omega), counts_vert hp vd va (by omega)]
    rw [hcx, hcy, hdx, hdy, ha.1, hb.1]
    generalize xorP (countsP p) a line = t
    by_cases q1 : p.x < low.x
    · have q2 : p.x < high.x := by omega
      have q3 : ¬ low.x ≤ p.x := by omega
      simp only [q1, q2, q3, decide_true, decide_false, Bool.and_true, Bool.false_and]
      cases decide (a.y ≤ p.y) <;> cases decide (b.y ≤ p.y) <;> cases decide (low.y ≤ p.y) <;> cases decide (high.y ≤ p.y) <;> cases t <;> rfl
    · have q3 : low.x ≤ p.x := by omega
      by_cases q2 : p.x < high.x
      · simp only [q1, q2, q3, decide_true, decide_false, Bool.and_true, Bool.true_and, Bool.and_false]
        have q5 : decide (p.y < high.y) = !decide (high.y ≤ p.y) := by by_cases h : p.y < high.y <;> simp [h] <;> omega
        rw [q5]
        by_cases q4 : low.y ≤ p.y
        · simp only [q4, decide_true]
          cases decide (a.y ≤ p.y) <;> cases decide (b.y ≤ p.y) <;> cases decide (high.y ≤ p.y) <;> cases t <;> rfl
        · have q6 : ¬ high.y ≤ p.y := by omega
          have q7 : ¬ b.y ≤ p.y := by omega
          simp only [q4, q6, q7, decide_false]
          cases decide (a.y ≤ p.y) <;> cases t <;> rfl
      · simp only [q1, q2, q3, decide_true, decide_false, Bool.and_false, Bool.false_and]
        cases t <;> rfl
  · have hp : validP p = false := by simpa using hp
    have hn : ∀ l a, xorP (countsP p) a l = false := fun l a => xorP_none l a (fun _ _ _ _ => counts_invalid hp)
    have e1 : inP p (low :: c :: (a :: line).reverse) = false := hn _ _
    have e2 : inP p (high :: d :: a :: line) = false := hn _ _
    rw [e1, e2]
    have : ¬ (low.x ≤ p.x ∧ p.x < high.x ∧ low.y ≤ p.y ∧ p.y < high.y) := fun h => by
      have : validP p = true := by rw [validP_iff]; omega
      rw [hp] at this
      cases this
    simp
    omega
end Go.Geo

/- plain law of segments that meet: no program in sight -/
namespace Go.Geo
def betw (n a b : Int) : Bool := decide (min a b ≤ n) && decide (n ≤ max a b)
def onP (p a b : Pt) : Bool := validP p && validP a && validP b && betw p.x a.x b.x && betw p.y a.y b.y && decide (turnP a b p = 0)
def mayP (a b : Pt) : Bool := validP a && validP b && decide (a ≠ b)
/-- those of a list that are not there yet, behind it. -/
def gatherP : List Pt → List Pt → List Pt
  | out, [] => out
  | out, p :: l => gatherP (if p ∈ out then out else out ++ [p]) l
def endsP (a b c d : Pt) : List Pt := if mayP a b && mayP c d then gatherP (gatherP [] ([a, b].filter (fun p => onP p c d))) ([c, d].filter (fun p => onP p a b)) else []
def crossP (a b c d : Pt) : Bool := decide (turnP a b c * turnP a b d < 0) && decide (turnP c d a * turnP c d b < 0)
/-- 0 none, 1 touch, 2 cross, 3 over; none where an edge is none. -/
def meetK (a b c d : Pt) : Nat := if mayP a b && mayP c d then (match (endsP a b c d).length with
  | 0 => if crossP a b c d then 2 else 0
  | 1 => 1
  | _ => 3) else 0
theorem sgn_range (n : Int) : sgn n = -1 ∨ sgn n = 0 ∨ sgn n = 1 := by unfold sgn; split <;> (try split) <;> simp
theorem turnP_range (a b c : Pt) : turnP a b c = -1 ∨ turnP a b c = 0 ∨ turnP a b c = 1 := by
  unfold turnP
  split
  · exact sgn_range _
  · simp
theorem sgn_mul {m n : Int} (h : sgn m * sgn n < 0) : (0 < m ∧ n < 0) ∨ (m < 0 ∧ 0 < n) := by
  unfold sgn at h
  repeat' split at h
  all_goals omega
theorem gatherP_mem : ∀ (l out : List Pt) (p : Pt), p ∈ gatherP out l → p ∈ out ∨ p ∈ l
  | [], out, p, h => .inl h
  | q :: l, out, p, h => by
    rcases gatherP_mem l _ p h with h | h
    · split at h
      · exact .inl h
      · rcases List.mem_append.1 h with h | h
        · exact .inl h
        · exact .inr (by rw [List.mem_singleton.1 h]; simp)
    · exact .inr (List.mem_cons_of_mem _ h)
/-- two spans have a number in common. -/
def spans (a b c d : Int) : Prop := max (min a b) (min c d) ≤ min (max a b) (max c d)
theorem spans_of {n a b c d : Int} (h1 : betw n a b = true) (h2 : betw n c d = true) : spans a b c d := by
  simp only [betw, Bool.and_eq_true, decide_eq_true_eq] at h1 h2
  unfold spans
  omega
theorem betw_left (a b : Int) : betw a a b = true := by simp only [betw, Bool.and_eq_true, decide_eq_true_eq]; omega
theorem betw_right (a b : Int) : betw b a b = true := by simp only [betw, Bool.and_eq_true, decide_eq_true_eq]; omega
theorem cross_core {A B C D M m ax bx cx dx : Int} (hA : 0 < A) (hB : B < 0) (hC : C < 0) (hD : 0 < D) (he : A * dx - B * cx = D * ax - C * bx) (hs : D - C = A - B) (h1 : ax ≤ M) (h2 : bx ≤ M) (h3 : m ≤ cx) (h4 : m ≤ dx) : m ≤ M := by
  by_cases q : m ≤ M
  · exact q
  exfalso
  have k1 : A * m ≤ A * dx := Int.mul_le_mul_of_nonneg_left h4 (by omega)
  have k2 : (-B) * m ≤ (-B) * cx := Int.mul_le_mul_of_nonneg_left h3 (by omega)
  have k3 : D * ax ≤ D * M := Int.mul_le_mul_of_nonneg_left h1 (by omega)
  have k4 : (-C) * bx ≤ (-C) * M := Int.mul_le_mul_of_nonneg_left h2 (by omega)
  have k5 : (A - B) * M < (A - B) * m := Int.mul_lt_mul_of_pos_left (by omega) (by omega)
  have e1 : (A - B) * m = A * m + (-B) * m := by grind
  have e2 : (A - B) * M = D * M + (-C) * M := by rw [← hs]; grind
  have e3 : (-B) * cx = -(B * cx) := by grind
  have e4 : (-C) * bx = -(C * bx) := by grind
  omega
theorem cross_core2 {A B C D M m ax bx cx dx : Int} (hA : 0 < A) (hB : B < 0) (hC : C < 0) (hD : 0 < D) (he : A * dx - B * cx = D * ax - C * bx) (hs : D - C = A - B) (h1 : m ≤ ax) (h2 : m ≤ bx) (h3 : cx ≤ M) (h4 : dx ≤ M) : m ≤ M := by
  have := cross_core (A := A) (B := B) (C := C) (D := D) (M := -m) (m := -M) (ax := -ax) (bx := -bx) (cx := -cx) (dx := -dx) hA hB hC hD (by grind) hs (by omega) (by omega) (by omega) (by omega)
  omega
theorem cross_spans {A B C D ax bx cx dx : Int} (hAB : (0 < A ∧ B < 0) ∨ (A < 0 ∧ 0 < B)) (hCD : (0 < C ∧ D < 0) ∨ (C < 0 ∧ 0 < D)) (he : A * dx - B * cx = D * ax - C * bx) (hs : D - C = A - B) : spans ax bx cx dx := by
  unfold spans
  rcases hAB with ⟨hA, hB⟩ | ⟨hA, hB⟩
  · have hCD : C < 0 ∧ 0 < D := by omega
    have k1 := cross_core (M := max ax bx) (m := min cx dx) hA hB hCD.1 hCD.2 he hs (by omega) (by omega) (by omega) (by omega)
    have k2 := cross_core2 (m := min ax bx) (M := max cx dx) hA hB hCD.1 hCD.2 he hs (by omega) (by omega) (by omega) (by omega)
    omega
  · have hCD : 0 < C ∧ D < 0 := by omega
    have k1 := cross_core (A := -A) (B := -B) (C := -C) (D := -D) (ax := ax) (bx := bx) (cx := cx) (dx := dx) (M := max ax bx) (m := min cx dx) (by omega) (by omega) (by omega) (by omega) (by grind) (by omega) (by omega) (by omega) (by omega) (by omega)
    have k2 := cross_core2 (A := -A) (B := -B) (C := -C) (D := -D) (ax := ax) (bx := bx) (cx := cx) (dx := dx) (m := min ax bx) (M := max cx dx) (by omega) (by omega) (by omega) (by omega) (by grind) (by omega) (by omega) (by omega) (by omega) (by omega)
    omega
theorem area_x (a b c d : Pt) : area a b c * d.x - area a b d * c.x = area c d b * a.x - area c d a * b.x := by unfold area; grind
theorem area_y (a b c d : Pt) : area a b c * d.y - area a b d * c.y = area c d b * a.y - area c d a * b.y := by unfold area; grind
theorem area_s (a b c d : Pt) : area c d b - area c d a = area a b c - area a b d := by unfold area; grind
/-- where edges cross, or lie one over the other, their boxes have a point in common. -/
theorem meet_spans {a b c d : Pt} (h : 2 ≤ meetK a b c d) : spans a.x b.x c.x d.x ∧ spans a.y b.y c.y d.y := by
  unfold meetK at h
  split at h
  · rename_i hm
    have hv : validP a = true ∧ validP b = true ∧ validP c = true ∧ validP d = true := by
      simp only [mayP, Bool.and_eq_true] at hm
      exact ⟨hm.1.1.1, hm.1.1.2, hm.2.1.1, hm.2.1.2⟩
    split at h
    · split at h
      · rename_i hc
        simp only [crossP, Bool.and_eq_true, decide_eq_true_eq] at hc
        unfold turnP at hc
        rw [hv.1, hv.2.1, hv.2.2.1, hv.2.2.2] at hc
        simp only [Bool.and_self, if_true] at hc
        have k1 := sgn_mul hc.1
        have k2 := sgn_mul hc.2
        exact ⟨cross_spans k1 k2 (area_x a b c d) (area_s a b c d), cross_spans k1 k2 (area_y a b c d) (area_s a b c d)⟩
      · omega
    · omega
    · rename_i h0 h1
      have : ∃ e, e ∈ endsP a b c d := by
        cases he : endsP a b c d with
        | nil => rw [he] at h0; exact absurd rfl h0
        | cons e l => exact ⟨e, by simp⟩
      obtain ⟨e, he⟩ := this
      unfold endsP at he
      rw [if_pos hm] at he
      have key : ∀ e p q r s : Pt, e ∈ [p, q].filter (fun z => onP z r s) → (betw e.x p.x q.x = true ∧ betw e.x r.x s.x = true) ∧ (betw e.y p.y q.y = true ∧ betw e.y r.y s.y = true) := by
        intro e p q r s he
        obtain ⟨h1, h2⟩ := List.mem_filter.1 he
        simp only [onP, Bool.and_eq_true] at h2
        rcases List.mem_cons.1 h1 with rfl | h1
        · exact ⟨⟨betw_left _ _, h2.1.1.2⟩, betw_left _ _, h2.1.2⟩
        · obtain rfl := List.mem_singleton.1 h1
          exact ⟨⟨betw_right _ _, h2.1.1.2⟩, betw_right _ _, h2.1.2⟩
      rcases gatherP_mem _ _ _ he with he | he
      · rcases gatherP_mem _ _ _ he with he | he
        · cases he
        · have := key e a b c d he
          exact ⟨spans_of this.1.1 this.1.2, spans_of this.2.1 this.2.2⟩
      · have := key e c d a b he
        exact ⟨spans_of this.1.2 this.1.1, spans_of this.2.2 this.2.1⟩
  · omega
end Go.Geo

/- plain law of boxes, of rings that meet, of regions: no program in sight -/
namespace Go.Geo
/-- the box of points: the lowest, and one more than the highest. -/
def boundsP (l : List Pt) : Option (Pt × Pt) := match l with
  | [] => none
  | a :: m => if (a :: m).all validP then some (⟨m.foldl (fun z v => min z v.x) a.x, m.foldl (fun z v => min z v.y) a.y⟩, ⟨m.foldl (fun z v => max z v.x) a.x + 1, m.foldl (fun z v => max z v.y) a.y + 1⟩) else none
theorem foldl_min_le (f : Pt → Int) : ∀ (m : List Pt) (z : Int), m.foldl (fun z v => min z (f v)) z ≤ z ∧ ∀ v ∈ m, m.foldl (fun z v => min z (f v)) z ≤ f v
  | [], z => ⟨Int.le_refl _, fun v hv => by cases hv⟩
  | a :: m, z => by
    obtain ⟨h1, h2⟩ := foldl_min_le f m (min z (f a))
    refine ⟨by simp only [List.foldl_cons]; omega, fun v hv => ?_⟩
    simp only [List.foldl_cons]
    rcases List.mem_cons.1 hv with rfl | hv
    · omega
    · exact h2 v hv
theorem foldl_max_ge (f : Pt → Int) : ∀ (m : List Pt) (z : Int), z ≤ m.foldl (fun z v => max z (f v)) z ∧ ∀ v ∈ m, f v ≤ m.foldl (fun z v => max z (f v)) z
  | [], z => ⟨Int.le_refl _, fun v hv => by cases hv⟩
  | a :: m, z => by
    obtain ⟨h1, h2⟩ := foldl_max_ge f m (max z (f a))
    refine ⟨by simp only [List.foldl_cons]; omega, fun v hv => ?_⟩
    simp only [List.foldl_cons]
    rcases List.mem_cons.1 hv with rfl | hv
    · omega
    · exact h2 v hv
theorem bounds_in {l : List Pt} {lo hi : Pt} (h : boundsP l = some (lo, hi)) : (∀ v ∈ l, validP v = true) ∧ ∀ v ∈ l, lo.x ≤ v.x ∧ v.x < hi.x ∧ lo.y ≤ v.y ∧ v.y < hi.y := by
  cases l with
  | nil => cases h
  | cons a m =>
    unfold boundsP at h
    dsimp only at h
    split at h
    · rename_i hall
      injection h with h
      injection h with h1 h2
      subst h1
      subst h2
      refine ⟨fun v hv => List.all_eq_true.1 hall v hv, fun v hv => ?_⟩
      have k1 := foldl_min_le (fun v => v.x) m a.x
      have k2 := foldl_min_le (fun v => v.y) m a.y
      have k3 := foldl_max_ge (fun v => v.x) m a.x
      have k4 := foldl_max_ge (fun v => v.y) m a.y
      dsimp only
      rcases List.mem_cons.1 hv with rfl | hv
      · omega
      · have := k1.2 v hv
        have := k2.2 v hv
        have := k3.2 v hv
        have := k4.2 v hv
        omega
    · cases h
/-- a point in a box: the low sides are in it. -/
def boxIn (p lo hi : Pt) : Bool := decide (lo.x ≤ p.x) && decide (p.x < hi.x) && decide (lo.y ≤ p.y) && decide (p.y < hi.y)
def boxMeet (lo hi lo2 hi2 : Pt) : Bool := decide (max lo.x lo2.x < min hi.x hi2.x) && decide (max lo.y lo2.y < min hi.y hi2.y)
/-- a region's points: in an odd number of rings. -/
def inR (p : Pt) : List (List Pt) → Bool
  | [] => false
  | r :: g => inP p r ^^ inR p g
theorem inR_append (p : Pt) : ∀ (g : List (List Pt)) (h : List (List Pt)), inR p (g ++ h) = (inR p g ^^ inR p h)
  | [], h => by simp [inR]
  | r :: g, h => by
    rw [List.cons_append, inR, inR, inR_append p g h]
    cases inP p r <;> simp
theorem inR_some {p : Pt} : ∀ {g : List (List Pt)}, inR p g = true → ∃ r ∈ g, inP p r = true
  | [], h => by cases h
  | r :: g, h => by
    by_cases q : inP p r = true
    · exact ⟨r, by simp, q⟩
    · have q : inP p r = false := by simpa using q
      rw [inR, q] at h
      obtain ⟨s, hs, h⟩ := inR_some (g := g) (by simpa using h)
      exact ⟨s, List.mem_cons_of_mem _ hs, h⟩
/-- what is in a region is in its box. -/
theorem inR_box {p lo hi : Pt} {g : List (List Pt)} (hb : boundsP g.flatten = some (lo, hi)) (h : inR p g = true) : boxIn p lo hi = true := by
  obtain ⟨r, hr, h⟩ := inR_some h
  obtain ⟨k1, k2⟩ := bounds_in hb
  have hm : ∀ v ∈ r, v ∈ g.flatten := fun v hv => List.mem_flatten.2 ⟨r, hr, hv⟩
  have := in_box (lx := lo.x) (ly := lo.y) (hx := hi.x - 1) (hy := hi.y - 1) h (fun v hv => k1 v (hm v hv)) (fun v hv => by have := k2 v (hm v hv); omega)
  simp only [boxIn, Bool.and_eq_true, decide_eq_true_eq]
  omega
/-- the box of an edge. -/
theorem bounds_two (p q : Pt) (h : validP p = true ∧ validP q = true) : boundsP [p, q] = some (⟨min p.x q.x, min p.y q.y⟩, ⟨max p.x q.x + 1, max p.y q.y + 1⟩) := by
  simp [boundsP, h.1, h.2]
/-- where edges meet so that rings may not, the one edge's box meets the other ring's. -/
theorem meet_boxes {p q c d lo hi lo2 hi2 : Pt} {l : List Pt} (h : 2 ≤ meetK p q c d) (h1 : boundsP [p, q] = some (lo, hi)) (h2 : boundsP l = some (lo2, hi2)) (hc : c ∈ l) (hd : d ∈ l) : boxMeet lo hi lo2 hi2 = true := by
  have hs := meet_spans h
  obtain ⟨k1, k2⟩ := bounds_in h1
  obtain ⟨_, k3⟩ := bounds_in h2
  have hp := k2 p (by simp)
  have hq := k2 q (by simp)
  have hc := k3 c hc
  have hd := k3 d hd
  unfold spans at hs
  simp only [boxMeet, Bool.and_eq_true, decide_eq_true_eq]
  omega
end Go.Geo

/- plain law: what is wrong with a ring, with a region: no program in sight -/
namespace Go.Geo
def p0 : Pt := ⟨0, 0⟩
/-- the first number below n of which f is so. -/
def firstP (n : Nat) (f : Nat → Bool) : Option Nat := (List.range n).find? f
theorem firstP_none {n : Nat} {f : Nat → Bool} (h : ∀ i, i < n → f i = false) : firstP n f = none := by
  unfold firstP
  rw [List.find?_eq_none]
  intro i hi
  rw [h i (List.mem_range.1 hi)]
  simp
theorem firstP_some {n : Nat} {f : Nat → Bool} {k : Nat} (hk : k < n) (h1 : f k = true) (h : ∀ i, i < k → f i = false) : firstP n f = some k := by
  unfold firstP
  rw [List.find?_eq_some_iff_getElem]
  refine ⟨h1, k, by simpa using hk, by simp, fun j hj => ?_⟩
  rw [List.getElem_range, h j hj]
  rfl
theorem firstP_eq_none {n : Nat} {f : Nat → Bool} (h : firstP n f = none) : ∀ i, i < n → f i = false := by
  intro i hi
  unfold firstP at h
  rw [List.find?_eq_none] at h
  simpa using h i (List.mem_range.2 hi)
theorem firstP_eq_some {n : Nat} {f : Nat → Bool} {k : Nat} (h : firstP n f = some k) : k < n ∧ f k = true ∧ ∀ i, i < k → f i = false := by
  unfold firstP at h
  rw [List.find?_eq_some_iff_getElem] at h
  obtain ⟨h1, i, hi, rfl, h2⟩ := h
  simp only [List.length_range] at hi
  simp only [List.getElem_range] at h1 h2 ⊢
  exact ⟨hi, h1, fun j hj => by simpa using h2 j hj⟩
/-- the i-th point, round the list. -/
def atP (l : List Pt) (i : Nat) : Pt := l.getD (i % l.length) p0
theorem atP_lt {l : List Pt} {i : Nat} (h : i < l.length) : atP l i = l.getD i p0 := by unfold atP; rw [Nat.mod_eq_of_lt h]
def twiceP (l : List Pt) (i : Nat) : Bool := decide (l.getD i p0 ∈ l.take i)
def backP (l : List Pt) (i : Nat) : Bool := decide (turnP (atP l (i + l.length - 1)) (l.getD i p0) (atP l (i + 1)) = 0) && !onP (l.getD i p0) (atP l (i + l.length - 1)) (atP l (i + 1))
/-- are two edges ones that are asked, and do they meet? -/
def meetsAt (l : List Pt) (i k : Nat) : Bool := !(decide (k < i + 2) || (decide (i = 0) && decide (k + 1 = l.length))) && decide (meetK (l.getD i p0) (atP l (i + 1)) (l.getD k p0) (atP l (k + 1)) ≠ 0)
def meetsP (l : List Pt) (i : Nat) : Bool := (List.range l.length).any (meetsAt l i)
def ringCheckP (l : List Pt) : Int × Int :=
  if 200 < l.length then (3, 0) else if l.length < 3 then (190, 0) else
  match firstP l.length (fun i => !validP (l.getD i p0)) with
  | some i => (2, i)
  | none => match firstP l.length (twiceP l) with
    | some i => (191, i)
    | none => match firstP l.length (backP l) with
      | some i => (192, i)
      | none => match firstP l.length (meetsP l) with
        | some i => (193, i)
        | none => (0, 0)
/-- do two rings meet in more than points? -/
def ringsMeet (a b : List Pt) : Bool := (List.range a.length).any fun i => (List.range b.length).any fun k => decide (2 ≤ meetK (a.getD i p0) (atP a (i + 1)) (b.getD k p0) (atP b (k + 1)))
def sumLen (g : List (List Pt)) : Nat := (g.map List.length).sum
def regionCheckP (g : List (List Pt)) : Int × Int :=
  if 20 < g.length then (3, 0) else if g.length = 0 then (2, 0) else if 400 < sumLen g then (211, 0) else
  match firstP g.length (fun i => decide ((ringCheckP (g.getD i [])).1 ≠ 0)) with
  | some i => ((ringCheckP (g.getD i [])).1, i)
  | none => match firstP g.length (fun i => (g.drop (i + 1)).any (fun s => ringsMeet (g.getD i []) s)) with
    | some i => (210, i)
    | none => (0, 0)
/-- a ring that may be: its points may be. -/
theorem ring_ok {l : List Pt} (h : (ringCheckP l).1 = 0) : 3 ≤ l.length ∧ l.length ≤ 200 ∧ ∀ v ∈ l, validP v = true := by
  unfold ringCheckP at h
  split at h
  · cases h
  · split at h
    · cases h
    · split at h
      · cases h
      · rename_i hn
        refine ⟨by omega, by omega, fun v hv => ?_⟩
        obtain ⟨i, hi, rfl⟩ := List.mem_iff_getElem.1 hv
        have := firstP_eq_none hn i hi
        rw [List.getD_eq_getElem?_getD, List.getElem?_eq_getElem hi] at this
        simpa using this
theorem region_ok {g : List (List Pt)} (h : (regionCheckP g).1 = 0) : 0 < g.length ∧ g.length ≤ 20 ∧ sumLen g ≤ 400 ∧ ∀ r ∈ g, (ringCheckP r).1 = 0 := by
  unfold regionCheckP at h
  split at h
  · cases h
  · split at h
    · cases h
    · split at h
      · cases h
      · split at h
        · rename_i i hi
          exact absurd h (by have := (firstP_eq_some hi).2.1; simpa using this)
        · rename_i hn
          refine ⟨by omega, by omega, by omega, fun r hr => ?_⟩
          obtain ⟨i, hi, rfl⟩ := List.mem_iff_getElem.1 hr
          have := firstP_eq_none hn i hi
          rw [List.getD_eq_getElem?_getD, List.getElem?_eq_getElem hi] at this
          simpa using this
/-- a region that may be has a box. -/
theorem region_box {g : List (List Pt)} (h : (regionCheckP g).1 = 0) : ∃ lo hi, boundsP g.flatten = some (lo, hi) := by
  obtain ⟨h0, _, _, hr⟩ := region_ok h
  have hall : ∀ v ∈ g.flatten, validP v = true := fun v hv => by
    obtain ⟨r, hrm, hv⟩ := List.mem_flatten.1 hv
    exact (ring_ok (hr r hrm)).2.2 v hv
  cases hf : g.flatten with
  | nil =>
    exfalso
    have hr0 := hr g[0] (List.getElem_mem h0)
    have := (ring_ok hr0).1
    have : g[0] = [] := List.eq_nil_of_subset_nil (fun x hx => by rw [← hf]; exact List.mem_flatten.2 ⟨_, List.getElem_mem h0, hx⟩)
    rw [this] at hr0
    have := (ring_ok hr0).1
    simp at this
  | cons a m =>
    rw [hf] at hall
    unfold boundsP
    simp only
    rw [if_pos (List.all_eq_true.2 hall)]
    exact ⟨_, _, rfl⟩
end Go.Geo

/- points and rings: what the values are; the world has only grown -/
namespace Go.Proofs.YtgijaaklhdcgeaaGreat
open Go.RowKit Go.Geo

theorem below_drewN {w0 w : World} {B : Nat} (h : Below B w0 w) (q : Nat) : Below B w0 (w.drewN q) := ⟨h.os, h.tape, h.output, h.size, h.block⟩
/-- the world has only grown: new blocks, draws. -/
def Grew (w w' : World) : Prop := Below w.heap.size w w' ∧ w.drawn ≤ w'.drawn
theorem Grew.refl (w : World) : Grew w w := ⟨Below.refl _ _, Nat.le_refl _⟩
theorem Grew.alloc {a w : World} (h : Grew a w) (o : Obj) : Grew a (w.alloc o) := ⟨h.1.alloc h.1.size _, h.2⟩
theorem Grew.drewN {a w : World} (h : Grew a w) (q : Nat) : Grew a (w.drewN q) := ⟨below_drewN h.1 q, Nat.le_trans h.2 (Nat.le_add_right _ _)⟩
theorem Grew.drew {a w : World} (h : Grew a w) : Grew a w.drew := ⟨h.1.drew, Nat.le_trans h.2 (Nat.le_succ _)⟩
theorem Grew.trans {a b c : World} (h : Grew a b) (k : Grew b c) : Grew a c := ⟨h.1.trans (k.1.mono h.1.size), Nat.le_trans h.2 k.2⟩
theorem Grew.size {a b : World} (h : Grew a b) : a.heap.size ≤ b.heap.size := h.1.size
theorem Grew.grow {w w' : World} (h : Grew w w') : ∃ q os, w' = Sort.grow (w.drewN q) os := by
  obtain ⟨⟨ho, ht, hu, hs, hb⟩, hd⟩ := h
  refine ⟨w'.drawn - w.drawn, w'.heap.extract w.heap.size w'.heap.size, ?_⟩
  have hh : w'.heap = w.heap ++ w'.heap.extract w.heap.size w'.heap.size := by
    apply Array.ext_getElem?
    intro i
    rw [Array.getElem?_append]
    by_cases hi : i < w.heap.size
    · rw [if_pos hi]; exact hb i hi
    · rw [if_neg hi, Array.getElem?_extract]
      by_cases h2 : i < w'.heap.size
      · rw [if_pos (by omega)]; congr 1; omega
      · rw [if_neg (by omega), Array.getElem?_eq_none (by omega)]
  cases w'
  simp only at *
  unfold Sort.grow World.drewN
  simp only [World.mk.injEq]
  refine ⟨hh, ?_⟩
  first | exact ⟨ht, by omega, ho, hu⟩ | (refine ⟨?_, ?_, ?_, ?_⟩ <;> first | assumption | omega)
theorem Grew.cell {w w' : World} (h : Grew w w') {b o : Nat} {v : Value} (hc : w.cell? ⟨b, o, none⟩ = some v) : w'.cell? ⟨b, o, none⟩ = some v :=
  (h.1.cell (p := ⟨b, o, none⟩) (block_lt_of_cell hc)).trans hc
theorem alloc_new (w : World) (o : Obj) : (w.alloc o).heap[w.heap.size]? = some o := by
  show (w.heap.push o)[w.heap.size]? = _
  simp
theorem alloc_new2 (w : World) (o o2 : Obj) : ((w.alloc o).alloc o2).heap[w.heap.size + 1]? = some o2 := by
  have := alloc_new (w.alloc o) o2
  rwa [show (w.alloc o).heap.size = w.heap.size + 1 by simp] at this
theorem alloc_cell (w : World) (v : Value) (t : TypeId) : (w.alloc (.cells #[v] t)).cell? ⟨w.heap.size, 0, none⟩ = some v := cell_of_row _ _ _ _ _ _ (alloc_new w _)
theorem Grew.heap_new {w w1 : World} {o : Obj} (h : Grew (w.alloc o) w1) : w1.heap[w.heap.size]? = some o :=
  (h.1.block w.heap.size (by simp)).trans (alloc_new w o)
/-- points in a slice. -/
def IsPts (w : World) (ao : Option Addr) (n cap : Nat) (P : List Pt) : Prop :=
  P.length = n ∧ n ≤ cap ∧ cap ≤ maxLen ∧ (0 < n → ∃ b off, ao = some ⟨b, off, none⟩ ∧ ∀ i, i < n → w.cell? ⟨b, off + i * 2, none⟩ = some (.int .i64 (P.getD i p0).x) ∧ w.cell? ⟨b, off + i * 2 + 1, none⟩ = some (.int .i64 (P.getD i p0).y)) ∧ (ao = none → n = 0 ∧ cap = 0)
/-- rings in a slice. -/
def IsRings (w : World) (ao : Option Addr) (n cap : Nat) (R : List (List Pt)) : Prop :=
  R.length = n ∧ n ≤ cap ∧ cap ≤ maxLen ∧ (ao = none → n = 0 ∧ cap = 0) ∧ ∀ k, k < n → ∃ b off x y z, ao = some ⟨b, off, none⟩ ∧ w.cell? ⟨b, off + k, none⟩ = some (.slice x y z) ∧ IsPts w x y z (R.getD k [])
theorem Tryz.cellsRs : Tryz.prog.cellsOf 22 = 1 := by kernel_rfl
theorem Tryz.cellsPs : Tryz.prog.cellsOf 36 = 1 := by kernel_rfl
theorem Tryz.cellsPt : Tryz.prog.cellsOf 40 = 2 := by kernel_rfl
theorem Tryz.cellsI : Tryz.prog.cellsOf 3 = 1 := by kernel_rfl
/-- an address that bears a cell has no spot. -/
theorem spot_of_cell {w : World} {a : Addr} {v : Value} (h : w.cell? (a.add 0) = some v) : a.spot = none := by
  obtain ⟨b, off, spot⟩ := a
  cases spot with
  | none => rfl
  | some s =>
    exfalso
    simp only [Addr.add, World.cell?] at h
    split at h
    · simp at h
    · cases h
theorem add_add (b off i j : Nat) : ((⟨b, off, none⟩ : Addr).add i).add j = ⟨b, off + i + j, none⟩ := by
  have e1 : (⟨b, off, none⟩ : Addr).add i = ⟨b, off + i, none⟩ := by unfold Addr.add; split <;> simp_all
  rw [e1]; unfold Addr.add; split <;> simp_all
section
variable {H : Type} {enc : TypeId × Value → H} {w : World} {base : Nat} {spare : Nat → Bool} {held : Bool}
/-- a row's elements, one by one: a slice whose elements are of k cells. -/
theorem rows_of {k len m : Nat} {a : Addr} {α : Type} (d : α) (Q : List Value → α → Prop) (hk : 0 < k) (hl : len ≤ m) (h : ∀ i, i < m → ∃ cs', w.cells? base (a.add (i * k)) k = some cs' ∧ ∃ x, Q cs' x) :
    ∃ X : List α, X.length = len ∧ (0 < len → ∃ b off, a = ⟨b, off, none⟩ ∧ ∀ i, i < len → ∃ cs : List Value, cs.length = k ∧ (∀ j, j < k → w.cell? ⟨b, off + i * k + j, none⟩ = cs[j]?) ∧ Q cs (X.getD i d)) := by
  have each : ∀ i, ∃ x : α, i < len → ∃ cs, w.cells? base (a.add (i * k)) k = some cs ∧ Q cs x := by
    intro i
    by_cases hi : i < len
    · obtain ⟨cs, h1, x, h2⟩ := h i (by omega)
      exact ⟨x, fun _ => ⟨cs, h1, h2⟩⟩
    · exact ⟨d, fun h => absurd h hi⟩
  obtain ⟨R, hR⟩ := Classical.axiomOfChoice each
  refine ⟨(List.range len).map R, by simp, fun hpos => ?_⟩
  obtain ⟨b, off, spot⟩ := a
  have hs : spot = none := by
    obtain ⟨cs, h1, _⟩ := hR 0 hpos
    obtain ⟨_, hl0, hc⟩ := World.cells?_some h1
    have h0 := hc 0 hk
    rw [List.getElem?_eq_getElem (by omega)] at h0
    rw [Nat.zero_mul] at h0
    have hz : (⟨b, off, spot⟩ : Addr).add 0 = ⟨b, off, spot⟩ := rfl
    rw [hz] at h0
    exact spot_of_cell h0
  subst hs
  refine ⟨b, off, rfl, fun i hi => ?_⟩
  obtain ⟨cs, h1, h2⟩ := hR i hi
  obtain ⟨_, hl0, hc⟩ := World.cells?_some h1
  refine ⟨cs, hl0, fun j hj => by rw [← hc j hj, add_add], ?_⟩
  have : ((List.range len).map R).getD i d = R i := by simp [List.getD, hi]
  rw [this]
  exact h2
set_option maxRecDepth 100000 in
theorem point_cells {fuel : Nat} {cs : List Value} {x : DataW H × List MemPlace} (h : DataW.trod enc Tryz.prog w base spare held fuel 40 cs = some x) : ∃ p : Pt, cs = [.int .i64 p.x, .int .i64 p.y] := by
  obtain ⟨xs, n, _, _, hl, hxs, hf⟩ := DataW.trod_struct Tryz.underlying40 h
  rw [Tryz.cellsPt] at hl
  have hx2 : xs.length = 2 := hxs
  obtain ⟨v0, v1, rfl⟩ : ∃ v0 v1, cs = [v0, v1] := by
    match cs, hl with
    | [a, b], _ => exact ⟨a, b, rfl⟩
  have f0 : DataW.trod enc Tryz.prog w base spare held n 3 (([v0, v1].drop 0).take (Tryz.prog.cellsOf 3)) = xs[0]? := hf 0 _ rfl
  have f1 : DataW.trod enc Tryz.prog w base spare held n 3 (([v0, v1].drop 1).take (Tryz.prog.cellsOf 3)) = xs[1]? := hf 1 _ rfl
  rw [List.getElem?_eq_getElem (by omega), Tryz.cellsI] at f0
  rw [List.getElem?_eq_getElem (by omega), Tryz.cellsI] at f1
  obtain ⟨z0, e0, _, _⟩ := DataW.trod_int Tryz.underlying3 f0
  obtain ⟨z1, e1, _, _⟩ := DataW.trod_int Tryz.underlying3 f1
  have g0 : [v0] = [Value.int .i64 z0] := e0
  have g1 : [v1] = [Value.int .i64 z1] := e1
  cases g0
  cases g1
  exact ⟨⟨z0, z1⟩, rfl⟩
set_option maxRecDepth 100000 in
theorem pts_in {fuel : Nat} {cs : List Value} {x : DataW H × List MemPlace} (h : DataW.trod enc Tryz.prog w base spare held fuel 36 cs = some x) : ∃ ao n cap P, cs = [.slice ao n cap] ∧ IsPts w ao n cap P := by
  rcases Go.Deep.open_slice Tryz.underlying36 h with ⟨rfl, _⟩ | ⟨a, l, c, m, n, D, Pl, rfl, _, hl, hm, hmm, _, hx⟩
  · exact ⟨_, _, _, [], rfl, rfl, Nat.le_refl _, by unfold maxLen; omega, fun h => absurd h (by omega), fun _ => ⟨rfl, rfl⟩⟩
  · rw [Tryz.cellsPt] at hx
    obtain ⟨P, hP, hc⟩ := rows_of (k := 2) (m := m) (len := l) p0 (fun cs p => cs = [.int .i64 p.x, .int .i64 p.y]) (by omega) (by rw [hmm]; split <;> omega) (fun i hi => by
      obtain ⟨cs', h1, h2⟩ := hx i hi
      exact ⟨cs', h1, point_cells h2⟩)
    refine ⟨_, _, _, P, rfl, hP, hl, hm, fun hpos => ?_, fun h => by cases h⟩
    obtain ⟨b, off, rfl, hcc⟩ := hc hpos
    refine ⟨b, off, rfl, fun i hi => ?_⟩
    obtain ⟨cs, _, hj, rfl⟩ := hcc i hi
    exact ⟨hj 0 (by omega), hj 1 (by omega)⟩
set_option maxRecDepth 100000 in
theorem rings_in {fuel : Nat} {cs : List Value} {x : DataW H × List MemPlace} (h : DataW.trod enc Tryz.prog w base spare held fuel 22 cs = some x) : ∃ ao n cap R, cs = [.slice ao n cap] ∧ IsRings w ao n cap R := by
  rcases Go.Deep.open_slice Tryz.underlying22 h with ⟨rfl, _⟩ | ⟨a, l, c, m, n, D, Pl, rfl, _, hl, hm, hmm, _, hx⟩
  · exact ⟨_, _, _, [], rfl, rfl, Nat.le_refl _, by unfold maxLen; omega, fun _ => ⟨rfl, rfl⟩, fun k h => absurd h (by omega)⟩
  · rw [Tryz.cellsPs] at hx
    obtain ⟨R, hR, hc⟩ := rows_of (k := 1) (m := m) (len := l) ([] : List Pt) (fun cs P => ∃ ao n cap, cs = [.slice ao n cap] ∧ IsPts w ao n cap P) (by omega) (by rw [hmm]; split <;> omega) (fun i hi => by
      obtain ⟨cs', h1, h2⟩ := hx i hi
      obtain ⟨ao, n, cap, P, e, hp⟩ := pts_in h2
      exact ⟨cs', h1, P, ao, n, cap, e, hp⟩)
    refine ⟨_, _, _, R, rfl, hR, hl, hm, (fun h => by cases h), fun k hk => ?_⟩
    obtain ⟨b, off, rfl, hcc⟩ := hc (by omega)
    obtain ⟨cs, _, hj, ao, n', cap, rfl, hp⟩ := hcc k hk
    exact ⟨b, off, ao, n', cap, rfl, by simpa using hj 0 (by omega), hp⟩
end
theorem IsPts.later {w w' : World} {B : Nat} {ao : Option Addr} {n cap : Nat} {P : List Pt} (h : IsPts w ao n cap P) (hb : Below B w w') (hB : w.heap.size ≤ B) : IsPts w' ao n cap P := by
  obtain ⟨h1, h2, h3, h4, h5⟩ := h
  refine ⟨h1, h2, h3, fun hn => ?_, h5⟩
  obtain ⟨b, off, rfl, hc⟩ := h4 hn
  refine ⟨b, off, rfl, fun i hi => ?_⟩
  obtain ⟨e0, e1⟩ := hc i hi
  exact ⟨(hb.cell (p := ⟨b, off + i * 2, none⟩) (Nat.lt_of_lt_of_le (block_lt_of_cell e0) hB)).trans e0, (hb.cell (p := ⟨b, off + i * 2 + 1, none⟩) (Nat.lt_of_lt_of_le (block_lt_of_cell e1) hB)).trans e1⟩
theorem IsRings.later {w w' : World} {B : Nat} {ao : Option Addr} {n cap : Nat} {R : List (List Pt)} (h : IsRings w ao n cap R) (hb : Below B w w') (hB : w.heap.size ≤ B) : IsRings w' ao n cap R := by
  obtain ⟨h1, h2, h3, h4, h5⟩ := h
  refine ⟨h1, h2, h3, h4, fun k hk => ?_⟩
  obtain ⟨b, off, x, y, z, rfl, hc, hp⟩ := h5 k hk
  exact ⟨b, off, x, y, z, rfl, (hb.cell (p := ⟨b, off + k, none⟩) (Nat.lt_of_lt_of_le (block_lt_of_cell hc) hB)).trans hc, hp.later hb hB⟩
theorem IsRings.nil (w : World) : IsRings w none 0 0 [] := ⟨rfl, Nat.le_refl _, by unfold maxLen; omega, fun _ => ⟨rfl, rfl⟩, fun k hk => absurd hk (by omega)⟩
theorem drewN2 (w : World) (a b : Nat) : (w.drewN a).drewN b = w.drewN (a + b) := by unfold World.drewN; simp [Nat.add_assoc]
theorem fieldsP : Tryz.prog.underlying 40 = some (.struct (Tryz.prog.fieldsOf 40)) := by kernel_rfl
theorem heldP : Tryz.prog.stoodInHeld 40 = false := by kernel_rfl
theorem fieldsPI : (Tryz.prog.fieldsOf 40).toList.map (fun f => (decide (f.name ≠ "_"), f.type, f.offset)) = [(true, 3, 0), (true, 3, 1)] := by kernel_rfl
theorem isAggI (w : World) : (isAgg 3).run Tryz.prog w = .ok false w := by
  simp [isAgg, run_underlying Tryz.underlying3]
theorem part_int (xs : Array Value) (o : Nat) (v : Value) (h : xs[o]? = some v) (w : World) : (part 3 xs o).run Tryz.prog w = .ok v w := by
  simp [part, h]
theorem eqFields_cons (d : Nat) (xs ys : Array Value) (f : Field) (fs : List Field) (o : Nat) (a b : Int) (w : World) (hn : decide (f.name ≠ "_") = true) (ht : f.type = 3) (ho : f.offset = o)
    (hx : xs[o]? = some (.int .i64 a)) (hy : ys[o]? = some (.int .i64 b)) :
    (Op.eqFields (d + 1) xs ys (f :: fs)).run Tryz.prog w = if (a == b) = true then (Op.eqFields (d + 1) xs ys fs).run Tryz.prog w else .ok false w := by
  have hn' : f.name ≠ "_" := of_decide_eq_true hn
  rw [Op.eqFields, if_pos hn', ht, ho]
  simp only [Sem.run_bind, part_int xs o _ hx, part_int ys o _ hy, Result.andThen_ok, run_equalIn_int w d 3 .i64 .i64 a b Tryz.underlying3]
  cases (a == b) <;> simp
theorem run_neq_pt (a b : Int) (w : World) : (binOp .neq 40 (.agg #[.int .i64 a, .int .i64 b]) (.agg #[.int .i64 a, .int .i64 b])).run Tryz.prog w = .ok (.bool false) w := by
  have hf := fieldsPI
  rw [run_neq_struct, run_equalIn_agg _ _ _ _ _ fieldsP heldP]
  generalize (Tryz.prog.fieldsOf 40).toList = fs at hf
  obtain _ | ⟨f0, _ | ⟨f1, _ | ⟨f2, fs⟩⟩⟩ := fs <;> simp only [List.map_cons, List.map_nil, List.cons.injEq, Prod.mk.injEq, and_false, and_true, List.cons_ne_nil, List.nil_eq] at hf
  obtain ⟨⟨n0, t0, o0⟩, ⟨n1, t1, o1⟩⟩ := hf
  rw [eqFields_cons 9998 _ _ f0 _ 0 _ _ w n0 t0 o0 rfl rfl, eqFields_cons 9998 _ _ f1 _ 1 _ _ w n1 t1 o1 rfl rfl]
  unfold Op.eqFields
  simp
set_option maxRecDepth 100000 in
set_option maxHeartbeats 1000000 in
theorem SamePoints_any (ao : Option Addr) (n cap : Nat) (bo : Option Addr) (cap2 : Nat) (P : List Pt) (w : World) (h : IsPts w ao n cap P) (h2 : IsPts w bo n cap2 P) :
    Calls Tryz.prog 40 #[.slice ao n cap, .slice bo n cap2] w fun e w' => e = .returned (.bool true) ∧ ∃ q, w' = w.drewN q := by
  have HI := Lib.hid h
  have HJ := Lib.hid h2
  have hcm := h.2.2.1
  have hnc := h.2.1
  clear h h2
  unfold maxLen at hcm
  have hnn : ((n : Int) == (n : Int)) = true := by simp
  go_enter Tryz.func40, Tryz.ntmps40
  go_wp2
  go_loopw [5] (fun i wr => ∃ k : Nat, k ≤ n ∧ i = .int .i64 k ∧ Hid (∃ q, wr = w.drewN q)) (fun i _ => n - (intOf i).toNat)
  case atStart => exact ⟨0, by omega, rfl, 0, rfl⟩
  case round =>
    obtain ⟨k, hk, rfl, hq⟩ := hrel
    by_cases hlt : k < n
    · have hi0 : (0 : Int) ≤ (k : Int) := by omega
      have hi5 : (k : Int) < (n : Int) := by omega
      have hb : Below w.heap.size w wr := by obtain ⟨q, rfl⟩ := hq.out; exact below_drewN (Below.refl _ _) q
      obtain ⟨b, off, rfl, hat⟩ := (HI.out.later hb (Nat.le_refl _)).2.2.2.1 (by omega)
      obtain ⟨b2, off2, rfl, hat2⟩ := (HJ.out.later hb (Nat.le_refl _)).2.2.2.1 (by omega)
      obtain ⟨x, hx⟩ : ∃ x, x = (P.getD k p0).x := ⟨_, rfl⟩
      obtain ⟨y, hy⟩ : ∃ y, y = (P.getD k p0).y := ⟨_, rfl⟩
      obtain ⟨e0, e1⟩ := hat k hlt
      obtain ⟨d0, d1⟩ := hat2 k hlt
      rw [← hx] at e0 d0
      rw [← hy] at e1 d1
      have hql : ∀ w', (binOp .neq 40 (.agg #[.int .i64 x, .int .i64 y]) (.agg #[.int .i64 x, .int .i64 y])).run Tryz.prog w' = .ok (.bool false) w' := run_neq_pt x y
      clear hat hat2 hx hy hb
      go_wp2_with fail
      go_quiet (fail)
      go_wp2_with fail
      go_roundw
      case rel =>
        refine ⟨k + 1, by omega, by go_num, ?_⟩
        obtain ⟨q, rfl⟩ := hq.out
        exact ⟨_, drewN2 _ _ _⟩
      case measure => simp [intOf]; omega
    · obtain rfl : k = n := by omega
      go_wp2
      go_ret
      exact ⟨rfl, hq.out⟩
set_option maxRecDepth 100000 in
set_option maxHeartbeats 1000000 in
theorem SameRings_any (ao : Option Addr) (n cap : Nat) (bo : Option Addr) (cap2 : Nat) (R : List (List Pt)) (w : World) (h : IsRings w ao n cap R) (h2 : IsRings w bo n cap2 R) :
    Calls Tryz.prog 19 #[.slice ao n cap, .slice bo n cap2] w fun e w' => e = .returned (.bool true) ∧ ∃ q, w' = w.drewN q := by
  have HI := Lib.hid h
  have HJ := Lib.hid h2
  have hcm := h.2.2.1
  have hnc := h.2.1
  clear h h2
  unfold maxLen at hcm
  have hnn : ((n : Int) == (n : Int)) = true := by simp
  go_enter Tryz.func19, Tryz.ntmps19
  go_wp2
  go_loopw [5] (fun i wr => ∃ k : Nat, k ≤ n ∧ i = .int .i64 k ∧ Hid (∃ q, wr = w.drewN q)) (fun i _ => n - (intOf i).toNat)
  case atStart => exact ⟨0, by omega, rfl, 0, rfl⟩
  case round =>
    obtain ⟨k, hk, rfl, hq⟩ := hrel
    by_cases hlt : k < n
    · have hi0 : (0 : Int) ≤ (k : Int) := by omega
      have hi5 : (k : Int) < (n : Int) := by omega
      have hb : Below w.heap.size w wr := by obtain ⟨q, rfl⟩ := hq.out; exact below_drewN (Below.refl _ _) q
      obtain ⟨b, off, x, y, z, rfl, e0, hp⟩ := (HI.out.later hb (Nat.le_refl _)).2.2.2.2 k hlt
      obtain ⟨b2, off2, x2, y2, z2, rfl, d0, hp2⟩ := (HJ.out.later hb (Nat.le_refl _)).2.2.2.2 k hlt
      obtain rfl : y2 = y := hp2.1.symm.trans hp.1
      have hcall : ∀ q', Calls Tryz.prog 40 #[.slice x y2 z, .slice x2 y2 z2] (wr.drewN q') fun e w' => e = .returned (.bool true) ∧ ∃ m, w' = wr.drewN m := fun q' =>
        (SamePoints_any _ _ _ _ _ _ _ (hp.later (below_drewN (Below.refl _ _) q') (Nat.le_refl _)) (hp2.later (below_drewN (Below.refl _ _) q') (Nat.le_refl _))).mono fun e w' h => ⟨h.1, by obtain ⟨m, hm⟩ := h.2; exact ⟨q' + m, by rw [hm]; exact drewN2 _ _ _⟩⟩
      have HC := Lib.hid hcall
      clear hp hp2 hb hcall
      go_wp2_with fail
      go_quiet ((go_at_call 40; exact HC.out _))
      go_wp2_with fail
      go_roundw
      case rel =>
        refine ⟨k + 1, by omega, by go_num, ?_⟩
        obtain ⟨q, rfl⟩ := hq.out
        exact ⟨_, drewN2 _ _ _⟩
      case measure => simp [intOf]; omega
    · obtain rfl : k = n := by omega
      go_wp2
      go_ret
      exact ⟨rfl, hq.out⟩
/-- no ring is longer than memory. -/
def Kept (R : List (List Pt)) : Prop := ∀ k, k < R.length → (R.getD k []).length ≤ 8796093022208
theorem Tryz.bytesPt : Tryz.prog.bytesOf 40 = 16 := by kernel_rfl
section
variable {H : Type} {enc : TypeId × Value → H} {w : World} {base : Nat} {spare : Nat → Bool} {held : Bool}
theorem weightsAll_memJ {P : Program} {e : TypeId} {d : DataW H} {n : Nat} : ∀ {l : List (DataW H)}, d ∈ l → n ∈ d.weights P e → n ∈ DataW.weightsAll P e l
  | x :: l, h, hm => by
    simp only [DataW.weightsAll, List.mem_append]
    rcases List.mem_cons.1 h with rfl | h
    · exact .inl hm
    · exact .inr (weightsAll_memJ h hm)
set_option maxRecDepth 100000 in
theorem pts_len {fuel : Nat} {ao : Option Addr} {n cap : Nat} {x : DataW H × List MemPlace} (h : DataW.trod enc Tryz.prog w base spare held fuel 36 [.slice ao n cap] = some x) (hz : ∀ k ∈ x.1.weights Tryz.prog 36, k ≤ reachBytes) : n ≤ 8796093022208 := by
  rcases Go.Deep.open_slice Tryz.underlying36 h with ⟨e2, _⟩ | ⟨a, l, c, m, n', D, Pl, e2, _, hl, hm, hmm, rfl, hx⟩
  · cases e2; omega
  · cases e2
    have h1 := hz ((n + (m - n)) * 16) (by
      simp only [DataW.weights, Tryz.underlying36, Tryz.bytesPt, List.length_map, List.length_range]
      exact List.mem_cons_self)
    have h2 : reachBytes < 2 ^ 47 := reachBytes_lt
    omega
set_option maxRecDepth 100000 in
theorem rings_in_sized {fuel : Nat} {cs : List Value} {x : DataW H × List MemPlace} (h : DataW.trod enc Tryz.prog w base spare held fuel 22 cs = some x) (hz : ∀ k ∈ x.1.weights Tryz.prog 22, k ≤ reachBytes) : ∃ ao n cap R, cs = [.slice ao n cap] ∧ IsRings w ao n cap R ∧ Kept R := by
  rcases Go.Deep.open_slice Tryz.underlying22 h with ⟨rfl, _⟩ | ⟨a, l, c, m, n, D, Pl, rfl, _, hl, hm, hmm, rfl, hx⟩
  · exact ⟨_, _, _, [], rfl, ⟨rfl, Nat.le_refl _, by unfold maxLen; omega, fun _ => ⟨rfl, rfl⟩, fun k h => absurd h (by omega)⟩, fun k hk => absurd hk (by simp)⟩
  · rw [Tryz.cellsPs] at hx
    have hlm : l ≤ m := by rw [hmm]; split <;> omega
    obtain ⟨R, hR, hc⟩ := rows_of (k := 1) (m := l) (len := l) ([] : List Pt) (fun cs P => ∃ ao n cap, cs = [.slice ao n cap] ∧ IsPts w ao n cap P ∧ P.length ≤ 8796093022208) (by omega) (Nat.le_refl _) (fun i hi => by
      obtain ⟨cs', h1, h2⟩ := hx i (by omega)
      obtain ⟨ao, n, cap, P, e, hp⟩ := pts_in h2
      subst e
      refine ⟨_, h1, P, ao, n, cap, rfl, hp, ?_⟩
      rw [hp.1]
      exact pts_len h2 (fun k hk => hz k (by
        simp only [DataW.weights, Tryz.underlying22]
        refine List.mem_cons_of_mem _ (List.mem_append_left _ ?_)
        exact weightsAll_memJ (List.mem_map.2 ⟨i, List.mem_range.2 hi, rfl⟩) hk)))
    refine ⟨_, _, _, R, rfl, ⟨hR, hl, hm, (fun h => by cases h), fun k hk => ?_⟩, fun k hk => ?_⟩
    · obtain ⟨b, off, rfl, hcc⟩ := hc (by omega)
      obtain ⟨cs, _, hj, ao, n', cap, rfl, hp, _⟩ := hcc k hk
      exact ⟨b, off, ao, n', cap, rfl, by simpa using hj 0 (by omega), hp⟩
    · obtain ⟨b, off, _, hcc⟩ := hc (by omega)
      obtain ⟨cs, _, hj, ao, n', cap, _, _, hz⟩ := hcc k (by omega)
      exact hz
end
end Go.Proofs.YtgijaaklhdcgeaaGreat

/- plain law of points, turns, rings: no program in sight -/
namespace Go.Geo
structure Pt where
  x : Int
  y : Int
deriving DecidableEq
/-- a coordinate that may be. -/
def fitsC (n : Int) : Bool := decide (-1099511627775 ≤ n) && decide (n ≤ 1099511627775)
def validP (p : Pt) : Bool := fitsC p.x && fitsC p.y
theorem validP_iff (p : Pt) : validP p = true ↔ (-1099511627775 ≤ p.x ∧ p.x ≤ 1099511627775) ∧ (-1099511627775 ≤ p.y ∧ p.y ≤ 1099511627775) := by simp [validP, fitsC]
def sgn (n : Int) : Int := if n < 0 then -1 else if n = 0 then 0 else 1
theorem sgn_one {n : Int} : sgn n = 1 ↔ 0 < n := by unfold sgn; split <;> (try split) <;> omega
theorem sgn_zero {n : Int} : sgn n = 0 ↔ n = 0 := by unfold sgn; split <;> (try split) <;> omega
theorem sgn_neg {n : Int} : sgn n = -1 ↔ n < 0 := by unfold sgn; split <;> (try split) <;> omega
/-- twice the area. -/
def area (a b c : Pt) : Int := (b.x - a.x) * (c.y - a.y) - (b.y - a.y) * (c.x - a.x)
def turnP (a b c : Pt) : Int := if validP a && validP b && validP c then sgn (area a b c) else 0
def countsP (p a b : Pt) : Bool :=
  validP p && validP a && validP b && (if b.y < a.y then decide (b.y ≤ p.y) && decide (p.y < a.y) && decide (turnP b a p = 1) else decide (a.y ≤ p.y) && decide (p.y < b.y) && decide (turnP a b p = 1))
theorem countsP_comm (p a b : Pt) : countsP p a b = countsP p b a := by
  unfold countsP
  by_cases h : b.y < a.y
  · rw [if_pos h, if_neg (by omega)]
    cases validP a <;> cases validP b <;> simp
  · by_cases h2 : a.y < b.y
    · rw [if_neg h, if_pos h2]
      cases validP a <;> cases validP b <;> simp
    · rw [if_neg h, if_neg h2]
      have e1 : (decide (a.y ≤ p.y) && decide (p.y < b.y)) = false := by simp; omega
      have e2 : (decide (b.y ≤ p.y) && decide (p.y < a.y)) = false := by simp; omega
      rw [e1, e2]
      simp
/-- the edges from a on, each put in or out. -/
def xorP (f : Pt → Pt → Bool) : Pt → List Pt → Bool
  | _, [] => false
  | a, b :: l => f a b ^^ xorP f b l
/-- the last of a list, or a. -/
def lastP (a : Pt) (l : List Pt) : Pt := l.getLastD a
def inP (p : Pt) (l : List Pt) : Bool := match l with
  | [] => false
  | a :: m => xorP (countsP p) (lastP a m) (a :: m)
theorem lastP_cons (a b : Pt) (l : List Pt) : lastP a (b :: l) = lastP b l := by cases l <;> rfl
theorem xorP_alike {f : Pt → Pt → Bool} {g : Pt → Bool} : ∀ (l : List Pt) (a : Pt), (∀ u v, u ∈ a :: l → v ∈ a :: l → f u v = (g u ^^ g v)) → xorP f a l = (g a ^^ g (lastP a l))
  | [], a, _ => by simp [xorP, lastP]
  | b :: l, a, h => by
    rw [xorP, h a b (by simp) (by simp), xorP_alike l b (fun u v hu hv => h u v (List.mem_cons_of_mem _ hu) (List.mem_cons_of_mem _ hv)), lastP_cons]
    cases g a <;> cases g b <;> cases g (lastP b l) <;> rfl
theorem xorP_none {f : Pt → Pt → Bool} : ∀ (l : List Pt) (a : Pt), (∀ u v, u ∈ a :: l → v ∈ a :: l → f u v = false) → xorP f a l = false
  | [], a, _ => rfl
  | b :: l, a, h => by
    rw [xorP, h a b (by simp) (by simp), xorP_none l b (fun u v hu hv => h u v (List.mem_cons_of_mem _ hu) (List.mem_cons_of_mem _ hv))]
    rfl
theorem lastP_mem (a : Pt) (l : List Pt) : lastP a l ∈ a :: l := by
  unfold lastP
  rw [List.getLastD_eq_getLast?]
  cases h : l.getLast? with
  | none => simp
  | some z => simp [List.mem_of_getLast? h]
/-- what is put in stands among the points. -/
theorem xorP_mem {f g : Pt → Pt → Bool} : ∀ (l : List Pt) (a : Pt), (∀ u v, u ∈ a :: l → v ∈ a :: l → f u v = g u v) → xorP f a l = xorP g a l
  | [], a, _ => rfl
  | b :: l, a, h => by
    rw [xorP, xorP, h a b (by simp) (by simp), xorP_mem l b (fun u v hu hv => h u v (List.mem_cons_of_mem _ hu) (List.mem_cons_of_mem _ hv))]
theorem area_swap (a b p : Pt) : area b a p = - area a b p := by
  unfold area
  grind
/-- left of all: an edge counts just where it goes over the height. -/
theorem counts_left {p a b : Pt} (hp : validP p = true) (ha : validP a = true) (hb : validP b = true) (h1 : p.x < a.x) (h2 : p.x < b.x) : countsP p a b = (decide (a.y ≤ p.y) ^^ decide (b.y ≤ p.y)) := by
  have key : ∀ a b : Pt, validP a = true → validP b = true → p.x < a.x → p.x < b.x → a.y ≤ p.y → p.y < b.y → turnP a b p = 1 := by
    intro a b ha hb h1 h2 h3 h4
    unfold turnP
    rw [ha, hb, hp]
    simp only [Bool.and_self, if_true]
    rw [sgn_one]
    have e : area a b p = (p.y - a.y) * (b.x - p.x) + (b.y - p.y) * (a.x - p.x) := by unfold area; grind
    rw [e]
    have q1 : 0 ≤ (p.y - a.y) * (b.x - p.x) := Int.mul_nonneg (by omega) (by omega)
    have q2 : 0 < (b.y - p.y) * (a.x - p.x) := Int.mul_pos (by omega) (by omega)
    omega
  unfold countsP
  rw [hp, ha, hb]
  by_cases h : b.y < a.y
  · rw [if_pos h]
    by_cases q1 : b.y ≤ p.y
    · by_cases q2 : p.y < a.y
      · rw [key b a hb ha h2 h1 q1 q2]
        have : ¬ a.y ≤ p.y := by omega
        simp [q1, q2, this]
      · have : a.y ≤ p.y := by omega
        simp [q1, q2, this]
    · have : ¬ a.y ≤ p.y := by omega
      simp [q1, this]
  · rw [if_neg h]
    by_cases q1 : a.y ≤ p.y
    · by_cases q2 : p.y < b.y
      · rw [key a b ha hb h1 h2 q1 q2]
        have : ¬ b.y ≤ p.y := by omega
        simp [q1, q2, this]
      · have : b.y ≤ p.y := by omega
        simp [q1, q2, this]
    · have : ¬ b.y ≤ p.y := by omega
      simp [q1, this]
/-- an edge that counts goes over the height, and to the right of the point. -/
theorem counts_right {p a b : Pt} (h : countsP p a b = true) : (a.y ≤ p.y ∧ p.y < b.y ∨ b.y ≤ p.y ∧ p.y < a.y) ∧ (p.x < a.x ∨ p.x < b.x) ∧ validP p = true ∧ validP a = true ∧ validP b = true := by
  have key : ∀ a b : Pt, turnP a b p = 1 → a.y ≤ p.y → p.y < b.y → p.x < a.x ∨ p.x < b.x := by
    intro a b ht h3 h4
    unfold turnP at ht
    split at ht
    · rw [sgn_one] at ht
      have e : area a b p = (p.y - a.y) * (b.x - p.x) + (b.y - p.y) * (a.x - p.x) := by unfold area; grind
      rw [e] at ht
      by_cases q : p.x < a.x ∨ p.x < b.x
      · exact q
      · have q1 : (p.y - a.y) * (b.x - p.x) ≤ 0 := Int.mul_nonpos_of_nonneg_of_nonpos (by omega) (by omega)
        have q2 : (b.y - p.y) * (a.x - p.x) ≤ 0 := Int.mul_nonpos_of_nonneg_of_nonpos (by omega) (by omega)
        omega
    · cases ht
  unfold countsP at h
  simp only [Bool.and_eq_true] at h
  obtain ⟨⟨⟨hp, ha⟩, hb⟩, h⟩ := h
  by_cases q : b.y < a.y
  · rw [if_pos q] at h
    simp only [Bool.and_eq_true, decide_eq_true_eq] at h
    obtain ⟨⟨h1, h2⟩, h3⟩ := h
    have := key b a h3 h1 h2
    exact ⟨.inr ⟨h1, h2⟩, this.symm, hp, ha, hb⟩
  · rw [if_neg q] at h
    simp only [Bool.and_eq_true, decide_eq_true_eq] at h
    obtain ⟨⟨h1, h2⟩, h3⟩ := h
    exact ⟨.inl ⟨h1, h2⟩, key a b h3 h1 h2, hp, ha, hb⟩
theorem xorP_some {f : Pt → Pt → Bool} : ∀ (l : List Pt) (a : Pt), xorP f a l = true → ∃ u v, u ∈ a :: l ∧ v ∈ a :: l ∧ f u v = true
  | [], a, h => by cases h
  | b :: l, a, h => by
    by_cases q : f a b = true
    · exact ⟨a, b, by simp, by simp, q⟩
    · rw [xorP] at h
      have q : f a b = false := by simpa using q
      rw [q] at h
      obtain ⟨u, v, hu, hv, hf⟩ := xorP_some l b (by simpa using h)
      exact ⟨u, v, List.mem_cons_of_mem _ hu, List.mem_cons_of_mem _ hv, hf⟩
/-- what is in a ring is in any box of its points. -/
theorem in_box {p : Pt} {l : List Pt} {lx ly hx hy : Int} (h : inP p l = true) (hall : ∀ v ∈ l, validP v = true) (hb : ∀ v ∈ l, lx ≤ v.x ∧ v.x ≤ hx ∧ ly ≤ v.y ∧ v.y ≤ hy) : lx ≤ p.x ∧ p.x < hx ∧ ly ≤ p.y ∧ p.y < hy := by
  cases l with
  | nil => cases h
  | cons a m =>
    have h : xorP (countsP p) (lastP a m) (a :: m) = true := h
    have hm : ∀ v, v ∈ lastP a m :: a :: m → v ∈ a :: m := fun v hv => by
      rcases List.mem_cons.1 hv with rfl | hv
      · exact lastP_mem a m
      · exact hv
    obtain ⟨u, v, hu, hv, hf⟩ := xorP_some _ _ h
    obtain ⟨h1, h2, hp, _, _⟩ := counts_right hf
    have b1 := hb u (hm u hu)
    have b2 := hb v (hm v hv)
    refine ⟨?_, by omega, by omega, by omega⟩
    by_cases q : lx ≤ p.x
    · exact q
    exfalso
    -- all edges that may be count by the height alone
    have hval : ∀ v, v ∈ a :: m → p.x < v.x := fun v hv => by have := hb v hv; omega
    have := xorP_alike (f := countsP p) (g := fun v => decide (v.y ≤ p.y)) (a :: m) (lastP a m) (fun u v hu hv => counts_left hp (hall u (hm u hu)) (hall v (hm v hv)) (hval u (hm u hu)) (hval v (hm v hv)))
    rw [h, lastP_cons] at this
    simp at this
theorem xorP_append {f : Pt → Pt → Bool} : ∀ (l : List Pt) (a : Pt) (m : List Pt), xorP f a (l ++ m) = (xorP f a l ^^ xorP f (lastP a l) m)
  | [], a, m => by simp [xorP, lastP]
  | b :: l, a, m => by
    rw [List.cons_append, xorP, xorP_append l b m, xorP, lastP_cons]
    cases f a b <;> simp
theorem lastP_append (a : Pt) (l : List Pt) (b : Pt) : lastP a (l ++ [b]) = b := by simp [lastP, List.getLastD_eq_getLast?]
/-- a path, there and back. -/
theorem xorP_reverse {f : Pt → Pt → Bool} (hf : ∀ a b, f a b = f b a) : ∀ (l : List Pt) (a : Pt), xorP f (lastP a l) ((a :: l).reverse.drop 1) = xorP f a l
  | [], a => rfl
  | b :: l, a => by
    have e : (a :: b :: l).reverse.drop 1 = ((b :: l).reverse.drop 1) ++ [a] := by
      simp only [List.reverse_cons]
      rw [List.drop_append_of_le_length (by simp)]
    rw [e, lastP_cons, xorP_append, xorP_reverse hf l b]
    have e2 : lastP (lastP b l) ((b :: l).reverse.drop 1) = b := by
      cases l with
      | nil => rfl
      | cons c l =>
        have : (b :: c :: l).reverse.drop 1 = ((c :: l).reverse.drop 1) ++ [b] := by
          simp only [List.reverse_cons]
          rw [List.drop_append_of_le_length (by simp)]
        rw [this, lastP_append]
    rw [e2, xorP, xorP, hf b a]
    show _ = (f a b ^^ xorP f b l)
    cases f a b <;> cases xorP f b l <;> rfl
theorem area_low (a b p : Pt) : area a b p = (p.y - a.y) * (b.x - p.x) + (b.y - p.y) * (a.x - p.x) := by unfold area; grind
/-- a vertical edge. -/
theorem counts_vert {p a b : Pt} (hp : validP p = true) (ha : validP a = true) (hb : validP b = true) (hx : a.x = b.x) : countsP p a b = ((decide (a.y ≤ p.y) ^^ decide (b.y ≤ p.y)) && decide (p.x < a.x)) := by
  by_cases h : p.x < a.x
  · rw [counts_left hp ha hb h (by omega)]
    simp [h]
  · have : countsP p a b = false := by
      cases q : countsP p a b with
      | false => rfl
      | true => have := counts_right q; omega
    rw [this]
    simp [h]
/-- a level edge. -/
theorem counts_level {p a b : Pt} (hy : a.y = b.y) : countsP p a b = false := by
  cases q : countsP p a b with
  | false => rfl
  | true => have := counts_right q; omega
theorem counts_invalid {p a b : Pt} (hp : validP p = false) : countsP p a b = false := by
  cases q : countsP p a b with
  | false => rfl
  | true => have := (counts_right q).2.2.1; rw [hp] at this; cases this
/-- a box cut by a line: a point of it is in just one of the two. -/
theorem tiles {p low high a b : Pt} {line : List Pt} (hlv : validP low = true) (hhv : validP high = true) (hx : low.x < high.x) (hy : low.y < high.y) (ha : a.x = low.x ∧ low.y ≤ a.y ∧ a.y ≤ high.y) (hb : b.x = high.x ∧ low.y ≤ b.y ∧ b.y ≤ high.y) (hl : lastP a line = b) :
    (inP p (low :: ⟨high.x, low.y⟩ :: (a :: line).reverse) ^^ inP p (high :: ⟨low.x, high.y⟩ :: a :: line)) = (decide (low.x ≤ p.x) && decide (p.x < high.x) && decide (low.y ≤ p.y) && decide (p.y < high.y)) := by
  rw [validP_iff] at hlv hhv
  obtain ⟨c, hc⟩ : ∃ c : Pt, c = ⟨high.x, low.y⟩ := ⟨_, rfl⟩
  obtain ⟨d, hd⟩ : ∃ d : Pt, d = ⟨low.x, high.y⟩ := ⟨_, rfl⟩
  rw [← hc, ← hd]
  have hcx : c.x = high.x := by rw [hc]
  have hcy : c.y = low.y := by rw [hc]
  have hdx : d.x = low.x := by rw [hd]
  have hdy : d.y = high.y := by rw [hd]
  by_cases hp : validP p = true
  · have ev : ∀ v : Pt, (low.x ≤ v.x ∧ v.x ≤ high.x) → (low.y ≤ v.y ∧ v.y ≤ high.y) → validP v = true := fun v h1 h2 => by rw [validP_iff]; omega
    have vl := ev low (by omega) (by omega)
    have vh := ev high (by omega) (by omega)
    have vc := ev c (by omega) (by omega)
    have vd := ev d (by omega) (by omega)
    have va := ev a (by omega) (by omega)
    have vb := ev b (by omega) (by omega)
    have e1 : inP p (low :: c :: (a :: line).reverse) = (countsP p a low ^^ countsP p c b ^^ xorP (countsP p) a line) := by
      have er : (a :: line).reverse = b :: (a :: line).reverse.drop 1 := by
        rw [← hl]
        cases line with
        | nil => rfl
        | cons z l =>
          have : (a :: z :: l).reverse ≠ [] := by simp
          obtain ⟨x, m, hm⟩ := List.exists_cons_of_ne_nil this
          rw [hm, List.drop_one, List.tail_cons]
          have h2 : (a :: z :: l).reverse.head? = some x := by rw [hm]; rfl
          rw [List.head?_reverse] at h2
          unfold lastP
          rw [List.getLastD_eq_getLast?]
          have : (a :: z :: l).getLast? = (z :: l).getLast? := by simp
          rw [this] at h2
          rw [h2]
          rfl
      have el : lastP low (c :: (a :: line).reverse) = a := by
        rw [lastP_cons]
        have : (a :: line).reverse = line.reverse ++ [a] := by simp
        rw [this, lastP_append]
      show xorP (countsP p) (lastP low (c :: (a :: line).reverse)) (low :: c :: (a :: line).reverse) = _
      rw [el, er, xorP, xorP, xorP]
      have := xorP_reverse (f := countsP p) (countsP_comm p) line a
      rw [hl] at this
      rw [this, counts_level (a := low) (b := c) (by omega)]
      cases countsP p a low <;> cases countsP p c b <;> cases xorP (countsP p) a line <;> rfl
    have e2 : inP p (high :: d :: a :: line) = (countsP p b high ^^ countsP p d a ^^ xorP (countsP p) a line) := by
      show xorP (countsP p) (lastP high (d :: a :: line)) (high :: d :: a :: line) = _
      rw [lastP_cons, lastP_cons, hl, xorP, xorP, xorP, counts_level (a := high) (b := d) (by omega)]
      cases countsP p b high <;> cases countsP p d a <;> cases xorP (countsP p) a line <;> rfl
    rw [e1, e2, counts_vert hp va vl (by omega), counts_vert hp vc vb (by omega), counts_vert hp vb vh (by omega), counts_vert hp vd va (by omega)]
    rw [hcx, hcy, hdx, hdy, ha.1, hb.1]
    generalize xorP (countsP p) a line = t
    by_cases q1 : p.x < low.x
    · have q2 : p.x < high.x := by omega
      have q3 : ¬ low.x ≤ p.x := by omega
      simp only [q1, q2, q3, decide_true, decide_false, Bool.and_true, Bool.false_and]
      cases decide (a.y ≤ p.y) <;> cases decide (b.y ≤ p.y) <;> cases decide (low.y ≤ p.y) <;> cases decide (high.y ≤ p.y) <;> cases t <;> rfl
    · have q3 : low.x ≤ p.x := by omega
      by_cases q2 : p.x < high.x
      · simp only [q1, q2, q3, decide_true, decide_false, Bool.and_true, Bool.true_and, Bool.and_false]
        have q5 : decide (p.y < high.y) = !decide (high.y ≤ p.y) := by by_cases h : p.y < high.y <;> simp [h] <;> omega
        rw [q5]
        by_cases q4 : low.y ≤ p.y
        · simp only [q4, decide_true]
          cases decide (a.y ≤ p.y) <;> cases decide (b.y ≤ p.y) <;> cases decide (high.y ≤ p.y) <;> cases t <;> rfl
        · have q6 : ¬ high.y ≤ p.y := by omega
          have q7 : ¬ b.y ≤ p.y := by omega
          simp only [q4, q6, q7, decide_false]
          cases decide (a.y ≤ p.y) <;> cases t <;> rfl
      · simp only [q1, q2, q3, decide_true, decide_false, Bool.and_false, Bool.false_and]
        cases t <;> rfl
  · have hp : validP p = false := by simpa using hp
    have hn : ∀ l a, xorP (countsP p) a l = false := fun l a => xorP_none l a (fun _ _ _ _ => counts_invalid hp)
    have e1 : inP p (low :: c :: (a :: line).reverse) = false := hn _ _
    have e2 : inP p (high :: d :: a :: line) = false := hn _ _
    rw [e1, e2]
    have : ¬ (low.x ≤ p.x ∧ p.x < high.x ∧ low.y ≤ p.y ∧ p.y < high.y) := fun h => by
      have : validP p = true := by rw [validP_iff]; omega
      rw [hp] at this
      cases this
    simp
    omega
end Go.Geo

/- plain law of segments that meet: no program in sight -/
namespace Go.Geo
def betw (n a b : Int) : Bool := decide (min a b ≤ n) && decide (n ≤ max a b)
def onP (p a b : Pt) : Bool := validP p && validP a && validP b && betw p.x a.x b.x && betw p.y a.y b.y && decide (turnP a b p = 0)
def mayP (a b : Pt) : Bool := validP a && validP b && decide (a ≠ b)
/-- those of a list that are not there yet, behind it. -/
def gatherP : List Pt → List Pt → List Pt
  | out, [] => out
  | out, p :: l => gatherP (if p ∈ out then out else out ++ [p]) l
def endsP (a b c d : Pt) : List Pt := if mayP a b && mayP c d then gatherP (gatherP [] ([a, b].filter (fun p => onP p c d))) ([c, d].filter (fun p => onP p a b)) else []
def crossP (a b c d : Pt) : Bool := decide (turnP a b c * turnP a b d < 0) && decide (turnP c d a * turnP c d b < 0)
/-- 0 none, 1 touch, 2 cross, 3 over; none where an edge is none. -/
def meetK (a b c d : Pt) : Nat := if mayP a b && mayP c d then (match (endsP a b c d).length with
  | 0 => if crossP a b c d then 2 else 0
  | 1 => 1
  | _ => 3) else 0
theorem sgn_range (n : Int) : sgn n = -1 ∨ sgn n = 0 ∨ sgn n = 1 := by unfold sgn; split <;> (try split) <;> simp
theorem turnP_range (a b c : Pt) : turnP a b c = -1 ∨ turnP a b c = 0 ∨ turnP a b c = 1 := by
  unfold turnP
  split
  · exact sgn_range _
  · simp
theorem sgn_mul {m n : Int} (h : sgn m * sgn n < 0) : (0 < m ∧ n < 0) ∨ (m < 0 ∧ 0 < n) := by
  unfold sgn at h
  repeat' split at h
  all_goals omega
theorem gatherP_mem : ∀ (l out : List Pt) (p : Pt), p ∈ gatherP out l → p ∈ out ∨ p ∈ l
  | [], out, p, h => .inl h
  | q :: l, out, p, h => by
    rcases gatherP_mem l _ p h with h | h
    · split at h
      · exact .inl h
      · rcases List.mem_append.1 h with h | h
        · exact .inl h
        · exact .inr (by rw [List.mem_singleton.1 h]; simp)
    · exact .inr (List.mem_cons_of_mem _ h)
/-- two spans have a number in common. -/
def spans (a b c d : Int) : Prop := max (min a b) (min c d) ≤ min (max a b) (max c d)
theorem spans_of {n a b c d : Int} (h1 : betw n a b = true) (h2 : betw n c d = true) : spans a b c d := by
  simp only [betw, Bool.and_eq_true, decide_eq_true_eq] at h1 h2
  unfold spans
  omega
theorem betw_left (a b : Int) : betw a a b = true := by simp only [betw, Bool.and_eq_true, decide_eq_true_eq]; omega
theorem betw_right (a b : Int) : betw b a b = true := by simp only [betw, Bool.and_eq_true, decide_eq_true_eq]; omega
theorem cross_core {A B C D M m ax bx cx dx : Int} (hA : 0 < A) (hB : B < 0) (hC : C < 0) (hD : 0 < D) (he : A * dx - B * cx = D * ax - C * bx) (hs : D - C = A - B) (h1 : ax ≤ M) (h2 : bx ≤ M) (h3 : m ≤ cx) (h4 : m ≤ dx) : m ≤ M := by
  by_cases q : m ≤ M
  · exact q
  exfalso
  have k1 : A * m ≤ A * dx := Int.mul_le_mul_of_nonneg_left h4 (by omega)
  have k2 : (-B) * m ≤ (-B) * cx := Int.mul_le_mul_of_nonneg_left h3 (by omega)
  have k3 : D * ax ≤ D * M := Int.mul_le_mul_of_nonneg_left h1 (by omega)
  have k4 : (-C) * bx ≤ (-C) * M := Int.mul_le_mul_of_nonneg_left h2 (by omega)
  have k5 : (A - B) * M < (A - B) * m := Int.mul_lt_mul_of_pos_left (by omega) (by omega)
  have e1 : (A - B) * m = A * m + (-B) * m := by grind
  have e2 : (A - B) * M = D * M + (-C) * M := by rw [← hs]; grind
  have e3 : (-B) * cx = -(B * cx) := by grind
  have e4 : (-C) * bx = -(C * bx) := by grind
  omega
theorem cross_core2 {A B C D M m ax bx cx dx : Int} (hA : 0 < A) (hB : B < 0) (hC : C < 0) (hD : 0 < D) (he : A * dx - B * cx = D * ax - C * bx) (hs : D - C = A - B) (h1 : m ≤ ax) (h2 : m ≤ bx) (h3 : cx ≤ M) (h4 : dx ≤ M) : m ≤ M := by
  have := cross_core (A := A) (B := B) (C := C) (D := D) (M := -m) (m := -M) (ax := -ax) (bx := -bx) (cx := -cx) (dx := -dx) hA hB hC hD (by grind) hs (by omega) (by omega) (by omega) (by omega)
  omega
theorem cross_spans {A B C D ax bx cx dx : Int} (hAB : (0 < A ∧ B < 0) ∨ (A < 0 ∧ 0 < B)) (hCD : (0 < C ∧ D < 0) ∨ (C < 0 ∧ 0 < D)) (he : A * dx - B * cx = D * ax - C * bx) (hs : D - C = A - B) : spans ax bx cx dx := by
  unfold spans
  rcases hAB with ⟨hA, hB⟩ | ⟨hA, hB⟩
  · have hCD : C < 0 ∧ 0 < D := by omega
    have k1 := cross_core (M := max ax bx) (m := min cx dx) hA hB hCD.1 hCD.2 he hs (by omega) (by omega) (by omega) (by omega)
    have k2 := cross_core2 (m := min ax bx) (M := max cx dx) hA hB hCD.1 hCD.2 he hs (by omega) (by omega) (by omega) (by omega)
    omega
  · have hCD : 0 < C ∧ D < 0 := by omega
    have k1 := cross_core (A := -A) (B := -B) (C := -C) (D := -D) (ax := ax) (bx := bx) (cx := cx) (dx := dx) (M := max ax bx) (m := min cx dx) (by omega) (by omega) (by omega) (by omega) (by grind) (by omega) (by omega) (by omega) (by omega) (by omega)
    have k2 := cross_core2 (A := -A) (B := -B) (C := -C) (D := -D) (ax := ax) (bx := bx) (cx := cx) (dx := dx) (m := min ax bx) (M := max cx dx) (by omega) (by omega) (by omega) (by omega) (by grind) (by omega) (by omega) (by omega) (by omega) (by omega)
    omega
theorem area_x (a b c d : Pt) : area a b c * d.x - area a b d * c.x = area c d b * a.x - area c d a * b.x := by unfold area; grind
theorem area_y (a b c d : Pt) : area a b c * d.y - area a b d * c.y = area c d b * a.y - area c d a * b.y := by unfold area; grind
theorem area_s (a b c d : Pt) : area c d b - area c d a = area a b c - area a b d := by unfold area; grind
/-- where edges cross, or lie one over the other, their boxes have a point in common. -/
theorem meet_spans {a b c d : Pt} (h : 2 ≤ meetK a b c d) : spans a.x b.x c.x d.x ∧ spans a.y b.y c.y d.y := by
  unfold meetK at h
  split at h
  · rename_i hm
    have hv : validP a = true ∧ validP b = true ∧ validP c = true ∧ validP d = true := by
      simp only [mayP, Bool.and_eq_true] at hm
      exact ⟨hm.1.1.1, hm.1.1.2, hm.2.1.1, hm.2.1.2⟩
    split at h
    · split at h
      · rename_i hc
        simp only [crossP, Bool.and_eq_true, decide_eq_true_eq] at hc
        unfold turnP at hc
        rw [hv.1, hv.2.1, hv.2.2.1, hv.2.2.2] at hc
        simp only [Bool.and_self, if_true] at hc
        have k1 := sgn_mul hc.1
        have k2 := sgn_mul hc.2
        exact ⟨cross_spans k1 k2 (area_x a b c d) (area_s a b c d), cross_spans k1 k2 (area_y a b c d) (area_s a b c d)⟩
      · omega
    · omega
    · rename_i h0 h1
      have : ∃ e, e ∈ endsP a b c d := by
        cases he : endsP a b c d with
        | nil => rw [he] at h0; exact absurd rfl h0
        | cons e l => exact ⟨e, by simp⟩
      obtain ⟨e, he⟩ := this
      unfold endsP at he
      rw [if_pos hm] at he
      have key : ∀ e p q r s : Pt, e ∈ [p, q].filter (fun z => onP z r s) → (betw e.x p.x q.x = true ∧ betw e.x r.x s.x = true) ∧ (betw e.y p.y q.y = true ∧ betw e.y r.y s.y = true) := by
        intro e p q r s he
        obtain ⟨h1, h2⟩ := List.mem_filter.1 he
        simp only [onP, Bool.and_eq_true] at h2
        rcases List.mem_cons.1 h1 with rfl | h1
        · exact ⟨⟨betw_left _ _, h2.1.1.2⟩, betw_left _ _, h2.1.2⟩
        · obtain rfl := List.mem_singleton.1 h1
          exact ⟨⟨betw_right _ _, h2.1.1.2⟩, betw_right _ _, h2.1.2⟩
      rcases gatherP_mem _ _ _ he with he | he
      · rcases gatherP_mem _ _ _ he with he | he
        · cases he
        · have := key e a b c d he
          exact ⟨spans_of this.1.1 this.1.2, spans_of this.2.1 this.2.2⟩
      · have := key e c d a b he
        exact ⟨spans_of this.1.2 this.1.1, spans_of this.2.2 this.2.1⟩
  · omega
end Go.Geo

/- plain law of boxes, of rings that meet, of regions: no program in sight -/
namespace Go.Geo
/-- the box of points: the lowest, and one more than the highest. -/
def boundsP (l : List Pt) : Option (Pt × Pt) := match l with
  | [] => none
  | a :: m => if (a :: m).all validP then some (⟨m.foldl (fun z v => min z v.x) a.x, m.foldl (fun z v => min z v.y) a.y⟩, ⟨m.foldl (fun z v => max z v.x) a.x + 1, m.foldl (fun z v => max z v.y) a.y + 1⟩) else none
theorem foldl_min_le (f : Pt → Int) : ∀ (m : List Pt) (z : Int), m.foldl (fun z v => min z (f v)) z ≤ z ∧ ∀ v ∈ m, m.foldl (fun z v => min z (f v)) z ≤ f v
  | [], z => ⟨Int.le_refl _, fun v hv => by cases hv⟩
  | a :: m, z => by
    obtain ⟨h1, h2⟩ := foldl_min_le f m (min z (f a))
    refine ⟨by simp only [List.foldl_cons]; omega, fun v hv => ?_⟩
    simp only [List.foldl_cons]
    rcases List.mem_cons.1 hv with rfl | hv
    · omega
    · exact h2 v hv
theorem foldl_max_ge (f : Pt → Int) : ∀ (m : List Pt) (z : Int), z ≤ m.foldl (fun z v => max z (f v)) z ∧ ∀ v ∈ m, f v ≤ m.foldl (fun z v => max z (f v)) z
  | [], z => ⟨Int.le_refl _, fun v hv => by cases hv⟩
  | a :: m, z => by
    obtain ⟨h1, h2⟩ := foldl_max_ge f m (max z (f a))
    refine ⟨by simp only [List.foldl_cons]; omega, fun v hv => ?_⟩
    simp only [List.foldl_cons]
    rcases List.mem_cons.1 hv with rfl | hv
    · omega
    · exact h2 v hv
theorem bounds_in {l : List Pt} {lo hi : Pt} (h : boundsP l = some (lo, hi)) : (∀ v ∈ l, validP v = true) ∧ ∀ v ∈ l, lo.x ≤ v.x ∧ v.x < hi.x ∧ lo.y ≤ v.y ∧ v.y < hi.y := by
  cases l with
  | nil => cases h
  | cons a m =>
    unfold boundsP at h
    dsimp only at h
    split at h
    · rename_i hall
      injection h with h
      injection h with h1 h2
      subst h1
      subst h2
      refine ⟨fun v hv => List.all_eq_true.1 hall v hv, fun v hv => ?_⟩
      have k1 := foldl_min_le (fun v => v.x) m a.x
      have k2 := foldl_min_le (fun v => v.y) m a.y
      have k3 := foldl_max_ge (fun v => v.x) m a.x
      have k4 := foldl_max_ge (fun v => v.y) m a.y
      dsimp only
      rcases List.mem_cons.1 hv with rfl | hv
      · omega
      · have := k1.2 v hv
        have := k2.2 v hv
        have := k3.2 v hv
        have := k4.2 v hv
        omega
    · cases h
/-- a point in a box: the low sides are in it. -/
def boxIn (p lo hi : Pt) : Bool := decide (lo.x ≤ p.x) && decide (p.x < hi.x) && decide (lo.y ≤ p.y) && decide (p.y < hi.y)
def boxMeet (lo hi lo2 hi2 : Pt) : Bool := decide (max lo.x lo2.x < min hi.x hi2.x) && decide (max lo.y lo2.y < min hi.y hi2.y)
/-- a region's points: in an odd number of rings. -/
def inR (p : Pt) : List (List Pt) → Bool
  | [] => false
  | r :: g => inP p r ^^ inR p g
theorem inR_append (p : Pt) : ∀ (g : List (List Pt)) (h : List (List Pt)), inR p (g ++ h) = (inR p g ^^ inR p h)
  | [], h => by simp [inR]
  | r :: g, h => by
    rw [List.cons_append, inR, inR, inR_append p g h]
    cases inP p r <;> simp
theorem inR_some {p : Pt} : ∀ {g : List (List Pt)}, inR p g = true → ∃ r ∈ g, inP p r = true
  | [], h => by cases h
  | r :: g, h => by
    by_cases q : inP p r = true
    · exact ⟨r, by simp, q⟩
    · have q : inP p r = false := by simpa using q
      rw [inR, q] at h
      obtain ⟨s, hs, h⟩ := inR_some (g := g) (by simpa using h)
      exact ⟨s, List.mem_cons_of_mem _ hs, h⟩
/-- what is in a region is in its box. -/
theorem inR_box {p lo hi : Pt} {g : List (List Pt)} (hb : boundsP g.flatten = some (lo, hi)) (h : inR p g = true) : boxIn p lo hi = true := by
  obtain ⟨r, hr, h⟩ := inR_some h
  obtain ⟨k1, k2⟩ := bounds_in hb
  have hm : ∀ v ∈ r, v ∈ g.flatten := fun v hv => List.mem_flatten.2 ⟨r, hr, hv⟩
  have := in_box (lx := lo.x) (ly := lo.y) (hx := hi.x - 1) (hy := hi.y - 1) h (fun v hv => k1 v (hm v hv)) (fun v hv => by have := k2 v (hm v hv); omega)
  simp only [boxIn, Bool.and_eq_true, decide_eq_true_eq]
  omega
/-- the box of an edge. -/
theorem bounds_two (p q : Pt) (h : validP p = true ∧ validP q = true) : boundsP [p, q] = some (⟨min p.x q.x, min p.y q.y⟩, ⟨max p.x q.x + 1, max p.y q.y + 1⟩) := by
  simp [boundsP, h.1, h.2]
/-- where edges meet so that rings may not, the one edge's box meets the other ring's. -/
theorem meet_boxes {p q c d lo hi lo2 hi2 : Pt} {l : List Pt} (h : 2 ≤ meetK p q c d) (h1 : boundsP [p, q] = some (lo, hi)) (h2 : boundsP l = some (lo2, hi2)) (hc : c ∈ l) (hd : d ∈ l) : boxMeet lo hi lo2 hi2 = true := by
  have hs := meet_spans h
  obtain ⟨k1, k2⟩ := bounds_in h1
  obtain ⟨_, k3⟩ := bounds_in h2
  have hp := k2 p (by simp)
  have hq := k2 q (by simp)
  have hc := k3 c hc
  have hd := k3 d hd
  unfold spans at hs
  simp only [boxMeet, Bool.and_eq_true, decide_eq_true_eq]
  omega
end Go.Geo

/- plain law: what is wrong with a ring, with a region: no program in sight -/
namespace Go.Geo
def p0 : Pt := ⟨0, 0⟩
/-- the first number below n of which f is so. -/
def firstP (n : Nat) (f : Nat → Bool) : Option Nat := (List.range n).find? f
theorem firstP_none {n : Nat} {f : Nat → Bool} (h : ∀ i, i < n → f i = false) : firstP n f = none := by
  unfold firstP
  rw [List.find?_eq_none]
  intro i hi
  rw [h i (List.mem_range.1 hi)]
  simp
theorem firstP_some {n : Nat} {f : Nat → Bool} {k : Nat} (hk : k < n) (h1 : f k = true) (h : ∀ i, i < k → f i = false) : firstP n f = some k := by
  unfold firstP
  rw [List.find?_eq_some_iff_getElem]
  refine ⟨h1, k, by simpa using hk, by simp, fun j hj => ?_⟩
  rw [List.getElem_range, h j hj]
  rfl
theorem firstP_eq_none {n : Nat} {f : Nat → Bool} (h : firstP n f = none) : ∀ i, i < n → f i = false := by
  intro i hi
  unfold firstP at h
  rw [List.find?_eq_none] at h
  simpa using h i (List.mem_range.2 hi)
theorem firstP_eq_some {n : Nat} {f : Nat → Bool} {k : Nat} (h : firstP n f = some k) : k < n ∧ f k = true ∧ ∀ i, i < k → f i = false := by
  unfold firstP at h
  rw [List.find?_eq_some_iff_getElem] at h
  obtain ⟨h1, i, hi, rfl, h2⟩ := h
  simp only [List.length_range] at hi
  simp only [List.getElem_range] at h1 h2 ⊢
  exact ⟨hi, h1, fun j hj => by simpa using h2 j hj⟩
/-- the i-th point, round the list. -/
def atP (l : List Pt) (i : Nat) : Pt := l.getD (i % l.length) p0
theorem atP_lt {l : List Pt} {i : Nat} (h : i < l.length) : atP l i = l.getD i p0 := by unfold atP; rw [Nat.mod_eq_of_lt h]
def twiceP (l : List Pt) (i : Nat) : Bool := decide (l.getD i p0 ∈ l.take i)
def backP (l : List Pt) (i : Nat) : Bool := decide (turnP (atP l (i + l.length - 1)) (l.getD i p0) (atP l (i + 1)) = 0) && !onP (l.getD i p0) (atP l (i + l.length - 1)) (atP l (i + 1))
/-- are two edges ones that are asked, and do they meet? -/
def meetsAt (l : List Pt) (i k : Nat) : Bool := !(decide (k < i + 2) || (decide (i = 0) && decide (k + 1 = l.length))) && decide (meetK (l.getD i p0) (atP l (i + 1)) (l.getD k p0) (atP l (k + 1)) ≠ 0)
def meetsP (l : List Pt) (i : Nat) : Bool := (List.range l.length).any (meetsAt l i)
def ringCheckP (l : List Pt) : Int × Int :=
  if 200 < l.length then (3, 0) else if l.length < 3 then (190, 0) else
  match firstP l.length (fun i => !validP (l.getD i p0)) with
  | some i => (2, i)
  | none => match firstP l.length (twiceP l) with
    | some i => (191, i)
    | none => match firstP l.length (backP l) with
      | some i => (192, i)
      | none => match firstP l.length (meetsP l) with
        | some i => (193, i)
        | none => (0, 0)
/-- do two rings meet in more than points? -/
def ringsMeet (a b : List Pt) : Bool := (List.range a.length).any fun i => (List.range b.length).any fun k => decide (2 ≤ meetK (a.getD i p0) (atP a (i + 1)) (b.getD k p0) (atP b (k + 1)))
def sumLen (g : List (List Pt)) : Nat := (g.map List.length).sum
def regionCheckP (g : List (List Pt)) : Int × Int :=
  if 20 < g.length then (3, 0) else if g.length = 0 then (2, 0) else if 400 < sumLen g then (211, 0) else
  match firstP g.length (fun i => decide ((ringCheckP (g.getD i [])).1 ≠ 0)) with
  | some i => ((ringCheckP (g.getD i [])).1, i)
  | none => match firstP g.length (fun i => (g.drop (i + 1)).any (fun s => ringsMeet (g.getD i []) s)) with
    | some i => (210, i)
    | none => (0, 0)
/-- a ring that may be: its points may be. -/
theorem ring_ok {l : List Pt} (h : (ringCheckP l).1 = 0) : 3 ≤ l.length ∧ l.length ≤ 200 ∧ ∀ v ∈ l, validP v = true := by
  unfold ringCheckP at h
  split at h
  · cases h
  · split at h
    · cases h
    · split at h
      · cases h
      · rename_i hn
        refine ⟨by omega, by omega, fun v hv => ?_⟩
        obtain ⟨i, hi, rfl⟩ := List.mem_iff_getElem.1 hv
        have := firstP_eq_none hn i hi
        rw [List.getD_eq_getElem?_getD, List.getElem?_eq_getElem hi] at this
        simpa using this
theorem region_ok {g : List (List Pt)} (h : (regionCheckP g).1 = 0) : 0 < g.length ∧ g.length ≤ 20 ∧ sumLen g ≤ 400 ∧ ∀ r ∈ g, (ringCheckP r).1 = 0 := by
  unfold regionCheckP at h
  split at h
  · cases h
  · split at h
    · cases h
    · split at h
      · cases h
      · split at h
        · rename_i i hi
          exact absurd h (by have := (firstP_eq_some hi).2.1; simpa using this)
        · rename_i hn
          refine ⟨by omega, by omega, by omega, fun r hr => ?_⟩
          obtain ⟨i, hi, rfl⟩ := List.mem_iff_getElem.1 hr
          have := firstP_eq_none hn i hi
          rw [List.getD_eq_getElem?_getD, List.getElem?_eq_getElem hi] at this
          simpa using this
/-- a region that may be has a box. -/
theorem region_box {g : List (List Pt)} (h : (regionCheckP g).1 = 0) : ∃ lo hi, boundsP g.flatten = some (lo, hi) := by
  obtain ⟨h0, _, _, hr⟩ := region_ok h
  have hall : ∀ v ∈ g.flatten, validP v = true := fun v hv => by
    obtain ⟨r, hrm, hv⟩ := List.mem_flatten.1 hv
    exact (ring_ok (hr r hrm)).2.2 v hv
  cases hf : g.flatten with
  | nil =>
    exfalso
    have hr0 := hr g[0] (List.getElem_mem h0)
    have := (ring_ok hr0).1
    have : g[0] = [] := List.eq_nil_of_subset_nil (fun x hx => by rw [← hf]; exact List.mem_flatten.2 ⟨_, List.getElem_mem h0, hx⟩)
    rw [this] at hr0
    have := (ring_ok hr0).1
    simp at this
  | cons a m =>
    rw [hf] at hall
    unfold boundsP
    simp only
    rw [if_pos (List.all_eq_true.2 hall)]
    exact ⟨_, _, rfl⟩
end Go.Geo

/- plain law: counts, rings turned about, normal forms: no program in sight -/
namespace Go.Geo
/-- of how many numbers below n f is so. -/
def cntB : Nat → (Nat → Bool) → Nat
  | 0, _ => 0
  | n + 1, f => cntB n f + (if f n then 1 else 0)
theorem cntB_front : ∀ (n : Nat) (f : Nat → Bool), cntB (n + 1) f = (if f 0 then 1 else 0) + cntB n (fun i => f (i + 1))
  | 0, f => by simp [cntB]
  | n + 1, f => by
    rw [cntB, cntB_front n f, cntB]
    omega
theorem cntB_congr {f g : Nat → Bool} : ∀ (n : Nat), (∀ i, i < n → f i = g i) → cntB n f = cntB n g
  | 0, _ => rfl
  | n + 1, h => by rw [cntB, cntB, cntB_congr n (fun i hi => h i (by omega)), h n (by omega)]
theorem cntB_le (f : Nat → Bool) : ∀ n, cntB n f ≤ n
  | 0 => Nat.le_refl _
  | n + 1 => by have := cntB_le f n; rw [cntB]; split <;> omega
def oddB (n : Nat) : Bool := decide (n % 2 = 1)
theorem oddB_add (m n : Nat) : oddB (m + n) = (oddB m ^^ oddB n) := by
  unfold oddB
  have h1 := Nat.mod_two_eq_zero_or_one m
  have h2 := Nat.mod_two_eq_zero_or_one n
  rcases h1 with h1 | h1 <;> rcases h2 with h2 | h2 <;> simp [h1, h2, Nat.add_mod]
theorem oddB_ite (b : Bool) : oddB (if b then 1 else 0) = b := by cases b <;> rfl
theorem xorP_cnt {f : Pt → Pt → Bool} : ∀ (l : List Pt) (a : Pt), xorP f a l = oddB (cntB l.length (fun i => f ((a :: l).getD i p0) ((a :: l).getD (i + 1) p0)))
  | [], a => rfl
  | b :: l, a => by
    rw [xorP, xorP_cnt l b, List.length_cons, cntB_front, oddB_add, oddB_ite]
    rfl
theorem lastP_getD : ∀ (l : List Pt) (a : Pt), lastP a l = (a :: l).getD l.length p0
  | [], a => rfl
  | b :: l, a => by rw [lastP_cons, lastP_getD l b]; rfl
/-- how many edges count. -/
def countK (p : Pt) (l : List Pt) : Nat := cntB l.length (fun i => countsP p (l.getD i p0) (atP l (i + 1)))
theorem inP_count (p : Pt) (l : List Pt) : inP p l = oddB (countK p l) := by
  cases l with
  | nil => rfl
  | cons a m =>
    show xorP (countsP p) (lastP a m) (a :: m) = _
    rw [xorP, xorP_cnt]
    unfold countK
    rw [List.length_cons, cntB, oddB_add, oddB_ite]
    have e1 : atP (a :: m) (m.length + 1) = a := by unfold atP; simp
    rw [e1, ← lastP_getD, Bool.xor_comm]
    congr 1
    congr 1
    refine cntB_congr _ fun i hi => ?_
    rw [atP_lt (by simp; omega)]
/-- one list is the other, turned about. -/
def IsRot {α : Type} (a b : List α) : Prop := ∃ x y, a = x ++ y ∧ b = y ++ x
theorem IsRot.refl {α : Type} (a : List α) : IsRot a a := ⟨a, [], by simp, by simp⟩
theorem IsRot.symm {α : Type} {a b : List α} (h : IsRot a b) : IsRot b a := by obtain ⟨x, y, h1, h2⟩ := h; exact ⟨y, x, h2, h1⟩
theorem IsRot.trans {α : Type} {a b c : List α} (h : IsRot a b) (k : IsRot b c) : IsRot a c := by
  obtain ⟨x, y, rfl, rfl⟩ := h
  obtain ⟨u, v, h1, rfl⟩ := k
  rcases List.append_eq_append_iff.1 h1 with ⟨z, rfl, rfl⟩ | ⟨z, rfl, rfl⟩
  · exact ⟨z, v ++ y, by simp_all, by simp_all⟩
  · exact ⟨x ++ u, z, by simp, by simp⟩
theorem IsRot.reverse {α : Type} {a b : List α} (h : IsRot a b) : IsRot a.reverse b.reverse := by
  obtain ⟨x, y, rfl, rfl⟩ := h
  exact ⟨y.reverse, x.reverse, by simp, by simp⟩
theorem IsRot.perm {α : Type} {a b : List α} (h : IsRot a b) : a.Perm b := by obtain ⟨x, y, rfl, rfl⟩ := h; exact List.perm_append_comm
theorem IsRot.head {α : Type} {v : α} {a b : List α} (h : IsRot (v :: a) (v :: b)) (hn : (v :: a).Nodup) : a = b := by
  obtain ⟨x, y, h1, h2⟩ := h
  cases x with
  | nil => simp at h1 h2; rw [← h1] at h2; exact (List.cons.inj h2).2.symm
  | cons c x =>
    cases y with
    | nil => simp at h1 h2; rw [h1.2, h2.2]
    | cons d y =>
      exfalso
      simp only [List.cons_append, List.cons.injEq] at h1 h2
      obtain ⟨rfl, rfl⟩ := h1
      obtain ⟨rfl, _⟩ := h2
      simp at hn
/-- turned about from a place on. -/
def rotP (l : List Pt) (i : Nat) : List Pt := l.drop i ++ l.take i
theorem rotP_rot (l : List Pt) (i : Nat) : IsRot (rotP l i) l := ⟨_, _, rfl, (List.take_append_drop i l).symm⟩
/-- the order of points: by the height, then across. -/
def lessP (a b : Pt) : Prop := a.y < b.y ∨ (a.y = b.y ∧ a.x < b.x)
instance (a b : Pt) : Decidable (lessP a b) := by unfold lessP; infer_instance
theorem lessP_trans {a b c : Pt} (h : lessP a b) (k : lessP b c) : lessP a c := by unfold lessP at *; omega
theorem lessP_irrefl (a : Pt) : ¬ lessP a a := by unfold lessP; omega
theorem Pt.ext' {a b : Pt} (h1 : a.x = b.x) (h2 : a.y = b.y) : a = b := by cases a; cases b; simp_all
theorem lessP_total (a b : Pt) : lessP a b ∨ a = b ∨ lessP b a := by
  by_cases h1 : a.x = b.x
  · by_cases h2 : a.y = b.y
    · exact .inr (.inl (Pt.ext' h1 h2))
    · unfold lessP; omega
  · unfold lessP; omega
/-- the place of the least point: of the first i. -/
def leastK (l : List Pt) : Nat → Nat
  | 0 => 0
  | i + 1 => if lessP (l.getD i p0) (l.getD (leastK l i) p0) then i else leastK l i
theorem leastK_spec (l : List Pt) : ∀ i, (0 < i → leastK l i < i) ∧ ∀ j, j < i → ¬ lessP (l.getD j p0) (l.getD (leastK l i) p0)
  | 0 => ⟨fun h => absurd h (by omega), fun j h => absurd h (by omega)⟩
  | i + 1 => by
    obtain ⟨h1, h2⟩ := leastK_spec l i
    rw [leastK]
    split
    · rename_i h
      refine ⟨fun _ => by omega, fun j hj hl => ?_⟩
      by_cases hji : j < i
      · exact h2 j hji (lessP_trans hl h)
      · obtain rfl : j = i := by omega
        exact lessP_irrefl _ hl
    · rename_i h
      refine ⟨fun _ => ?_, fun j hj hl => ?_⟩
      · by_cases hi : 0 < i
        · have := h1 hi; omega
        · obtain rfl : i = 0 := by omega
          rw [leastK]; omega
      · by_cases hji : j < i
        · exact h2 j hji hl
        · obtain rfl : j = i := by omega
          exact h hl
def leastP (l : List Pt) : Nat := leastK l l.length
theorem leastP_lt {l : List Pt} (h : 0 < l.length) : leastP l < l.length := (leastK_spec l l.length).1 h
/-- turned about, its least point ahead. -/
def leadP (l : List Pt) : List Pt := rotP l (leastP l)
theorem leadP_rot (l : List Pt) : IsRot (leadP l) l := rotP_rot _ _
theorem leadP_cons {l : List Pt} (h : 0 < l.length) : ∃ m, leadP l = l.getD (leastP l) p0 :: m := by
  unfold leadP rotP
  rw [List.drop_eq_getElem_cons (leastP_lt h)]
  refine ⟨List.drop (leastP l + 1) l ++ List.take (leastP l) l, ?_⟩
  rw [List.getD_eq_getElem?_getD, List.getElem?_eq_getElem (leastP_lt h)]
  rfl
theorem least_min {l : List Pt} {v : Pt} (h : v ∈ l) : ¬ lessP v (l.getD (leastP l) p0) := by
  obtain ⟨i, hi, rfl⟩ := List.mem_iff_getElem.1 h
  have := (leastK_spec l l.length).2 i hi
  rwa [List.getD_eq_getElem?_getD, List.getElem?_eq_getElem hi] at this
theorem least_mem {l : List Pt} (h : 0 < l.length) : l.getD (leastP l) p0 ∈ l := by
  rw [List.getD_eq_getElem?_getD, List.getElem?_eq_getElem (leastP_lt h)]
  exact List.getElem_mem _
/-- the same points have the same least one. -/
theorem least_same {a b : List Pt} (h : a.Perm b) (h0 : 0 < a.length) : a.getD (leastP a) p0 = b.getD (leastP b) p0 := by
  have hb : 0 < b.length := by rw [← h.length_eq]; exact h0
  have h1 := least_min (h.symm.mem_iff.1 (least_mem hb))
  have h2 := least_min (h.mem_iff.1 (least_mem h0))
  rcases lessP_total (a.getD (leastP a) p0) (b.getD (leastP b) p0) with h | h | h
  · exact absurd h h2
  · exact h
  · exact absurd h h1
theorem lead_same {a b : List Pt} (h : IsRot a b) (hn : a.Nodup) : leadP a = leadP b := by
  by_cases h0 : 0 < a.length
  · obtain ⟨m, hm⟩ := leadP_cons h0
    obtain ⟨m', hm'⟩ := leadP_cons (l := b) (by rw [← h.perm.length_eq]; exact h0)
    have hr := ((leadP_rot a).trans h).trans (leadP_rot b).symm
    rw [hm, hm', ← least_same h.perm h0] at hr
    have := hr.head (by rw [← hm]; exact (leadP_rot a).perm.nodup_iff.2 hn)
    rw [hm, hm', ← least_same h.perm h0, this]
  · have ha : a = [] := List.eq_nil_of_length_eq_zero (by omega)
    subst ha
    have : b = [] := List.eq_nil_of_length_eq_zero (by rw [← h.perm.length_eq]; rfl)
    subst this
    rfl
/-- the other way round, the first point ahead. -/
def flipP : List Pt → List Pt
  | [] => []
  | v :: m => v :: m.reverse
theorem flipP_flip (l : List Pt) : flipP (flipP l) = l := by cases l <;> simp [flipP]
theorem flipP_rot (l : List Pt) : IsRot (flipP l) l.reverse := by
  cases l with
  | nil => exact IsRot.refl _
  | cons v m => exact ⟨[v], m.reverse, by simp [flipP], by simp⟩
theorem lead_reverse {l : List Pt} (hn : l.Nodup) : leadP l.reverse = flipP (leadP l) := by
  by_cases h0 : 0 < l.length
  · obtain ⟨m, hm⟩ := leadP_cons h0
    obtain ⟨m', hm'⟩ := leadP_cons (l := l.reverse) (by simpa using h0)
    have e := least_same (List.reverse_perm l) (by simpa using h0)
    have hr : IsRot (leadP l.reverse) (flipP (leadP l)) := ((leadP_rot _).trans (leadP_rot l).symm.reverse).trans (flipP_rot _).symm
    rw [hm, hm', e] at hr ⊢
    have := IsRot.head (a := m') (b := m.reverse) hr (by
      have : (leadP l.reverse).Nodup := (leadP_rot _).perm.nodup_iff.2 ((List.reverse_perm l).nodup_iff.2 hn)
      rw [hm', e] at this
      exact this)
    rw [this]
    rfl
  · have : l = [] := List.eq_nil_of_length_eq_zero (by omega)
    subst this
    rfl
/-- the way round of a list that its least point leads. -/
def wayP : List Pt → Int
  | [] => 0
  | v :: m => turnP (lastP v m) v (m.headD v)
theorem turnP_swap (a v b : Pt) : turnP b v a = - turnP a v b := by
  unfold turnP
  have e : area b v a = - area a v b := by unfold area; grind
  rw [e]
  by_cases ha : validP a <;> by_cases hb : validP b <;> by_cases hv : validP v <;> simp [ha, hb, hv]
  unfold sgn
  split <;> split <;> (try split) <;> (try split) <;> omega
theorem wayP_flip (l : List Pt) : wayP (flipP l) = - wayP l := by
  cases l with
  | nil => rfl
  | cons v m =>
    cases m with
    | nil =>
      show turnP v v v = - turnP v v v
      exact turnP_swap v v v
    | cons b m =>
      show turnP (lastP v (b :: m).reverse) v ((b :: m).reverse.headD v) = - turnP (lastP v (b :: m)) v b
      rw [← turnP_swap]
      have e1 : lastP v (b :: m).reverse = b := by rw [List.reverse_cons, lastP_append]
      have e2 : (b :: m).reverse.headD v = lastP v (b :: m) := by
        unfold lastP
        rw [List.headD_eq_head?_getD, List.head?_reverse, List.getLastD_eq_getLast?]
      rw [e1, e2]
/-- which way round a ring goes. -/
def signP (l : List Pt) : Int := if (ringCheckP l).1 ≠ 0 then 0 else turnP (atP l (leastP l + l.length - 1)) (l.getD (leastP l) p0) (atP l (leastP l + 1))
theorem sign_way {l : List Pt} (h : (ringCheckP l).1 = 0) : signP l = wayP (leadP l) := by
  have h3 := (ring_ok h).1
  unfold signP
  rw [if_neg (by omega)]
  have gt : ∀ k, k < l.length → leadP l = rotP l k → turnP (atP l (k + l.length - 1)) (l.getD k p0) (atP l (k + 1)) = wayP (leadP l) := by
    intro k hk e
    rw [e]
    unfold rotP
    rw [List.drop_eq_getElem_cons hk]
    have e0 : l.getD k p0 = l[k] := by rw [List.getD_eq_getElem?_getD, List.getElem?_eq_getElem hk]; rfl
    rw [e0, List.cons_append]
    show _ = turnP (lastP l[k] (List.drop (k + 1) l ++ List.take k l)) l[k] ((List.drop (k + 1) l ++ List.take k l).headD l[k])
    have e1 : atP l (k + 1) = (List.drop (k + 1) l ++ List.take k l).headD l[k] := by
      rw [List.headD_eq_head?_getD, List.head?_eq_getElem?]
      unfold atP
      by_cases hk1 : k + 1 < l.length
      · rw [Nat.mod_eq_of_lt hk1, List.getElem?_append_left (by simp; omega), List.getElem?_drop, List.getD_eq_getElem?_getD, Nat.add_zero, List.getElem?_eq_getElem hk1]
        rfl
      · have : k + 1 = l.length := by omega
        rw [this, Nat.mod_self, List.drop_length, List.nil_append, List.getElem?_take, if_pos (by omega), List.getD_eq_getElem?_getD, List.getElem?_eq_getElem (by omega)]
        rfl
    have e2 : atP l (k + l.length - 1) = lastP l[k] (List.drop (k + 1) l ++ List.take k l) := by
      unfold lastP
      rw [List.getLastD_eq_getLast?, List.getLast?_eq_getElem?]
      have hlen : (List.drop (k + 1) l ++ List.take k l).length = l.length - 1 := by simp; omega
      rw [hlen]
      unfold atP
      by_cases hk0 : 0 < k
      · have : (k + l.length - 1) % l.length = k - 1 := by
          rw [show k + l.length - 1 = k - 1 + l.length by omega, Nat.add_mod_right, Nat.mod_eq_of_lt (by omega)]
        rw [this, List.getElem?_append_right (by simp; omega), List.length_drop, List.getElem?_take, if_pos (by omega), List.getD_eq_getElem?_getD]
        rw [show l.length - 1 - 1 - (l.length - (k + 1)) = k - 1 by omega, List.getElem?_eq_getElem (by omega)]
        rfl
      · obtain rfl : k = 0 := by omega
        have : (0 + l.length - 1) % l.length = l.length - 1 := Nat.mod_eq_of_lt (by omega) |>.trans (by omega)
        rw [this, List.getElem?_append_left (by simp; omega), List.getElem?_drop, List.getD_eq_getElem?_getD]
        rw [show 0 + 1 + (l.length - 1 - 1) = l.length - 1 by omega, List.getElem?_eq_getElem (by omega)]
        rfl
    rw [e1, e2]
  exact gt _ (leastP_lt (by omega)) rfl
end Go.Geo

/- plain law: when two rings, two regions are the same: no program in sight -/
namespace Go.Geo
theorem getD_lt {α : Type} {l : List α} {d : α} {i : Nat} (h : i < l.length) : l.getD i d = l[i] := by rw [List.getD_eq_getElem?_getD, List.getElem?_eq_getElem h]; rfl
/-- what a ring that may be is. -/
theorem ring_all {l : List Pt} (h : (ringCheckP l).1 = 0) : (∀ i, i < l.length → twiceP l i = false) ∧ (∀ i, i < l.length → backP l i = false) ∧ ∀ i, i < l.length → meetsP l i = false := by
  unfold ringCheckP at h
  split at h
  · cases h
  · split at h
    · cases h
    · split at h
      · cases h
      · split at h
        · cases h
        · rename_i h1
          split at h
          · cases h
          · rename_i h2
            split at h
            · cases h
            · rename_i h3
              exact ⟨firstP_eq_none h1, firstP_eq_none h2, firstP_eq_none h3⟩
theorem nodup_of_twice {l : List Pt} (h : ∀ i, i < l.length → twiceP l i = false) : l.Nodup := by
  unfold List.Nodup
  rw [List.pairwise_iff_getElem]
  intro i j hi hj hij e
  have := h j hj
  unfold twiceP at this
  rw [getD_lt hj] at this
  have hm : l[j] ∈ l.take j := by
    rw [← e, List.mem_iff_getElem]
    exact ⟨i, by simp; omega, by simp⟩
  simp [hm] at this
theorem ring_nodup {l : List Pt} (h : (ringCheckP l).1 = 0) : l.Nodup := nodup_of_twice (ring_all h).1
theorem atP_mem {l : List Pt} {i : Nat} (h : 0 < l.length) : atP l i ∈ l := by
  unfold atP
  rw [getD_lt (Nat.mod_lt _ h)]
  exact List.getElem_mem _
theorem least_off {p a b : Pt} (h : onP p a b = true) (ha : ¬ lessP a p) (hb : ¬ lessP b p) (na : a ≠ p) (nb : b ≠ p) : False := by
  unfold onP at h
  simp only [Bool.and_eq_true, decide_eq_true_eq, betw] at h
  obtain ⟨⟨⟨⟨⟨vp, va⟩, vb⟩, h1, h2⟩, h3, h4⟩, h5⟩ := h
  unfold turnP at h5
  rw [va, vb, vp] at h5
  simp only [Bool.and_self, if_true] at h5
  rw [sgn_zero] at h5
  unfold lessP at ha hb
  have e : area a b p = (p.y - a.y) * (b.x - p.x) + (b.y - p.y) * (a.x - p.x) := area_low a b p
  rw [e] at h5
  have key : ∀ a b : Pt, a.y = p.y → p.y < b.y → (p.y - a.y) * (b.x - p.x) + (b.y - p.y) * (a.x - p.x) = 0 → a.x = p.x := by
    intro a b e1 e2 h
    rw [e1, Int.sub_self, Int.zero_mul, Int.zero_add, Int.mul_eq_zero] at h
    omega
  rcases lessP_total a b with h | h | h
  · unfold lessP at h
    by_cases hab : a.y < b.y
    · have e1 : a.y = p.y := by omega
      exact na (Pt.ext' (key a b e1 (by omega) h5) e1)
    · have e1 : a.y = p.y := by omega
      have e2 : b.y = p.y := by omega
      exact na (Pt.ext' (by omega) e1)
  · subst h
    exact na (Pt.ext' (by omega) (by omega))
  · unfold lessP at h
    by_cases hab : b.y < a.y
    · have e1 : b.y = p.y := by omega
      exact nb (Pt.ext' (key b a e1 (by omega) (by rw [Int.add_comm] at h5; have e3 : (a.y - p.y) * (b.x - p.x) = -((p.y - a.y) * (b.x - p.x)) := by rw [← Int.neg_mul]; congr 1; omega
                                                   have e4 : (p.y - b.y) * (a.x - p.x) = -((b.y - p.y) * (a.x - p.x)) := by rw [← Int.neg_mul]; congr 1; omega
                                                   omega)) e1)
    · have e1 : a.y = p.y := by omega
      have e2 : b.y = p.y := by omega
      exact nb (Pt.ext' (by omega) e2)
theorem atP_ne {l : List Pt} {k j : Nat} (hn : l.Nodup) (hk : k < l.length) (hj : j % l.length ≠ k) : atP l j ≠ l.getD k p0 := by
  unfold atP
  have hjl : j % l.length < l.length := Nat.mod_lt _ (by omega)
  rw [getD_lt hjl, getD_lt hk]
  intro e
  exact hj ((List.getElem_inj hn).1 e)
theorem sign_ne {l : List Pt} (h : (ringCheckP l).1 = 0) : signP l ≠ 0 := by
  have h3 := (ring_ok h).1
  have hk := leastP_lt (l := l) (by omega)
  have hb := (ring_all h).2.1 _ hk
  unfold signP
  rw [if_neg (by omega)]
  intro e
  unfold backP at hb
  rw [e] at hb
  simp only [decide_true, Bool.true_and, Bool.not_eq_false'] at hb
  refine least_off hb (least_min (atP_mem (by omega))) (least_min (atP_mem (by omega))) (atP_ne (ring_nodup h) hk ?_) (atP_ne (ring_nodup h) hk ?_)
  · by_cases h0 : 0 < leastP l
    · rw [show leastP l + l.length - 1 = leastP l - 1 + l.length by omega, Nat.add_mod_right, Nat.mod_eq_of_lt (by omega)]; omega
    · rw [Nat.mod_eq_of_lt (by omega)]; omega
  · by_cases h0 : leastP l + 1 < l.length
    · rw [Nat.mod_eq_of_lt h0]; omega
    · rw [show leastP l + 1 = l.length by omega, Nat.mod_self]; omega
/-- the normal form of a ring that may be. -/
def normP (l : List Pt) : Option (List Pt) := if signP l = 0 then none else if signP l = -1 then some (leadP l.reverse) else some (leadP l)
/-- are rings the same, the one turned about, or back? -/
def sameP (a b : List Pt) : Bool := decide ((ringCheckP a).1 = 0) && decide ((ringCheckP b).1 = 0) && decide (a.length = b.length) && ((List.range b.length).any (fun i => decide (a = rotP b i)) || (List.range b.length).any (fun i => decide (a = rotP b.reverse i)))
theorem rot_any {a b : List Pt} (hb : 0 < b.length) : (List.range b.length).any (fun i => decide (a = rotP b i)) = true ↔ IsRot a b := by
  rw [List.any_eq_true]
  constructor
  · rintro ⟨i, _, h⟩
    rw [of_decide_eq_true h]
    exact rotP_rot b i
  · rintro ⟨x, y, rfl, rfl⟩
    by_cases hx : 0 < x.length
    · refine ⟨y.length, List.mem_range.2 (by simp; omega), ?_⟩
      simp [rotP]
    · have : x = [] := List.eq_nil_of_length_eq_zero (by omega)
      subst this
      refine ⟨0, List.mem_range.2 hb, ?_⟩
      simp [rotP]
theorem sign_cases {l : List Pt} (h : (ringCheckP l).1 = 0) : signP l = 1 ∨ signP l = -1 := by
  have := sign_ne h
  have h2 : signP l = -1 ∨ signP l = 0 ∨ signP l = 1 := by
    unfold signP
    rw [if_neg (by omega)]
    exact turnP_range _ _ _
  omega
theorem norm_eq {l : List Pt} (h : (ringCheckP l).1 = 0) : normP l = some (if signP l = -1 then flipP (leadP l) else leadP l) := by
  unfold normP
  rw [if_neg (sign_ne h), lead_reverse (ring_nodup h)]
  split <;> rfl
theorem lead_rot_iff {a b : List Pt} (ha : a.Nodup) : IsRot a b ↔ leadP a = leadP b :=
  ⟨fun h => lead_same h ha, fun h => ((leadP_rot a).symm.trans (by rw [h]; exact IsRot.refl _)).trans (leadP_rot b)⟩
theorem same_norm {a b : List Pt} (ha : (ringCheckP a).1 = 0) (hb : (ringCheckP b).1 = 0) : sameP a b = true ↔ normP a = normP b := by
  have na := ring_nodup ha
  have nb := ring_nodup hb
  have la := (ring_ok ha).1
  have lb := (ring_ok hb).1
  have hw := sign_way ha
  have hv := sign_way hb
  have key : (IsRot a b ∨ IsRot a b.reverse) ↔ normP a = normP b := by
    rw [norm_eq ha, norm_eq hb, Option.some.injEq, lead_rot_iff na, lead_rot_iff na, lead_reverse nb]
    have ca := sign_cases ha
    have cb := sign_cases hb
    rw [hw] at ca ⊢
    rw [hv] at cb ⊢
    generalize leadP a = x at *
    generalize leadP b = y at *
    have wf := wayP_flip y
    have wf2 := wayP_flip x
    constructor
    · rintro (h | h)
      · subst h; rfl
      · subst h
        rw [flipP_flip]
        rcases cb with cb | cb
        · rw [if_pos (by omega), if_neg (by omega)]
        · rw [if_neg (by omega), if_pos (by omega)]
    · intro h
      split at h <;> split at h
      · left
        have := congrArg flipP h
        rwa [flipP_flip, flipP_flip] at this
      · right
        rw [← h, flipP_flip]
      · right; exact h
      · left; exact h
  rw [← key]
  unfold sameP
  rw [ha, hb]
  simp only [decide_true, Bool.true_and, Bool.and_eq_true, decide_eq_true_eq, Bool.or_eq_true]
  rw [rot_any (by omega)]
  have : (List.range b.length).any (fun i => decide (a = rotP b.reverse i)) = true ↔ IsRot a b.reverse := by
    have := rot_any (a := a) (b := b.reverse) (by simp; omega)
    rwa [List.length_reverse] at this
  rw [this]
  constructor
  · exact fun h => h.2
  · intro h
    refine ⟨?_, h⟩
    rcases h with h | h
    · exact h.perm.length_eq
    · rw [h.perm.length_eq, List.length_reverse]
/-- those of a list that are not used. -/
def leftP {α : Type} : List Bool → List α → List α
  | false :: u, b :: l => b :: leftP u l
  | true :: u, _ :: l => leftP u l
  | _, _ => []
theorem leftP_set {α : Type} (d : α) : ∀ (u : List Bool) (l : List α) (k : Nat), u.length = l.length → k < l.length → u.getD k true = false → (leftP u l).Perm (l.getD k d :: leftP (u.set k true) l)
  | [], [], k, _, h, _ => by simp at h
  | c :: u, b :: l, 0, _, _, h => by
    have : c = false := by simpa using h
    subst this
    exact List.Perm.refl _
  | c :: u, b :: l, k + 1, hl, hk, h => by
    have ih := leftP_set d u l k (by simpa using hl) (by simpa using hk) (by simpa using h)
    cases c with
    | true => exact ih
    | false => exact (List.Perm.cons b ih).trans (List.Perm.swap _ _ _)
theorem leftP_mem {α : Type} {x : α} : ∀ (u : List Bool) (l : List α), x ∈ leftP u l → ∃ k, k < l.length ∧ u.getD k true = false ∧ l[k]? = some x
  | [], [], h => by simp [leftP] at h
  | [], _ :: _, h => by simp [leftP] at h
  | _ :: _, [], h => by
    rename_i c u
    cases c <;> simp [leftP] at h
  | c :: u, b :: l, h => by
    cases c with
    | true =>
      obtain ⟨k, h1, h2, h3⟩ := leftP_mem u l h
      exact ⟨k + 1, by simp; omega, by simpa using h2, by simpa using h3⟩
    | false =>
      rcases List.mem_cons.1 h with rfl | h
      · exact ⟨0, by simp, rfl, rfl⟩
      · obtain ⟨k, h1, h2, h3⟩ := leftP_mem u l h
        exact ⟨k + 1, by simp; omega, by simpa using h2, by simpa using h3⟩
theorem leftP_none {α : Type} : ∀ (l : List α), leftP (List.replicate l.length false) l = l
  | [] => rfl
  | b :: l => by
    show b :: leftP (List.replicate l.length false) l = b :: l
    rw [leftP_none l]
/-- each ring has one of the others that is the same, each for one: the first that serves. -/
def matchP (b : List (List Pt)) : List (List Pt) → List Bool → Bool
  | [], _ => true
  | x :: a, u => match firstP b.length (fun k => !u.getD k true && sameP x (b.getD k [])) with
    | none => false
    | some k => matchP b a (u.set k true)
theorem match_perm {b : List (List Pt)} (hb : ∀ r ∈ b, (ringCheckP r).1 = 0) : ∀ (a : List (List Pt)) (u : List Bool), (∀ r ∈ a, (ringCheckP r).1 = 0) → u.length = b.length → (leftP u b).length = a.length → (matchP b a u = true ↔ (a.map normP).Perm ((leftP u b).map normP))
  | [], u, _, _, hl => by
    have : leftP u b = [] := List.eq_nil_of_length_eq_zero hl
    rw [this]
    simp [matchP]
  | x :: a, u, ha, hu, hl => by
    have hx := ha x (by simp)
    unfold matchP
    split
    · rename_i hn
      constructor
      · intro h; cases h
      · intro h
        exfalso
        have : normP x ∈ (leftP u b).map normP := h.mem_iff.1 (by simp)
        obtain ⟨y, hy, e⟩ := List.mem_map.1 this
        obtain ⟨k, h1, h2, h3⟩ := leftP_mem u b hy
        have := firstP_eq_none hn k h1
        rw [h2, getD_lt h1] at this
        have hk : b[k] = y := by rw [List.getElem?_eq_getElem h1] at h3; exact Option.some.inj h3
        rw [hk, (same_norm hx (hb y (by rw [← hk]; exact List.getElem_mem _))).2 e.symm] at this
        cases this
    · rename_i k hk
      obtain ⟨h1, h2, _⟩ := firstP_eq_some hk
      simp only [Bool.and_eq_true, Bool.not_eq_true'] at h2
      have hp := leftP_set [] u b k hu h1 h2.1
      have hm : b.getD k [] ∈ b := by rw [getD_lt h1]; exact List.getElem_mem _
      have hs := (same_norm hx (hb _ hm)).1 h2.2
      have ih := match_perm hb a (u.set k true) (fun r hr => ha r (by simp [hr])) (by simpa using hu) (by have := hp.length_eq; simp at this hl; omega)
      rw [ih]
      have hp2 := hp.map normP
      rw [List.map_cons, ← hs] at hp2
      rw [List.map_cons]
      constructor
      · intro h; exact (List.Perm.cons _ h).trans hp2.symm
      · intro h; exact (h.trans hp2).cons_inv
end Go.Geo

/- plain law: rings in order; when two regions are the same: no program in sight -/
namespace Go.Geo
def cmpZ (a b : Int) : Int := if a < b then -1 else if b < a then 1 else 0
theorem cmpZ_zero {a b : Int} : cmpZ a b = 0 ↔ a = b := by unfold cmpZ; split <;> (try split) <;> omega
theorem cmpZ_lt {a b : Int} : cmpZ a b < 0 ↔ a < b := by unfold cmpZ; split <;> (try split) <;> omega
/-- point.Compare: by the height, then across. -/
def compP (a b : Pt) : Int := if cmpZ a.y b.y ≠ 0 then cmpZ a.y b.y else cmpZ a.x b.x
theorem compP_lt {a b : Pt} : compP a b < 0 ↔ lessP a b := by
  unfold compP lessP
  split
  · rename_i h
    rw [ne_eq, cmpZ_zero] at h
    rw [cmpZ_lt]; omega
  · rename_i h
    rw [ne_eq, Decidable.not_not, cmpZ_zero] at h
    rw [cmpZ_lt]; omega
theorem compP_zero {a b : Pt} : compP a b = 0 ↔ a = b := by
  unfold compP
  split
  · rename_i h
    rw [ne_eq, cmpZ_zero] at h
    rw [cmpZ_zero]
    exact ⟨fun e => absurd e h, fun e => by rw [e]⟩
  · rename_i h
    rw [ne_eq, Decidable.not_not, cmpZ_zero] at h
    rw [cmpZ_zero]
    exact ⟨fun e => Pt.ext' e h, fun e => by rw [e]⟩
/-- slices.CompareFunc: the first that differ say it; what is shorter is ahead. -/
def cmpL : List Pt → List Pt → Int
  | [], [] => 0
  | [], _ :: _ => -1
  | _ :: _, [] => 1
  | a :: l, b :: m => if compP a b ≠ 0 then compP a b else cmpL l m
theorem cmpL_zero : ∀ {l m : List Pt}, cmpL l m = 0 ↔ l = m
  | [], [] => by simp [cmpL]
  | [], _ :: _ => by simp [cmpL]
  | _ :: _, [] => by simp [cmpL]
  | a :: l, b :: m => by
    unfold cmpL
    split
    · rename_i h
      constructor
      · intro e; exact absurd e h
      · intro e; rw [(List.cons.inj e).1] at h; exact absurd (compP_zero.2 rfl) h
    · rename_i h
      rw [ne_eq, Decidable.not_not, compP_zero] at h
      rw [cmpL_zero, h]
      simp
/-- ahead of. -/
def lessL : List Pt → List Pt → Prop
  | _, [] => False
  | [], _ :: _ => True
  | a :: l, b :: m => lessP a b ∨ (a = b ∧ lessL l m)
theorem cmpL_lt : ∀ {l m : List Pt}, cmpL l m < 0 ↔ lessL l m
  | [], [] => by simp [cmpL, lessL]
  | [], _ :: _ => by simp [cmpL, lessL]
  | _ :: _, [] => by simp [cmpL, lessL]
  | a :: l, b :: m => by
    unfold cmpL lessL
    split
    · rename_i h
      rw [compP_lt]
      constructor
      · exact .inl
      · rintro (h2 | ⟨h2, _⟩)
        · exact h2
        · exact absurd (compP_zero.2 h2) h
    · rename_i h
      rw [ne_eq, Decidable.not_not, compP_zero] at h
      subst h
      rw [cmpL_lt]
      constructor
      · intro h; exact .inr ⟨rfl, h⟩
      · rintro (h2 | ⟨_, h2⟩)
        · exact absurd h2 (lessP_irrefl _)
        · exact h2
theorem lessL_irrefl : ∀ l : List Pt, ¬ lessL l l
  | [], h => h
  | a :: l, h => by
    rcases h with h | ⟨_, h⟩
    · exact lessP_irrefl _ h
    · exact lessL_irrefl l h
theorem lessL_trans : ∀ {a b c : List Pt}, lessL a b → lessL b c → lessL a c
  | _, [], _, h, _ => by simp [lessL] at h
  | _, _ :: _, [], _, h => by simp [lessL] at h
  | [], _ :: _, _ :: _, _, _ => trivial
  | x :: a, y :: b, z :: c, h, k => by
    rcases h with h | ⟨rfl, h⟩ <;> rcases k with k | ⟨rfl, k⟩
    · exact .inl (lessP_trans h k)
    · exact .inl h
    · exact .inl k
    · exact .inr ⟨rfl, lessL_trans h k⟩
theorem lessL_total : ∀ a b : List Pt, lessL a b ∨ a = b ∨ lessL b a
  | [], [] => .inr (.inl rfl)
  | [], _ :: _ => .inl trivial
  | _ :: _, [] => .inr (.inr trivial)
  | x :: a, y :: b => by
    rcases lessP_total x y with h | rfl | h
    · exact .inl (.inl h)
    · rcases lessL_total a b with h | rfl | h
      · exact .inl (.inr ⟨rfl, h⟩)
      · exact .inr (.inl rfl)
      · exact .inr (.inr (.inr ⟨rfl, h⟩))
    · exact .inr (.inr (.inl h))
/-- no later one is ahead. -/
def SortedR (x : List (List Pt)) : Prop := x.Pairwise (fun a b => ¬ lessL b a)
theorem sortedR_unique {x y : List (List Pt)} (hx : SortedR x) (hy : SortedR y) (h : x.Perm y) : x = y :=
  List.Perm.eq_of_pairwise (le := fun a b => ¬ lessL b a) (fun a b _ _ h1 h2 => by
    rcases lessL_total a b with h | h | h
    · exact absurd h h2
    · exact h
    · exact absurd h h1) hx hy h
/-- a ring's normal form; none: the empty one. -/
def normQ (r : List Pt) : List Pt := (normP r).getD []
theorem normQ_some {r : List Pt} (h : (ringCheckP r).1 = 0) : normP r = some (normQ r) := by unfold normQ; rw [norm_eq h]; rfl
theorem map_normQ : ∀ {a : List (List Pt)}, (∀ r ∈ a, (ringCheckP r).1 = 0) → a.map normP = (a.map normQ).map some
  | [], _ => rfl
  | r :: a, h => by
    rw [List.map_cons, List.map_cons, List.map_cons, ← normQ_some (h r (by simp)), map_normQ (fun r hr => h r (by simp [hr]))]
theorem perm_some {α : Type} {x y : List α} : (x.map some).Perm (y.map some) ↔ x.Perm y := by
  constructor
  · intro h
    have := h.filterMap id
    simpa [List.filterMap_map] using this
  · intro h; exact h.map _
/-- when two regions are the same, as the document says. -/
def regionSameP (a b : List (List Pt)) : Bool := decide ((regionCheckP a).1 = 0) && decide ((regionCheckP b).1 = 0) && decide (a.length = b.length) && matchP b a (List.replicate b.length false)
theorem regions_same {a b x y : List (List Pt)} (ha : (regionCheckP a).1 = 0) (hb : (regionCheckP b).1 = 0) (hx : x.Perm (a.map normQ)) (hy : y.Perm (b.map normQ)) (sx : SortedR x) (sy : SortedR y) : decide (x = y) = regionSameP a b := by
  have ra := (region_ok ha).2.2.2
  have rb := (region_ok hb).2.2.2
  unfold regionSameP
  rw [ha, hb]
  simp only [decide_true, Bool.true_and]
  by_cases hl : a.length = b.length
  · rw [decide_eq_true hl, Bool.true_and]
    have hm := match_perm rb a (List.replicate b.length false) ra (by simp) (by rw [leftP_none]; exact hl.symm)
    rw [leftP_none, map_normQ ra, map_normQ rb, perm_some] at hm
    cases hq : matchP b a (List.replicate b.length false) with
    | true =>
      have := hm.1 hq
      exact decide_eq_true (sortedR_unique sx sy (hx.trans (this.trans hy.symm)))
    | false =>
      refine decide_eq_false fun e => ?_
      subst e
      have := hm.2 (hx.symm.trans hy)
      rw [hq] at this
      cases this
  · rw [decide_eq_false hl, Bool.false_and]
    refine decide_eq_false fun e => ?_
    subst e
    have := (hx.symm.trans hy).length_eq
    simp at this
    exact hl this
end Go.Geo

/- plain law: the sign of a difference of two products: no program in sight -/
namespace Go.Geo
theorem sgn_cmp (n : Int) : cmpZ n 0 = sgn n := by unfold cmpZ sgn; split <;> (try split) <;> (try split) <;> omega
theorem mul_sgn (a b : Int) : ∃ P : Nat, P = a.natAbs * b.natAbs ∧ a * b = sgn a * sgn b * (P : Int) ∧ ((sgn a * sgn b = 1 ∧ 0 < P) ∨ (sgn a * sgn b = -1 ∧ 0 < P) ∨ (sgn a * sgn b = 0 ∧ P = 0)) := by
  refine ⟨_, rfl, ?_, ?_⟩
  · unfold sgn
    rw [Int.natCast_mul]
    split
    · rename_i h1
      have e1 : (a.natAbs : Int) = - a := by omega
      split
      · have e2 : (b.natAbs : Int) = - b := by omega
        rw [e1, e2]; grind
      · split
        · rename_i h2; subst h2; simp
        · have e2 : (b.natAbs : Int) = b := by omega
          rw [e1, e2]; grind
    · split
      · rename_i h2; subst h2; simp
      · have e1 : (a.natAbs : Int) = a := by omega
        split
        · have e2 : (b.natAbs : Int) = - b := by omega
          rw [e1, e2]; grind
        · split
          · rename_i h2; subst h2; simp
          · have e2 : (b.natAbs : Int) = b := by omega
            rw [e1, e2]; grind
  · have hp : a ≠ 0 → b ≠ 0 → 0 < a.natAbs * b.natAbs := fun h1 h2 => Nat.mul_pos (by omega) (by omega)
    unfold sgn
    by_cases h1 : a = 0
    · right; right; subst h1; simp
    · by_cases h2 : b = 0
      · right; right; subst h2; simp
      · have := hp h1 h2
        split <;> split <;> simp_all
/-- a product's sign, a product's size in two parts: what is less. -/
def signW (s t : Int) (P Q : Nat) : Int := if s = t then s * (if cmpZ (P / 18446744073709551616 : Nat) (Q / 18446744073709551616 : Nat) = 0 then cmpZ (P % 18446744073709551616 : Nat) (Q % 18446744073709551616 : Nat) else cmpZ (P / 18446744073709551616 : Nat) (Q / 18446744073709551616 : Nat)) else cmpZ s t
theorem cmp_parts (P Q : Nat) : (if cmpZ (P / 18446744073709551616 : Nat) (Q / 18446744073709551616 : Nat) = 0 then cmpZ (P % 18446744073709551616 : Nat) (Q % 18446744073709551616 : Nat) else cmpZ (P / 18446744073709551616 : Nat) (Q / 18446744073709551616 : Nat)) = cmpZ P Q := by
  unfold cmpZ
  have h1 := Nat.div_add_mod P 18446744073709551616
  have h2 := Nat.div_add_mod Q 18446744073709551616
  have h3 := Nat.mod_lt P (show 18446744073709551616 > 0 by decide)
  have h4 := Nat.mod_lt Q (show 18446744073709551616 > 0 by decide)
  generalize P / 18446744073709551616 = a at *
  generalize Q / 18446744073709551616 = b at *
  generalize P % 18446744073709551616 = c at *
  generalize Q % 18446744073709551616 = d at *
  split <;> split <;> (try split) <;> (try split) <;> (try split) <;> omega
theorem sign_law (a b c d : Int) : signW (sgn a * sgn b) (sgn c * sgn d) (a.natAbs * b.natAbs) (c.natAbs * d.natAbs) = sgn (a * b - c * d) := by
  obtain ⟨P, hP, e1, h1⟩ := mul_sgn a b
  obtain ⟨Q, hQ, e2, h2⟩ := mul_sgn c d
  rw [← hP, ← hQ, e1, e2]
  unfold signW
  rw [cmp_parts]
  rcases h1 with ⟨s, hp⟩ | ⟨s, hp⟩ | ⟨s, hp⟩ <;> rcases h2 with ⟨t, hq⟩ | ⟨t, hq⟩ | ⟨t, hq⟩ <;> rw [s, t] <;> unfold cmpZ sgn <;> (try simp only [Int.one_mul, Int.neg_mul, Int.zero_mul, if_true]) <;> (repeat' split) <;> omega
theorem take_more {α : Type} {l : List α} {d : α} {k : Nat} (h : k < l.length) : l.take (k + 1) = l.take k ++ [l.getD k d] := by
  rw [List.take_succ_eq_append_getElem h, getD_lt h]
/-- the least, the greatest of the first k, and of z. -/
def minK (f : Pt → Int) (z : Int) (l : List Pt) (k : Nat) : Int := (l.take k).foldl (fun z v => min z (f v)) z
def maxK (f : Pt → Int) (z : Int) (l : List Pt) (k : Nat) : Int := (l.take k).foldl (fun z v => max z (f v)) z
theorem minK_succ {f : Pt → Int} {z : Int} {l : List Pt} {k : Nat} (h : k < l.length) : minK f z l (k + 1) = min (minK f z l k) (f (l.getD k p0)) := by unfold minK; rw [take_more (d := p0) h]; simp
theorem maxK_succ {f : Pt → Int} {z : Int} {l : List Pt} {k : Nat} (h : k < l.length) : maxK f z l (k + 1) = max (maxK f z l k) (f (l.getD k p0)) := by unfold maxK; rw [take_more (d := p0) h]; simp
theorem bounds_fold {l : List Pt} (h0 : 0 < l.length) (hv : l.all validP = true) : boundsP l = some (⟨minK Pt.x (l.getD 0 p0).x l l.length, minK Pt.y (l.getD 0 p0).y l l.length⟩, ⟨maxK Pt.x (l.getD 0 p0).x l l.length + 1, maxK Pt.y (l.getD 0 p0).y l l.length + 1⟩) := by
  cases l with
  | nil => simp at h0
  | cons a m =>
    unfold boundsP minK maxK
    simp only
    rw [if_pos hv]
    simp
theorem bounds_none {l : List Pt} (h : l.all validP = false ∨ l.length = 0) : boundsP l = none := by
  cases l with
  | nil => rfl
  | cons a m =>
    rcases h with h | h
    · unfold boundsP
      simp only
      rw [if_neg (by rw [h]; simp)]
    · simp at h
theorem inR_cnt (p : Pt) : ∀ g : List (List Pt), inR p g = oddB (cntB g.length (fun i => inP p (g.getD i [])))
  | [] => rfl
  | r :: g => by
    rw [inR, inR_cnt p g, List.length_cons, cntB_front, oddB_add, oddB_ite]
    rfl
theorem inR_take {p : Pt} {g : List (List Pt)} {k : Nat} (h : k < g.length) : inR p (g.take (k + 1)) = (inR p (g.take k) ^^ inP p (g.getD k [])) := by
  rw [take_more (d := []) h, inR_append]
  simp [inR]
theorem sumLen_append (g h : List (List Pt)) : sumLen (g ++ h) = sumLen g + sumLen h := by unfold sumLen; simp
theorem sumLen_take {g : List (List Pt)} {k : Nat} (h : k < g.length) : sumLen (g.take (k + 1)) = sumLen (g.take k) + (g.getD k []).length := by
  rw [take_more (d := []) h, sumLen_append]
  simp [sumLen]
theorem sumLen_get {g : List (List Pt)} {k : Nat} (h : k < g.length) : (g.getD k []).length ≤ sumLen g := by
  have h1 := sumLen_take h
  have h2 : sumLen (g.take (k + 1)) ≤ sumLen g := by
    have := sumLen_append (g.take (k + 1)) (g.drop (k + 1))
    rw [List.take_append_drop] at this
    omega
  omega
theorem sumLen_flatten : ∀ g : List (List Pt), g.flatten.length = sumLen g
  | [] => rfl
  | r :: g => by rw [List.flatten_cons, List.length_append, sumLen_flatten g]; simp [sumLen]
end Go.Geo

/- plain law: boxes in a tree (order, parts, what is told): no program in sight -/
namespace Go.Geo
abbrev Bx := Pt × Pt
def bx0 : Bx := (p0, p0)
/-- the box of a place. -/
def bxI (L : List Bx) (x : Int) : Bx := L.getD x.toNat bx0
/-- by what boxes are ordered on a level. -/
def keyB (ac : Bool) (b : Bx) : Int := if ac then b.1.x + b.2.x else b.1.y + b.2.y
def ltI (L : List Bx) (ac : Bool) (x y : Int) : Prop := keyB ac (bxI L x) < keyB ac (bxI L y) ∨ (keyB ac (bxI L x) = keyB ac (bxI L y) ∧ x < y)
theorem ltI_irrefl (L : List Bx) (ac : Bool) (x : Int) : ¬ ltI L ac x x := by unfold ltI; omega
theorem ltI_trans {L : List Bx} {ac : Bool} {x y z : Int} (h : ltI L ac x y) (k : ltI L ac y z) : ltI L ac x z := by unfold ltI at *; omega
theorem ltI_total (L : List Bx) (ac : Bool) (x y : Int) : ltI L ac x y ∨ x = y ∨ ltI L ac y x := by unfold ltI; omega
def halfN (n : Nat) : Nat := (n + 1) / 2
/-- the order of a part, from a level on. -/
inductive Laid (L : List Bx) : Bool → List Int → List Int → Prop
  | few {ac : Bool} {p : List Int} (h : p.length < 2) : Laid L ac p p
  | cut {ac : Bool} {p s a b : List Int} (h : 2 ≤ p.length) (hp : s.Perm p) (hs : s.Pairwise (ltI L ac)) (ha : Laid L (!ac) (s.take (halfN s.length)) a) (hb : Laid L (!ac) (s.drop (halfN s.length)) b) : Laid L ac p (a ++ b)
theorem Laid.perm {L : List Bx} {ac : Bool} {p o : List Int} (h : Laid L ac p o) : o.Perm p := by
  induction h with
  | few h => exact List.Perm.refl _
  | cut h hp hs ha hb iha ihb => exact (iha.append ihb).trans (by rw [List.take_append_drop]; exact hp)
theorem sortedI_unique {L : List Bx} {ac : Bool} {s t : List Int} (hs : s.Pairwise (ltI L ac)) (ht : t.Pairwise (ltI L ac)) (h : s.Perm t) : s = t :=
  List.Perm.eq_of_pairwise (le := ltI L ac) (fun _ _ _ _ h1 h2 => absurd (ltI_trans h1 h2) (ltI_irrefl _ _ _)) hs ht h
/-- there is one such order. -/
theorem Laid.same {L : List Bx} {ac : Bool} {p o : List Int} (h : Laid L ac p o) : ∀ {q u : List Int}, Laid L ac q u → p.Perm q → o = u := by
  induction h with
  | few h =>
    intro q u hu hpq
    have hl := hpq.length_eq
    cases hu with
    | few h2 =>
      rename_i p0
      match p0, q, h, h2, hpq with
      | [], [], _, _, _ => rfl
      | [a], [b], _, _, hpq => exact (List.singleton_perm_singleton.1 hpq) ▸ rfl
      | [], _ :: _, _, _, hpq => exact absurd hpq.length_eq (by simp)
      | _ :: _, [], _, _, hpq => exact absurd hpq.length_eq (by simp)
      | _ :: _ :: _, _, h, _, _ => exact absurd h (by simp)
      | _, _ :: _ :: _, _, h2, _ => exact absurd h2 (by simp)
    | cut h2 _ _ _ _ => omega
  | cut h hp hs ha hb iha ihb =>
    intro q u hu hpq
    have hl := hpq.length_eq
    cases hu with
    | few h2 => omega
    | cut h2 hp2 hs2 ha2 hb2 =>
      have e := sortedI_unique hs hs2 (hp.trans (hpq.trans hp2.symm))
      subst e
      rw [iha ha2 (List.Perm.refl _), ihb hb2 (List.Perm.refl _)]
/-- a part of a tree. -/
structure Nd where
  from_ : Nat
  to_ : Nat
  all : Bx
def nd0 : Nd := ⟨0, 0, bx0⟩
/-- a box that holds all of another one. -/
def Within (b c : Bx) : Prop := c.1.x ≤ b.1.x ∧ c.1.y ≤ b.1.y ∧ b.2.x ≤ c.2.x ∧ b.2.y ≤ c.2.y
theorem Within.refl (b : Bx) : Within b b := ⟨Int.le_refl _, Int.le_refl _, Int.le_refl _, Int.le_refl _⟩
def Around (L : List Bx) (p : List Int) (c : Bx) : Prop := ∀ x ∈ p, Within (bxI L x) c
/-- the places from one to another. -/
def seg (O : List Int) (f t : Nat) : List Int := (O.drop f).take (t - f)
theorem seg_length {O : List Int} {f t : Nat} (h : t ≤ O.length) : (seg O f t).length = t - f := by unfold seg; rw [List.length_take, List.length_drop]; omega
theorem seg_cut {O : List Int} {f m t : Nat} (h1 : f ≤ m) (h2 : m ≤ t) : seg O f t = seg O f m ++ seg O m t := by
  unfold seg
  rw [show t - f = (m - f) + (t - m) by omega, List.take_add, List.drop_drop, show f + (m - f) = m by omega]
theorem seg_one {O : List Int} {f : Nat} (h : f < O.length) : seg O f (f + 1) = [O.getD f 0] := by
  unfold seg
  rw [show f + 1 - f = 1 by omega, List.drop_eq_getElem_cons h, List.getD_eq_getElem?_getD, List.getElem?_eq_getElem h]; rfl
theorem seg_congr {O O' : List Int} {f t : Nat} (hl : O.length = O'.length) (h : ∀ k, f ≤ k → k < t → O'.getD k 0 = O.getD k 0) : seg O' f t = seg O f t := by
  unfold seg
  apply List.ext_getElem?
  intro i
  rw [List.getElem?_take, List.getElem?_take]
  split
  · rename_i hi
    rw [List.getElem?_drop, List.getElem?_drop]
    have := h (f + i) (by omega) (by omega)
    rw [List.getD_eq_getElem?_getD, List.getD_eq_getElem?_getD] at this
    by_cases hb : f + i < O.length
    · rw [List.getElem?_eq_getElem hb, List.getElem?_eq_getElem (by omega)] at this ⊢
      exact congrArg some this
    · rw [List.getElem?_eq_none (by omega), List.getElem?_eq_none (by omega)]
  · rfl
/-- a tree stands: from a part on. -/
inductive TreeAt (L : List Bx) (N : List Nd) (O : List Int) : Nat → Nat → Nat → Prop
  | leaf {i f : Nat} (h : N[i]? = some ⟨f, f + 1, bxI L (O.getD f 0)⟩) : TreeAt L N O i f (f + 1)
  | node {i f t : Nat} {b : Bx} (h : f + 2 ≤ t) (hn : N[i]? = some ⟨f, t, b⟩) (hb : Around L (seg O f t) b) (hl : TreeAt L N O (2 * i + 1) f (f + halfN (t - f))) (hr : TreeAt L N O (2 * i + 2) (f + halfN (t - f)) t) : TreeAt L N O i f t
theorem halfN_bounds {n : Nat} (h : 2 ≤ n) : 1 ≤ halfN n ∧ halfN n < n ∧ halfN n ≤ n - 1 ∧ n ≤ 2 * halfN n := by unfold halfN; omega
theorem TreeAt.lt {L : List Bx} {N : List Nd} {O : List Int} {i f t : Nat} (h : TreeAt L N O i f t) : f < t := by
  cases h with
  | leaf h => omega
  | node h => omega
/-- the parts below a part. -/
inductive Desc : Nat → Nat → Prop
  | self (i : Nat) : Desc i i
  | left {i j : Nat} (h : Desc (2 * i + 1) j) : Desc i j
  | right {i j : Nat} (h : Desc (2 * i + 2) j) : Desc i j
theorem Desc.span {i j : Nat} (h : Desc i j) : ∃ d, (i + 1) * 2 ^ d ≤ j + 1 ∧ j + 1 < (i + 2) * 2 ^ d := by
  have low : ∀ i P : Nat, (2 * i + 1 + 1) * P = (i + 1) * (P * 2) := fun i P => by rw [Nat.mul_comm P 2, ← Nat.mul_assoc]; congr 1; omega
  have high : ∀ i P : Nat, (2 * i + 2 + 2) * P = (i + 2) * (P * 2) := fun i P => by rw [Nat.mul_comm P 2, ← Nat.mul_assoc]; congr 1; omega
  induction h with
  | self i => exact ⟨0, by omega, by omega⟩
  | left h ih =>
    rename_i i j
    obtain ⟨d, h1, h2⟩ := ih
    refine ⟨d + 1, ?_, ?_⟩
    · rw [Nat.pow_succ, ← low]; exact h1
    · rw [Nat.pow_succ, ← high]
      exact Nat.lt_of_lt_of_le h2 (Nat.mul_le_mul_right _ (by omega))
  | right h ih =>
    rename_i i j
    obtain ⟨d, h1, h2⟩ := ih
    refine ⟨d + 1, ?_, ?_⟩
    · rw [Nat.pow_succ, ← low]
      exact Nat.le_trans (Nat.mul_le_mul_right _ (by omega)) h1
    · rw [Nat.pow_succ, ← high]; exact h2
theorem Desc.apart {i j : Nat} (h1 : Desc (2 * i + 1) j) (h2 : Desc (2 * i + 2) j) : False := by
  obtain ⟨d, a1, a2⟩ := h1.span
  obtain ⟨e, b1, b2⟩ := h2.span
  rcases Nat.lt_trichotomy d e with h | h | h
  · have h3 := Nat.mul_le_mul_left (2 * i + 2 + 1) (Nat.pow_le_pow_right (show 0 < 2 by omega) (Nat.le_of_lt h))
    exact absurd (Nat.lt_of_lt_of_le a2 (Nat.le_trans h3 b1)) (Nat.lt_irrefl _)
  · subst h
    exact absurd (Nat.lt_of_lt_of_le a2 b1) (Nat.lt_irrefl _)
  · have h3 : 2 ^ e * 2 ≤ 2 ^ d := by rw [← Nat.pow_succ]; exact Nat.pow_le_pow_right (by omega) h
    have h4 := Nat.mul_le_mul_left (2 * i + 1 + 1) h3
    have h5 : (2 * i + 2 + 2) * 2 ^ e ≤ (2 * i + 1 + 1) * (2 ^ e * 2) := by
      rw [Nat.mul_comm (2 ^ e) 2, ← Nat.mul_assoc]
      exact Nat.mul_le_mul_right _ (by omega)
    exact absurd (Nat.lt_of_lt_of_le b2 (Nat.le_trans h5 (Nat.le_trans h4 a1))) (Nat.lt_irrefl _)
theorem Desc.ge {i j : Nat} (h : Desc i j) : i ≤ j := by
  induction h with
  | self => exact Nat.le_refl _
  | left _ ih => omega
  | right _ ih => omega
theorem TreeAt.keep {L : List Bx} {N N' : List Nd} {O O' : List Int} {i f t : Nat} (h : TreeAt L N O i f t) (hl : O.length = O'.length) (hN : ∀ j, Desc i j → j < N.length → N'[j]? = N[j]?) (hO : ∀ k, f ≤ k → k < t → O'.getD k 0 = O.getD k 0) : TreeAt L N' O' i f t := by
  have inb : ∀ {N : List Nd} {j : Nat} {x : Nd}, N[j]? = some x → j < N.length := fun {N j x} h => (List.getElem?_eq_some_iff.1 h).1
  induction h with
  | leaf h => exact .leaf ((hN _ (.self _) (inb h)).trans (by rw [h, hO _ (Nat.le_refl _) (Nat.lt_succ_self _)]))
  | node h hn hb hl' hr ih1 ih2 =>
    rename_i i f t b
    have hm := halfN_bounds (n := t - f) (by omega)
    refine .node h ((hN _ (.self _) (inb hn)).trans hn) ?_ (ih1 (fun j hj => hN j (.left hj)) fun k h1 h2 => hO k h1 (by omega)) (ih2 (fun j hj => hN j (.right hj)) fun k h1 h2 => hO k (by omega) h2)
    rw [seg_congr hl hO]
    exact hb
/-- what is asked is so of a box, if it is of one that it holds. -/
def MonoB (q : Bx → Bool) : Prop := ∀ b c, Within b c → q b = true → q c = true
theorem filter_none {L : List Bx} {q : Bx → Bool} (hq : MonoB q) {p : List Int} {b : Bx} (hb : Around L p b) (h : q b = false) : p.filter (fun x => q (bxI L x)) = [] := by
  rw [List.filter_eq_nil_iff]
  intro x hx h1
  rw [hq _ _ (hb x hx) h1] at h
  cases h
theorem mono_in (p : Pt) : MonoB (fun b => boxIn p b.1 b.2) := by
  intro b c ⟨h1, h2, h3, h4⟩ h
  simp only [boxIn, Bool.and_eq_true, decide_eq_true_eq] at h ⊢
  omega
theorem mono_meet (x : Bx) : MonoB (fun b => boxMeet x.1 x.2 b.1 b.2) := by
  intro b c ⟨h1, h2, h3, h4⟩ h
  simp only [boxMeet, Bool.and_eq_true, decide_eq_true_eq] at h ⊢
  omega
/-- the places of all boxes of which something is so, rising. -/
def askB (q : Bx → Bool) (L : List Bx) : List Int := ((List.range L.length).filter (fun i => q (L.getD i bx0))).map fun (i : Nat) => (i : Int)
def allI (n : Nat) : List Int := (List.range n).map fun (i : Nat) => (i : Int)
theorem allI_len (n : Nat) : (allI n).length = n := by simp [allI]
theorem allI_succ (n : Nat) : allI (n + 1) = allI n ++ [(n : Int)] := by unfold allI; rw [List.range_succ, List.map_append]; rfl
theorem allI_mem {n : Nat} {x : Int} : x ∈ allI n ↔ 0 ≤ x ∧ x < n := by
  unfold allI
  rw [List.mem_map]
  constructor
  · rintro ⟨i, hi, rfl⟩
    have := List.mem_range.1 hi
    omega
  · rintro ⟨h1, h2⟩
    exact ⟨x.toNat, List.mem_range.2 (by omega), by omega⟩
theorem allI_sorted (n : Nat) : (allI n).Pairwise (· < ·) := by
  unfold allI
  rw [List.pairwise_map]
  exact List.pairwise_lt_range.imp fun h => by omega
theorem askB_filter (q : Bx → Bool) (L : List Bx) : askB q L = (allI L.length).filter (fun x => q (bxI L x)) := by
  unfold askB allI
  rw [List.filter_map]
  rfl
theorem askB_sorted (q : Bx → Bool) (L : List Bx) : (askB q L).Pairwise (· < ·) := by rw [askB_filter]; exact (allI_sorted _).filter _
theorem askB_mem {q : Bx → Bool} {L : List Bx} {x : Int} : x ∈ askB q L ↔ (0 ≤ x ∧ x < L.length) ∧ q (bxI L x) = true := by rw [askB_filter, List.mem_filter, allI_mem]
/-- sorted, what is told is that. -/
theorem ask_sorted {q : Bx → Bool} {L : List Bx} {O M : List Int} (hO : O.Perm (allI L.length)) (hp : M.Perm (O.filter (fun x => q (bxI L x)))) (hs : M.Pairwise (· ≤ ·)) : M = askB q L := by
  have h1 : M.Perm (askB q L) := by rw [askB_filter]; exact hp.trans (hO.filter _)
  refine List.Perm.eq_of_pairwise (le := fun (a b : Int) => a ≤ b) (fun _ _ _ _ h1 h2 => Int.le_antisymm h1 h2) hs ((askB_sorted q L).imp fun h => Int.le_of_lt h) h1
end Go.Geo

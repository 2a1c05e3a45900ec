/- plain law of points, turns, rings: no program in sight -/
namespace Go.Geo
structure Pt where
  x : Int
  y : Int
deriving DecidableEq
/-- a coordinate that may be. -/
def fitsC (n : Int) : Bool := decide (-1099511627775 ≤ n) && decide (n ≤ 1099511627775)
def validP (p : Pt) : Bool := fitsC p.x && fitsC p.y
theorem validP_iff (p : Pt) : validP p = true ↔ (-1099511627775 ≤ p.x ∧ p.x ≤ 1099511627775) ∧ (-1099511627775 ≤ p.y ∧ p.y ≤ 1099511627775) := by simp [validP, fitsC]
def sgn (n : Int) : Int := if n < 0 then -1 else if n = 0 then 0 else 1
theorem sgn_one {n : Int} : sgn n = 1 ↔ 0 < n := by unfold sgn; split <;> (try split) <;> omega
theorem sgn_zero {n : Int} : sgn n = 0 ↔ n = 0 := by unfold sgn; split <;> (try split) <;> omega
theorem sgn_neg {n : Int} : sgn n = -1 ↔ n < 0 := by unfold sgn; split <;> (try split) <;> omega
/-- twice the area. -/
def area (a b c : Pt) : Int := (b.x - a.x) * (c.y - a.y) - (b.y - a.y) * (c.x - a.x)
def turnP (a b c : Pt) : Int := if validP a && validP b && validP c then sgn (area a b c) else 0
def countsP (p a b : Pt) : Bool :=
  validP p && validP a && validP b && (if b.y < a.y then decide (b.y ≤ p.y) && decide (p.y < a.y) && decide (turnP b a p = 1) else decide (a.y ≤ p.y) && decide (p.y < b.y) && decide (turnP a b p = 1))
theorem countsP_comm (p a b : Pt) : countsP p a b = countsP p b a := by
  unfold countsP
  by_cases h : b.y < a.y
  · rw [if_pos h, if_neg (by omega)]
    cases validP a <;> cases validP b <;> simp
  · by_cases h2 : a.y < b.y
    · rw [if_neg h, if_pos h2]
      cases validP a <;> cases validP b <;> simp
    · rw [if_neg h, if_neg h2]
      have e1 : (decide (a.y ≤ p.y) && decide (p.y < b.y)) = false := by simp; omega
      have e2 : (decide (b.y ≤ p.y) && decide (p.y < a.y)) = false := by simp; omega
      rw [e1, e2]
      simp
/-- the edges from a on, each put in or out. -/
def xorP (f : Pt → Pt → Bool) : Pt → List Pt → Bool
  | _, [] => false
  | a, b :: l => f a b ^^ xorP f b l
/-- the last of a list, or a. -/
def lastP (a : Pt) (l : List Pt) : Pt := l.getLastD a
def inP (p : Pt) (l : List Pt) : Bool := match l with
  | [] => false
  | a :: m => xorP (countsP p) (lastP a m) (a :: m)
theorem lastP_cons (a b : Pt) (l : List Pt) : lastP a (b :: l) = lastP b l := by cases l <;> rfl
theorem xorP_alike {f : Pt → Pt → Bool} {g : Pt → Bool} : ∀ (l : List Pt) (a : Pt), (∀ u v, u ∈ a :: l → v ∈ a :: l → f u v = (g u ^^ g v)) → xorP f a l = (g a ^^ g (lastP a l))
  | [], a, _ => by simp [xorP, lastP]
  | b :: l, a, h => by
    rw [xorP, h a b (by simp) (by simp), xorP_alike l b (fun u v hu hv => h u v (List.mem_cons_of_mem _ hu) (List.mem_cons_of_mem _ hv)), lastP_cons]
    cases g a <;> cases g b <;> cases g (lastP b l) <;> rfl
theorem xorP_none {f : Pt → Pt → Bool} : ∀ (l : List Pt) (a : Pt), (∀ u v, u ∈ a :: l → v ∈ a :: l → f u v = false) → xorP f a l = false
  | [], a, _ => rfl
  | b :: l, a, h => by
    rw [xorP, h a b (by simp) (by simp), xorP_none l b (fun u v hu hv => h u v (List.mem_cons_of_mem _ hu) (List.mem_cons_of_mem _ hv))]
    rfl
theorem lastP_mem (a : Pt) (l : List Pt) : lastP a l ∈ a :: l := by
  unfold lastP
  rw [List.getLastD_eq_getLast?]
  cases h : l.getLast? with
  | none => simp
  | some z => simp [List.mem_of_getLast? h]
/-- what is put in stands among the points. -/
theorem xorP_mem {f g : Pt → Pt → Bool} : ∀ (l : List Pt) (a : Pt), (∀ u v, u ∈ a :: l → v ∈ a :: l → f u v = g u v) → xorP f a l = xorP g a l
  | [], a, _ => rfl
  | b :: l, a, h => by
    rw [xorP, xorP, h a b (by simp) (by simp), xorP_mem l b (fun u v hu hv => h u v (List.mem_cons_of_mem _ hu) (List.mem_cons_of_mem _ hv))]
theorem area_swap (a b p : Pt) : area b a p = - area a b p := by
  unfold area
  grind
/-- left of all: an edge counts just where it goes over the height. -/
theorem counts_left {p a b : Pt} (hp : validP p = true) (ha : validP a = true) (hb : validP b = true) (h1 : p.x < a.x) (h2 : p.x < b.x) : countsP p a b = (decide (a.y ≤ p.y) ^^ decide (b.y ≤ p.y)) := by
  have key : ∀ a b : Pt, validP a = true → validP b = true → p.x < a.x → p.x < b.x → a.y ≤ p.y → p.y < b.y → turnP a b p = 1 := by
    intro a b ha hb h1 h2 h3 h4
    unfold turnP
    rw [ha, hb, hp]
    simp only [Bool.and_self, if_true]
    rw [sgn_one]
    have e : area a b p = (p.y - a.y) * (b.x - p.x) + (b.y - p.y) * (a.x - p.x) := by unfold area; grind
    rw [e]
    have q1 : 0 ≤ (p.y - a.y) * (b.x - p.x) := Int.mul_nonneg (by omega) (by omega)
    have q2 : 0 < (b.y - p.y) * (a.x - p.x) := Int.mul_pos (by omega) (by omega)
    omega
  unfold countsP
  rw [hp, ha, hb]
  by_cases h : b.y < a.y
  · rw [if_pos h]
    by_cases q1 : b.y ≤ p.y
    · by_cases q2 : p.y < a.y
      · rw [key b a hb ha h2 h1 q1 q2]
        have : ¬ a.y ≤ p.y := by omega
        simp [q1, q2, this]
      · have : a.y ≤ p.y := by omega
        simp [q1, q2, this]
    · have : ¬ a.y ≤ p.y := by omega
      simp [q1, this]
  · rw [if_neg h]
    by_cases q1 : a.y ≤ p.y
    · by_cases q2 : p.y < b.y
      · rw [key a b ha hb h1 h2 q1 q2]
        have : ¬ b.y ≤ p.y := by omega
        simp [q1, q2, this]
      · have : b.y ≤ p.y := by omega
        simp [q1, q2, this]
    · have : ¬ b.y ≤ p.y := by omega
      simp [q1, this]
/-- an edge that counts goes over the height, and to the right of the point. -/
theorem counts_right {p a b : Pt} (h : countsP p a b = true) : (a.y ≤ p.y ∧ p.y < b.y ∨ b.y ≤ p.y ∧ p.y < a.y) ∧ (p.x < a.x ∨ p.x < b.x) ∧ validP p = true ∧ validP a = true ∧ validP b = true := by
  have key : ∀ a b : Pt, turnP a b p = 1 → a.y ≤ p.y → p.y < b.y → p.x < a.x ∨ p.x < b.x := by
    intro a b ht h3 h4
    unfold turnP at ht
    split at ht
    · rw [sgn_one] at ht
      have e : area a b p = (p.y - a.y) * (b.x - p.x) + (b.y - p.y) * (a.x - p.x) := by unfold area; grind
      rw [e] at ht
      by_cases q : p.x < a.x ∨ p.x < b.x
      · exact q
      · have q1 : (p.y - a.y) * (b.x - p.x) ≤ 0 := Int.mul_nonpos_of_nonneg_of_nonpos (by omega) (by omega)
        have q2 : (b.y - p.y) * (a.x - p.x) ≤ 0 := Int.mul_nonpos_of_nonneg_of_nonpos (by omega) (by omega)
        omega
    · cases ht
  unfold countsP at h
  simp only [Bool.and_eq_true] at h
  obtain ⟨⟨⟨hp, ha⟩, hb⟩, h⟩ := h
  by_cases q : b.y < a.y
  · rw [if_pos q] at h
    simp only [Bool.and_eq_true, decide_eq_true_eq] at h
    obtain ⟨⟨h1, h2⟩, h3⟩ := h
    have := key b a h3 h1 h2
    exact ⟨.inr ⟨h1, h2⟩, this.symm, hp, ha, hb⟩
  · rw [if_neg q] at h
    simp only [Bool.and_eq_true, decide_eq_true_eq] at h
    obtain ⟨⟨h1, h2⟩, h3⟩ := h
    exact ⟨.inl ⟨h1, h2⟩, key a b h3 h1 h2, hp, ha, hb⟩
theorem xorP_some {f : Pt → Pt → Bool} : ∀ (l : List Pt) (a : Pt), xorP f a l = true → ∃ u v, u ∈ a :: l ∧ v ∈ a :: l ∧ f u v = true
  | [], a, h => by cases h
  | b :: l, a, h => by
    by_cases q : f a b = true
    · exact ⟨a, b, by simp, by simp, q⟩
    · rw [xorP] at h
      have q : f a b = false := by simpa using q
      rw [q] at h
      obtain ⟨u, v, hu, hv, hf⟩ := xorP_some l b (by simpa using h)
      exact ⟨u, v, List.mem_cons_of_mem _ hu, List.mem_cons_of_mem _ hv, hf⟩
/-- what is in a ring is in any box of its points. -/
theorem in_box {p : Pt} {l : List Pt} {lx ly hx hy : Int} (h : inP p l = true) (hall : ∀ v ∈ l, validP v = true) (hb : ∀ v ∈ l, lx ≤ v.x ∧ v.x ≤ hx ∧ ly ≤ v.y ∧ v.y ≤ hy) : lx ≤ p.x ∧ p.x < hx ∧ ly ≤ p.y ∧ p.y < hy := by
  cases l with
  | nil => cases h
  | cons a m =>
    have h : xorP (countsP p) (lastP a m) (a :: m) = true := h
    have hm : ∀ v, v ∈ lastP a m :: a :: m → v ∈ a :: m := fun v hv => by
      rcases List.mem_cons.1 hv with rfl | hv
      · exact lastP_mem a m
      · exact hv
    obtain ⟨u, v, hu, hv, hf⟩ := xorP_some _ _ h
    obtain ⟨h1, h2, hp, _, _⟩ := counts_right hf
    have b1 := hb u (hm u hu)
    have b2 := hb v (hm v hv)
    refine ⟨?_, by omega, by omega, by omega⟩
    by_cases q : lx ≤ p.x
    · exact q
    exfalso
    -- all edges that may be count by the height alone
    have hval : ∀ v, v ∈ a :: m → p.x < v.x := fun v hv => by have := hb v hv; omega
    have := xorP_alike (f := countsP p) (g := fun v => decide (v.y ≤ p.y)) (a :: m) (lastP a m) (fun u v hu hv => counts_left hp (hall u (hm u hu)) (hall v (hm v hv)) (hval u (hm u hu)) (hval v (hm v hv)))
    rw [h, lastP_cons] at this
    simp at this
theorem xorP_append {f : Pt → Pt → Bool} : ∀ (l : List Pt) (a : Pt) (m : List Pt), xorP f a (l ++ m) = (xorP f a l ^^ xorP f (lastP a l) m)
  | [], a, m => by simp [xorP, lastP]
  | b :: l, a, m => by
    rw [List.cons_append, xorP, xorP_append l b m, xorP, lastP_cons]
    cases f a b <;> simp
theorem lastP_append (a : Pt) (l : List Pt) (b : Pt) : lastP a (l ++ [b]) = b := by simp [lastP, List.getLastD_eq_getLast?]
/-- a path, there and back. -/
theorem xorP_reverse {f : Pt → Pt → Bool} (hf : ∀ a b, f a b = f b a) : ∀ (l : List Pt) (a : Pt), xorP f (lastP a l) ((a :: l).reverse.drop 1) = xorP f a l
  | [], a => rfl
  | b :: l, a => by
    have e : (a :: b :: l).reverse.drop 1 = ((b :: l).reverse.drop 1) ++ [a] := by
      simp only [List.reverse_cons]
      rw [List.drop_append_of_le_length (by simp)]
    rw [e, lastP_cons, xorP_append, xorP_reverse hf l b]
    have e2 : lastP (lastP b l) ((b :: l).reverse.drop 1) = b := by
      cases l with
      | nil => rfl
      | cons c l =>
        have : (b :: c :: l).reverse.drop 1 = ((c :: l).reverse.drop 1) ++ [b] := by
          simp only [List.reverse_cons]
          rw [List.drop_append_of_le_length (by simp)]
        rw [this, lastP_append]
    rw [e2, xorP, xorP, hf b a]
    show _ = (f a b ^^ xorP f b l)
    cases f a b <;> cases xorP f b l <;> rfl
theorem area_low (a b p : Pt) : area a b p = (p.y - a.y) * (b.x - p.x) + (b.y - p.y) * (a.x - p.x) := by unfold area; grind
/-- a vertical edge. -/
theorem counts_vert {p a b : Pt} (hp : validP p = true) (ha : validP a = true) (hb : validP b = true) (hx : a.x = b.x) : countsP p a b = ((decide (a.y ≤ p.y) ^^ decide (b.y ≤ p.y)) && decide (p.x < a.x)) := by
  by_cases h : p.x < a.x
  · rw [counts_left hp ha hb h (by omega)]
    simp [h]
  · have : countsP p a b = false := by
      cases q : countsP p a b with
      | false => rfl
      | true => have := counts_right q; omega
    rw [this]
    simp [h]
/-- a level edge. -/
theorem counts_level {p a b : Pt} (hy : a.y = b.y) : countsP p a b = false := by
  cases q : countsP p a b with
  | false => rfl
  | true => have := counts_right q; omega
theorem counts_invalid {p a b : Pt} (hp : validP p = false) : countsP p a b = false := by
  cases q : countsP p a b with
  | false => rfl
  | true => have := (counts_right q).2.2.1; rw [hp] at this; cases this
/-- a box cut by a line: a point of it is in just one of the two. -/
theorem tiles {p low high a b : Pt} {line : List Pt} (hlv : validP low = true) (hhv : validP high = true) (hx : low.x < high.x) (hy : low.y < high.y) (ha : a.x = low.x ∧ low.y ≤ a.y ∧ a.y ≤ high.y) (hb : b.x = high.x ∧ low.y ≤ b.y ∧ b.y ≤ high.y) (hl : lastP a line = b) :
    (inP p (low :: ⟨high.x, low.y⟩ :: (a :: line).reverse) ^^ inP p (high :: ⟨low.x, high.y⟩ :: a :: line)) = (decide (low.x ≤ p.x) && decide (p.x < high.x) && decide (low.y ≤ p.y) && decide (p.y < high.y)) := by
  rw [validP_iff] at hlv hhv
  obtain ⟨c, hc⟩ : ∃ c : Pt, c = ⟨high.x, low.y⟩ := ⟨_, rfl⟩
  obtain ⟨d, hd⟩ : ∃ d : Pt, d = ⟨low.x, high.y⟩ := ⟨_, rfl⟩
  rw [← hc, ← hd]
  have hcx : c.x = high.x := by rw [hc]
  have hcy : c.y = low.y := by rw [hc]
  have hdx : d.x = low.x := by rw [hd]
  have hdy : d.y = high.y := by rw [hd]
  by_cases hp : validP p = true
  · have ev : ∀ v : Pt, (low.x ≤ v.x ∧ v.x ≤ high.x) → (low.y ≤ v.y ∧ v.y ≤ high.y) → validP v = true := fun v h1 h2 => by rw [validP_iff]; omega
    have vl := ev low (by omega) (by omega)
    have vh := ev high (by omega) (by omega)
    have vc := ev c (by omega) (by omega)
    have vd := ev d (by omega) (by omega)
    have va := ev a (by omega) (by omega)
    have vb := ev b (by omega) (by omega)
    have e1 : inP p (low :: c :: (a :: line).reverse) = (countsP p a low ^^ countsP p c b ^^ xorP (countsP p) a line) := by
      have er : (a :: line).reverse = b :: (a :: line).reverse.drop 1 := by
        rw [← hl]
        cases line with
        | nil => rfl
        | cons z l =>
          have : (a :: z :: l).reverse ≠ [] := by simp
          obtain ⟨x, m, hm⟩ := List.exists_cons_of_ne_nil this
          rw [hm, List.drop_one, List.tail_cons]
          have h2 : (a :: z :: l).reverse.head? = some x := by rw [hm]; rfl
          rw [List.head?_reverse] at h2
          unfold lastP
          rw [List.getLastD_eq_getLast?]
          have : (a :: z :: l).getLast? = (z :: l).getLast? := by simp
          rw [this] at h2
          rw [h2]
          rfl
      have el : lastP low (c :: (a :: line).reverse) = a := by
        rw [lastP_cons]
        have : (a :: line).reverse = line.reverse ++ [a] := by simp
        rw [this, lastP_append]
      show xorP (countsP p) (lastP low (c :: (a :: line).reverse)) (low :: c :: (a :: line).reverse) = _
      rw [el, er, xorP, xorP, xorP]
      have := xorP_reverse (f := countsP p) (countsP_comm p) line a
      rw [hl] at this
      rw [this, counts_level (a := low) (b := c) (by omega)]
      cases countsP p a low <;> cases countsP p c b <;> cases xorP (countsP p) a line <;> rfl
    have e2 : inP p (high :: d :: a :: line) = (countsP p b high ^^ countsP p d a ^^ xorP (countsP p) a line) := by
      show xorP (countsP p) (lastP high (d :: a :: line)) (high :: d :: a :: line) = _
      rw [lastP_cons, lastP_cons, hl, xorP, xorP, xorP, counts_level (a := high) (b := d) (by omega)]
      cases countsP p b high <;> cases countsP p d a <;> cases xorP (countsP p) a line <;> rfl
    rw [e1, e2, counts_vert hp va vl (by omega), counts_vert hp vc vb (by omega), counts_vert hp vb vh (by omega), counts_vert hp vd va (by omega)]
    rw [hcx, hcy, hdx, hdy, ha.1, hb.1]
    generalize xorP (countsP p) a line = t
    by_cases q1 : p.x < low.x
    · have q2 : p.x < high.x := by omega
      have q3 : ¬ low.x ≤ p.x := by omega
      simp only [q1, q2, q3, decide_true, decide_false, Bool.and_true, Bool.false_and]
      cases decide (a.y ≤ p.y) <;> cases decide (b.y ≤ p.y) <;> cases decide (low.y ≤ p.y) <;> cases decide (high.y ≤ p.y) <;> cases t <;> rfl
    · have q3 : low.x ≤ p.x := by omega
      by_cases q2 : p.x < high.x
      · simp only [q1, q2, q3, decide_true, decide_false, Bool.and_true, Bool.true_and, Bool.and_false]
        have q5 : decide (p.y < high.y) = !decide (high.y ≤ p.y) := by by_cases h : p.y < high.y <;> simp [h] <;> omega
        rw [q5]
        by_cases q4 : low.y ≤ p.y
        · simp only [q4, decide_true]
          cases decide (a.y ≤ p.y) <;> cases decide (b.y ≤ p.y) <;> cases decide (high.y ≤ p.y) <;> cases t <;> rfl
        · have q6 : ¬ high.y ≤ p.y := by omega
          have q7 : ¬ b.y ≤ p.y := by omega
          simp only [q4, q6, q7, decide_false]
          cases decide (a.y ≤ p.y) <;> cases t <;> rfl
      · simp only [q1, q2, q3, decide_true, decide_false, Bool.and_false, Bool.false_and]
        cases t <;> rfl
  · have hp : validP p = false := by simpa using hp
    have hn : ∀ l a, xorP (countsP p) a l = false := fun l a => xorP_none l a (fun _ _ _ _ => counts_invalid hp)
    have e1 : inP p (low :: c :: (a :: line).reverse) = false := hn _ _
    have e2 : inP p (high :: d :: a :: line) = false := hn _ _
    rw [e1, e2]
    have : ¬ (low.x ≤ p.x ∧ p.x < high.x ∧ low.y ≤ p.y ∧ p.y < high.y) := fun h => by
      have : validP p = true := by rw [validP_iff]; omega
      rw [hp] at this
      cases this
    simp
    omega
end Go.Geo

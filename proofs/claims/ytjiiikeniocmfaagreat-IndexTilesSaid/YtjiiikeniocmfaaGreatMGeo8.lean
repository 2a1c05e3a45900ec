/- plain law: counts, rings turned about, normal forms: no program in sight -/
import Derived.Test.YtjiiikeniocmfaaGreatMQPts
namespace Go.Geo
/-- of how many numbers below n f is so. -/
def cntB : Nat → (Nat → Bool) → Nat
  | 0, _ => 0
  | n + 1, f => cntB n f + (if f n then 1 else 0)
theorem cntB_front : ∀ (n : Nat) (f : Nat → Bool), cntB (n + 1) f = (if f 0 then 1 else 0) + cntB n (fun i => f (i + 1))
  | 0, f => by simp [cntB]
  | n + 1, f => by
    rw [cntB, cntB_front n f, cntB]
    omega
theorem cntB_congr {f g : Nat → Bool} : ∀ (n : Nat), (∀ i, i < n → f i = g i) → cntB n f = cntB n g
  | 0, _ => rfl
  | n + 1, h => by rw [cntB, cntB, cntB_congr n (fun i hi => h i (by omega)), h n (by omega)]
def oddB (n : Nat) : Bool := decide (n % 2 = 1)
theorem oddB_add (m n : Nat) : oddB (m + n) = (oddB m ^^ oddB n) := by
  unfold oddB
  have h1 := Nat.mod_two_eq_zero_or_one m
  have h2 := Nat.mod_two_eq_zero_or_one n
  rcases h1 with h1 | h1 <;> rcases h2 with h2 | h2 <;> simp [h1, h2, Nat.add_mod]
theorem oddB_ite (b : Bool) : oddB (if b then 1 else 0) = b := by cases b <;> rfl
theorem xorP_cnt {f : Pt → Pt → Bool} : ∀ (l : List Pt) (a : Pt), xorP f a l = oddB (cntB l.length (fun i => f ((a :: l).getD i p0) ((a :: l).getD (i + 1) p0)))
  | [], a => rfl
  | b :: l, a => by
    rw [xorP, xorP_cnt l b, List.length_cons, cntB_front, oddB_add, oddB_ite]
    rfl
theorem lastP_getD : ∀ (l : List Pt) (a : Pt), lastP a l = (a :: l).getD l.length p0
  | [], a => rfl
  | b :: l, a => by rw [lastP_cons, lastP_getD l b]; rfl
/-- how many edges count. -/
def countK (p : Pt) (l : List Pt) : Nat := cntB l.length (fun i => countsP p (l.getD i p0) (atP l (i + 1)))
theorem inP_count (p : Pt) (l : List Pt) : inP p l = oddB (countK p l) := by
  cases l with
  | nil => rfl
  | cons a m =>
    show xorP (countsP p) (lastP a m) (a :: m) = _
    rw [xorP, xorP_cnt]
    unfold countK
    rw [List.length_cons, cntB, oddB_add, oddB_ite]
    have e1 : atP (a :: m) (m.length + 1) = a := by unfold atP; simp
    rw [e1, ← lastP_getD, Bool.xor_comm]
    congr 1
    congr 1
    refine cntB_congr _ fun i hi => ?_
    rw [atP_lt (by simp; omega)]
/-- one list is the other, turned about. -/
def IsRot {α : Type} (a b : List α) : Prop := ∃ x y, a = x ++ y ∧ b = y ++ x
theorem IsRot.refl {α : Type} (a : List α) : IsRot a a := ⟨a, [], by simp, by simp⟩
theorem IsRot.symm {α : Type} {a b : List α} (h : IsRot a b) : IsRot b a := by obtain ⟨x, y, h1, h2⟩ := h; exact ⟨y, x, h2, h1⟩
theorem IsRot.trans {α : Type} {a b c : List α} (h : IsRot a b) (k : IsRot b c) : IsRot a c := by
  obtain ⟨x, y, rfl, rfl⟩ := h
  obtain ⟨u, v, h1, rfl⟩ := k
  rcases List.append_eq_append_iff.1 h1 with ⟨z, rfl, rfl⟩ | ⟨z, rfl, rfl⟩
  · exact ⟨z, v ++ y, by simp_all, by simp_all⟩
  · exact ⟨x ++ u, z, by simp, by simp⟩
theorem IsRot.reverse {α : Type} {a b : List α} (h : IsRot a b) : IsRot a.reverse b.reverse := by
  obtain ⟨x, y, rfl, rfl⟩ := h
  exact ⟨y.reverse, x.reverse, by simp, by simp⟩
theorem IsRot.perm {α : Type} {a b : List α} (h : IsRot a b) : a.Perm b := by obtain ⟨x, y, rfl, rfl⟩ := h; exact List.perm_append_comm
/-- the order of points: by the height, then across. -/
def lessP (a b : Pt) : Prop := a.y < b.y ∨ (a.y = b.y ∧ a.x < b.x)
instance (a b : Pt) : Decidable (lessP a b) := by unfold lessP; infer_instance
theorem lessP_trans {a b c : Pt} (h : lessP a b) (k : lessP b c) : lessP a c := by unfold lessP at *; omega
theorem lessP_irrefl (a : Pt) : ¬ lessP a a := by unfold lessP; omega
theorem Pt.ext' {a b : Pt} (h1 : a.x = b.x) (h2 : a.y = b.y) : a = b := by cases a; cases b; simp_all
theorem lessP_total (a b : Pt) : lessP a b ∨ a = b ∨ lessP b a := by
  by_cases h1 : a.x = b.x
  · by_cases h2 : a.y = b.y
    · exact .inr (.inl (Pt.ext' h1 h2))
    · unfold lessP; omega
  · unfold lessP; omega
/-- the place of the least point: of the first i. -/
def leastK (l : List Pt) : Nat → Nat
  | 0 => 0
  | i + 1 => if lessP (l.getD i p0) (l.getD (leastK l i) p0) then i else leastK l i
theorem leastK_spec (l : List Pt) : ∀ i, (0 < i → leastK l i < i) ∧ ∀ j, j < i → ¬ lessP (l.getD j p0) (l.getD (leastK l i) p0)
  | 0 => ⟨fun h => absurd h (by omega), fun j h => absurd h (by omega)⟩
  | i + 1 => by
    obtain ⟨h1, h2⟩ := leastK_spec l i
    rw [leastK]
    split
    · rename_i h
      refine ⟨fun _ => by omega, fun j hj hl => ?_⟩
      by_cases hji : j < i
      · exact h2 j hji (lessP_trans hl h)
      · obtain rfl : j = i := by omega
        exact lessP_irrefl _ hl
    · rename_i h
      refine ⟨fun _ => ?_, fun j hj hl => ?_⟩
      · by_cases hi : 0 < i
        · have := h1 hi; omega
        · obtain rfl : i = 0 := by omega
          rw [leastK]; omega
      · by_cases hji : j < i
        · exact h2 j hji hl
        · obtain rfl : j = i := by omega
          exact h hl
def leastP (l : List Pt) : Nat := leastK l l.length
theorem leastP_lt {l : List Pt} (h : 0 < l.length) : leastP l < l.length := (leastK_spec l l.length).1 h
theorem least_min {l : List Pt} {v : Pt} (h : v ∈ l) : ¬ lessP v (l.getD (leastP l) p0) := by
  obtain ⟨i, hi, rfl⟩ := List.mem_iff_getElem.1 h
  have := (leastK_spec l l.length).2 i hi
  rwa [List.getD_eq_getElem?_getD, List.getElem?_eq_getElem hi] at this
/-- which way round a ring goes. -/
def signP (l : List Pt) : Int := if (ringCheckP l).1 ≠ 0 then 0 else turnP (atP l (leastP l + l.length - 1)) (l.getD (leastP l) p0) (atP l (leastP l + 1))
end Go.Geo

/- plain law: when two rings, two regions are the same: no program in sight -/
namespace Go.Geo
theorem getD_lt {α : Type} {l : List α} {d : α} {i : Nat} (h : i < l.length) : l.getD i d = l[i] := by rw [List.getD_eq_getElem?_getD, List.getElem?_eq_getElem h]; rfl
/-- what a ring that may be is. -/
theorem ring_all {l : List Pt} (h : (ringCheckP l).1 = 0) : (∀ i, i < l.length → twiceP l i = false) ∧ (∀ i, i < l.length → backP l i = false) ∧ ∀ i, i < l.length → meetsP l i = false := by
  unfold ringCheckP at h
  split at h
  · cases h
  · split at h
    · cases h
    · split at h
      · cases h
      · split at h
        · cases h
        · rename_i h1
          split at h
          · cases h
          · rename_i h2
            split at h
            · cases h
            · rename_i h3
              exact ⟨firstP_eq_none h1, firstP_eq_none h2, firstP_eq_none h3⟩
theorem nodup_of_twice {l : List Pt} (h : ∀ i, i < l.length → twiceP l i = false) : l.Nodup := by
  unfold List.Nodup
  rw [List.pairwise_iff_getElem]
  intro i j hi hj hij e
  have := h j hj
  unfold twiceP at this
  rw [getD_lt hj] at this
  have hm : l[j] ∈ l.take j := by
    rw [← e, List.mem_iff_getElem]
    exact ⟨i, by simp; omega, by simp⟩
  simp [hm] at this
theorem ring_nodup {l : List Pt} (h : (ringCheckP l).1 = 0) : l.Nodup := nodup_of_twice (ring_all h).1
theorem atP_mem {l : List Pt} {i : Nat} (h : 0 < l.length) : atP l i ∈ l := by
  unfold atP
  rw [getD_lt (Nat.mod_lt _ h)]
  exact List.getElem_mem _
theorem least_off {p a b : Pt} (h : onP p a b = true) (ha : ¬ lessP a p) (hb : ¬ lessP b p) (na : a ≠ p) (nb : b ≠ p) : False := by
  unfold onP at h
  simp only [Bool.and_eq_true, decide_eq_true_eq, betw] at h
  obtain ⟨⟨⟨⟨⟨vp, va⟩, vb⟩, h1, h2⟩, h3, h4⟩, h5⟩ := h
  unfold turnP at h5
  rw [va, vb, vp] at h5
  simp only [Bool.and_self, if_true] at h5
  rw [sgn_zero] at h5
  unfold lessP at ha hb
  have e : area a b p = (p.y - a.y) * (b.x - p.x) + (b.y - p.y) * (a.x - p.x) := area_low a b p
  rw [e] at h5
  have key : ∀ a b : Pt, a.y = p.y → p.y < b.y → (p.y - a.y) * (b.x - p.x) + (b.y - p.y) * (a.x - p.x) = 0 → a.x = p.x := by
    intro a b e1 e2 h
    rw [e1, Int.sub_self, Int.zero_mul, Int.zero_add, Int.mul_eq_zero] at h
    omega
  rcases lessP_total a b with h | h | h
  · unfold lessP at h
    by_cases hab : a.y < b.y
    · have e1 : a.y = p.y := by omega
      exact na (Pt.ext' (key a b e1 (by omega) h5) e1)
    · have e1 : a.y = p.y := by omega
      have e2 : b.y = p.y := by omega
      exact na (Pt.ext' (by omega) e1)
  · subst h
    exact na (Pt.ext' (by omega) (by omega))
  · unfold lessP at h
    by_cases hab : b.y < a.y
    · have e1 : b.y = p.y := by omega
      exact nb (Pt.ext' (key b a e1 (by omega) (by rw [Int.add_comm] at h5; have e3 : (a.y - p.y) * (b.x - p.x) = -((p.y - a.y) * (b.x - p.x)) := by rw [← Int.neg_mul]; congr 1; omega
                                                   have e4 : (p.y - b.y) * (a.x - p.x) = -((b.y - p.y) * (a.x - p.x)) := by rw [← Int.neg_mul]; congr 1; omega
                                                   omega)) e1)
    · have e1 : a.y = p.y := by omega
      have e2 : b.y = p.y := by omega
      exact nb (Pt.ext' (by omega) e2)
theorem atP_ne {l : List Pt} {k j : Nat} (hn : l.Nodup) (hk : k < l.length) (hj : j % l.length ≠ k) : atP l j ≠ l.getD k p0 := by
  unfold atP
  have hjl : j % l.length < l.length := Nat.mod_lt _ (by omega)
  rw [getD_lt hjl, getD_lt hk]
  intro e
  exact hj ((List.getElem_inj hn).1 e)
theorem sign_ne {l : List Pt} (h : (ringCheckP l).1 = 0) : signP l ≠ 0 := by
  have h3 := (ring_ok h).1
  have hk := leastP_lt (l := l) (by omega)
  have hb := (ring_all h).2.1 _ hk
  unfold signP
  rw [if_neg (by omega)]
  intro e
  unfold backP at hb
  rw [e] at hb
  simp only [decide_true, Bool.true_and, Bool.not_eq_false'] at hb
  refine least_off hb (least_min (atP_mem (by omega))) (least_min (atP_mem (by omega))) (atP_ne (ring_nodup h) hk ?_) (atP_ne (ring_nodup h) hk ?_)
  · by_cases h0 : 0 < leastP l
    · rw [show leastP l + l.length - 1 = leastP l - 1 + l.length by omega, Nat.add_mod_right, Nat.mod_eq_of_lt (by omega)]; omega
    · rw [Nat.mod_eq_of_lt (by omega)]; omega
  · by_cases h0 : leastP l + 1 < l.length
    · rw [Nat.mod_eq_of_lt h0]; omega
    · rw [show leastP l + 1 = l.length by omega, Nat.mod_self]; omega
end Go.Geo

/- plain law: rings in order; when two regions are the same: no program in sight -/
namespace Go.Geo
def cmpZ (a b : Int) : Int := if a < b then -1 else if b < a then 1 else 0
theorem cmpZ_zero {a b : Int} : cmpZ a b = 0 ↔ a = b := by unfold cmpZ; split <;> (try split) <;> omega
theorem cmpZ_lt {a b : Int} : cmpZ a b < 0 ↔ a < b := by unfold cmpZ; split <;> (try split) <;> omega
end Go.Geo

/- plain law: the sign of a difference of two products: no program in sight -/
namespace Go.Geo
theorem sgn_cmp (n : Int) : cmpZ n 0 = sgn n := by unfold cmpZ sgn; split <;> (try split) <;> (try split) <;> omega
theorem mul_sgn (a b : Int) : ∃ P : Nat, P = a.natAbs * b.natAbs ∧ a * b = sgn a * sgn b * (P : Int) ∧ ((sgn a * sgn b = 1 ∧ 0 < P) ∨ (sgn a * sgn b = -1 ∧ 0 < P) ∨ (sgn a * sgn b = 0 ∧ P = 0)) := by
  refine ⟨_, rfl, ?_, ?_⟩
  · unfold sgn
    rw [Int.natCast_mul]
    split
    · rename_i h1
      have e1 : (a.natAbs : Int) = - a := by omega
      split
      · have e2 : (b.natAbs : Int) = - b := by omega
        rw [e1, e2]; grind
      · split
        · rename_i h2; subst h2; simp
        · have e2 : (b.natAbs : Int) = b := by omega
          rw [e1, e2]; grind
    · split
      · rename_i h2; subst h2; simp
      · have e1 : (a.natAbs : Int) = a := by omega
        split
        · have e2 : (b.natAbs : Int) = - b := by omega
          rw [e1, e2]; grind
        · split
          · rename_i h2; subst h2; simp
          · have e2 : (b.natAbs : Int) = b := by omega
            rw [e1, e2]; grind
  · have hp : a ≠ 0 → b ≠ 0 → 0 < a.natAbs * b.natAbs := fun h1 h2 => Nat.mul_pos (by omega) (by omega)
    unfold sgn
    by_cases h1 : a = 0
    · right; right; subst h1; simp
    · by_cases h2 : b = 0
      · right; right; subst h2; simp
      · have := hp h1 h2
        split <;> split <;> simp_all
/-- a product's sign, a product's size in two parts: what is less. -/
def signW (s t : Int) (P Q : Nat) : Int := if s = t then s * (if cmpZ (P / 18446744073709551616 : Nat) (Q / 18446744073709551616 : Nat) = 0 then cmpZ (P % 18446744073709551616 : Nat) (Q % 18446744073709551616 : Nat) else cmpZ (P / 18446744073709551616 : Nat) (Q / 18446744073709551616 : Nat)) else cmpZ s t
theorem cmp_parts (P Q : Nat) : (if cmpZ (P / 18446744073709551616 : Nat) (Q / 18446744073709551616 : Nat) = 0 then cmpZ (P % 18446744073709551616 : Nat) (Q % 18446744073709551616 : Nat) else cmpZ (P / 18446744073709551616 : Nat) (Q / 18446744073709551616 : Nat)) = cmpZ P Q := by
  unfold cmpZ
  have h1 := Nat.div_add_mod P 18446744073709551616
  have h2 := Nat.div_add_mod Q 18446744073709551616
  have h3 := Nat.mod_lt P (show 18446744073709551616 > 0 by decide)
  have h4 := Nat.mod_lt Q (show 18446744073709551616 > 0 by decide)
  generalize P / 18446744073709551616 = a at *
  generalize Q / 18446744073709551616 = b at *
  generalize P % 18446744073709551616 = c at *
  generalize Q % 18446744073709551616 = d at *
  split <;> split <;> (try split) <;> (try split) <;> (try split) <;> omega
theorem sign_law (a b c d : Int) : signW (sgn a * sgn b) (sgn c * sgn d) (a.natAbs * b.natAbs) (c.natAbs * d.natAbs) = sgn (a * b - c * d) := by
  obtain ⟨P, hP, e1, h1⟩ := mul_sgn a b
  obtain ⟨Q, hQ, e2, h2⟩ := mul_sgn c d
  rw [← hP, ← hQ, e1, e2]
  unfold signW
  rw [cmp_parts]
  rcases h1 with ⟨s, hp⟩ | ⟨s, hp⟩ | ⟨s, hp⟩ <;> rcases h2 with ⟨t, hq⟩ | ⟨t, hq⟩ | ⟨t, hq⟩ <;> rw [s, t] <;> unfold cmpZ sgn <;> (try simp only [Int.one_mul, Int.neg_mul, Int.zero_mul, if_true]) <;> (repeat' split) <;> omega
theorem take_more {α : Type} {l : List α} {d : α} {k : Nat} (h : k < l.length) : l.take (k + 1) = l.take k ++ [l.getD k d] := by
  rw [List.take_succ_eq_append_getElem h, getD_lt h]
/-- the least, the greatest of the first k, and of z. -/
def minK (f : Pt → Int) (z : Int) (l : List Pt) (k : Nat) : Int := (l.take k).foldl (fun z v => min z (f v)) z
def maxK (f : Pt → Int) (z : Int) (l : List Pt) (k : Nat) : Int := (l.take k).foldl (fun z v => max z (f v)) z
theorem minK_succ {f : Pt → Int} {z : Int} {l : List Pt} {k : Nat} (h : k < l.length) : minK f z l (k + 1) = min (minK f z l k) (f (l.getD k p0)) := by unfold minK; rw [take_more (d := p0) h]; simp
theorem maxK_succ {f : Pt → Int} {z : Int} {l : List Pt} {k : Nat} (h : k < l.length) : maxK f z l (k + 1) = max (maxK f z l k) (f (l.getD k p0)) := by unfold maxK; rw [take_more (d := p0) h]; simp
theorem bounds_fold {l : List Pt} (h0 : 0 < l.length) (hv : l.all validP = true) : boundsP l = some (⟨minK Pt.x (l.getD 0 p0).x l l.length, minK Pt.y (l.getD 0 p0).y l l.length⟩, ⟨maxK Pt.x (l.getD 0 p0).x l l.length + 1, maxK Pt.y (l.getD 0 p0).y l l.length + 1⟩) := by
  cases l with
  | nil => simp at h0
  | cons a m =>
    unfold boundsP minK maxK
    simp only
    rw [if_pos hv]
    simp
theorem bounds_none {l : List Pt} (h : l.all validP = false ∨ l.length = 0) : boundsP l = none := by
  cases l with
  | nil => rfl
  | cons a m =>
    rcases h with h | h
    · unfold boundsP
      simp only
      rw [if_neg (by rw [h]; simp)]
    · simp at h
theorem sumLen_append (g h : List (List Pt)) : sumLen (g ++ h) = sumLen g + sumLen h := by unfold sumLen; simp
theorem sumLen_take {g : List (List Pt)} {k : Nat} (h : k < g.length) : sumLen (g.take (k + 1)) = sumLen (g.take k) + (g.getD k []).length := by
  rw [take_more (d := []) h, sumLen_append]
  simp [sumLen]
theorem sumLen_get {g : List (List Pt)} {k : Nat} (h : k < g.length) : (g.getD k []).length ≤ sumLen g := by
  have h1 := sumLen_take h
  have h2 : sumLen (g.take (k + 1)) ≤ sumLen g := by
    have := sumLen_append (g.take (k + 1)) (g.drop (k + 1))
    rw [List.take_append_drop] at this
    omega
  omega
theorem sumLen_flatten : ∀ g : List (List Pt), g.flatten.length = sumLen g
  | [] => rfl
  | r :: g => by rw [List.flatten_cons, List.length_append, sumLen_flatten g]; simp [sumLen]
end Go.Geo

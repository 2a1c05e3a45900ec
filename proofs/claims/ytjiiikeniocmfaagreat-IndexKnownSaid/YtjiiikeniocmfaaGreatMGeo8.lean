/- plain law: counts, rings turned about, normal forms: no program in sight -/
import Derived.Test.YtjiiikeniocmfaaGreatMQPts
namespace Go.Geo
/-- of how many numbers below n f is so. -/
def cntB : Nat → (Nat → Bool) → Nat
  | 0, _ => 0
  | n + 1, f => cntB n f + (if f n then 1 else 0)
theorem cntB_front : ∀ (n : Nat) (f : Nat → Bool), cntB (n + 1) f = (if f 0 then 1 else 0) + cntB n (fun i => f (i + 1))
  | 0, f => by simp [cntB]
  | n + 1, f => by
    rw [cntB, cntB_front n f, cntB]
    omega
theorem cntB_congr {f g : Nat → Bool} : ∀ (n : Nat), (∀ i, i < n → f i = g i) → cntB n f = cntB n g
  | 0, _ => rfl
  | n + 1, h => by rw [cntB, cntB, cntB_congr n (fun i hi => h i (by omega)), h n (by omega)]
theorem cntB_le (f : Nat → Bool) : ∀ n, cntB n f ≤ n
  | 0 => Nat.le_refl _
  | n + 1 => by have := cntB_le f n; rw [cntB]; split <;> omega
def oddB (n : Nat) : Bool := decide (n % 2 = 1)
theorem oddB_add (m n : Nat) : oddB (m + n) = (oddB m ^^ oddB n) := by
  unfold oddB
  have h1 := Nat.mod_two_eq_zero_or_one m
  have h2 := Nat.mod_two_eq_zero_or_one n
  rcases h1 with h1 | h1 <;> rcases h2 with h2 | h2 <;> simp [h1, h2, Nat.add_mod]
theorem oddB_ite (b : Bool) : oddB (if b then 1 else 0) = b := by cases b <;> rfl
theorem xorP_cnt {f : Pt → Pt → Bool} : ∀ (l : List Pt) (a : Pt), xorP f a l = oddB (cntB l.length (fun i => f ((a :: l).getD i p0) ((a :: l).getD (i + 1) p0)))
  | [], a => rfl
  | b :: l, a => by
    rw [xorP, xorP_cnt l b, List.length_cons, cntB_front, oddB_add, oddB_ite]
    rfl
theorem lastP_getD : ∀ (l : List Pt) (a : Pt), lastP a l = (a :: l).getD l.length p0
  | [], a => rfl
  | b :: l, a => by rw [lastP_cons, lastP_getD l b]; rfl
/-- how many edges count. -/
def countK (p : Pt) (l : List Pt) : Nat := cntB l.length (fun i => countsP p (l.getD i p0) (atP l (i + 1)))
theorem inP_count (p : Pt) (l : List Pt) : inP p l = oddB (countK p l) := by
  cases l with
  | nil => rfl
  | cons a m =>
    show xorP (countsP p) (lastP a m) (a :: m) = _
    rw [xorP, xorP_cnt]
    unfold countK
    rw [List.length_cons, cntB, oddB_add, oddB_ite]
    have e1 : atP (a :: m) (m.length + 1) = a := by unfold atP; simp
    rw [e1, ← lastP_getD, Bool.xor_comm]
    congr 1
    congr 1
    refine cntB_congr _ fun i hi => ?_
    rw [atP_lt (by simp; omega)]
/-- one list is the other, turned about. -/
def IsRot {α : Type} (a b : List α) : Prop := ∃ x y, a = x ++ y ∧ b = y ++ x
theorem IsRot.refl {α : Type} (a : List α) : IsRot a a := ⟨a, [], by simp, by simp⟩
theorem IsRot.symm {α : Type} {a b : List α} (h : IsRot a b) : IsRot b a := by obtain ⟨x, y, h1, h2⟩ := h; exact ⟨y, x, h2, h1⟩
theorem IsRot.trans {α : Type} {a b c : List α} (h : IsRot a b) (k : IsRot b c) : IsRot a c := by
  obtain ⟨x, y, rfl, rfl⟩ := h
  obtain ⟨u, v, h1, rfl⟩ := k
  rcases List.append_eq_append_iff.1 h1 with ⟨z, rfl, rfl⟩ | ⟨z, rfl, rfl⟩
  · exact ⟨z, v ++ y, by simp_all, by simp_all⟩
  · exact ⟨x ++ u, z, by simp, by simp⟩
theorem IsRot.reverse {α : Type} {a b : List α} (h : IsRot a b) : IsRot a.reverse b.reverse := by
  obtain ⟨x, y, rfl, rfl⟩ := h
  exact ⟨y.reverse, x.reverse, by simp, by simp⟩
theorem IsRot.perm {α : Type} {a b : List α} (h : IsRot a b) : a.Perm b := by obtain ⟨x, y, rfl, rfl⟩ := h; exact List.perm_append_comm
theorem IsRot.head {α : Type} {v : α} {a b : List α} (h : IsRot (v :: a) (v :: b)) (hn : (v :: a).Nodup) : a = b := by
  obtain ⟨x, y, h1, h2⟩ := h
  cases x with
  | nil => simp at h1 h2; rw [← h1] at h2; exact (List.cons.inj h2).2.symm
  | cons c x =>
    cases y with
    | nil => simp at h1 h2; rw [h1.2, h2.2]
    | cons d y =>
      exfalso
      simp only [List.cons_append, List.cons.injEq] at h1 h2
      obtain ⟨rfl, rfl⟩ := h1
      obtain ⟨rfl, _⟩ := h2
      simp at hn
/-- turned about from a place on. -/
def rotP (l : List Pt) (i : Nat) : List Pt := l.drop i ++ l.take i
theorem rotP_rot (l : List Pt) (i : Nat) : IsRot (rotP l i) l := ⟨_, _, rfl, (List.take_append_drop i l).symm⟩
/-- the order of points: by the height, then across. -/
def lessP (a b : Pt) : Prop := a.y < b.y ∨ (a.y = b.y ∧ a.x < b.x)
instance (a b : Pt) : Decidable (lessP a b) := by unfold lessP; infer_instance
theorem lessP_trans {a b c : Pt} (h : lessP a b) (k : lessP b c) : lessP a c := by unfold lessP at *; omega
theorem lessP_irrefl (a : Pt) : ¬ lessP a a := by unfold lessP; omega
theorem Pt.ext' {a b : Pt} (h1 : a.x = b.x) (h2 : a.y = b.y) : a = b := by cases a; cases b; simp_all
theorem lessP_total (a b : Pt) : lessP a b ∨ a = b ∨ lessP b a := by
  by_cases h1 : a.x = b.x
  · by_cases h2 : a.y = b.y
    · exact .inr (.inl (Pt.ext' h1 h2))
    · unfold lessP; omega
  · unfold lessP; omega
/-- the place of the least point: of the first i. -/
def leastK (l : List Pt) : Nat → Nat
  | 0 => 0
  | i + 1 => if lessP (l.getD i p0) (l.getD (leastK l i) p0) then i else leastK l i
theorem leastK_spec (l : List Pt) : ∀ i, (0 < i → leastK l i < i) ∧ ∀ j, j < i → ¬ lessP (l.getD j p0) (l.getD (leastK l i) p0)
  | 0 => ⟨fun h => absurd h (by omega), fun j h => absurd h (by omega)⟩
  | i + 1 => by
    obtain ⟨h1, h2⟩ := leastK_spec l i
    rw [leastK]
    split
    · rename_i h
      refine ⟨fun _ => by omega, fun j hj hl => ?_⟩
      by_cases hji : j < i
      · exact h2 j hji (lessP_trans hl h)
      · obtain rfl : j = i := by omega
        exact lessP_irrefl _ hl
    · rename_i h
      refine ⟨fun _ => ?_, fun j hj hl => ?_⟩
      · by_cases hi : 0 < i
        · have := h1 hi; omega
        · obtain rfl : i = 0 := by omega
          rw [leastK]; omega
      · by_cases hji : j < i
        · exact h2 j hji hl
        · obtain rfl : j = i := by omega
          exact h hl
def leastP (l : List Pt) : Nat := leastK l l.length
theorem leastP_lt {l : List Pt} (h : 0 < l.length) : leastP l < l.length := (leastK_spec l l.length).1 h
/-- turned about, its least point ahead. -/
def leadP (l : List Pt) : List Pt := rotP l (leastP l)
theorem leadP_rot (l : List Pt) : IsRot (leadP l) l := rotP_rot _ _
theorem leadP_cons {l : List Pt} (h : 0 < l.length) : ∃ m, leadP l = l.getD (leastP l) p0 :: m := by
  unfold leadP rotP
  rw [List.drop_eq_getElem_cons (leastP_lt h)]
  refine ⟨List.drop (leastP l + 1) l ++ List.take (leastP l) l, ?_⟩
  rw [List.getD_eq_getElem?_getD, List.getElem?_eq_getElem (leastP_lt h)]
  rfl
theorem least_min {l : List Pt} {v : Pt} (h : v ∈ l) : ¬ lessP v (l.getD (leastP l) p0) := by
  obtain ⟨i, hi, rfl⟩ := List.mem_iff_getElem.1 h
  have := (leastK_spec l l.length).2 i hi
  rwa [List.getD_eq_getElem?_getD, List.getElem?_eq_getElem hi] at this
theorem least_mem {l : List Pt} (h : 0 < l.length) : l.getD (leastP l) p0 ∈ l := by
  rw [List.getD_eq_getElem?_getD, List.getElem?_eq_getElem (leastP_lt h)]
  exact List.getElem_mem _
/-- the same points have the same least one. -/
theorem least_same {a b : List Pt} (h : a.Perm b) (h0 : 0 < a.length) : a.getD (leastP a) p0 = b.getD (leastP b) p0 := by
  have hb : 0 < b.length := by rw [← h.length_eq]; exact h0
  have h1 := least_min (h.symm.mem_iff.1 (least_mem hb))
  have h2 := least_min (h.mem_iff.1 (least_mem h0))
  rcases lessP_total (a.getD (leastP a) p0) (b.getD (leastP b) p0) with h | h | h
  · exact absurd h h2
  · exact h
  · exact absurd h h1
theorem lead_same {a b : List Pt} (h : IsRot a b) (hn : a.Nodup) : leadP a = leadP b := by
  by_cases h0 : 0 < a.length
  · obtain ⟨m, hm⟩ := leadP_cons h0
    obtain ⟨m', hm'⟩ := leadP_cons (l := b) (by rw [← h.perm.length_eq]; exact h0)
    have hr := ((leadP_rot a).trans h).trans (leadP_rot b).symm
    rw [hm, hm', ← least_same h.perm h0] at hr
    have := hr.head (by rw [← hm]; exact (leadP_rot a).perm.nodup_iff.2 hn)
    rw [hm, hm', ← least_same h.perm h0, this]
  · have ha : a = [] := List.eq_nil_of_length_eq_zero (by omega)
    subst ha
    have : b = [] := List.eq_nil_of_length_eq_zero (by rw [← h.perm.length_eq]; rfl)
    subst this
    rfl
/-- the other way round, the first point ahead. -/
def flipP : List Pt → List Pt
  | [] => []
  | v :: m => v :: m.reverse
theorem flipP_flip (l : List Pt) : flipP (flipP l) = l := by cases l <;> simp [flipP]
theorem flipP_rot (l : List Pt) : IsRot (flipP l) l.reverse := by
  cases l with
  | nil => exact IsRot.refl _
  | cons v m => exact ⟨[v], m.reverse, by simp [flipP], by simp⟩
theorem lead_reverse {l : List Pt} (hn : l.Nodup) : leadP l.reverse = flipP (leadP l) := by
  by_cases h0 : 0 < l.length
  · obtain ⟨m, hm⟩ := leadP_cons h0
    obtain ⟨m', hm'⟩ := leadP_cons (l := l.reverse) (by simpa using h0)
    have e := least_same (List.reverse_perm l) (by simpa using h0)
    have hr : IsRot (leadP l.reverse) (flipP (leadP l)) := ((leadP_rot _).trans (leadP_rot l).symm.reverse).trans (flipP_rot _).symm
    rw [hm, hm', e] at hr ⊢
    have := IsRot.head (a := m') (b := m.reverse) hr (by
      have : (leadP l.reverse).Nodup := (leadP_rot _).perm.nodup_iff.2 ((List.reverse_perm l).nodup_iff.2 hn)
      rw [hm', e] at this
      exact this)
    rw [this]
    rfl
  · have : l = [] := List.eq_nil_of_length_eq_zero (by omega)
    subst this
    rfl
/-- the way round of a list that its least point leads. -/
def wayP : List Pt → Int
  | [] => 0
  | v :: m => turnP (lastP v m) v (m.headD v)
theorem turnP_swap (a v b : Pt) : turnP b v a = - turnP a v b := by
  unfold turnP
  have e : area b v a = - area a v b := by unfold area; grind
  rw [e]
  by_cases ha : validP a <;> by_cases hb : validP b <;> by_cases hv : validP v <;> simp [ha, hb, hv]
  unfold sgn
  split <;> split <;> (try split) <;> (try split) <;> omega
theorem wayP_flip (l : List Pt) : wayP (flipP l) = - wayP l := by
  cases l with
  | nil => rfl
  | cons v m =>
    cases m with
    | nil =>
      show turnP v v v = - turnP v v v
      exact turnP_swap v v v
    | cons b m =>
      show turnP (lastP v (b :: m).reverse) v ((b :: m).reverse.headD v) = - turnP (lastP v (b :: m)) v b
      rw [← turnP_swap]
      have e1 : lastP v (b :: m).reverse = b := by rw [List.reverse_cons, lastP_append]
      have e2 : (b :: m).reverse.headD v = lastP v (b :: m) := by
        unfold lastP
        rw [List.headD_eq_head?_getD, List.head?_reverse, List.getLastD_eq_getLast?]
      rw [e1, e2]
/-- which way round a ring goes. -/
def signP (l : List Pt) : Int := if (ringCheckP l).1 ≠ 0 then 0 else turnP (atP l (leastP l + l.length - 1)) (l.getD (leastP l) p0) (atP l (leastP l + 1))
theorem sign_way {l : List Pt} (h : (ringCheckP l).1 = 0) : signP l = wayP (leadP l) := by
  have h3 := (ring_ok h).1
  unfold signP
  rw [if_neg (by omega)]
  have gt : ∀ k, k < l.length → leadP l = rotP l k → turnP (atP l (k + l.length - 1)) (l.getD k p0) (atP l (k + 1)) = wayP (leadP l) := by
    intro k hk e
    rw [e]
    unfold rotP
    rw [List.drop_eq_getElem_cons hk]
    have e0 : l.getD k p0 = l[k] := by rw [List.getD_eq_getElem?_getD, List.getElem?_eq_getElem hk]; rfl
    rw [e0, List.cons_append]
    show _ = turnP (lastP l[k] (List.drop (k + 1) l ++ List.take k l)) l[k] ((List.drop (k + 1) l ++ List.take k l).headD l[k])
    have e1 : atP l (k + 1) = (List.drop (k + 1) l ++ List.take k l).headD l[k] := by
      rw [List.headD_eq_head?_getD, List.head?_eq_getElem?]
      unfold atP
      by_cases hk1 : k + 1 < l.length
      · rw [Nat.mod_eq_of_lt hk1, List.getElem?_append_left (by simp; omega), List.getElem?_drop, List.getD_eq_getElem?_getD, Nat.add_zero, List.getElem?_eq_getElem hk1]
        rfl
      · have : k + 1 = l.length := by omega
        rw [this, Nat.mod_self, List.drop_length, List.nil_append, List.getElem?_take, if_pos (by omega), List.getD_eq_getElem?_getD, List.getElem?_eq_getElem (by omega)]
        rfl
    have e2 : atP l (k + l.length - 1) = lastP l[k] (List.drop (k + 1) l ++ List.take k l) := by
      unfold lastP
      rw [List.getLastD_eq_getLast?, List.getLast?_eq_getElem?]
      have hlen : (List.drop (k + 1) l ++ List.take k l).length = l.length - 1 := by simp; omega
      rw [hlen]
      unfold atP
      by_cases hk0 : 0 < k
      · have : (k + l.length - 1) % l.length = k - 1 := by
          rw [show k + l.length - 1 = k - 1 + l.length by omega, Nat.add_mod_right, Nat.mod_eq_of_lt (by omega)]
        rw [this, List.getElem?_append_right (by simp; omega), List.length_drop, List.getElem?_take, if_pos (by omega), List.getD_eq_getElem?_getD]
        rw [show l.length - 1 - 1 - (l.length - (k + 1)) = k - 1 by omega, List.getElem?_eq_getElem (by omega)]
        rfl
      · obtain rfl : k = 0 := by omega
        have : (0 + l.length - 1) % l.length = l.length - 1 := Nat.mod_eq_of_lt (by omega) |>.trans (by omega)
        rw [this, List.getElem?_append_left (by simp; omega), List.getElem?_drop, List.getD_eq_getElem?_getD]
        rw [show 0 + 1 + (l.length - 1 - 1) = l.length - 1 by omega, List.getElem?_eq_getElem (by omega)]
        rfl
    rw [e1, e2]
  exact gt _ (leastP_lt (by omega)) rfl
end Go.Geo

/- plain law: when two rings, two regions are the same: no program in sight -/
namespace Go.Geo
theorem getD_lt {α : Type} {l : List α} {d : α} {i : Nat} (h : i < l.length) : l.getD i d = l[i] := by rw [List.getD_eq_getElem?_getD, List.getElem?_eq_getElem h]; rfl
/-- what a ring that may be is. -/
theorem ring_all {l : List Pt} (h : (ringCheckP l).1 = 0) : (∀ i, i < l.length → twiceP l i = false) ∧ (∀ i, i < l.length → backP l i = false) ∧ ∀ i, i < l.length → meetsP l i = false := by
  unfold ringCheckP at h
  split at h
  · cases h
  · split at h
    · cases h
    · split at h
      · cases h
      · split at h
        · cases h
        · rename_i h1
          split at h
          · cases h
          · rename_i h2
            split at h
            · cases h
            · rename_i h3
              exact ⟨firstP_eq_none h1, firstP_eq_none h2, firstP_eq_none h3⟩
theorem nodup_of_twice {l : List Pt} (h : ∀ i, i < l.length → twiceP l i = false) : l.Nodup := by
  unfold List.Nodup
  rw [List.pairwise_iff_getElem]
  intro i j hi hj hij e
  have := h j hj
  unfold twiceP at this
  rw [getD_lt hj] at this
  have hm : l[j] ∈ l.take j := by
    rw [← e, List.mem_iff_getElem]
    exact ⟨i, by simp; omega, by simp⟩
  simp [hm] at this
theorem ring_nodup {l : List Pt} (h : (ringCheckP l).1 = 0) : l.Nodup := nodup_of_twice (ring_all h).1
theorem atP_mem {l : List Pt} {i : Nat} (h : 0 < l.length) : atP l i ∈ l := by
  unfold atP
  rw [getD_lt (Nat.mod_lt _ h)]
  exact List.getElem_mem _
theorem least_off {p a b : Pt} (h : onP p a b = true) (ha : ¬ lessP a p) (hb : ¬ lessP b p) (na : a ≠ p) (nb : b ≠ p) : False := by
  unfold onP at h
  simp only [Bool.and_eq_true, decide_eq_true_eq, betw] at h
  obtain ⟨⟨⟨⟨⟨vp, va⟩, vb⟩, h1, h2⟩, h3, h4⟩, h5⟩ := h
  unfold turnP at h5
  rw [va, vb, vp] at h5
  simp only [Bool.and_self, if_true] at h5
  rw [sgn_zero] at h5
  unfold lessP at ha hb
  have e : area a b p = (p.y - a.y) * (b.x - p.x) + (b.y - p.y) * (a.x - p.x) := area_low a b p
  rw [e] at h5
  have key : ∀ a b : Pt, a.y = p.y → p.y < b.y → (p.y - a.y) * (b.x - p.x) + (b.y - p.y) * (a.x - p.x) = 0 → a.x = p.x := by
    intro a b e1 e2 h
    rw [e1, Int.sub_self, Int.zero_mul, Int.zero_add, Int.mul_eq_zero] at h
    omega
  rcases lessP_total a b with h | h | h
  · unfold lessP at h
    by_cases hab : a.y < b.y
    · have e1 : a.y = p.y := by omega
      exact na (Pt.ext' (key a b e1 (by omega) h5) e1)
    · have e1 : a.y = p.y := by omega
      have e2 : b.y = p.y := by omega
      exact na (Pt.ext' (by omega) e1)
  · subst h
    exact na (Pt.ext' (by omega) (by omega))
  · unfold lessP at h
    by_cases hab : b.y < a.y
    · have e1 : b.y = p.y := by omega
      exact nb (Pt.ext' (key b a e1 (by omega) (by rw [Int.add_comm] at h5; have e3 : (a.y - p.y) * (b.x - p.x) = -((p.y - a.y) * (b.x - p.x)) := by rw [← Int.neg_mul]; congr 1; omega
                                                   have e4 : (p.y - b.y) * (a.x - p.x) = -((b.y - p.y) * (a.x - p.x)) := by rw [← Int.neg_mul]; congr 1; omega
                                                   omega)) e1)
    · have e1 : a.y = p.y := by omega
      have e2 : b.y = p.y := by omega
      exact nb (Pt.ext' (by omega) e2)
theorem atP_ne {l : List Pt} {k j : Nat} (hn : l.Nodup) (hk : k < l.length) (hj : j % l.length ≠ k) : atP l j ≠ l.getD k p0 := by
  unfold atP
  have hjl : j % l.length < l.length := Nat.mod_lt _ (by omega)
  rw [getD_lt hjl, getD_lt hk]
  intro e
  exact hj ((List.getElem_inj hn).1 e)
theorem sign_ne {l : List Pt} (h : (ringCheckP l).1 = 0) : signP l ≠ 0 := by
  have h3 := (ring_ok h).1
  have hk := leastP_lt (l := l) (by omega)
  have hb := (ring_all h).2.1 _ hk
  unfold signP
  rw [if_neg (by omega)]
  intro e
  unfold backP at hb
  rw [e] at hb
  simp only [decide_true, Bool.true_and, Bool.not_eq_false'] at hb
  refine least_off hb (least_min (atP_mem (by omega))) (least_min (atP_mem (by omega))) (atP_ne (ring_nodup h) hk ?_) (atP_ne (ring_nodup h) hk ?_)
  · by_cases h0 : 0 < leastP l
    · rw [show leastP l + l.length - 1 = leastP l - 1 + l.length by omega, Nat.add_mod_right, Nat.mod_eq_of_lt (by omega)]; omega
    · rw [Nat.mod_eq_of_lt (by omega)]; omega
  · by_cases h0 : leastP l + 1 < l.length
    · rw [Nat.mod_eq_of_lt h0]; omega
    · rw [show leastP l + 1 = l.length by omega, Nat.mod_self]; omega
/-- the normal form of a ring that may be. -/
def normP (l : List Pt) : Option (List Pt) := if signP l = 0 then none else if signP l = -1 then some (leadP l.reverse) else some (leadP l)
/-- are rings the same, the one turned about, or back? -/
def sameP (a b : List Pt) : Bool := decide ((ringCheckP a).1 = 0) && decide ((ringCheckP b).1 = 0) && decide (a.length = b.length) && ((List.range b.length).any (fun i => decide (a = rotP b i)) || (List.range b.length).any (fun i => decide (a = rotP b.reverse i)))
theorem rot_any {a b : List Pt} (hb : 0 < b.length) : (List.range b.length).any (fun i => decide (a = rotP b i)) = true ↔ IsRot a b := by
  rw [List.any_eq_true]
  constructor
  · rintro ⟨i, _, h⟩
    rw [of_decide_eq_true h]
    exact rotP_rot b i
  · rintro ⟨x, y, rfl, rfl⟩
    by_cases hx : 0 < x.length
    · refine ⟨y.length, List.mem_range.2 (by simp; omega), ?_⟩
      simp [rotP]
    · have : x = [] := List.eq_nil_of_length_eq_zero (by omega)
      subst this
      refine ⟨0, List.mem_range.2 hb, ?_⟩
      simp [rotP]
theorem sign_cases {l : List Pt} (h : (ringCheckP l).1 = 0) : signP l = 1 ∨ signP l = -1 := by
  have := sign_ne h
  have h2 : signP l = -1 ∨ signP l = 0 ∨ signP l = 1 := by
    unfold signP
    rw [if_neg (by omega)]
    exact turnP_range _ _ _
  omega
theorem norm_eq {l : List Pt} (h : (ringCheckP l).1 = 0) : normP l = some (if signP l = -1 then flipP (leadP l) else leadP l) := by
  unfold normP
  rw [if_neg (sign_ne h), lead_reverse (ring_nodup h)]
  split <;> rfl
theorem lead_rot_iff {a b : List Pt} (ha : a.Nodup) : IsRot a b ↔ leadP a = leadP b :=
  ⟨fun h => lead_same h ha, fun h => ((leadP_rot a).symm.trans (by rw [h]; exact IsRot.refl _)).trans (leadP_rot b)⟩
theorem same_norm {a b : List Pt} (ha : (ringCheckP a).1 = 0) (hb : (ringCheckP b).1 = 0) : sameP a b = true ↔ normP a = normP b := by
  have na := ring_nodup ha
  have nb := ring_nodup hb
  have la := (ring_ok ha).1
  have lb := (ring_ok hb).1
  have hw := sign_way ha
  have hv := sign_way hb
  have key : (IsRot a b ∨ IsRot a b.reverse) ↔ normP a = normP b := by
    rw [norm_eq ha, norm_eq hb, Option.some.injEq, lead_rot_iff na, lead_rot_iff na, lead_reverse nb]
    have ca := sign_cases ha
    have cb := sign_cases hb
    rw [hw] at ca ⊢
    rw [hv] at cb ⊢
    generalize leadP a = x at *
    generalize leadP b = y at *
    have wf := wayP_flip y
    have wf2 := wayP_flip x
    constructor
    · rintro (h | h)
      · subst h; rfl
      · subst h
        rw [flipP_flip]
        rcases cb with cb | cb
        · rw [if_pos (by omega), if_neg (by omega)]
        · rw [if_neg (by omega), if_pos (by omega)]
    · intro h
      split at h <;> split at h
      · left
        have := congrArg flipP h
        rwa [flipP_flip, flipP_flip] at this
      · right
        rw [← h, flipP_flip]
      · right; exact h
      · left; exact h
  rw [← key]
  unfold sameP
  rw [ha, hb]
  simp only [decide_true, Bool.true_and, Bool.and_eq_true, decide_eq_true_eq, Bool.or_eq_true]
  rw [rot_any (by omega)]
  have : (List.range b.length).any (fun i => decide (a = rotP b.reverse i)) = true ↔ IsRot a b.reverse := by
    have := rot_any (a := a) (b := b.reverse) (by simp; omega)
    rwa [List.length_reverse] at this
  rw [this]
  constructor
  · exact fun h => h.2
  · intro h
    refine ⟨?_, h⟩
    rcases h with h | h
    · exact h.perm.length_eq
    · rw [h.perm.length_eq, List.length_reverse]
/-- those of a list that are not used. -/
def leftP {α : Type} : List Bool → List α → List α
  | false :: u, b :: l => b :: leftP u l
  | true :: u, _ :: l => leftP u l
  | _, _ => []
theorem leftP_set {α : Type} (d : α) : ∀ (u : List Bool) (l : List α) (k : Nat), u.length = l.length → k < l.length → u.getD k true = false → (leftP u l).Perm (l.getD k d :: leftP (u.set k true) l)
  | [], [], k, _, h, _ => by simp at h
  | c :: u, b :: l, 0, _, _, h => by
    have : c = false := by simpa using h
    subst this
    exact List.Perm.refl _
  | c :: u, b :: l, k + 1, hl, hk, h => by
    have ih := leftP_set d u l k (by simpa using hl) (by simpa using hk) (by simpa using h)
    cases c with
    | true => exact ih
    | false => exact (List.Perm.cons b ih).trans (List.Perm.swap _ _ _)
theorem leftP_mem {α : Type} {x : α} : ∀ (u : List Bool) (l : List α), x ∈ leftP u l → ∃ k, k < l.length ∧ u.getD k true = false ∧ l[k]? = some x
  | [], [], h => by simp [leftP] at h
  | [], _ :: _, h => by simp [leftP] at h
  | _ :: _, [], h => by
    rename_i c u
    cases c <;> simp [leftP] at h
  | c :: u, b :: l, h => by
    cases c with
    | true =>
      obtain ⟨k, h1, h2, h3⟩ := leftP_mem u l h
      exact ⟨k + 1, by simp; omega, by simpa using h2, by simpa using h3⟩
    | false =>
      rcases List.mem_cons.1 h with rfl | h
      · exact ⟨0, by simp, rfl, rfl⟩
      · obtain ⟨k, h1, h2, h3⟩ := leftP_mem u l h
        exact ⟨k + 1, by simp; omega, by simpa using h2, by simpa using h3⟩
theorem leftP_none {α : Type} : ∀ (l : List α), leftP (List.replicate l.length false) l = l
  | [] => rfl
  | b :: l => by
    show b :: leftP (List.replicate l.length false) l = b :: l
    rw [leftP_none l]
/-- each ring has one of the others that is the same, each for one: the first that serves. -/
def matchP (b : List (List Pt)) : List (List Pt) → List Bool → Bool
  | [], _ => true
  | x :: a, u => match firstP b.length (fun k => !u.getD k true && sameP x (b.getD k [])) with
    | none => false
    | some k => matchP b a (u.set k true)
theorem match_perm {b : List (List Pt)} (hb : ∀ r ∈ b, (ringCheckP r).1 = 0) : ∀ (a : List (List Pt)) (u : List Bool), (∀ r ∈ a, (ringCheckP r).1 = 0) → u.length = b.length → (leftP u b).length = a.length → (matchP b a u = true ↔ (a.map normP).Perm ((leftP u b).map normP))
  | [], u, _, _, hl => by
    have : leftP u b = [] := List.eq_nil_of_length_eq_zero hl
    rw [this]
    simp [matchP]
  | x :: a, u, ha, hu, hl => by
    have hx := ha x (by simp)
    unfold matchP
    split
    · rename_i hn
      constructor
      · intro h; cases h
      · intro h
        exfalso
        have : normP x ∈ (leftP u b).map normP := h.mem_iff.1 (by simp)
        obtain ⟨y, hy, e⟩ := List.mem_map.1 this
        obtain ⟨k, h1, h2, h3⟩ := leftP_mem u b hy
        have := firstP_eq_none hn k h1
        rw [h2, getD_lt h1] at this
        have hk : b[k] = y := by rw [List.getElem?_eq_getElem h1] at h3; exact Option.some.inj h3
        rw [hk, (same_norm hx (hb y (by rw [← hk]; exact List.getElem_mem _))).2 e.symm] at this
        cases this
    · rename_i k hk
      obtain ⟨h1, h2, _⟩ := firstP_eq_some hk
      simp only [Bool.and_eq_true, Bool.not_eq_true'] at h2
      have hp := leftP_set [] u b k hu h1 h2.1
      have hm : b.getD k [] ∈ b := by rw [getD_lt h1]; exact List.getElem_mem _
      have hs := (same_norm hx (hb _ hm)).1 h2.2
      have ih := match_perm hb a (u.set k true) (fun r hr => ha r (by simp [hr])) (by simpa using hu) (by have := hp.length_eq; simp at this hl; omega)
      rw [ih]
      have hp2 := hp.map normP
      rw [List.map_cons, ← hs] at hp2
      rw [List.map_cons]
      constructor
      · intro h; exact (List.Perm.cons _ h).trans hp2.symm
      · intro h; exact (h.trans hp2).cons_inv
end Go.Geo

/- plain law: rings in order; when two regions are the same: no program in sight -/
namespace Go.Geo
def cmpZ (a b : Int) : Int := if a < b then -1 else if b < a then 1 else 0
theorem cmpZ_zero {a b : Int} : cmpZ a b = 0 ↔ a = b := by unfold cmpZ; split <;> (try split) <;> omega
theorem cmpZ_lt {a b : Int} : cmpZ a b < 0 ↔ a < b := by unfold cmpZ; split <;> (try split) <;> omega
/-- point.Compare: by the height, then across. -/
def compP (a b : Pt) : Int := if cmpZ a.y b.y ≠ 0 then cmpZ a.y b.y else cmpZ a.x b.x
theorem compP_lt {a b : Pt} : compP a b < 0 ↔ lessP a b := by
  unfold compP lessP
  split
  · rename_i h
    rw [ne_eq, cmpZ_zero] at h
    rw [cmpZ_lt]; omega
  · rename_i h
    rw [ne_eq, Decidable.not_not, cmpZ_zero] at h
    rw [cmpZ_lt]; omega
theorem compP_zero {a b : Pt} : compP a b = 0 ↔ a = b := by
  unfold compP
  split
  · rename_i h
    rw [ne_eq, cmpZ_zero] at h
    rw [cmpZ_zero]
    exact ⟨fun e => absurd e h, fun e => by rw [e]⟩
  · rename_i h
    rw [ne_eq, Decidable.not_not, cmpZ_zero] at h
    rw [cmpZ_zero]
    exact ⟨fun e => Pt.ext' e h, fun e => by rw [e]⟩
/-- slices.CompareFunc: the first that differ say it; what is shorter is ahead. -/
def cmpL : List Pt → List Pt → Int
  | [], [] => 0
  | [], _ :: _ => -1
  | _ :: _, [] => 1
  | a :: l, b :: m => if compP a b ≠ 0 then compP a b else cmpL l m
theorem cmpL_zero : ∀ {l m : List Pt}, cmpL l m = 0 ↔ l = m
  | [], [] => by simp [cmpL]
  | [], _ :: _ => by simp [cmpL]
  | _ :: _, [] => by simp [cmpL]
  | a :: l, b :: m => by
    unfold cmpL
    split
    · rename_i h
      constructor
      · intro e; exact absurd e h
      · intro e; rw [(List.cons.inj e).1] at h; exact absurd (compP_zero.2 rfl) h
    · rename_i h
      rw [ne_eq, Decidable.not_not, compP_zero] at h
      rw [cmpL_zero, h]
      simp
/-- ahead of. -/
def lessL : List Pt → List Pt → Prop
  | _, [] => False
  | [], _ :: _ => True
  | a :: l, b :: m => lessP a b ∨ (a = b ∧ lessL l m)
theorem cmpL_lt : ∀ {l m : List Pt}, cmpL l m < 0 ↔ lessL l m
  | [], [] => by simp [cmpL, lessL]
  | [], _ :: _ => by simp [cmpL, lessL]
  | _ :: _, [] => by simp [cmpL, lessL]
  | a :: l, b :: m => by
    unfold cmpL lessL
    split
    · rename_i h
      rw [compP_lt]
      constructor
      · exact .inl
      · rintro (h2 | ⟨h2, _⟩)
        · exact h2
        · exact absurd (compP_zero.2 h2) h
    · rename_i h
      rw [ne_eq, Decidable.not_not, compP_zero] at h
      subst h
      rw [cmpL_lt]
      constructor
      · intro h; exact .inr ⟨rfl, h⟩
      · rintro (h2 | ⟨_, h2⟩)
        · exact absurd h2 (lessP_irrefl _)
        · exact h2
theorem lessL_irrefl : ∀ l : List Pt, ¬ lessL l l
  | [], h => h
  | a :: l, h => by
    rcases h with h | ⟨_, h⟩
    · exact lessP_irrefl _ h
    · exact lessL_irrefl l h
theorem lessL_trans : ∀ {a b c : List Pt}, lessL a b → lessL b c → lessL a c
  | _, [], _, h, _ => by simp [lessL] at h
  | _, _ :: _, [], _, h => by simp [lessL] at h
  | [], _ :: _, _ :: _, _, _ => trivial
  | x :: a, y :: b, z :: c, h, k => by
    rcases h with h | ⟨rfl, h⟩ <;> rcases k with k | ⟨rfl, k⟩
    · exact .inl (lessP_trans h k)
    · exact .inl h
    · exact .inl k
    · exact .inr ⟨rfl, lessL_trans h k⟩
theorem lessL_total : ∀ a b : List Pt, lessL a b ∨ a = b ∨ lessL b a
  | [], [] => .inr (.inl rfl)
  | [], _ :: _ => .inl trivial
  | _ :: _, [] => .inr (.inr trivial)
  | x :: a, y :: b => by
    rcases lessP_total x y with h | rfl | h
    · exact .inl (.inl h)
    · rcases lessL_total a b with h | rfl | h
      · exact .inl (.inr ⟨rfl, h⟩)
      · exact .inr (.inl rfl)
      · exact .inr (.inr (.inr ⟨rfl, h⟩))
    · exact .inr (.inr (.inl h))
/-- no later one is ahead. -/
def SortedR (x : List (List Pt)) : Prop := x.Pairwise (fun a b => ¬ lessL b a)
theorem sortedR_unique {x y : List (List Pt)} (hx : SortedR x) (hy : SortedR y) (h : x.Perm y) : x = y :=
  List.Perm.eq_of_pairwise (le := fun a b => ¬ lessL b a) (fun a b _ _ h1 h2 => by
    rcases lessL_total a b with h | h | h
    · exact absurd h h2
    · exact h
    · exact absurd h h1) hx hy h
/-- a ring's normal form; none: the empty one. -/
def normQ (r : List Pt) : List Pt := (normP r).getD []
theorem normQ_some {r : List Pt} (h : (ringCheckP r).1 = 0) : normP r = some (normQ r) := by unfold normQ; rw [norm_eq h]; rfl
theorem map_normQ : ∀ {a : List (List Pt)}, (∀ r ∈ a, (ringCheckP r).1 = 0) → a.map normP = (a.map normQ).map some
  | [], _ => rfl
  | r :: a, h => by
    rw [List.map_cons, List.map_cons, List.map_cons, ← normQ_some (h r (by simp)), map_normQ (fun r hr => h r (by simp [hr]))]
theorem perm_some {α : Type} {x y : List α} : (x.map some).Perm (y.map some) ↔ x.Perm y := by
  constructor
  · intro h
    have := h.filterMap id
    simpa [List.filterMap_map] using this
  · intro h; exact h.map _
/-- when two regions are the same, as the document says. -/
def regionSameP (a b : List (List Pt)) : Bool := decide ((regionCheckP a).1 = 0) && decide ((regionCheckP b).1 = 0) && decide (a.length = b.length) && matchP b a (List.replicate b.length false)
theorem regions_same {a b x y : List (List Pt)} (ha : (regionCheckP a).1 = 0) (hb : (regionCheckP b).1 = 0) (hx : x.Perm (a.map normQ)) (hy : y.Perm (b.map normQ)) (sx : SortedR x) (sy : SortedR y) : decide (x = y) = regionSameP a b := by
  have ra := (region_ok ha).2.2.2
  have rb := (region_ok hb).2.2.2
  unfold regionSameP
  rw [ha, hb]
  simp only [decide_true, Bool.true_and]
  by_cases hl : a.length = b.length
  · rw [decide_eq_true hl, Bool.true_and]
    have hm := match_perm rb a (List.replicate b.length false) ra (by simp) (by rw [leftP_none]; exact hl.symm)
    rw [leftP_none, map_normQ ra, map_normQ rb, perm_some] at hm
    cases hq : matchP b a (List.replicate b.length false) with
    | true =>
      have := hm.1 hq
      exact decide_eq_true (sortedR_unique sx sy (hx.trans (this.trans hy.symm)))
    | false =>
      refine decide_eq_false fun e => ?_
      subst e
      have := hm.2 (hx.symm.trans hy)
      rw [hq] at this
      cases this
  · rw [decide_eq_false hl, Bool.false_and]
    refine decide_eq_false fun e => ?_
    subst e
    have := (hx.symm.trans hy).length_eq
    simp at this
    exact hl this
end Go.Geo

/- plain law: the sign of a difference of two products: no program in sight -/
namespace Go.Geo
theorem sgn_cmp (n : Int) : cmpZ n 0 = sgn n := by unfold cmpZ sgn; split <;> (try split) <;> (try split) <;> omega
theorem mul_sgn (a b : Int) : ∃ P : Nat, P = a.natAbs * b.natAbs ∧ a * b = sgn a * sgn b * (P : Int) ∧ ((sgn a * sgn b = 1 ∧ 0 < P) ∨ (sgn a * sgn b = -1 ∧ 0 < P) ∨ (sgn a * sgn b = 0 ∧ P = 0)) := by
  refine ⟨_, rfl, ?_, ?_⟩
  · unfold sgn
    rw [Int.natCast_mul]
    split
    · rename_i h1
      have e1 : (a.natAbs : Int) = - a := by omega
      split
      · have e2 : (b.natAbs : Int) = - b := by omega
        rw [e1, e2]; grind
      · split
        · rename_i h2; subst h2; simp
        · have e2 : (b.natAbs : Int) = b := by omega
          rw [e1, e2]; grind
    · split
      · rename_i h2; subst h2; simp
      · have e1 : (a.natAbs : Int) = a := by omega
        split
        · have e2 : (b.natAbs : Int) = - b := by omega
          rw [e1, e2]; grind
        · split
          · rename_i h2; subst h2; simp
          · have e2 : (b.natAbs : Int) = b := by omega
            rw [e1, e2]; grind
  · have hp : a ≠ 0 → b ≠ 0 → 0 < a.natAbs * b.natAbs := fun h1 h2 => Nat.mul_pos (by omega) (by omega)
    unfold sgn
    by_cases h1 : a = 0
    · right; right; subst h1; simp
    · by_cases h2 : b = 0
      · right; right; subst h2; simp
      · have := hp h1 h2
        split <;> split <;> simp_all
/-- a product's sign, a product's size in two parts: what is less. -/
def signW (s t : Int) (P Q : Nat) : Int := if s = t then s * (if cmpZ (P / 18446744073709551616 : Nat) (Q / 18446744073709551616 : Nat) = 0 then cmpZ (P % 18446744073709551616 : Nat) (Q % 18446744073709551616 : Nat) else cmpZ (P / 18446744073709551616 : Nat) (Q / 18446744073709551616 : Nat)) else cmpZ s t
theorem cmp_parts (P Q : Nat) : (if cmpZ (P / 18446744073709551616 : Nat) (Q / 18446744073709551616 : Nat) = 0 then cmpZ (P % 18446744073709551616 : Nat) (Q % 18446744073709551616 : Nat) else cmpZ (P / 18446744073709551616 : Nat) (Q / 18446744073709551616 : Nat)) = cmpZ P Q := by
  unfold cmpZ
  have h1 := Nat.div_add_mod P 18446744073709551616
  have h2 := Nat.div_add_mod Q 18446744073709551616
  have h3 := Nat.mod_lt P (show 18446744073709551616 > 0 by decide)
  have h4 := Nat.mod_lt Q (show 18446744073709551616 > 0 by decide)
  generalize P / 18446744073709551616 = a at *
  generalize Q / 18446744073709551616 = b at *
  generalize P % 18446744073709551616 = c at *
  generalize Q % 18446744073709551616 = d at *
  split <;> split <;> (try split) <;> (try split) <;> (try split) <;> omega
theorem sign_law (a b c d : Int) : signW (sgn a * sgn b) (sgn c * sgn d) (a.natAbs * b.natAbs) (c.natAbs * d.natAbs) = sgn (a * b - c * d) := by
  obtain ⟨P, hP, e1, h1⟩ := mul_sgn a b
  obtain ⟨Q, hQ, e2, h2⟩ := mul_sgn c d
  rw [← hP, ← hQ, e1, e2]
  unfold signW
  rw [cmp_parts]
  rcases h1 with ⟨s, hp⟩ | ⟨s, hp⟩ | ⟨s, hp⟩ <;> rcases h2 with ⟨t, hq⟩ | ⟨t, hq⟩ | ⟨t, hq⟩ <;> rw [s, t] <;> unfold cmpZ sgn <;> (try simp only [Int.one_mul, Int.neg_mul, Int.zero_mul, if_true]) <;> (repeat' split) <;> omega
theorem take_more {α : Type} {l : List α} {d : α} {k : Nat} (h : k < l.length) : l.take (k + 1) = l.take k ++ [l.getD k d] := by
  rw [List.take_succ_eq_append_getElem h, getD_lt h]
/-- the least, the greatest of the first k, and of z. -/
def minK (f : Pt → Int) (z : Int) (l : List Pt) (k : Nat) : Int := (l.take k).foldl (fun z v => min z (f v)) z
def maxK (f : Pt → Int) (z : Int) (l : List Pt) (k : Nat) : Int := (l.take k).foldl (fun z v => max z (f v)) z
theorem minK_succ {f : Pt → Int} {z : Int} {l : List Pt} {k : Nat} (h : k < l.length) : minK f z l (k + 1) = min (minK f z l k) (f (l.getD k p0)) := by unfold minK; rw [take_more (d := p0) h]; simp
theorem maxK_succ {f : Pt → Int} {z : Int} {l : List Pt} {k : Nat} (h : k < l.length) : maxK f z l (k + 1) = max (maxK f z l k) (f (l.getD k p0)) := by unfold maxK; rw [take_more (d := p0) h]; simp
theorem bounds_fold {l : List Pt} (h0 : 0 < l.length) (hv : l.all validP = true) : boundsP l = some (⟨minK Pt.x (l.getD 0 p0).x l l.length, minK Pt.y (l.getD 0 p0).y l l.length⟩, ⟨maxK Pt.x (l.getD 0 p0).x l l.length + 1, maxK Pt.y (l.getD 0 p0).y l l.length + 1⟩) := by
  cases l with
  | nil => simp at h0
  | cons a m =>
    unfold boundsP minK maxK
    simp only
    rw [if_pos hv]
    simp
theorem bounds_none {l : List Pt} (h : l.all validP = false ∨ l.length = 0) : boundsP l = none := by
  cases l with
  | nil => rfl
  | cons a m =>
    rcases h with h | h
    · unfold boundsP
      simp only
      rw [if_neg (by rw [h]; simp)]
    · simp at h
theorem inR_cnt (p : Pt) : ∀ g : List (List Pt), inR p g = oddB (cntB g.length (fun i => inP p (g.getD i [])))
  | [] => rfl
  | r :: g => by
    rw [inR, inR_cnt p g, List.length_cons, cntB_front, oddB_add, oddB_ite]
    rfl
theorem inR_take {p : Pt} {g : List (List Pt)} {k : Nat} (h : k < g.length) : inR p (g.take (k + 1)) = (inR p (g.take k) ^^ inP p (g.getD k [])) := by
  rw [take_more (d := []) h, inR_append]
  simp [inR]
theorem sumLen_append (g h : List (List Pt)) : sumLen (g ++ h) = sumLen g + sumLen h := by unfold sumLen; simp
theorem sumLen_take {g : List (List Pt)} {k : Nat} (h : k < g.length) : sumLen (g.take (k + 1)) = sumLen (g.take k) + (g.getD k []).length := by
  rw [take_more (d := []) h, sumLen_append]
  simp [sumLen]
theorem sumLen_get {g : List (List Pt)} {k : Nat} (h : k < g.length) : (g.getD k []).length ≤ sumLen g := by
  have h1 := sumLen_take h
  have h2 : sumLen (g.take (k + 1)) ≤ sumLen g := by
    have := sumLen_append (g.take (k + 1)) (g.drop (k + 1))
    rw [List.take_append_drop] at this
    omega
  omega
theorem sumLen_flatten : ∀ g : List (List Pt), g.flatten.length = sumLen g
  | [] => rfl
  | r :: g => by rw [List.flatten_cons, List.length_append, sumLen_flatten g]; simp [sumLen]
end Go.Geo

/- plain law: counts, rings turned about, normal forms: no program in sight -/
import Derived.Test.YtgijaaklhdcgeaaGeo4
namespace Go.Geo
/-- of how many numbers below n f is so. -/
def cntB : Nat → (Nat → Bool) → Nat
  | 0, _ => 0
  | n + 1, f => cntB n f + (if f n then 1 else 0)
theorem cntB_front : ∀ (n : Nat) (f : Nat → Bool), cntB (n + 1) f = (if f 0 then 1 else 0) + cntB n (fun i => f (i + 1))
  | 0, f => by simp [cntB]
  | n + 1, f => by
    rw [cntB, cntB_front n f, cntB]
    omega
theorem cntB_congr {f g : Nat → Bool} : ∀ (n : Nat), (∀ i, i < n → f i = g i) → cntB n f = cntB n g
  | 0, _ => rfl
  | n + 1, h => by rw [cntB, cntB, cntB_congr n (fun i hi => h i (by omega)), h n (by omega)]
theorem cntB_le (f : Nat → Bool) : ∀ n, cntB n f ≤ n
  | 0 => Nat.le_refl _
  | n + 1 => by have := cntB_le f n; rw [cntB]; split <;> omega
def oddB (n : Nat) : Bool := decide (n % 2 = 1)
theorem oddB_add (m n : Nat) : oddB (m + n) = (oddB m ^^ oddB n) := by
  unfold oddB
  have h1 := Nat.mod_two_eq_zero_or_one m
  have h2 := Nat.mod_two_eq_zero_or_one n
  rcases h1 with h1 | h1 <;> rcases h2 with h2 | h2 <;> simp [h1, h2, Nat.add_mod]
theorem oddB_ite (b : Bool) : oddB (if b then 1 else 0) = b := by cases b <;> rfl
theorem xorP_cnt {f : Pt → Pt → Bool} : ∀ (l : List Pt) (a : Pt), xorP f a l = oddB (cntB l.length (fun i => f ((a :: l).getD i p0) ((a :: l).getD (i + 1) p0)))
  | [], a => rfl
  | b :: l, a => by
    rw [xorP, xorP_cnt l b, List.length_cons, cntB_front, oddB_add, oddB_ite]
    rfl
theorem lastP_getD : ∀ (l : List Pt) (a : Pt), lastP a l = (a :: l).getD l.length p0
  | [], a => rfl
  | b :: l, a => by rw [lastP_cons, lastP_getD l b]; rfl
/-- how many edges count. -/
def countK (p : Pt) (l : List Pt) : Nat := cntB l.length (fun i => countsP p (l.getD i p0) (atP l (i + 1)))
theorem inP_count (p : Pt) (l : List Pt) : inP p l = oddB (countK p l) := by
  cases l with
  | nil => rfl
  | cons a m =>
    show xorP (countsP p) (lastP a m) (a :: m) = _
    rw [xorP, xorP_cnt]
    unfold countK
    rw [List.length_cons, cntB, oddB_add, oddB_ite]
    have e1 : atP (a :: m) (m.length + 1) = a := by unfold atP; simp
    rw [e1, ← lastP_getD, Bool.xor_comm]
    congr 1
    congr 1
    refine cntB_congr _ fun i hi => ?_
    rw [atP_lt (by simp; omega)]
/-- one list is the other, turned about. -/
def IsRot {α : Type} (a b : List α) : Prop := ∃ x y, a = x ++ y ∧ b = y ++ x
theorem IsRot.refl {α : Type} (a : List α) : IsRot a a := ⟨a, [], by simp, by simp⟩
theorem IsRot.symm {α : Type} {a b : List α} (h : IsRot a b) : IsRot b a := by obtain ⟨x, y, h1, h2⟩ := h; exact ⟨y, x, h2, h1⟩
theorem IsRot.trans {α : Type} {a b c : List α} (h : IsRot a b) (k : IsRot b c) : IsRot a c := by
  obtain ⟨x, y, rfl, rfl⟩ := h
  obtain ⟨u, v, h1, rfl⟩ := k
  rcases List.append_eq_append_iff.1 h1 with ⟨z, rfl, rfl⟩ | ⟨z, rfl, rfl⟩
  · exact ⟨z, v ++ y, by simp_all, by simp_all⟩
  · exact ⟨x ++ u, z, by simp, by simp⟩
theorem IsRot.reverse {α : Type} {a b : List α} (h : IsRot a b) : IsRot a.reverse b.reverse := by
  obtain ⟨x, y, rfl, rfl⟩ := h
  exact ⟨y.reverse, x.reverse, by simp, by simp⟩
theorem IsRot.perm {α : Type} {a b : List α} (h : IsRot a b) : a.Perm b := by obtain ⟨x, y, rfl, rfl⟩ := h; exact List.perm_append_comm
theorem IsRot.head {α : Type} {v : α} {a b : List α} (h : IsRot (v :: a) (v :: b)) (hn : (v :: a).Nodup) : a = b := by
  obtain ⟨x, y, h1, h2⟩ := h
  cases x with
  | nil => simp at h1 h2; rw [← h1] at h2; exact (List.cons.inj h2).2.symm
  | cons c x =>
    cases y with
    | nil => simp at h1 h2; rw [h1.2, h2.2]
    | cons d y =>
      exfalso
      simp only [List.cons_append, List.cons.injEq] at h1 h2
      obtain ⟨rfl, rfl⟩ := h1
      obtain ⟨rfl, _⟩ := h2
      simp at hn
/-- turned about from a place on. -/
def rotP (l : List Pt) (i : Nat) : List Pt := l.drop i ++ l.take i
theorem rotP_rot (l : List Pt) (i : Nat) : IsRot (rotP l i) l := ⟨_, _, rfl, (List.take_append_drop i l).symm⟩
/-- the order of points: by the height, then across. -/
def lessP (a b : Pt) : Prop := a.y < b.y ∨ (a.y = b.y ∧ a.x < b.x)
instance (a b : Pt) : Decidable (lessP a b) := by unfold lessP; infer_instance
theorem lessP_trans {a b c : Pt} (h : lessP a b) (k : lessP b c) : lessP a c := by unfold lessP at *; omega
theorem lessP_irrefl (a : Pt) : ¬ lessP a a := by unfold lessP; omega
theorem Pt.ext' {a b : Pt} (h1 : a.x = b.x) (h2 : a.y = b.y) : a = b := by cases a; cases b; simp_all
theorem lessP_total (a b : Pt) : lessP a b ∨ a = b ∨ lessP b a := by
  by_cases h1 : a.x = b.x
  · by_cases h2 : a.y = b.y
    · exact .inr (.inl (Pt.ext' h1 h2))
    · unfold lessP; omega
  · unfold lessP; omega
/-- the place of the least point: of the first i. -/
def leastK (l : List Pt) : Nat → Nat
  | 0 => 0
  | i + 1 => if lessP (l.getD i p0) (l.getD (leastK l i) p0) then i else leastK l i
theorem leastK_spec (l : List Pt) : ∀ i, (0 < i → leastK l i < i) ∧ ∀ j, j < i → ¬ lessP (l.getD j p0) (l.getD (leastK l i) p0)
  | 0 => ⟨fun h => absurd h (by omega), fun j h => absurd h (by omega)⟩
  | i + 1 => by
    obtain ⟨h1, h2⟩ := leastK_spec l i
    rw [leastK]
    split
    · rename_i h
      refine ⟨fun _ => by omega, fun j hj hl => ?_⟩
      by_cases hji : j < i
      · exact h2 j hji (lessP_trans hl h)
      · obtain rfl : j = i := by omega
        exact lessP_irrefl _ hl
    · rename_i h
      refine ⟨fun _ => ?_, fun j hj hl => ?_⟩
      · by_cases hi : 0 < i
        · have := h1 hi; omega
        · obtain rfl : i = 0 := by omega
          rw [leastK]; omega
      · by_cases hji : j < i
        · exact h2 j hji hl
        · obtain rfl : j = i := by omega
          exact h hl
def leastP (l : List Pt) : Nat := leastK l l.length
theorem leastP_lt {l : List Pt} (h : 0 < l.length) : leastP l < l.length := (leastK_spec l l.length).1 h
/-- turned about, its least point ahead. -/
def leadP (l : List Pt) : List Pt := rotP l (leastP l)
theorem leadP_rot (l : List Pt) : IsRot (leadP l) l := rotP_rot _ _
theorem leadP_cons {l : List Pt} (h : 0 < l.length) : ∃ m, leadP l = l.getD (leastP l) p0 :: m := by
  unfold leadP rotP
  rw [List.drop_eq_getElem_cons (leastP_lt h)]
  refine ⟨List.drop (leastP l + 1) l ++ List.take (leastP l) l, ?_⟩
  rw [List.getD_eq_getElem?_getD, List.getElem?_eq_getElem (leastP_lt h)]
  rfl
theorem least_min {l : List Pt} {v : Pt} (h : v ∈ l) : ¬ lessP v (l.getD (leastP l) p0) := by
  obtain ⟨i, hi, rfl⟩ := List.mem_iff_getElem.1 h
  have := (leastK_spec l l.length).2 i hi
  rwa [List.getD_eq_getElem?_getD, List.getElem?_eq_getElem hi] at this
theorem least_mem {l : List Pt} (h : 0 < l.length) : l.getD (leastP l) p0 ∈ l := by
  rw [List.getD_eq_getElem?_getD, List.getElem?_eq_getElem (leastP_lt h)]
  exact List.getElem_mem _
/-- the same points have the same least one. -/
theorem least_same {a b : List Pt} (h : a.Perm b) (h0 : 0 < a.length) : a.getD (leastP a) p0 = b.getD (leastP b) p0 := by
  have hb : 0 < b.length := by rw [← h.length_eq]; exact h0
  have h1 := least_min (h.symm.mem_iff.1 (least_mem hb))
  have h2 := least_min (h.mem_iff.1 (least_mem h0))
  rcases lessP_total (a.getD (leastP a) p0) (b.getD (leastP b) p0) with h | h | h
  · exact absurd h h2
  · exact h
  · exact absurd h h1
theorem lead_same {a b : List Pt} (h : IsRot a b) (hn : a.Nodup) : leadP a = leadP b := by
  by_cases h0 : 0 < a.length
  · obtain ⟨m, hm⟩ := leadP_cons h0
    obtain ⟨m', hm'⟩ := leadP_cons (l := b) (by rw [← h.perm.length_eq]; exact h0)
    have hr := ((leadP_rot a).trans h).trans (leadP_rot b).symm
    rw [hm, hm', ← least_same h.perm h0] at hr
    have := hr.head (by rw [← hm]; exact (leadP_rot a).perm.nodup_iff.2 hn)
    rw [hm, hm', ← least_same h.perm h0, this]
  · have ha : a = [] := List.eq_nil_of_length_eq_zero (by omega)
    subst ha
    have : b = [] := List.eq_nil_of_length_eq_zero (by rw [← h.perm.length_eq]; rfl)
    subst this
    rfl
/-- the other way round, the first point ahead. -/
def flipP : List Pt → List Pt
  | [] => []
  | v :: m => v :: m.reverse
theorem flipP_flip (l : List Pt) : flipP (flipP l) = l := by cases l <;> simp [flipP]
theorem flipP_rot (l : List Pt) : IsRot (flipP l) l.reverse := by
  cases l with
  | nil => exact IsRot.refl _
  | cons v m => exact ⟨[v], m.reverse, by simp [flipP], by simp⟩
theorem lead_reverse {l : List Pt} (hn : l.Nodup) : leadP l.reverse = flipP (leadP l) := by
  by_cases h0 : 0 < l.length
  · obtain ⟨m, hm⟩ := leadP_cons h0
    obtain ⟨m', hm'⟩ := leadP_cons (l := l.reverse) (by simpa using h0)
    have e := least_same (List.reverse_perm l) (by simpa using h0)
    have hr : IsRot (leadP l.reverse) (flipP (leadP l)) := ((leadP_rot _).trans (leadP_rot l).symm.reverse).trans (flipP_rot _).symm
    rw [hm, hm', e] at hr ⊢
    have := IsRot.head (a := m') (b := m.reverse) hr (by
      have : (leadP l.reverse).Nodup := (leadP_rot _).perm.nodup_iff.2 ((List.reverse_perm l).nodup_iff.2 hn)
      rw [hm', e] at this
      exact this)
    rw [this]
    rfl
  · have : l = [] := List.eq_nil_of_length_eq_zero (by omega)
    subst this
    rfl
/-- the way round of a list that its least point leads. -/
def wayP : List Pt → Int
  | [] => 0
  | v :: m => turnP (lastP v m) v (m.headD v)
theorem turnP_swap (a v b : Pt) : turnP b v a = - turnP a v b := by
  unfold turnP
  have e : area b v a = - area a v b := by unfold area; grind
  rw [e]
  by_cases ha : validP a <;> by_cases hb : validP b <;> by_cases hv : validP v <;> simp [ha, hb, hv]
  unfold sgn
  split <;> split <;> (try split) <;> (try split) <;> omega
theorem wayP_flip (l : List Pt) : wayP (flipP l) = - wayP l := by
  cases l with
  | nil => rfl
  | cons v m =>
    cases m with
    | nil =>
      show turnP v v v = - turnP v v v
      exact turnP_swap v v v
    | cons b m =>
      show turnP (lastP v (b :: m).reverse) v ((b :: m).reverse.headD v) = - turnP (lastP v (b :: m)) v b
      rw [← turnP_swap]
      have e1 : lastP v (b :: m).reverse = b := by rw [List.reverse_cons, lastP_append]
      have e2 : (b :: m).reverse.headD v = lastP v (b :: m) := by
        unfold lastP
        rw [List.headD_eq_head?_getD, List.head?_reverse, List.getLastD_eq_getLast?]
      rw [e1, e2]
/-- which way round a ring goes. -/
def signP (l : List Pt) : Int := if (ringCheckP l).1 ≠ 0 then 0 else turnP (atP l (leastP l + l.length - 1)) (l.getD (leastP l) p0) (atP l (leastP l + 1))
theorem sign_way {l : List Pt} (h : (ringCheckP l).1 = 0) : signP l = wayP (leadP l) := by
  have h3 := (ring_ok h).1
  unfold signP
  rw [if_neg (by omega)]
  have gt : ∀ k, k < l.length → leadP l = rotP l k → turnP (atP l (k + l.length - 1)) (l.getD k p0) (atP l (k + 1)) = wayP (leadP l) := by
    intro k hk e
    rw [e]
    unfold rotP
    rw [List.drop_eq_getElem_cons hk]
    have e0 : l.getD k p0 = l[k] := by rw [List.getD_eq_getElem?_getD, List.getElem?_eq_getElem hk]; rfl
    rw [e0, List.cons_append]
    show _ = turnP (lastP l[k] (List.drop (k + 1) l ++ List.take k l)) l[k] ((List.drop (k + 1) l ++ List.take k l).headD l[k])
    have e1 : atP l (k + 1) = (List.drop (k + 1) l ++ List.take k l).headD l[k] := by
      rw [List.headD_eq_head?_getD, List.head?_eq_getElem?]
      unfold atP
      by_cases hk1 : k + 1 < l.length
      · rw [Nat.mod_eq_of_lt hk1, List.getElem?_append_left (by simp; omega), List.getElem?_drop, List.getD_eq_getElem?_getD, Nat.add_zero, List.getElem?_eq_getElem hk1]
        rfl
      · have : k + 1 = l.length := by omega
        rw [this, Nat.mod_self, List.drop_length, List.nil_append, List.getElem?_take, if_pos (by omega), List.getD_eq_getElem?_getD, List.getElem?_eq_getElem (by omega)]
        rfl
    have e2 : atP l (k + l.length - 1) = lastP l[k] (List.drop (k + 1) l ++ List.take k l) := by
      unfold lastP
      rw [List.getLastD_eq_getLast?, List.getLast?_eq_getElem?]
      have hlen : (List.drop (k + 1) l ++ List.take k l).length = l.length - 1 := by simp; omega
      rw [hlen]
      unfold atP
      by_cases hk0 : 0 < k
      · have : (k + l.length - 1) % l.length = k - 1 := by
          rw [show k + l.length - 1 = k - 1 + l.length by omega, Nat.add_mod_right, Nat.mod_eq_of_lt (by omega)]
        rw [this, List.getElem?_append_right (by simp; omega), List.length_drop, List.getElem?_take, if_pos (by omega), List.getD_eq_getElem?_getD]
        rw [show l.length - 1 - 1 - (l.length - (k + 1)) = k - 1 by omega, List.getElem?_eq_getElem (by omega)]
        rfl
      · obtain rfl : k = 0 := by omega
        have : (0 + l.length - 1) % l.length = l.length - 1 := Nat.mod_eq_of_lt (by omega) |>.trans (by omega)
        rw [this, List.getElem?_append_left (by simp; omega), List.getElem?_drop, List.getD_eq_getElem?_getD]
        rw [show 0 + 1 + (l.length - 1 - 1) = l.length - 1 by omega, List.getElem?_eq_getElem (by omega)]
        rfl
    rw [e1, e2]
  exact gt _ (leastP_lt (by omega)) rfl
end Go.Geo

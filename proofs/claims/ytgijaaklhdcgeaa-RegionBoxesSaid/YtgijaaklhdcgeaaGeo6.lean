/- plain law: when two rings, two regions are the same: no program in sight -/
import Derived.Test.YtgijaaklhdcgeaaGeo5
namespace Go.Geo
theorem getD_lt {α : Type} {l : List α} {d : α} {i : Nat} (h : i < l.length) : l.getD i d = l[i] := by rw [List.getD_eq_getElem?_getD, List.getElem?_eq_getElem h]; rfl
/-- what a ring that may be is. -/
theorem ring_all {l : List Pt} (h : (ringCheckP l).1 = 0) : (∀ i, i < l.length → twiceP l i = false) ∧ (∀ i, i < l.length → backP l i = false) ∧ ∀ i, i < l.length → meetsP l i = false := by
  unfold ringCheckP at h
  split at h
  · cases h
  · split at h
    · cases h
    · split at h
      · cases h
      · split at h
        · cases h
        · rename_i h1
          split at h
          · cases h
          · rename_i h2
            split at h
            · cases h
            · rename_i h3
              exact ⟨firstP_eq_none h1, firstP_eq_none h2, firstP_eq_none h3⟩
theorem nodup_of_twice {l : List Pt} (h : ∀ i, i < l.length → twiceP l i = false) : l.Nodup := by
  unfold List.Nodup
  rw [List.pairwise_iff_getElem]
  intro i j hi hj hij e
  have := h j hj
  unfold twiceP at this
  rw [getD_lt hj] at this
  have hm : l[j] ∈ l.take j := by
    rw [← e, List.mem_iff_getElem]
    exact ⟨i, by simp; omega, by simp⟩
  simp [hm] at this
theorem ring_nodup {l : List Pt} (h : (ringCheckP l).1 = 0) : l.Nodup := nodup_of_twice (ring_all h).1
theorem atP_mem {l : List Pt} {i : Nat} (h : 0 < l.length) : atP l i ∈ l := by
  unfold atP
  rw [getD_lt (Nat.mod_lt _ h)]
  exact List.getElem_mem _
theorem least_off {p a b : Pt} (h : onP p a b = true) (ha : ¬ lessP a p) (hb : ¬ lessP b p) (na : a ≠ p) (nb : b ≠ p) : False := by
  unfold onP at h
  simp only [Bool.and_eq_true, decide_eq_true_eq, betw] at h
  obtain ⟨⟨⟨⟨⟨vp, va⟩, vb⟩, h1, h2⟩, h3, h4⟩, h5⟩ := h
  unfold turnP at h5
  rw [va, vb, vp] at h5
  simp only [Bool.and_self, if_true] at h5
  rw [sgn_zero] at h5
  unfold lessP at ha hb
  have e : area a b p = (p.y - a.y) * (b.x - p.x) + (b.y - p.y) * (a.x - p.x) := area_low a b p
  rw [e] at h5
  have key : ∀ a b : Pt, a.y = p.y → p.y < b.y → (p.y - a.y) * (b.x - p.x) + (b.y - p.y) * (a.x - p.x) = 0 → a.x = p.x := by
    intro a b e1 e2 h
    rw [e1, Int.sub_self, Int.zero_mul, Int.zero_add, Int.mul_eq_zero] at h
    omega
  rcases lessP_total a b with h | h | h
  · unfold lessP at h
    by_cases hab : a.y < b.y
    · have e1 : a.y = p.y := by omega
      exact na (Pt.ext' (key a b e1 (by omega) h5) e1)
    · have e1 : a.y = p.y := by omega
      have e2 : b.y = p.y := by omega
      exact na (Pt.ext' (by omega) e1)
  · subst h
    exact na (Pt.ext' (by omega) (by omega))
  · unfold lessP at h
    by_cases hab : b.y < a.y
    · have e1 : b.y = p.y := by omega
      exact nb (Pt.ext' (key b a e1 (by omega) (by rw [Int.add_comm] at h5; have e3 : (a.y - p.y) * (b.x - p.x) = -((p.y - a.y) * (b.x - p.x)) := by rw [← Int.neg_mul]; congr 1; omega
                                                   have e4 : (p.y - b.y) * (a.x - p.x) = -((b.y - p.y) * (a.x - p.x)) := by rw [← Int.neg_mul]; congr 1; omega
                                                   omega)) e1)
    · have e1 : a.y = p.y := by omega
      have e2 : b.y = p.y := by omega
      exact nb (Pt.ext' (by omega) e2)
theorem atP_ne {l : List Pt} {k j : Nat} (hn : l.Nodup) (hk : k < l.length) (hj : j % l.length ≠ k) : atP l j ≠ l.getD k p0 := by
  unfold atP
  have hjl : j % l.length < l.length := Nat.mod_lt _ (by omega)
  rw [getD_lt hjl, getD_lt hk]
  intro e
  exact hj ((List.getElem_inj hn).1 e)
theorem sign_ne {l : List Pt} (h : (ringCheckP l).1 = 0) : signP l ≠ 0 := by
  have h3 := (ring_ok h).1
  have hk := leastP_lt (l := l) (by omega)
  have hb := (ring_all h).2.1 _ hk
  unfold signP
  rw [if_neg (by omega)]
  intro e
  unfold backP at hb
  rw [e] at hb
  simp only [decide_true, Bool.true_and, Bool.not_eq_false'] at hb
  refine least_off hb (least_min (atP_mem (by omega))) (least_min (atP_mem (by omega))) (atP_ne (ring_nodup h) hk ?_) (atP_ne (ring_nodup h) hk ?_)
  · by_cases h0 : 0 < leastP l
    · rw [show leastP l + l.length - 1 = leastP l - 1 + l.length by omega, Nat.add_mod_right, Nat.mod_eq_of_lt (by omega)]; omega
    · rw [Nat.mod_eq_of_lt (by omega)]; omega
  · by_cases h0 : leastP l + 1 < l.length
    · rw [Nat.mod_eq_of_lt h0]; omega
    · rw [show leastP l + 1 = l.length by omega, Nat.mod_self]; omega
/-- the normal form of a ring that may be. -/
def normP (l : List Pt) : Option (List Pt) := if signP l = 0 then none else if signP l = -1 then some (leadP l.reverse) else some (leadP l)
/-- are rings the same, the one turned about, or back? -/
def sameP (a b : List Pt) : Bool := decide ((ringCheckP a).1 = 0) && decide ((ringCheckP b).1 = 0) && decide (a.length = b.length) && ((List.range b.length).any (fun i => decide (a = rotP b i)) || (List.range b.length).any (fun i => decide (a = rotP b.reverse i)))
theorem rot_any {a b : List Pt} (hb : 0 < b.length) : (List.range b.length).any (fun i => decide (a = rotP b i)) = true ↔ IsRot a b := by
  rw [List.any_eq_true]
  constructor
  · rintro ⟨i, _, h⟩
    rw [of_decide_eq_true h]
    exact rotP_rot b i
  · rintro ⟨x, y, rfl, rfl⟩
    by_cases hx : 0 < x.length
    · refine ⟨y.length, List.mem_range.2 (by simp; omega), ?_⟩
      simp [rotP]
    · have : x = [] := List.eq_nil_of_length_eq_zero (by omega)
      subst this
      refine ⟨0, List.mem_range.2 hb, ?_⟩
      simp [rotP]
theorem sign_cases {l : List Pt} (h : (ringCheckP l).1 = 0) : signP l = 1 ∨ signP l = -1 := by
  have := sign_ne h
  have h2 : signP l = -1 ∨ signP l = 0 ∨ signP l = 1 := by
    unfold signP
    rw [if_neg (by omega)]
    exact turnP_range _ _ _
  omega
theorem norm_eq {l : List Pt} (h : (ringCheckP l).1 = 0) : normP l = some (if signP l = -1 then flipP (leadP l) else leadP l) := by
  unfold normP
  rw [if_neg (sign_ne h), lead_reverse (ring_nodup h)]
  split <;> rfl
theorem lead_rot_iff {a b : List Pt} (ha : a.Nodup) : IsRot a b ↔ leadP a = leadP b :=
  ⟨fun h => lead_same h ha, fun h => ((leadP_rot a).symm.trans (by rw [h]; exact IsRot.refl _)).trans (leadP_rot b)⟩
theorem same_norm {a b : List Pt} (ha : (ringCheckP a).1 = 0) (hb : (ringCheckP b).1 = 0) : sameP a b = true ↔ normP a = normP b := by
  have na := ring_nodup ha
  have nb := ring_nodup hb
  have la := (ring_ok ha).1
  have lb := (ring_ok hb).1
  have hw := sign_way ha
  have hv := sign_way hb
  have key : (IsRot a b ∨ IsRot a b.reverse) ↔ normP a = normP b := by
    rw [norm_eq ha, norm_eq hb, Option.some.injEq, lead_rot_iff na, lead_rot_iff na, lead_reverse nb]
    have ca := sign_cases ha
    have cb := sign_cases hb
    rw [hw] at ca ⊢
    rw [hv] at cb ⊢
    generalize leadP a = x at *
    generalize leadP b = y at *
    have wf := wayP_flip y
    have wf2 := wayP_flip x
    constructor
    · rintro (h | h)
      · subst h; rfl
      · subst h
        rw [flipP_flip]
        rcases cb with cb | cb
        · rw [if_pos (by omega), if_neg (by omega)]
        · rw [if_neg (by omega), if_pos (by omega)]
    · intro h
      split at h <;> split at h
      · left
        have := congrArg flipP h
        rwa [flipP_flip, flipP_flip] at this
      · right
        rw [← h, flipP_flip]
      · right; exact h
      · left; exact h
  rw [← key]
  unfold sameP
  rw [ha, hb]
  simp only [decide_true, Bool.true_and, Bool.and_eq_true, decide_eq_true_eq, Bool.or_eq_true]
  rw [rot_any (by omega)]
  have : (List.range b.length).any (fun i => decide (a = rotP b.reverse i)) = true ↔ IsRot a b.reverse := by
    have := rot_any (a := a) (b := b.reverse) (by simp; omega)
    rwa [List.length_reverse] at this
  rw [this]
  constructor
  · exact fun h => h.2
  · intro h
    refine ⟨?_, h⟩
    rcases h with h | h
    · exact h.perm.length_eq
    · rw [h.perm.length_eq, List.length_reverse]
/-- those of a list that are not used. -/
def leftP {α : Type} : List Bool → List α → List α
  | false :: u, b :: l => b :: leftP u l
  | true :: u, _ :: l => leftP u l
  | _, _ => []
theorem leftP_set {α : Type} (d : α) : ∀ (u : List Bool) (l : List α) (k : Nat), u.length = l.length → k < l.length → u.getD k true = false → (leftP u l).Perm (l.getD k d :: leftP (u.set k true) l)
  | [], [], k, _, h, _ => by simp at h
  | c :: u, b :: l, 0, _, _, h => by
    have : c = false := by simpa using h
    subst this
    exact List.Perm.refl _
  | c :: u, b :: l, k + 1, hl, hk, h => by
    have ih := leftP_set d u l k (by simpa using hl) (by simpa using hk) (by simpa using h)
    cases c with
    | true => exact ih
    | false => exact (List.Perm.cons b ih).trans (List.Perm.swap _ _ _)
theorem leftP_mem {α : Type} {x : α} : ∀ (u : List Bool) (l : List α), x ∈ leftP u l → ∃ k, k < l.length ∧ u.getD k true = false ∧ l[k]? = some x
  | [], [], h => by simp [leftP] at h
  | [], _ :: _, h => by simp [leftP] at h
  | _ :: _, [], h => by
    rename_i c u
    cases c <;> simp [leftP] at h
  | c :: u, b :: l, h => by
    cases c with
    | true =>
      obtain ⟨k, h1, h2, h3⟩ := leftP_mem u l h
      exact ⟨k + 1, by simp; omega, by simpa using h2, by simpa using h3⟩
    | false =>
      rcases List.mem_cons.1 h with rfl | h
      · exact ⟨0, by simp, rfl, rfl⟩
      · obtain ⟨k, h1, h2, h3⟩ := leftP_mem u l h
        exact ⟨k + 1, by simp; omega, by simpa using h2, by simpa using h3⟩
theorem leftP_none {α : Type} : ∀ (l : List α), leftP (List.replicate l.length false) l = l
  | [] => rfl
  | b :: l => by
    show b :: leftP (List.replicate l.length false) l = b :: l
    rw [leftP_none l]
/-- each ring has one of the others that is the same, each for one: the first that serves. -/
def matchP (b : List (List Pt)) : List (List Pt) → List Bool → Bool
  | [], _ => true
  | x :: a, u => match firstP b.length (fun k => !u.getD k true && sameP x (b.getD k [])) with
    | none => false
    | some k => matchP b a (u.set k true)
theorem match_perm {b : List (List Pt)} (hb : ∀ r ∈ b, (ringCheckP r).1 = 0) : ∀ (a : List (List Pt)) (u : List Bool), (∀ r ∈ a, (ringCheckP r).1 = 0) → u.length = b.length → (leftP u b).length = a.length → (matchP b a u = true ↔ (a.map normP).Perm ((leftP u b).map normP))
  | [], u, _, _, hl => by
    have : leftP u b = [] := List.eq_nil_of_length_eq_zero hl
    rw [this]
    simp [matchP]
  | x :: a, u, ha, hu, hl => by
    have hx := ha x (by simp)
    unfold matchP
    split
    · rename_i hn
      constructor
      · intro h; cases h
      · intro h
        exfalso
        have : normP x ∈ (leftP u b).map normP := h.mem_iff.1 (by simp)
        obtain ⟨y, hy, e⟩ := List.mem_map.1 this
        obtain ⟨k, h1, h2, h3⟩ := leftP_mem u b hy
        have := firstP_eq_none hn k h1
        rw [h2, getD_lt h1] at this
        have hk : b[k] = y := by rw [List.getElem?_eq_getElem h1] at h3; exact Option.some.inj h3
        rw [hk, (same_norm hx (hb y (by rw [← hk]; exact List.getElem_mem _))).2 e.symm] at this
        cases this
    · rename_i k hk
      obtain ⟨h1, h2, _⟩ := firstP_eq_some hk
      simp only [Bool.and_eq_true, Bool.not_eq_true'] at h2
      have hp := leftP_set [] u b k hu h1 h2.1
      have hm : b.getD k [] ∈ b := by rw [getD_lt h1]; exact List.getElem_mem _
      have hs := (same_norm hx (hb _ hm)).1 h2.2
      have ih := match_perm hb a (u.set k true) (fun r hr => ha r (by simp [hr])) (by simpa using hu) (by have := hp.length_eq; simp at this hl; omega)
      rw [ih]
      have hp2 := hp.map normP
      rw [List.map_cons, ← hs] at hp2
      rw [List.map_cons]
      constructor
      · intro h; exact (List.Perm.cons _ h).trans hp2.symm
      · intro h; exact (h.trans hp2).cons_inv
end Go.Geo

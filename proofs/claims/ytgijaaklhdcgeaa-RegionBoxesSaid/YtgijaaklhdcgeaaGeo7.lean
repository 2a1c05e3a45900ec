/- plain law: rings in order; when two regions are the same: no program in sight -/
import Derived.Test.YtgijaaklhdcgeaaGeo6
namespace Go.Geo
def cmpZ (a b : Int) : Int := if a < b then -1 else if b < a then 1 else 0
theorem cmpZ_zero {a b : Int} : cmpZ a b = 0 ↔ a = b := by unfold cmpZ; split <;> (try split) <;> omega
theorem cmpZ_lt {a b : Int} : cmpZ a b < 0 ↔ a < b := by unfold cmpZ; split <;> (try split) <;> omega
/-- point.Compare: by the height, then across. -/
def compP (a b : Pt) : Int := if cmpZ a.y b.y ≠ 0 then cmpZ a.y b.y else cmpZ a.x b.x
theorem compP_lt {a b : Pt} : compP a b < 0 ↔ lessP a b := by
  unfold compP lessP
  split
  · rename_i h
    rw [ne_eq, cmpZ_zero] at h
    rw [cmpZ_lt]; omega
  · rename_i h
    rw [ne_eq, Decidable.not_not, cmpZ_zero] at h
    rw [cmpZ_lt]; omega
theorem compP_zero {a b : Pt} : compP a b = 0 ↔ a = b := by
  unfold compP
  split
  · rename_i h
    rw [ne_eq, cmpZ_zero] at h
    rw [cmpZ_zero]
    exact ⟨fun e => absurd e h, fun e => by rw [e]⟩
  · rename_i h
    rw [ne_eq, Decidable.not_not, cmpZ_zero] at h
    rw [cmpZ_zero]
    exact ⟨fun e => Pt.ext' e h, fun e => by rw [e]⟩
/-- slices.CompareFunc: the first that differ say it; what is shorter is ahead. -/
def cmpL : List Pt → List Pt → Int
  | [], [] => 0
  | [], _ :: _ => -1
  | _ :: _, [] => 1
  | a :: l, b :: m => if compP a b ≠ 0 then compP a b else cmpL l m
theorem cmpL_zero : ∀ {l m : List Pt}, cmpL l m = 0 ↔ l = m
  | [], [] => by simp [cmpL]
  | [], _ :: _ => by simp [cmpL]
  | _ :: _, [] => by simp [cmpL]
  | a :: l, b :: m => by
    unfold cmpL
    split
    · rename_i h
      constructor
      · intro e; exact absurd e h
      · intro e; rw [(List.cons.inj e).1] at h; exact absurd (compP_zero.2 rfl) h
    · rename_i h
      rw [ne_eq, Decidable.not_not, compP_zero] at h
      rw [cmpL_zero, h]
      simp
/-- ahead of. -/
def lessL : List Pt → List Pt → Prop
  | _, [] => False
  | [], _ :: _ => True
  | a :: l, b :: m => lessP a b ∨ (a = b ∧ lessL l m)
theorem cmpL_lt : ∀ {l m : List Pt}, cmpL l m < 0 ↔ lessL l m
  | [], [] => by simp [cmpL, lessL]
  | [], _ :: _ => by simp [cmpL, lessL]
  | _ :: _, [] => by simp [cmpL, lessL]
  | a :: l, b :: m => by
    unfold cmpL lessL
    split
    · rename_i h
      rw [compP_lt]
      constructor
      · exact .inl
      · rintro (h2 | ⟨h2, _⟩)
        · exact h2
        · exact absurd (compP_zero.2 h2) h
    · rename_i h
      rw [ne_eq, Decidable.not_not, compP_zero] at h
      subst h
      rw [cmpL_lt]
      constructor
      · intro h; exact .inr ⟨rfl, h⟩
      · rintro (h2 | ⟨_, h2⟩)
        · exact absurd h2 (lessP_irrefl _)
        · exact h2
theorem lessL_irrefl : ∀ l : List Pt, ¬ lessL l l
  | [], h => h
  | a :: l, h => by
    rcases h with h | ⟨_, h⟩
    · exact lessP_irrefl _ h
    · exact lessL_irrefl l h
theorem lessL_trans : ∀ {a b c : List Pt}, lessL a b → lessL b c → lessL a c
  | _, [], _, h, _ => by simp [lessL] at h
  | _, _ :: _, [], _, h => by simp [lessL] at h
  | [], _ :: _, _ :: _, _, _ => trivial
  | x :: a, y :: b, z :: c, h, k => by
    rcases h with h | ⟨rfl, h⟩ <;> rcases k with k | ⟨rfl, k⟩
    · exact .inl (lessP_trans h k)
    · exact .inl h
    · exact .inl k
    · exact .inr ⟨rfl, lessL_trans h k⟩
theorem lessL_total : ∀ a b : List Pt, lessL a b ∨ a = b ∨ lessL b a
  | [], [] => .inr (.inl rfl)
  | [], _ :: _ => .inl trivial
  | _ :: _, [] => .inr (.inr trivial)
  | x :: a, y :: b => by
    rcases lessP_total x y with h | rfl | h
    · exact .inl (.inl h)
    · rcases lessL_total a b with h | rfl | h
      · exact .inl (.inr ⟨rfl, h⟩)
      · exact .inr (.inl rfl)
      · exact .inr (.inr (.inr ⟨rfl, h⟩))
    · exact .inr (.inr (.inl h))
/-- no later one is ahead. -/
def SortedR (x : List (List Pt)) : Prop := x.Pairwise (fun a b => ¬ lessL b a)
theorem sortedR_unique {x y : List (List Pt)} (hx : SortedR x) (hy : SortedR y) (h : x.Perm y) : x = y :=
  List.Perm.eq_of_pairwise (le := fun a b => ¬ lessL b a) (fun a b _ _ h1 h2 => by
    rcases lessL_total a b with h | h | h
    · exact absurd h h2
    · exact h
    · exact absurd h h1) hx hy h
/-- a ring's normal form; none: the empty one. -/
def normQ (r : List Pt) : List Pt := (normP r).getD []
theorem normQ_some {r : List Pt} (h : (ringCheckP r).1 = 0) : normP r = some (normQ r) := by unfold normQ; rw [norm_eq h]; rfl
theorem map_normQ : ∀ {a : List (List Pt)}, (∀ r ∈ a, (ringCheckP r).1 = 0) → a.map normP = (a.map normQ).map some
  | [], _ => rfl
  | r :: a, h => by
    rw [List.map_cons, List.map_cons, List.map_cons, ← normQ_some (h r (by simp)), map_normQ (fun r hr => h r (by simp [hr]))]
theorem perm_some {α : Type} {x y : List α} : (x.map some).Perm (y.map some) ↔ x.Perm y := by
  constructor
  · intro h
    have := h.filterMap id
    simpa [List.filterMap_map] using this
  · intro h; exact h.map _
/-- when two regions are the same, as the document says. -/
def regionSameP (a b : List (List Pt)) : Bool := decide ((regionCheckP a).1 = 0) && decide ((regionCheckP b).1 = 0) && decide (a.length = b.length) && matchP b a (List.replicate b.length false)
theorem regions_same {a b x y : List (List Pt)} (ha : (regionCheckP a).1 = 0) (hb : (regionCheckP b).1 = 0) (hx : x.Perm (a.map normQ)) (hy : y.Perm (b.map normQ)) (sx : SortedR x) (sy : SortedR y) : decide (x = y) = regionSameP a b := by
  have ra := (region_ok ha).2.2.2
  have rb := (region_ok hb).2.2.2
  unfold regionSameP
  rw [ha, hb]
  simp only [decide_true, Bool.true_and]
  by_cases hl : a.length = b.length
  · rw [decide_eq_true hl, Bool.true_and]
    have hm := match_perm rb a (List.replicate b.length false) ra (by simp) (by rw [leftP_none]; exact hl.symm)
    rw [leftP_none, map_normQ ra, map_normQ rb, perm_some] at hm
    cases hq : matchP b a (List.replicate b.length false) with
    | true =>
      have := hm.1 hq
      exact decide_eq_true (sortedR_unique sx sy (hx.trans (this.trans hy.symm)))
    | false =>
      refine decide_eq_false fun e => ?_
      subst e
      have := hm.2 (hx.symm.trans hy)
      rw [hq] at this
      cases this
  · rw [decide_eq_false hl, Bool.false_and]
    refine decide_eq_false fun e => ?_
    subst e
    have := (hx.symm.trans hy).length_eq
    simp at this
    exact hl this
end Go.Geo

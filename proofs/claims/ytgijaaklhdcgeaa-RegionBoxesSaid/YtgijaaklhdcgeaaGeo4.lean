/- plain law: what is wrong with a ring, with a region: no program in sight -/
import Derived.Test.YtgijaaklhdcgeaaGeo3
namespace Go.Geo
def p0 : Pt := ⟨0, 0⟩
/-- the first number below n of which f is so. -/
def firstP (n : Nat) (f : Nat → Bool) : Option Nat := (List.range n).find? f
theorem firstP_none {n : Nat} {f : Nat → Bool} (h : ∀ i, i < n → f i = false) : firstP n f = none := by
  unfold firstP
  rw [List.find?_eq_none]
  intro i hi
  rw [h i (List.mem_range.1 hi)]
  simp
theorem firstP_some {n : Nat} {f : Nat → Bool} {k : Nat} (hk : k < n) (h1 : f k = true) (h : ∀ i, i < k → f i = false) : firstP n f = some k := by
  unfold firstP
  rw [List.find?_eq_some_iff_getElem]
  refine ⟨h1, k, by simpa using hk, by simp, fun j hj => ?_⟩
  rw [List.getElem_range, h j hj]
  rfl
theorem firstP_eq_none {n : Nat} {f : Nat → Bool} (h : firstP n f = none) : ∀ i, i < n → f i = false := by
  intro i hi
  unfold firstP at h
  rw [List.find?_eq_none] at h
  simpa using h i (List.mem_range.2 hi)
theorem firstP_eq_some {n : Nat} {f : Nat → Bool} {k : Nat} (h : firstP n f = some k) : k < n ∧ f k = true ∧ ∀ i, i < k → f i = false := by
  unfold firstP at h
  rw [List.find?_eq_some_iff_getElem] at h
  obtain ⟨h1, i, hi, rfl, h2⟩ := h
  simp only [List.length_range] at hi
  simp only [List.getElem_range] at h1 h2 ⊢
  exact ⟨hi, h1, fun j hj => by simpa using h2 j hj⟩
/-- the i-th point, round the list. -/
def atP (l : List Pt) (i : Nat) : Pt := l.getD (i % l.length) p0
theorem atP_lt {l : List Pt} {i : Nat} (h : i < l.length) : atP l i = l.getD i p0 := by unfold atP; rw [Nat.mod_eq_of_lt h]
def twiceP (l : List Pt) (i : Nat) : Bool := decide (l.getD i p0 ∈ l.take i)
def backP (l : List Pt) (i : Nat) : Bool := decide (turnP (atP l (i + l.length - 1)) (l.getD i p0) (atP l (i + 1)) = 0) && !onP (l.getD i p0) (atP l (i + l.length - 1)) (atP l (i + 1))
/-- are two edges ones that are asked, and do they meet? -/
def meetsAt (l : List Pt) (i k : Nat) : Bool := !(decide (k < i + 2) || (decide (i = 0) && decide (k + 1 = l.length))) && decide (meetK (l.getD i p0) (atP l (i + 1)) (l.getD k p0) (atP l (k + 1)) ≠ 0)
def meetsP (l : List Pt) (i : Nat) : Bool := (List.range l.length).any (meetsAt l i)
def ringCheckP (l : List Pt) : Int × Int :=
  if 200 < l.length then (3, 0) else if l.length < 3 then (190, 0) else
  match firstP l.length (fun i => !validP (l.getD i p0)) with
  | some i => (2, i)
  | none => match firstP l.length (twiceP l) with
    | some i => (191, i)
    | none => match firstP l.length (backP l) with
      | some i => (192, i)
      | none => match firstP l.length (meetsP l) with
        | some i => (193, i)
        | none => (0, 0)
/-- do two rings meet in more than points? -/
def ringsMeet (a b : List Pt) : Bool := (List.range a.length).any fun i => (List.range b.length).any fun k => decide (2 ≤ meetK (a.getD i p0) (atP a (i + 1)) (b.getD k p0) (atP b (k + 1)))
def sumLen (g : List (List Pt)) : Nat := (g.map List.length).sum
def regionCheckP (g : List (List Pt)) : Int × Int :=
  if 20 < g.length then (3, 0) else if g.length = 0 then (2, 0) else if 400 < sumLen g then (211, 0) else
  match firstP g.length (fun i => decide ((ringCheckP (g.getD i [])).1 ≠ 0)) with
  | some i => ((ringCheckP (g.getD i [])).1, i)
  | none => match firstP g.length (fun i => (g.drop (i + 1)).any (fun s => ringsMeet (g.getD i []) s)) with
    | some i => (210, i)
    | none => (0, 0)
/-- a ring that may be: its points may be. -/
theorem ring_ok {l : List Pt} (h : (ringCheckP l).1 = 0) : 3 ≤ l.length ∧ l.length ≤ 200 ∧ ∀ v ∈ l, validP v = true := by
  unfold ringCheckP at h
  split at h
  · cases h
  · split at h
    · cases h
    · split at h
      · cases h
      · rename_i hn
        refine ⟨by omega, by omega, fun v hv => ?_⟩
        obtain ⟨i, hi, rfl⟩ := List.mem_iff_getElem.1 hv
        have := firstP_eq_none hn i hi
        rw [List.getD_eq_getElem?_getD, List.getElem?_eq_getElem hi] at this
        simpa using this
theorem region_ok {g : List (List Pt)} (h : (regionCheckP g).1 = 0) : 0 < g.length ∧ g.length ≤ 20 ∧ sumLen g ≤ 400 ∧ ∀ r ∈ g, (ringCheckP r).1 = 0 := by
  unfold regionCheckP at h
  split at h
  · cases h
  · split at h
    · cases h
    · split at h
      · cases h
      · split at h
        · rename_i i hi
          exact absurd h (by have := (firstP_eq_some hi).2.1; simpa using this)
        · rename_i hn
          refine ⟨by omega, by omega, by omega, fun r hr => ?_⟩
          obtain ⟨i, hi, rfl⟩ := List.mem_iff_getElem.1 hr
          have := firstP_eq_none hn i hi
          rw [List.getD_eq_getElem?_getD, List.getElem?_eq_getElem hi] at this
          simpa using this
/-- a region that may be has a box. -/
theorem region_box {g : List (List Pt)} (h : (regionCheckP g).1 = 0) : ∃ lo hi, boundsP g.flatten = some (lo, hi) := by
  obtain ⟨h0, _, _, hr⟩ := region_ok h
  have hall : ∀ v ∈ g.flatten, validP v = true := fun v hv => by
    obtain ⟨r, hrm, hv⟩ := List.mem_flatten.1 hv
    exact (ring_ok (hr r hrm)).2.2 v hv
  cases hf : g.flatten with
  | nil =>
    exfalso
    have hr0 := hr g[0] (List.getElem_mem h0)
    have := (ring_ok hr0).1
    have : g[0] = [] := List.eq_nil_of_subset_nil (fun x hx => by rw [← hf]; exact List.mem_flatten.2 ⟨_, List.getElem_mem h0, hx⟩)
    rw [this] at hr0
    have := (ring_ok hr0).1
    simp at this
  | cons a m =>
    rw [hf] at hall
    unfold boundsP
    simp only
    rw [if_pos (List.all_eq_true.2 hall)]
    exact ⟨_, _, rfl⟩
end Go.Geo

/- plain law of boxes, of rings that meet, of regions: no program in sight -/
import Derived.Test.YtgijaaklhdcgeaaGeo2
namespace Go.Geo
/-- the box of points: the lowest, and one more than the highest. -/
def boundsP (l : List Pt) : Option (Pt × Pt) := match l with
  | [] => none
  | a :: m => if (a :: m).all validP then some (⟨m.foldl (fun z v => min z v.x) a.x, m.foldl (fun z v => min z v.y) a.y⟩, ⟨m.foldl (fun z v => max z v.x) a.x + 1, m.foldl (fun z v => max z v.y) a.y + 1⟩) else none
theorem foldl_min_le (f : Pt → Int) : ∀ (m : List Pt) (z : Int), m.foldl (fun z v => min z (f v)) z ≤ z ∧ ∀ v ∈ m, m.foldl (fun z v => min z (f v)) z ≤ f v
  | [], z => ⟨Int.le_refl _, fun v hv => by cases hv⟩
  | a :: m, z => by
    obtain ⟨h1, h2⟩ := foldl_min_le f m (min z (f a))
    refine ⟨by simp only [List.foldl_cons]; omega, fun v hv => ?_⟩
    simp only [List.foldl_cons]
    rcases List.mem_cons.1 hv with rfl | hv
    · omega
    · exact h2 v hv
theorem foldl_max_ge (f : Pt → Int) : ∀ (m : List Pt) (z : Int), z ≤ m.foldl (fun z v => max z (f v)) z ∧ ∀ v ∈ m, f v ≤ m.foldl (fun z v => max z (f v)) z
  | [], z => ⟨Int.le_refl _, fun v hv => by cases hv⟩
  | a :: m, z => by
    obtain ⟨h1, h2⟩ := foldl_max_ge f m (max z (f a))
    refine ⟨by simp only [List.foldl_cons]; omega, fun v hv => ?_⟩
    simp only [List.foldl_cons]
    rcases List.mem_cons.1 hv with rfl | hv
    · omega
    · exact h2 v hv
theorem bounds_in {l : List Pt} {lo hi : Pt} (h : boundsP l = some (lo, hi)) : (∀ v ∈ l, validP v = true) ∧ ∀ v ∈ l, lo.x ≤ v.x ∧ v.x < hi.x ∧ lo.y ≤ v.y ∧ v.y < hi.y := by
  cases l with
  | nil => cases h
  | cons a m =>
    unfold boundsP at h
    dsimp only at h
    split at h
    · rename_i hall
      injection h with h
      injection h with h1 h2
      subst h1
      subst h2
      refine ⟨fun v hv => List.all_eq_true.1 hall v hv, fun v hv => ?_⟩
      have k1 := foldl_min_le (fun v => v.x) m a.x
      have k2 := foldl_min_le (fun v => v.y) m a.y
      have k3 := foldl_max_ge (fun v => v.x) m a.x
      have k4 := foldl_max_ge (fun v => v.y) m a.y
      dsimp only
      rcases List.mem_cons.1 hv with rfl | hv
      · omega
      · have := k1.2 v hv
        have := k2.2 v hv
        have := k3.2 v hv
        have := k4.2 v hv
        omega
    · cases h
/-- a point in a box: the low sides are in it. -/
def boxIn (p lo hi : Pt) : Bool := decide (lo.x ≤ p.x) && decide (p.x < hi.x) && decide (lo.y ≤ p.y) && decide (p.y < hi.y)
def boxMeet (lo hi lo2 hi2 : Pt) : Bool := decide (max lo.x lo2.x < min hi.x hi2.x) && decide (max lo.y lo2.y < min hi.y hi2.y)
/-- a region's points: in an odd number of rings. -/
def inR (p : Pt) : List (List Pt) → Bool
  | [] => false
  | r :: g => inP p r ^^ inR p g
theorem inR_append (p : Pt) : ∀ (g : List (List Pt)) (h : List (List Pt)), inR p (g ++ h) = (inR p g ^^ inR p h)
  | [], h => by simp [inR]
  | r :: g, h => by
    rw [List.cons_append, inR, inR, inR_append p g h]
    cases inP p r <;> simp
theorem inR_some {p : Pt} : ∀ {g : List (List Pt)}, inR p g = true → ∃ r ∈ g, inP p r = true
  | [], h => by cases h
  | r :: g, h => by
    by_cases q : inP p r = true
    · exact ⟨r, by simp, q⟩
    · have q : inP p r = false := by simpa using q
      rw [inR, q] at h
      obtain ⟨s, hs, h⟩ := inR_some (g := g) (by simpa using h)
      exact ⟨s, List.mem_cons_of_mem _ hs, h⟩
/-- what is in a region is in its box. -/
theorem inR_box {p lo hi : Pt} {g : List (List Pt)} (hb : boundsP g.flatten = some (lo, hi)) (h : inR p g = true) : boxIn p lo hi = true := by
  obtain ⟨r, hr, h⟩ := inR_some h
  obtain ⟨k1, k2⟩ := bounds_in hb
  have hm : ∀ v ∈ r, v ∈ g.flatten := fun v hv => List.mem_flatten.2 ⟨r, hr, hv⟩
  have := in_box (lx := lo.x) (ly := lo.y) (hx := hi.x - 1) (hy := hi.y - 1) h (fun v hv => k1 v (hm v hv)) (fun v hv => by have := k2 v (hm v hv); omega)
  simp only [boxIn, Bool.and_eq_true, decide_eq_true_eq]
  omega
/-- the box of an edge. -/
theorem bounds_two (p q : Pt) (h : validP p = true ∧ validP q = true) : boundsP [p, q] = some (⟨min p.x q.x, min p.y q.y⟩, ⟨max p.x q.x + 1, max p.y q.y + 1⟩) := by
  simp [boundsP, h.1, h.2]
/-- where edges meet so that rings may not, the one edge's box meets the other ring's. -/
theorem meet_boxes {p q c d lo hi lo2 hi2 : Pt} {l : List Pt} (h : 2 ≤ meetK p q c d) (h1 : boundsP [p, q] = some (lo, hi)) (h2 : boundsP l = some (lo2, hi2)) (hc : c ∈ l) (hd : d ∈ l) : boxMeet lo hi lo2 hi2 = true := by
  have hs := meet_spans h
  obtain ⟨k1, k2⟩ := bounds_in h1
  obtain ⟨_, k3⟩ := bounds_in h2
  have hp := k2 p (by simp)
  have hq := k2 q (by simp)
  have hc := k3 c hc
  have hd := k3 d hd
  unfold spans at hs
  simp only [boxMeet, Bool.and_eq_true, decide_eq_true_eq]
  omega
end Go.Geo

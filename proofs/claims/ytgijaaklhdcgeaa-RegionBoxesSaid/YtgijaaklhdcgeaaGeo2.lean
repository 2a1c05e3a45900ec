/- plain law of segments that meet: no program in sight -/
import Derived.Test.YtgijaaklhdcgeaaGeo
namespace Go.Geo
def betw (n a b : Int) : Bool := decide (min a b ≤ n) && decide (n ≤ max a b)
def onP (p a b : Pt) : Bool := validP p && validP a && validP b && betw p.x a.x b.x && betw p.y a.y b.y && decide (turnP a b p = 0)
def mayP (a b : Pt) : Bool := validP a && validP b && decide (a ≠ b)
/-- those of a list that are not there yet, behind it. -/
def gatherP : List Pt → List Pt → List Pt
  | out, [] => out
  | out, p :: l => gatherP (if p ∈ out then out else out ++ [p]) l
def endsP (a b c d : Pt) : List Pt := if mayP a b && mayP c d then gatherP (gatherP [] ([a, b].filter (fun p => onP p c d))) ([c, d].filter (fun p => onP p a b)) else []
def crossP (a b c d : Pt) : Bool := decide (turnP a b c * turnP a b d < 0) && decide (turnP c d a * turnP c d b < 0)
/-- 0 none, 1 touch, 2 cross, 3 over; none where an edge is none. -/
def meetK (a b c d : Pt) : Nat := if mayP a b && mayP c d then (match (endsP a b c d).length with
  | 0 => if crossP a b c d then 2 else 0
  | 1 => 1
  | _ => 3) else 0
theorem sgn_range (n : Int) : sgn n = -1 ∨ sgn n = 0 ∨ sgn n = 1 := by unfold sgn; split <;> (try split) <;> simp
theorem turnP_range (a b c : Pt) : turnP a b c = -1 ∨ turnP a b c = 0 ∨ turnP a b c = 1 := by
  unfold turnP
  split
  · exact sgn_range _
  · simp
theorem sgn_mul {m n : Int} (h : sgn m * sgn n < 0) : (0 < m ∧ n < 0) ∨ (m < 0 ∧ 0 < n) := by
  unfold sgn at h
  repeat' split at h
  all_goals omega
theorem gatherP_mem : ∀ (l out : List Pt) (p : Pt), p ∈ gatherP out l → p ∈ out ∨ p ∈ l
  | [], out, p, h => .inl h
  | q :: l, out, p, h => by
    rcases gatherP_mem l _ p h with h | h
    · split at h
      · exact .inl h
      · rcases List.mem_append.1 h with h | h
        · exact .inl h
        · exact .inr (by rw [List.mem_singleton.1 h]; simp)
    · exact .inr (List.mem_cons_of_mem _ h)
/-- two spans have a number in common. -/
def spans (a b c d : Int) : Prop := max (min a b) (min c d) ≤ min (max a b) (max c d)
theorem spans_of {n a b c d : Int} (h1 : betw n a b = true) (h2 : betw n c d = true) : spans a b c d := by
  simp only [betw, Bool.and_eq_true, decide_eq_true_eq] at h1 h2
  unfold spans
  omega
theorem betw_left (a b : Int) : betw a a b = true := by simp only [betw, Bool.and_eq_true, decide_eq_true_eq]; omega
theorem betw_right (a b : Int) : betw b a b = true := by simp only [betw, Bool.and_eq_true, decide_eq_true_eq]; omega
theorem cross_core {A B C D M m ax bx cx dx : Int} (hA : 0 < A) (hB : B < 0) (hC : C < 0) (hD : 0 < D) (he : A * dx - B * cx = D * ax - C * bx) (hs : D - C = A - B) (h1 : ax ≤ M) (h2 : bx ≤ M) (h3 : m ≤ cx) (h4 : m ≤ dx) : m ≤ M := by
  by_cases q : m ≤ M
  · exact q
  exfalso
  have k1 : A * m ≤ A * dx := Int.mul_le_mul_of_nonneg_left h4 (by omega)
  have k2 : (-B) * m ≤ (-B) * cx := Int.mul_le_mul_of_nonneg_left h3 (by omega)
  have k3 : D * ax ≤ D * M := Int.mul_le_mul_of_nonneg_left h1 (by omega)
  have k4 : (-C) * bx ≤ (-C) * M := Int.mul_le_mul_of_nonneg_left h2 (by omega)
  have k5 : (A - B) * M < (A - B) * m := Int.mul_lt_mul_of_pos_left (by omega) (by omega)
  have e1 : (A - B) * m = A * m + (-B) * m := by grind
  have e2 : (A - B) * M = D * M + (-C) * M := by rw [← hs]; grind
  have e3 : (-B) * cx = -(B * cx) := by grind
  have e4 : (-C) * bx = -(C * bx) := by grind
  omega
theorem cross_core2 {A B C D M m ax bx cx dx : Int} (hA : 0 < A) (hB : B < 0) (hC : C < 0) (hD : 0 < D) (he : A * dx - B * cx = D * ax - C * bx) (hs : D - C = A - B) (h1 : m ≤ ax) (h2 : m ≤ bx) (h3 : cx ≤ M) (h4 : dx ≤ M) : m ≤ M := by
  have := cross_core (A := A) (B := B) (C := C) (D := D) (M := -m) (m := -M) (ax := -ax) (bx := -bx) (cx := -cx) (dx := -dx) hA hB hC hD (by grind) hs (by omega) (by omega) (by omega) (by omega)
  omega
theorem cross_spans {A B C D ax bx cx dx : Int} (hAB : (0 < A ∧ B < 0) ∨ (A < 0 ∧ 0 < B)) (hCD : (0 < C ∧ D < 0) ∨ (C < 0 ∧ 0 < D)) (he : A * dx - B * cx = D * ax - C * bx) (hs : D - C = A - B) : spans ax bx cx dx := by
  unfold spans
  rcases hAB with ⟨hA, hB⟩ | ⟨hA, hB⟩
  · have hCD : C < 0 ∧ 0 < D := by omega
    have k1 := cross_core (M := max ax bx) (m := min cx dx) hA hB hCD.1 hCD.2 he hs (by omega) (by omega) (by omega) (by omega)
    have k2 := cross_core2 (m := min ax bx) (M := max cx dx) hA hB hCD.1 hCD.2 he hs (by omega) (by omega) (by omega) (by omega)
    omega
  · have hCD : 0 < C ∧ D < 0 := by omega
    have k1 := cross_core (A := -A) (B := -B) (C := -C) (D := -D) (ax := ax) (bx := bx) (cx := cx) (dx := dx) (M := max ax bx) (m := min cx dx) (by omega) (by omega) (by omega) (by omega) (by grind) (by omega) (by omega) (by omega) (by omega) (by omega)
    have k2 := cross_core2 (A := -A) (B := -B) (C := -C) (D := -D) (ax := ax) (bx := bx) (cx := cx) (dx := dx) (m := min ax bx) (M := max cx dx) (by omega) (by omega) (by omega) (by omega) (by grind) (by omega) (by omega) (by omega) (by omega) (by omega)
    omega
theorem area_x (a b c d : Pt) : area a b c * d.x - area a b d * c.x = area c d b * a.x - area c d a * b.x := by unfold area; grind
theorem area_y (a b c d : Pt) : area a b c * d.y - area a b d * c.y = area c d b * a.y - area c d a * b.y := by unfold area; grind
theorem area_s (a b c d : Pt) : area c d b - area c d a = area a b c - area a b d := by unfold area; grind
/-- where edges cross, or lie one over the other, their boxes have a point in common. -/
theorem meet_spans {a b c d : Pt} (h : 2 ≤ meetK a b c d) : spans a.x b.x c.x d.x ∧ spans a.y b.y c.y d.y := by
  unfold meetK at h
  split at h
  · rename_i hm
    have hv : validP a = true ∧ validP b = true ∧ validP c = true ∧ validP d = true := by
      simp only [mayP, Bool.and_eq_true] at hm
      exact ⟨hm.1.1.1, hm.1.1.2, hm.2.1.1, hm.2.1.2⟩
    split at h
    · split at h
      · rename_i hc
        simp only [crossP, Bool.and_eq_true, decide_eq_true_eq] at hc
        unfold turnP at hc
        rw [hv.1, hv.2.1, hv.2.2.1, hv.2.2.2] at hc
        simp only [Bool.and_self, if_true] at hc
        have k1 := sgn_mul hc.1
        have k2 := sgn_mul hc.2
        exact ⟨cross_spans k1 k2 (area_x a b c d) (area_s a b c d), cross_spans k1 k2 (area_y a b c d) (area_s a b c d)⟩
      · omega
    · omega
    · rename_i h0 h1
      have : ∃ e, e ∈ endsP a b c d := by
        cases he : endsP a b c d with
        | nil => rw [he] at h0; exact absurd rfl h0
        | cons e l => exact ⟨e, by simp⟩
      obtain ⟨e, he⟩ := this
      unfold endsP at he
      rw [if_pos hm] at he
      have key : ∀ e p q r s : Pt, e ∈ [p, q].filter (fun z => onP z r s) → (betw e.x p.x q.x = true ∧ betw e.x r.x s.x = true) ∧ (betw e.y p.y q.y = true ∧ betw e.y r.y s.y = true) := by
        intro e p q r s he
        obtain ⟨h1, h2⟩ := List.mem_filter.1 he
        simp only [onP, Bool.and_eq_true] at h2
        rcases List.mem_cons.1 h1 with rfl | h1
        · exact ⟨⟨betw_left _ _, h2.1.1.2⟩, betw_left _ _, h2.1.2⟩
        · obtain rfl := List.mem_singleton.1 h1
          exact ⟨⟨betw_right _ _, h2.1.1.2⟩, betw_right _ _, h2.1.2⟩
      rcases gatherP_mem _ _ _ he with he | he
      · rcases gatherP_mem _ _ _ he with he | he
        · cases he
        · have := key e a b c d he
          exact ⟨spans_of this.1.1 this.1.2, spans_of this.2.1 this.2.2⟩
      · have := key e c d a b he
        exact ⟨spans_of this.1.2 this.1.1, spans_of this.2.2 this.2.1⟩
  · omega
end Go.Geo

/- plain law: the sign of a difference of two products: no program in sight -/
import Derived.Test.YtgijaaklhdcgeaaGeo7
namespace Go.Geo
theorem sgn_cmp (n : Int) : cmpZ n 0 = sgn n := by unfold cmpZ sgn; split <;> (try split) <;> (try split) <;> omega
theorem mul_sgn (a b : Int) : ∃ P : Nat, P = a.natAbs * b.natAbs ∧ a * b = sgn a * sgn b * (P : Int) ∧ ((sgn a * sgn b = 1 ∧ 0 < P) ∨ (sgn a * sgn b = -1 ∧ 0 < P) ∨ (sgn a * sgn b = 0 ∧ P = 0)) := by
  refine ⟨_, rfl, ?_, ?_⟩
  · unfold sgn
    rw [Int.natCast_mul]
    split
    · rename_i h1
      have e1 : (a.natAbs : Int) = - a := by omega
      split
      · have e2 : (b.natAbs : Int) = - b := by omega
        rw [e1, e2]; grind
      · split
        · rename_i h2; subst h2; simp
        · have e2 : (b.natAbs : Int) = b := by omega
          rw [e1, e2]; grind
    · split
      · rename_i h2; subst h2; simp
      · have e1 : (a.natAbs : Int) = a := by omega
        split
        · have e2 : (b.natAbs : Int) = - b := by omega
          rw [e1, e2]; grind
        · split
          · rename_i h2; subst h2; simp
          · have e2 : (b.natAbs : Int) = b := by omega
            rw [e1, e2]; grind
  · have hp : a ≠ 0 → b ≠ 0 → 0 < a.natAbs * b.natAbs := fun h1 h2 => Nat.mul_pos (by omega) (by omega)
    unfold sgn
    by_cases h1 : a = 0
    · right; right; subst h1; simp
    · by_cases h2 : b = 0
      · right; right; subst h2; simp
      · have := hp h1 h2
        split <;> split <;> simp_all
/-- a product's sign, a product's size in two parts: what is less. -/
def signW (s t : Int) (P Q : Nat) : Int := if s = t then s * (if cmpZ (P / 18446744073709551616 : Nat) (Q / 18446744073709551616 : Nat) = 0 then cmpZ (P % 18446744073709551616 : Nat) (Q % 18446744073709551616 : Nat) else cmpZ (P / 18446744073709551616 : Nat) (Q / 18446744073709551616 : Nat)) else cmpZ s t
theorem cmp_parts (P Q : Nat) : (if cmpZ (P / 18446744073709551616 : Nat) (Q / 18446744073709551616 : Nat) = 0 then cmpZ (P % 18446744073709551616 : Nat) (Q % 18446744073709551616 : Nat) else cmpZ (P / 18446744073709551616 : Nat) (Q / 18446744073709551616 : Nat)) = cmpZ P Q := by
  unfold cmpZ
  have h1 := Nat.div_add_mod P 18446744073709551616
  have h2 := Nat.div_add_mod Q 18446744073709551616
  have h3 := Nat.mod_lt P (show 18446744073709551616 > 0 by decide)
  have h4 := Nat.mod_lt Q (show 18446744073709551616 > 0 by decide)
  generalize P / 18446744073709551616 = a at *
  generalize Q / 18446744073709551616 = b at *
  generalize P % 18446744073709551616 = c at *
  generalize Q % 18446744073709551616 = d at *
  split <;> split <;> (try split) <;> (try split) <;> (try split) <;> omega
theorem sign_law (a b c d : Int) : signW (sgn a * sgn b) (sgn c * sgn d) (a.natAbs * b.natAbs) (c.natAbs * d.natAbs) = sgn (a * b - c * d) := by
  obtain ⟨P, hP, e1, h1⟩ := mul_sgn a b
  obtain ⟨Q, hQ, e2, h2⟩ := mul_sgn c d
  rw [← hP, ← hQ, e1, e2]
  unfold signW
  rw [cmp_parts]
  rcases h1 with ⟨s, hp⟩ | ⟨s, hp⟩ | ⟨s, hp⟩ <;> rcases h2 with ⟨t, hq⟩ | ⟨t, hq⟩ | ⟨t, hq⟩ <;> rw [s, t] <;> unfold cmpZ sgn <;> (try simp only [Int.one_mul, Int.neg_mul, Int.zero_mul, if_true]) <;> (repeat' split) <;> omega
theorem take_more {α : Type} {l : List α} {d : α} {k : Nat} (h : k < l.length) : l.take (k + 1) = l.take k ++ [l.getD k d] := by
  rw [List.take_succ_eq_append_getElem h, getD_lt h]
/-- the least, the greatest of the first k, and of z. -/
def minK (f : Pt → Int) (z : Int) (l : List Pt) (k : Nat) : Int := (l.take k).foldl (fun z v => min z (f v)) z
def maxK (f : Pt → Int) (z : Int) (l : List Pt) (k : Nat) : Int := (l.take k).foldl (fun z v => max z (f v)) z
theorem minK_succ {f : Pt → Int} {z : Int} {l : List Pt} {k : Nat} (h : k < l.length) : minK f z l (k + 1) = min (minK f z l k) (f (l.getD k p0)) := by unfold minK; rw [take_more (d := p0) h]; simp
theorem maxK_succ {f : Pt → Int} {z : Int} {l : List Pt} {k : Nat} (h : k < l.length) : maxK f z l (k + 1) = max (maxK f z l k) (f (l.getD k p0)) := by unfold maxK; rw [take_more (d := p0) h]; simp
theorem bounds_fold {l : List Pt} (h0 : 0 < l.length) (hv : l.all validP = true) : boundsP l = some (⟨minK Pt.x (l.getD 0 p0).x l l.length, minK Pt.y (l.getD 0 p0).y l l.length⟩, ⟨maxK Pt.x (l.getD 0 p0).x l l.length + 1, maxK Pt.y (l.getD 0 p0).y l l.length + 1⟩) := by
  cases l with
  | nil => simp at h0
  | cons a m =>
    unfold boundsP minK maxK
    simp only
    rw [if_pos hv]
    simp
theorem bounds_none {l : List Pt} (h : l.all validP = false ∨ l.length = 0) : boundsP l = none := by
  cases l with
  | nil => rfl
  | cons a m =>
    rcases h with h | h
    · unfold boundsP
      simp only
      rw [if_neg (by rw [h]; simp)]
    · simp at h
theorem inR_cnt (p : Pt) : ∀ g : List (List Pt), inR p g = oddB (cntB g.length (fun i => inP p (g.getD i [])))
  | [] => rfl
  | r :: g => by
    rw [inR, inR_cnt p g, List.length_cons, cntB_front, oddB_add, oddB_ite]
    rfl
theorem inR_take {p : Pt} {g : List (List Pt)} {k : Nat} (h : k < g.length) : inR p (g.take (k + 1)) = (inR p (g.take k) ^^ inP p (g.getD k [])) := by
  rw [take_more (d := []) h, inR_append]
  simp [inR]
theorem sumLen_append (g h : List (List Pt)) : sumLen (g ++ h) = sumLen g + sumLen h := by unfold sumLen; simp
theorem sumLen_take {g : List (List Pt)} {k : Nat} (h : k < g.length) : sumLen (g.take (k + 1)) = sumLen (g.take k) + (g.getD k []).length := by
  rw [take_more (d := []) h, sumLen_append]
  simp [sumLen]
theorem sumLen_get {g : List (List Pt)} {k : Nat} (h : k < g.length) : (g.getD k []).length ≤ sumLen g := by
  have h1 := sumLen_take h
  have h2 : sumLen (g.take (k + 1)) ≤ sumLen g := by
    have := sumLen_append (g.take (k + 1)) (g.drop (k + 1))
    rw [List.take_append_drop] at this
    omega
  omega
theorem sumLen_flatten : ∀ g : List (List Pt), g.flatten.length = sumLen g
  | [] => rfl
  | r :: g => by rw [List.flatten_cons, List.length_append, sumLen_flatten g]; simp [sumLen]
end Go.Geo

/- IndexTiles: the plain law (no program in sight) -/
import Derived.Test.YtjiiikeniocmfaaGreatMIKnown0
import Derived.Test.YtjiiikeniocmfaaGreatMQPick
set_option linter.unusedSimpArgs false
set_option linter.unusedVariables false
namespace Go.Proofs.YtjiiikeniocmfaaGreat
open Go.Geo
/-- four points: a left side and a right side, both going up. -/
def trap (x0 x1 l0 r0 r1 l1 : Int) : List Pt := [⟨x0, l0⟩, ⟨x1, r0⟩, ⟨x1, r1⟩, ⟨x0, l1⟩]
theorem turn_one {a b c : Pt} (ha : validP a = true) (hb : validP b = true) (hc : validP c = true) (h : 0 < area a b c) : turnP a b c = 1 := by
  unfold turnP
  rw [ha, hb, hc]
  exact sgn_one.2 h
theorem meet_none {a b c d : Pt} (h1 : turnP a b c = 1) (h2 : turnP a b d = 1) (h3 : turnP c d a = 1) (h4 : turnP c d b = 1) : meetK a b c d = 0 := by
  have o1 : onP a c d = false := by unfold onP; rw [h3]; simp
  have o2 : onP b c d = false := by unfold onP; rw [h4]; simp
  have o3 : onP c a b = false := by unfold onP; rw [h1]; simp
  have o4 : onP d a b = false := by unfold onP; rw [h2]; simp
  have he : endsP a b c d = [] := by
    unfold endsP
    split
    · simp [o1, o2, o3, o4, gatherP]
    · rfl
  have hc : crossP a b c d = false := by unfold crossP; rw [h1, h2]; rfl
  unfold meetK
  rw [he, hc]
  split <;> rfl
structure TrapOk (x0 x1 l0 r0 r1 l1 : Int) : Prop where
  x : x0 < x1
  l : l0 < l1
  r : r0 < r1
  xs : -1099511627775 ≤ x0 ∧ x1 ≤ 1099511627775
  ls : -1099511627775 ≤ l0 ∧ l1 ≤ 1099511627775
  rs : -1099511627775 ≤ r0 ∧ r1 ≤ 1099511627775
theorem TrapOk.turns {x0 x1 l0 r0 r1 l1 : Int} (h : TrapOk x0 x1 l0 r0 r1 l1) :
    (validP ⟨x0, l0⟩ = true ∧ validP ⟨x1, r0⟩ = true ∧ validP ⟨x1, r1⟩ = true ∧ validP ⟨x0, l1⟩ = true) ∧
    turnP ⟨x0, l1⟩ ⟨x0, l0⟩ ⟨x1, r0⟩ = 1 ∧ turnP ⟨x0, l0⟩ ⟨x1, r0⟩ ⟨x1, r1⟩ = 1 ∧ turnP ⟨x1, r0⟩ ⟨x1, r1⟩ ⟨x0, l1⟩ = 1 ∧ turnP ⟨x1, r1⟩ ⟨x0, l1⟩ ⟨x0, l0⟩ = 1 ∧
    turnP ⟨x0, l0⟩ ⟨x1, r0⟩ ⟨x0, l1⟩ = 1 ∧ turnP ⟨x1, r1⟩ ⟨x0, l1⟩ ⟨x1, r0⟩ = 1 ∧ turnP ⟨x1, r0⟩ ⟨x1, r1⟩ ⟨x0, l0⟩ = 1 ∧ turnP ⟨x0, l1⟩ ⟨x0, l0⟩ ⟨x1, r1⟩ = 1 := by
  obtain ⟨hx, hl, hr, hxs, hls, hrs⟩ := h
  have v0 : validP ⟨x0, l0⟩ = true := (validP_iff _).2 (by dsimp only; omega)
  have v1 : validP ⟨x1, r0⟩ = true := (validP_iff _).2 (by dsimp only; omega)
  have v2 : validP ⟨x1, r1⟩ = true := (validP_iff _).2 (by dsimp only; omega)
  have v3 : validP ⟨x0, l1⟩ = true := (validP_iff _).2 (by dsimp only; omega)
  have p1 : 0 < (x1 - x0) * (l1 - l0) := Int.mul_pos (by omega) (by omega)
  have p2 : 0 < (x1 - x0) * (r1 - r0) := Int.mul_pos (by omega) (by omega)
  refine ⟨⟨v0, v1, v2, v3⟩, turn_one v3 v0 v1 ?_, turn_one v0 v1 v2 ?_, turn_one v1 v2 v3 ?_, turn_one v2 v3 v0 ?_, turn_one v0 v1 v3 ?_, turn_one v2 v3 v1 ?_, turn_one v1 v2 v0 ?_, turn_one v3 v0 v2 ?_⟩
  all_goals (unfold area; dsimp only; grind)
theorem trap_ring {x0 x1 l0 r0 r1 l1 : Int} (h : TrapOk x0 x1 l0 r0 r1 l1) : ringCheckP (trap x0 x1 l0 r0 r1 l1) = (0, 0) := by
  obtain ⟨⟨v0, v1, v2, v3⟩, t0, t1, t2, t3, t4, t5, t6, t7⟩ := h.turns
  obtain ⟨hx, hl, hr, _⟩ := h
  have e1 : firstP (trap x0 x1 l0 r0 r1 l1).length (fun i => !validP ((trap x0 x1 l0 r0 r1 l1).getD i p0)) = none := firstP_none fun i hi => by
    match i, hi with
    | 0, _ => simp [trap, v0]
    | 1, _ => simp [trap, v1]
    | 2, _ => simp [trap, v2]
    | 3, _ => simp [trap, v3]
  have e2 : firstP (trap x0 x1 l0 r0 r1 l1).length (twiceP (trap x0 x1 l0 r0 r1 l1)) = none := firstP_none fun i hi => by
    match i, hi with
    | 0, _ => simp [trap, twiceP]
    | 1, _ => simp [trap, twiceP]; omega
    | 2, _ => simp [trap, twiceP]; omega
    | 3, _ => simp [trap, twiceP]; omega
  have e3 : firstP (trap x0 x1 l0 r0 r1 l1).length (backP (trap x0 x1 l0 r0 r1 l1)) = none := firstP_none fun i hi => by
    match i, hi with
    | 0, _ => simp [trap, backP, atP, t0]
    | 1, _ => simp [trap, backP, atP, t1]
    | 2, _ => simp [trap, backP, atP, t2]
    | 3, _ => simp [trap, backP, atP, t3]
  have m02 := meet_none t1 t4 t3 t5
  have m13 := meet_none t2 t6 t0 t7
  have m20 := meet_none t3 t5 t1 t4
  have m31 := meet_none t0 t7 t2 t6
  have e4 : firstP (trap x0 x1 l0 r0 r1 l1).length (meetsP (trap x0 x1 l0 r0 r1 l1)) = none := firstP_none fun i hi => by
    unfold meetsP
    rw [List.any_eq_false]
    intro k hk
    have hk := List.mem_range.1 hk
    match i, hi, k, hk with
    | 0, _, 0, _ => simp [meetsAt]
    | 0, _, 1, _ => simp [meetsAt]
    | 0, _, 2, _ => simp [meetsAt, trap, atP, m02]
    | 0, _, 3, _ => simp [meetsAt, trap]
    | 1, _, 0, _ => simp [meetsAt]
    | 1, _, 1, _ => simp [meetsAt]
    | 1, _, 2, _ => simp [meetsAt]
    | 1, _, 3, _ => simp [meetsAt, trap, atP, m13]
    | 2, _, 0, _ => simp [meetsAt]
    | 2, _, 1, _ => simp [meetsAt]
    | 2, _, 2, _ => simp [meetsAt]
    | 2, _, 3, _ => simp [meetsAt]
    | 3, _, 0, _ => simp [meetsAt]
    | 3, _, 1, _ => simp [meetsAt]
    | 3, _, 2, _ => simp [meetsAt]
    | 3, _, 3, _ => simp [meetsAt]
  unfold ringCheckP
  rw [if_neg (by simp [trap]), if_neg (by simp [trap]), e1, e2, e3, e4]
theorem one_ring {P : List Pt} (h : ringCheckP P = (0, 0)) (hl : P.length ≤ 100) : regionCheckP [P] = (0, 0) := by
  have e1 : firstP [P].length (fun i => decide ((ringCheckP ([P].getD i [])).1 ≠ 0)) = none := firstP_none fun i hi => by
    match i, hi with
    | 0, _ => simp [h]
  have e2 : firstP [P].length (fun i => ([P].drop (i + 1)).any (fun s => ringsMeet ([P].getD i []) s)) = none := firstP_none fun i hi => by
    match i, hi with
    | 0, _ => simp
  unfold regionCheckP
  rw [if_neg (by simp), if_neg (by simp), if_neg (by simp [sumLen]; omega), e1, e2]
theorem trap_ok {x0 x1 l0 r0 r1 l1 : Int} (h : TrapOk x0 x1 l0 r0 r1 l1) : (regionCheckP [trap x0 x1 l0 r0 r1 l1]).1 = 0 := by
  rw [one_ring (trap_ring h) (by simp [trap])]
theorem box_trap (a b c d : Int) : boxP a b c d = trap a c b b d d := rfl
/-- what is in four points. -/
theorem trap_in (p : Pt) (x0 x1 l0 r0 r1 l1 : Int) : inP p (trap x0 x1 l0 r0 r1 l1) = (countsP p ⟨x0, l1⟩ ⟨x0, l0⟩ ^^ countsP p ⟨x0, l0⟩ ⟨x1, r0⟩ ^^ countsP p ⟨x1, r0⟩ ⟨x1, r1⟩ ^^ countsP p ⟨x1, r1⟩ ⟨x0, l1⟩) := by
  show xorP (countsP p) (lastP ⟨x0, l0⟩ [⟨x1, r0⟩, ⟨x1, r1⟩, ⟨x0, l1⟩]) [⟨x0, l0⟩, ⟨x1, r0⟩, ⟨x1, r1⟩, ⟨x0, l1⟩] = _
  have : lastP ⟨x0, l0⟩ [⟨x1, r0⟩, ⟨x1, r1⟩, ⟨x0, l1⟩] = (⟨x0, l1⟩ : Pt) := rfl
  rw [this]
  simp only [xorP, Bool.xor_false, Bool.xor_assoc]
def inB (p : Pt) (a b c d : Int) : Bool := decide (a ≤ p.x) && decide (p.x < c) && decide (b ≤ p.y) && decide (p.y < d)
theorem box_in {p : Pt} {a b c d : Int} (h : TrapOk a c b b d d) : inR p [boxP a b c d] = inB p a b c d := by
  obtain ⟨⟨v0, v1, v2, v3⟩, _⟩ := h.turns
  have hr : inR p [boxP a b c d] = inP p (trap a c b b d d) := by
    rw [box_trap]
    simp [inR]
  rw [hr, trap_in]
  by_cases hp : validP p = true
  · rw [counts_vert hp v3 v0 rfl, counts_vert hp v1 v2 rfl, counts_level (a := ⟨a, b⟩) (b := ⟨c, b⟩) rfl, counts_level (a := ⟨c, d⟩) (b := ⟨a, d⟩) rfl]
    obtain ⟨hx, hl, _⟩ := h
    unfold inB
    dsimp only
    rw [Bool.eq_iff_iff]
    by_cases q1 : a ≤ p.x <;> by_cases q2 : p.x < c <;> by_cases q3 : b ≤ p.y <;> by_cases q4 : d ≤ p.y <;> simp [q1, q2, q3, q4] <;> omega
  · have hp : validP p = false := by simpa using hp
    rw [counts_invalid hp, counts_invalid hp, counts_invalid hp, counts_invalid hp]
    have : ¬ inB p a b c d = true := fun hh => by
      unfold inB at hh
      simp only [Bool.and_eq_true, decide_eq_true_eq] at hh
      have : validP p = true := by rw [validP_iff]; have := h.xs; have := h.ls; omega
      rw [hp] at this
      cases this
    simp only [Bool.not_eq_true] at this
    rw [this]; rfl
/-- of the two parts of a cut box just one has a point of it, and none another one. -/
theorem cut_in {p : Pt} {x y a b : Int} (h1 : TrapOk 0 x 0 0 b a) (h2 : TrapOk 0 x a b y y) : (inR p [trap 0 x 0 0 b a] ^^ inR p [trap 0 x a b y y]) = inB p 0 0 x y ∧ (inB p 0 0 x y = false → inR p [trap 0 x 0 0 b a] = false ∧ inR p [trap 0 x a b y y] = false) := by
  obtain ⟨⟨v0, v1, v2, v3⟩, _⟩ := h1.turns
  obtain ⟨⟨u0, u1, u2, u3⟩, _⟩ := h2.turns
  have s1 : ∀ P : List Pt, inR p [P] = inP p P := fun P => by simp [inR]
  rw [s1, s1]
  have hx := h1.x
  have hl := h1.l
  have hr := h1.r
  have hl2 := h2.l
  have hr2 := h2.r
  have ht := tiles (p := p) (low := ⟨0, 0⟩) (high := ⟨x, y⟩) (a := ⟨0, a⟩) (b := ⟨x, b⟩) (line := [⟨x, b⟩]) v0 u2 hx (by dsimp only; omega) ⟨rfl, by dsimp only; omega, by dsimp only; omega⟩ ⟨rfl, by dsimp only; omega, by dsimp only; omega⟩ rfl
  have e1 : inP p ((⟨0, 0⟩ : Pt) :: ⟨x, 0⟩ :: ([(⟨0, a⟩ : Pt), ⟨x, b⟩]).reverse) = inP p (trap 0 x 0 0 b a) := rfl
  have e2 : inP p ((⟨x, y⟩ : Pt) :: ⟨0, y⟩ :: (⟨0, a⟩ : Pt) :: [⟨x, b⟩]) = inP p (trap 0 x a b y y) := by
    rw [trap_in]
    show xorP (countsP p) (lastP ⟨x, y⟩ [⟨0, y⟩, ⟨0, a⟩, ⟨x, b⟩]) [⟨x, y⟩, ⟨0, y⟩, ⟨0, a⟩, ⟨x, b⟩] = _
    have : lastP ⟨x, y⟩ [⟨0, y⟩, ⟨0, a⟩, ⟨x, b⟩] = (⟨x, b⟩ : Pt) := rfl
    rw [this]
    simp only [xorP, Bool.xor_false]
    cases countsP p ⟨x, b⟩ ⟨x, y⟩ <;> cases countsP p ⟨x, y⟩ ⟨0, y⟩ <;> cases countsP p ⟨0, y⟩ ⟨0, a⟩ <;> cases countsP p ⟨0, a⟩ ⟨x, b⟩ <;> rfl
  rw [e1, e2] at ht
  have hB : inB p 0 0 x y = (decide ((0 : Int) ≤ p.x) && decide (p.x < x) && decide ((0 : Int) ≤ p.y) && decide (p.y < y)) := rfl
  refine ⟨by rw [hB]; exact ht, fun hn => ?_⟩
  have out : ∀ P : List Pt, (∀ v ∈ P, validP v = true) → (∀ v ∈ P, 0 ≤ v.x ∧ v.x ≤ x ∧ 0 ≤ v.y ∧ v.y ≤ y) → inP p P = false := fun P hv hb => by
    cases hq : inP p P with
    | false => rfl
    | true =>
      have := in_box hq hv hb
      unfold inB at hn
      simp only [Bool.and_eq_false_iff, decide_eq_false_iff_not] at hn
      omega
  refine ⟨out _ (fun v hv => ?_) (fun v hv => ?_), out _ (fun v hv => ?_) (fun v hv => ?_)⟩
  · simp only [trap, List.mem_cons, List.not_mem_nil, or_false] at hv
    rcases hv with rfl | rfl | rfl | rfl <;> assumption
  · simp only [trap, List.mem_cons, List.not_mem_nil, or_false] at hv
    rcases hv with rfl | rfl | rfl | rfl <;> (dsimp only; omega)
  · simp only [trap, List.mem_cons, List.not_mem_nil, or_false] at hv
    rcases hv with rfl | rfl | rfl | rfl <;> assumption
  · simp only [trap, List.mem_cons, List.not_mem_nil, or_false] at hv
    rcases hv with rfl | rfl | rfl | rfl <;> (dsimp only; omega)
/-- how many regions have a point. -/
def cntR (p : Pt) (L : List Reg) : Nat := (L.filter (inR p)).length
theorem cntR_snoc (p : Pt) (L : List Reg) (R : Reg) : cntR p (L ++ [R]) = cntR p L + if inR p R = true then 1 else 0 := by
  unfold cntR
  rw [List.filter_append, List.length_append]
  simp only [List.filter_cons, List.filter_nil]
  cases inR p R <;> simp
theorem askG_cnt (p : Pt) (G : List Reg) : (askG (inR p) G).length = cntR p G := by
  have hG : G = (allI G.length).map (regI G) := by
    apply List.ext_getElem?
    intro i
    by_cases hi : i < G.length
    · unfold allI
      rw [List.getElem?_map, List.getElem?_map, List.getElem?_range hi, List.getElem?_eq_getElem hi]
      simp [regI, List.getElem?_eq_getElem hi]
    · rw [List.getElem?_eq_none (by omega), List.getElem?_eq_none (by simp [allI_len]; omega)]
  unfold cntR askG
  conv => rhs; rw [hG]
  rw [List.filter_map, List.length_map]
  rfl
theorem cut_cnt {p : Pt} {x y a b : Int} (h1 : TrapOk 0 x 0 0 b a) (h2 : TrapOk 0 x a b y y) : cntR p [[trap 0 x 0 0 b a], [trap 0 x a b y y]] = if inB p 0 0 x y = true then 1 else 0 := by
  obtain ⟨hc, hn⟩ := cut_in (p := p) h1 h2
  unfold cntR
  cases hb : inB p 0 0 x y with
  | false =>
    obtain ⟨e1, e2⟩ := hn hb
    simp [List.filter_cons, e1, e2]
  | true =>
    rw [hb] at hc
    cases e1 : inR p [trap 0 x 0 0 b a] <;> cases e2 : inR p [trap 0 x a b y y] <;> rw [e1, e2] at hc <;> simp [List.filter_cons, e1, e2] at hc ⊢
/-- widths, added up. -/
def sumP (L : List Int) : Nat → Int
  | 0 => 0
  | k + 1 => sumP L k + (1 + pickP (L.getD k 0) 1000)
theorem pick_in {x n : Int} (hn : 1 ≤ n) : 0 ≤ pickP x n ∧ pickP x n < n := by
  unfold pickP
  rw [if_neg (by omega)]
  exact ⟨Int.emod_nonneg x (by omega), Int.emod_lt_of_pos x (by omega)⟩
theorem sumP_in (L : List Int) : ∀ k : Nat, (k : Int) ≤ sumP L k ∧ sumP L k ≤ 1000 * (k : Int)
  | 0 => by simp [sumP]
  | k + 1 => by
    have h1 := sumP_in L k
    have h2 := pick_in (x := L.getD k 0) (n := 1000) (by omega)
    unfold sumP
    omega
/-- a box more in a row. -/
theorem cnt_step {p : Pt} {L : List Reg} {A : Nat} {x x2 y y2 : Int} (h : TrapOk x x2 y y y2 y2) (h0 : 0 ≤ x) (hc : cntR p L = A + if inB p 0 y x y2 = true then 1 else 0) : cntR p (L ++ [[boxP x y x2 y2]]) = A + if inB p 0 y x2 y2 = true then 1 else 0 := by
  rw [cntR_snoc, hc, box_in h]
  have := h.x
  unfold inB
  by_cases q1 : (0 : Int) ≤ p.x <;> by_cases q2 : p.x < x <;> by_cases q3 : x ≤ p.x <;> by_cases q4 : p.x < x2 <;> by_cases q5 : y ≤ p.y <;> by_cases q6 : p.y < y2 <;> simp [q1, q2, q3, q4, q5, q6] <;> omega
/-- a row more. -/
theorem cnt_row {p : Pt} {n : Nat} {x y y2 : Int} (h0 : 0 ≤ y) (h : y < y2) (hc : n = (if inB p 0 0 x y = true then 1 else 0) + if inB p 0 y x y2 = true then 1 else 0) : n = if inB p 0 0 x y2 = true then 1 else 0 := by
  rw [hc]
  unfold inB
  by_cases q1 : (0 : Int) ≤ p.x <;> by_cases q2 : p.x < x <;> by_cases q3 : (0 : Int) ≤ p.y <;> by_cases q4 : p.y < y <;> by_cases q5 : y ≤ p.y <;> by_cases q6 : p.y < y2 <;> simp [q1, q2, q3, q4, q5, q6] <;> omega
end Go.Proofs.YtjiiikeniocmfaaGreat

/- plain law: a region, its rings turned about: what may be, its heights, its slabs, its points: no program in sight -/
import Derived.Test.YtdikecfplohpeaaMSlab2
namespace Go.Geo
/-! segments that meet, whichever way they go -/
theorem turnP_anti (a b c : Pt) : turnP b a c = - turnP a b c := by
  unfold turnP
  rw [area_swap]
  cases validP a <;> cases validP b <;> cases validP c <;> simp [sgn]
  split <;> (try split) <;> (try split) <;> omega
theorem betw_comm (n a b : Int) : betw n a b = betw n b a := by unfold betw; rw [Int.min_comm, Int.max_comm]
theorem onP_comm (p a b : Pt) : onP p a b = onP p b a := by
  unfold onP
  rw [betw_comm p.x, betw_comm p.y, turnP_anti b a]
  have : decide (-turnP b a p = 0) = decide (turnP b a p = 0) := by congr 1; simp
  rw [this]
  cases validP p <;> cases validP a <;> cases validP b <;> simp
theorem mayP_comm (a b : Pt) : mayP a b = mayP b a := by
  unfold mayP
  have : decide (a ≠ b) = decide (b ≠ a) := by congr 1; exact propext ⟨Ne.symm, Ne.symm⟩
  rw [this]
  cases validP a <;> cases validP b <;> rfl
theorem gatherP_iff : ∀ (l out : List Pt) (p : Pt), p ∈ gatherP out l ↔ p ∈ out ∨ p ∈ l
  | [], out, p => by simp [gatherP]
  | q :: l, out, p => by
    rw [gatherP, gatherP_iff l]
    split
    · rename_i h
      constructor
      · rintro (h1 | h1)
        · exact .inl h1
        · exact .inr (List.mem_cons_of_mem _ h1)
      · rintro (h1 | h1)
        · exact .inl h1
        · rcases List.mem_cons.1 h1 with rfl | h1
          · exact .inl h
          · exact .inr h1
    · simp only [List.mem_append, List.mem_cons]
      constructor
      · rintro ((h1 | h1) | h1) <;> simp_all
      · rintro (h1 | h1 | h1) <;> simp_all
theorem gatherP_nodup : ∀ (l out : List Pt), out.Nodup → (gatherP out l).Nodup
  | [], _, h => h
  | q :: l, out, h => by
    rw [gatherP]
    refine gatherP_nodup l _ ?_
    split
    · exact h
    · rename_i hq
      rw [List.nodup_append]
      refine ⟨h, by simp, fun a ha b hb => ?_⟩
      rw [List.mem_singleton.1 hb]
      intro e
      exact hq (e ▸ ha)
theorem endsP_len {a b c d a' b' c' d' : Pt} (hm : (mayP a b && mayP c d) = (mayP a' b' && mayP c' d'))
    (h : ∀ p, (((p = a ∨ p = b) ∧ onP p c d = true) ∨ ((p = c ∨ p = d) ∧ onP p a b = true)) ↔ (((p = a' ∨ p = b') ∧ onP p c' d' = true) ∨ ((p = c' ∨ p = d') ∧ onP p a' b' = true))) :
    (endsP a b c d).length = (endsP a' b' c' d').length := by
  unfold endsP
  rw [hm]
  split
  · refine List.Perm.length_eq ((List.perm_ext_iff_of_nodup (gatherP_nodup _ _ (gatherP_nodup _ _ List.nodup_nil)) (gatherP_nodup _ _ (gatherP_nodup _ _ List.nodup_nil))).2 fun p => ?_)
    simp only [gatherP_iff, List.not_mem_nil, false_or, List.mem_filter, List.mem_cons, or_false]
    exact h p
  · rfl
theorem meetK_of {a b c d a' b' c' d' : Pt} (hm : (mayP a b && mayP c d) = (mayP a' b' && mayP c' d'))
    (h : ∀ p, (((p = a ∨ p = b) ∧ onP p c d = true) ∨ ((p = c ∨ p = d) ∧ onP p a b = true)) ↔ (((p = a' ∨ p = b') ∧ onP p c' d' = true) ∨ ((p = c' ∨ p = d') ∧ onP p a' b' = true)))
    (hc : crossP a b c d = crossP a' b' c' d') : meetK a b c d = meetK a' b' c' d' := by
  unfold meetK
  rw [hm, endsP_len hm h, hc]
theorem meetK_comm (a b c d : Pt) : meetK a b c d = meetK c d a b := by
  refine meetK_of (Bool.and_comm _ _) (fun p => Or.comm) ?_
  unfold crossP
  exact Bool.and_comm _ _
theorem meetK_flip (a b c d : Pt) : meetK a b c d = meetK b a c d := by
  refine meetK_of (by rw [mayP_comm]) (fun p => ?_) ?_
  · rw [onP_comm p b a, Or.comm (a := p = b)]
  · unfold crossP
    rw [turnP_anti a b c, turnP_anti a b d, Int.neg_mul_neg, Int.mul_comm (turnP c d a)]
theorem meetK_both (a b c d : Pt) : meetK a b c d = meetK b a d c := by
  rw [meetK_flip a b, meetK_comm b a, meetK_flip c d, meetK_comm d c]
/-! counting all round -/
theorem cntB_back : ∀ (n : Nat) (f : Nat → Bool), cntB n (fun i => f (n - 1 - i)) = cntB n f
  | 0, _ => rfl
  | n + 1, f => by
    rw [cntB_front, cntB]
    have e : cntB n (fun i => f (n + 1 - 1 - (i + 1))) = cntB n f := by
      rw [← cntB_back n f]
      exact cntB_congr n fun i hi => by rw [show n + 1 - 1 - (i + 1) = n - 1 - i by omega]
    rw [e]
    simp only [Nat.add_sub_cancel, Nat.sub_zero]
    omega
theorem cntB_turn1 (n : Nat) (f : Nat → Bool) : cntB n (fun i => f ((i + 1) % n)) = cntB n f := by
  cases n with
  | zero => rfl
  | succ n =>
    rw [cntB_front n f, cntB, Nat.mod_self]
    have e : cntB n (fun i => f ((i + 1) % (n + 1))) = cntB n (fun i => f (i + 1)) := cntB_congr n fun i hi => by rw [Nat.mod_eq_of_lt (by omega)]
    rw [e]
    omega
theorem cntB_turn (n : Nat) : ∀ (s : Nat) (f : Nat → Bool), cntB n (fun i => f ((i + s) % n)) = cntB n f
  | 0, f => cntB_congr n fun i hi => by rw [Nat.add_zero, Nat.mod_eq_of_lt hi]
  | s + 1, f => by
    rw [← cntB_turn n s f, ← cntB_turn1 n (fun i => f ((i + s) % n))]
    exact cntB_congr n fun i hi => by rw [Nat.mod_add_mod, show i + (s + 1) = i + 1 + s by omega]
/-! a ring turned about -/
def turnL (l : List Pt) (s : Nat) : List Pt := (List.range l.length).map fun k => atP l (l.length - 1 - k + s)
theorem turnL_len (l : List Pt) (s : Nat) : (turnL l s).length = l.length := by simp [turnL]
theorem turnL_get {l : List Pt} {s k : Nat} (h : k < l.length) : (turnL l s).getD k p0 = atP l (l.length - 1 - k + s) := by
  unfold turnL
  rw [List.getD_eq_getElem?_getD, List.getElem?_map, List.getElem?_range h]; rfl
theorem atP_mod (l : List Pt) (i : Nat) : atP l (i % l.length) = atP l i := by unfold atP; rw [Nat.mod_mod]
theorem atP_add (l : List Pt) (i : Nat) : atP l (i + l.length) = atP l i := by unfold atP; rw [Nat.add_mod_right]
theorem turnL_next {l : List Pt} {s k : Nat} (h : k < l.length) : atP (turnL l s) (k + 1) = atP l (l.length - 1 - k + s + l.length - 1) := by
  by_cases h2 : k + 1 < l.length
  · rw [atP_lt (by rw [turnL_len]; exact h2), turnL_get h2, show l.length - 1 - k + s + l.length - 1 = (l.length - 1 - (k + 1) + s) + l.length by omega, atP_add]
  · have e : k + 1 = l.length := by omega
    unfold atP
    rw [turnL_len, e, Nat.mod_self, turnL_get (by omega)]
    unfold atP
    congr 2
    omega
theorem turnL_prev {l : List Pt} {s k : Nat} (h : k < l.length) : atP (turnL l s) (k + l.length - 1) = atP l (l.length - 1 - k + s + 1) := by
  by_cases h0 : k = 0
  · subst h0
    rw [Nat.zero_add, atP_lt (by rw [turnL_len]; omega), turnL_get (by omega), show l.length - 1 - 0 + s + 1 = s + l.length by omega, atP_add]
    congr 1
    omega
  · unfold atP
    rw [turnL_len, show k + l.length - 1 = (k - 1) + l.length by omega, Nat.add_mod_right, Nat.mod_eq_of_lt (by omega), turnL_get (by omega)]
    unfold atP
    congr 2
    omega
/-- the place of the k-th edge. -/
def edgeT (n s k : Nat) : Nat := (n - 1 - k + (s + n - 1)) % n
theorem edgeT_lt {n s k : Nat} (h : 0 < n) : edgeT n s k < n := Nat.mod_lt _ h
theorem turnL_edge {l : List Pt} {s k : Nat} (h : k < l.length) : (turnL l s).getD k p0 = atP l (edgeT l.length s k + 1) ∧ atP (turnL l s) (k + 1) = l.getD (edgeT l.length s k) p0 := by
  constructor
  · rw [turnL_get h]
    unfold edgeT atP
    congr 1
    rw [Nat.mod_add_mod, show l.length - 1 - k + (s + l.length - 1) + 1 = (l.length - 1 - k + s) + l.length by omega, Nat.add_mod_right]
  · rw [turnL_next h]
    unfold edgeT atP
    congr 2
    omega
theorem cnt_turnL (G : Pt → Pt → Bool) (hG : ∀ a b, G a b = G b a) (l : List Pt) (s : Nat) : cntB (turnL l s).length (fun i => G ((turnL l s).getD i p0) (atP (turnL l s) (i + 1))) = cntB l.length (fun i => G (l.getD i p0) (atP l (i + 1))) := by
  have hb := cntB_back l.length (fun j => G (l.getD ((j + (s + l.length - 1)) % l.length) p0) (atP l ((j + (s + l.length - 1)) % l.length + 1)))
  rw [turnL_len, ← cntB_turn l.length (s + l.length - 1) (fun i => G (l.getD i p0) (atP l (i + 1))), ← hb]
  refine cntB_congr _ fun i hi => ?_
  obtain ⟨h1, h2⟩ := turnL_edge (s := s) hi
  rw [h1, h2, hG]
  rfl
theorem thruL_turn (y : Int) (l : List Pt) (s : Nat) : thruL y (turnL l s) = thruL y l :=
  cnt_turnL (fun a b => decide (a.y ≤ y) ^^ decide (b.y ≤ y)) (fun _ _ => Bool.xor_comm _ _) l s
theorem countK_turn (p : Pt) (l : List Pt) (s : Nat) : countK p (turnL l s) = countK p l :=
  cnt_turnL (countsP p) (fun a b => countsP_comm p a b) l s
theorem inP_turn (p : Pt) (l : List Pt) (s : Nat) : inP p (turnL l s) = inP p l := by rw [inP_count, countK_turn, ← inP_count]
theorem turnL_mem {l : List Pt} {s : Nat} {v : Pt} : v ∈ turnL l s ↔ v ∈ l := by
  constructor
  · intro h
    obtain ⟨k, hk, rfl⟩ := List.mem_map.1 h
    exact atP_memP (by have := List.mem_range.1 hk; omega)
  · intro h
    obtain ⟨i, hi, rfl⟩ := List.mem_iff_getElem.1 h
    refine List.mem_map.2 ⟨(2 * l.length - 1 - i + s) - (2 * l.length - 1 - i + s) / l.length * l.length, ?_, ?_⟩
    · rw [List.mem_range, ← Nat.mod_eq_sub_div_mul]
      exact Nat.mod_lt _ (by omega)
    · rw [← Nat.mod_eq_sub_div_mul]
      have hr := Nat.mod_lt (2 * l.length - 1 - i + s) (show 0 < l.length by omega)
      have hd := Nat.div_add_mod (2 * l.length - 1 - i + s) l.length
      generalize (2 * l.length - 1 - i + s) % l.length = r at hr hd ⊢
      generalize (2 * l.length - 1 - i + s) / l.length = q at hd
      have e : l.length - 1 - r + s + 0 = i + l.length * (q - 1) ∨ l.length - 1 - r + s + l.length = i + l.length * q := by
        right
        omega
      have e2 : atP l (l.length - 1 - r + s) = atP l i := by
        rcases e with e | e
        · rw [Nat.add_zero] at e
          rw [e]; unfold atP; rw [Nat.add_mul_mod_self_left]
        · rw [← atP_add, e]; unfold atP; rw [Nat.add_mul_mod_self_left]
      rw [e2, atP_lt hi, List.getD_eq_getElem?_getD, List.getElem?_eq_getElem hi]; rfl
theorem nodup_inj {α : Type} {l : List α} (hn : l.Nodup) {i j : Nat} {hi : i < l.length} {hj : j < l.length} (h : l[i] = l[j]) : i = j := by
  have hp := List.pairwise_iff_getElem.1 hn
  by_cases h1 : i < j
  · exact absurd h (hp i j hi hj h1)
  · by_cases h2 : j < i
    · exact absurd h.symm (hp j i hj hi h2)
    · omega
theorem perm_sum {a b : List Nat} (h : a.Perm b) : a.sum = b.sum := by
  induction h with
  | nil => rfl
  | cons x _ ih => rw [List.sum_cons, List.sum_cons, ih]
  | swap x y l => simp only [List.sum_cons]; omega
  | trans _ _ h1 h2 => rw [h1, h2]
theorem atP_inj {l : List Pt} (hn : l.Nodup) (h0 : 0 < l.length) {a b : Nat} (h : atP l a = atP l b) : a % l.length = b % l.length := by
  have ha := Nat.mod_lt a h0
  have hb := Nat.mod_lt b h0
  unfold atP at h
  rw [getD_lt ha, getD_lt hb] at h
  exact nodup_inj hn h
theorem mod_two {a b n : Nat} (h : a % n = b % n) (hab : a ≤ b) (hb : b < a + n) : a = b := by
  have h1 := Nat.div_add_mod a n
  have h2 := Nat.div_add_mod b n
  rw [h] at h1
  generalize b % n = r at h1 h2
  generalize b / n = q2 at h2
  generalize a / n = q1 at h1
  by_cases hq : q1 = q2
  · subst hq; omega
  · exfalso
    by_cases hl : q1 < q2
    · have : n * (q1 + 1) ≤ n * q2 := Nat.mul_le_mul_left n hl
      rw [Nat.mul_add, Nat.mul_one] at this
      omega
    · have : n * (q2 + 1) ≤ n * q1 := Nat.mul_le_mul_left n (by omega)
      rw [Nat.mul_add, Nat.mul_one] at this
      omega
theorem turnL_nodup {l : List Pt} (hn : l.Nodup) (s : Nat) : (turnL l s).Nodup := by
  unfold turnL List.Nodup
  rw [List.pairwise_map]
  refine List.Pairwise.imp_of_mem (fun {i j} hi hj hij => ?_) List.pairwise_lt_range
  have hi := List.mem_range.1 hi
  have hj := List.mem_range.1 hj
  intro e
  have h := atP_inj hn (by omega) e
  have := mod_two h.symm (by omega) (by omega)
  omega
theorem twice_of_nodup {l : List Pt} (hn : l.Nodup) {i : Nat} (hi : i < l.length) : twiceP l i = false := by
  unfold twiceP
  refine decide_eq_false fun h => ?_
  rw [getD_lt hi] at h
  obtain ⟨j, hj, e⟩ := List.mem_take_iff_getElem.1 h
  have := nodup_inj hn e
  omega
theorem ring_iff (l : List Pt) : (ringCheckP l).1 = 0 ↔ l.length ≤ 200 ∧ 3 ≤ l.length ∧ (∀ v ∈ l, validP v = true) ∧ l.Nodup ∧ (∀ i, i < l.length → backP l i = false) ∧ ∀ i, i < l.length → meetsP l i = false := by
  constructor
  · intro h
    have h1 := ring_ok h
    have h2 := ring_all h
    exact ⟨h1.2.1, h1.1, h1.2.2, ring_nodup h, h2.2.1, h2.2.2⟩
  · rintro ⟨h1, h2, h3, h4, h5, h6⟩
    unfold ringCheckP
    rw [if_neg (by omega), if_neg (by omega)]
    rw [firstP_none (f := fun i => !validP (l.getD i p0)) (fun i hi => by rw [h3 _ (getD_memP hi)]; rfl)]
    dsimp only
    rw [firstP_none (f := twiceP l) (fun i hi => twice_of_nodup h4 hi)]
    dsimp only
    rw [firstP_none (f := backP l) h5]
    dsimp only
    rw [firstP_none (f := meetsP l) h6]
theorem back_turn {l : List Pt} {s i : Nat} (hi : i < l.length) : backP (turnL l s) i = backP l ((l.length - 1 - i + s) % l.length) := by
  have hm := Nat.mod_lt (l.length - 1 - i + s) (show 0 < l.length by omega)
  have e1 : atP l ((l.length - 1 - i + s) % l.length + l.length - 1) = atP l (l.length - 1 - i + s + l.length - 1) := by
    unfold atP
    congr 1
    rw [show (l.length - 1 - i + s) % l.length + l.length - 1 = (l.length - 1 - i + s) % l.length + (l.length - 1) by omega, Nat.mod_add_mod]
    congr 1
    omega
  have e2 : atP l ((l.length - 1 - i + s) % l.length + 1) = atP l (l.length - 1 - i + s + 1) := by
    unfold atP
    rw [Nat.mod_add_mod]
  have e3 : l.getD ((l.length - 1 - i + s) % l.length) p0 = atP l (l.length - 1 - i + s) := rfl
  unfold backP
  rw [turnL_len, turnL_prev hi, turnL_next hi, turnL_get hi, e1, e2, e3]
  generalize atP l (l.length - 1 - i + s + l.length - 1) = a
  generalize atP l (l.length - 1 - i + s) = v
  generalize atP l (l.length - 1 - i + s + 1) = b
  rw [onP_comm v a b, turnP_swap a v b]
  congr 1
  congr 1
  simp
theorem meetsP_pair {l : List Pt} (h : ∀ i, i < l.length → meetsP l i = false) {i k : Nat} (hk : k < l.length) (hik : i + 2 ≤ k) (hc : ¬ (i = 0 ∧ k + 1 = l.length)) : meetK (l.getD i p0) (atP l (i + 1)) (l.getD k p0) (atP l (k + 1)) = 0 := by
  have h1 := h i (by omega)
  unfold meetsP at h1
  rw [List.any_eq_false] at h1
  have h2 := h1 k (List.mem_range.2 hk)
  unfold meetsAt at h2
  rw [decide_eq_false (by omega : ¬ k < i + 2), Bool.false_or] at h2
  have : (decide (i = 0) && decide (k + 1 = l.length)) = false := by
    rw [← Bool.not_eq_true, Bool.and_eq_true, decide_eq_true_eq, decide_eq_true_eq]; exact hc
  rw [this] at h2
  simpa using h2
theorem edgeT_val {n s k : Nat} (hk : k < n) (hs : s < n) : edgeT n s k + k = s + n - 2 ∨ edgeT n s k + k + n = s + n - 2 ∨ edgeT n s k + k = s + n + n - 2 := by
  have hl := edgeT_lt (n := n) (s := s) (k := k) (by omega)
  unfold edgeT at *
  have hd := Nat.div_add_mod (n - 1 - k + (s + n - 1)) n
  generalize (n - 1 - k + (s + n - 1)) % n = r at hl hd ⊢
  generalize (n - 1 - k + (s + n - 1)) / n = q at hd
  have hq : q < 3 := by
    apply Nat.lt_of_not_le
    intro h
    have := Nat.mul_le_mul_left n h
    omega
  have : q = 0 ∨ q = 1 ∨ q = 2 := by omega
  rcases this with rfl | rfl | rfl <;> simp only [Nat.mul_zero, Nat.mul_one, Nat.mul_two] at hd <;> omega
theorem ring_turn {l : List Pt} (h : (ringCheckP l).1 = 0) {s : Nat} (hs : s < l.length) : (ringCheckP (turnL l s)).1 = 0 := by
  obtain ⟨h1, h2, h3, h4, h5, h6⟩ := (ring_iff l).1 h
  refine (ring_iff _).2 ⟨by rw [turnL_len]; exact h1, by rw [turnL_len]; exact h2, fun v hv => h3 v (turnL_mem.1 hv), turnL_nodup h4 s, fun i hi => ?_, fun i hi => ?_⟩
  · rw [turnL_len] at hi
    rw [back_turn hi]
    exact h5 _ (Nat.mod_lt _ (by omega))
  · rw [turnL_len] at hi
    unfold meetsP
    rw [List.any_eq_false, turnL_len]
    intro k hk
    have hk := List.mem_range.1 hk
    unfold meetsAt
    rw [turnL_len]
    by_cases hx : k < i + 2 ∨ (i = 0 ∧ k + 1 = l.length)
    · have : (decide (k < i + 2) || (decide (i = 0) && decide (k + 1 = l.length))) = true := by simpa using hx
      rw [this]
      simp
    · obtain ⟨a1, a2⟩ := turnL_edge (s := s) hi
      obtain ⟨b1, b2⟩ := turnL_edge (s := s) hk
      have hv1 := edgeT_val hi hs
      have hv2 := edgeT_val hk hs
      have hl1 := edgeT_lt (n := l.length) (s := s) (k := i) (by omega)
      have hl2 := edgeT_lt (n := l.length) (s := s) (k := k) (by omega)
      have hz : meetK ((turnL l s).getD i p0) (atP (turnL l s) (i + 1)) ((turnL l s).getD k p0) (atP (turnL l s) (k + 1)) = 0 := by
        rw [a1, a2, b1, b2, meetK_both]
        generalize edgeT l.length s i = x at hv1 hl1 ⊢
        generalize edgeT l.length s k = y at hv2 hl2 ⊢
        by_cases hxy : x < y
        · exact meetsP_pair h6 hl2 (by omega) (by omega)
        · rw [meetK_comm]
          exact meetsP_pair h6 hl1 (by omega) (by omega)
      rw [hz]
      simp
/-! rings that meet -/
theorem rings_meet_iff (a b : List Pt) : ringsMeet a b = true ↔ ∃ i, i < a.length ∧ ∃ k, k < b.length ∧ 2 ≤ meetK (a.getD i p0) (atP a (i + 1)) (b.getD k p0) (atP b (k + 1)) := by
  unfold ringsMeet
  simp only [List.any_eq_true, List.mem_range, decide_eq_true_eq]
theorem ringsMeet_comm (a b : List Pt) : ringsMeet a b = ringsMeet b a := by
  rw [Bool.eq_iff_iff, rings_meet_iff, rings_meet_iff]
  constructor
  · rintro ⟨i, hi, k, hk, h⟩
    exact ⟨k, hk, i, hi, by rw [meetK_comm]; exact h⟩
  · rintro ⟨i, hi, k, hk, h⟩
    exact ⟨k, hk, i, hi, by rw [meetK_comm]; exact h⟩
theorem ringsMeet_turn {a b : List Pt} {s t : Nat} (h : ringsMeet a b = false) : ringsMeet (turnL a s) (turnL b t) = false := by
  rw [← Bool.not_eq_true] at h ⊢
  intro h2
  refine h ?_
  obtain ⟨i, hi, k, hk, h2⟩ := (rings_meet_iff _ _).1 h2
  rw [turnL_len] at hi hk
  obtain ⟨a1, a2⟩ := turnL_edge (s := s) hi
  obtain ⟨b1, b2⟩ := turnL_edge (s := t) hk
  rw [a1, a2, b1, b2, meetK_both] at h2
  exact (rings_meet_iff _ _).2 ⟨_, edgeT_lt (by omega), _, edgeT_lt (by omega), h2⟩
theorem region_iff (g : List (List Pt)) : (regionCheckP g).1 = 0 ↔ 0 < g.length ∧ g.length ≤ 20 ∧ sumLen g ≤ 400 ∧ (∀ r ∈ g, (ringCheckP r).1 = 0) ∧ g.Pairwise (fun a b => ringsMeet a b = false) := by
  constructor
  · intro h
    obtain ⟨h1, h2, h3, h4⟩ := region_ok h
    refine ⟨h1, h2, h3, h4, ?_⟩
    rw [List.pairwise_iff_getElem]
    intro i j hi hj hij
    unfold regionCheckP at h
    rw [if_neg (by omega), if_neg (by omega), if_neg (by omega)] at h
    rw [firstP_none (f := fun i => decide ((ringCheckP (g.getD i [])).1 ≠ 0)) (fun i hi => by rw [getD_lt hi, h4 _ (List.getElem_mem hi)]; rfl)] at h
    dsimp only at h
    split at h
    · cases h
    · rename_i hn
      have h5 := firstP_eq_none hn i hi
      rw [List.any_eq_false] at h5
      rw [getD_lt hi] at h5
      have h6 := h5 g[j] (List.mem_drop_iff_getElem.2 ⟨j - (i + 1), by omega, by congr 1; omega⟩)
      simpa using h6
  · rintro ⟨h1, h2, h3, h4, h5⟩
    unfold regionCheckP
    rw [if_neg (by omega), if_neg (by omega), if_neg (by omega)]
    rw [firstP_none (f := fun i => decide ((ringCheckP (g.getD i [])).1 ≠ 0)) (fun i hi => by rw [getD_lt hi, h4 _ (List.getElem_mem hi)]; rfl)]
    dsimp only
    rw [firstP_none (f := fun i => (g.drop (i + 1)).any (fun s => ringsMeet (g.getD i []) s)) (fun i hi => by
      rw [List.any_eq_false]
      intro x hx
      obtain ⟨j, hj, rfl⟩ := List.mem_drop_iff_getElem.1 hx
      rw [getD_lt hi]
      have := (List.pairwise_iff_getElem.1 h5) i (i + 1 + j) hi (by omega) (by omega)
      simpa using this)]
/-- a region, each ring turned about. -/
theorem region_turn {g h : List (List Pt)} (f : List Pt → Nat) (hf : ∀ l ∈ g, f l < l.length) (hp : h.Perm (g.map fun l => turnL l (f l))) (hg : (regionCheckP g).1 = 0) : (regionCheckP h).1 = 0 := by
  obtain ⟨h1, h2, h3, h4, h5⟩ := (region_iff g).1 hg
  have hl : h.length = g.length := by rw [hp.length_eq, List.length_map]
  have hs : sumLen h = sumLen g := by
    unfold sumLen
    rw [perm_sum (hp.map List.length), List.map_map]
    congr 1
    exact List.map_congr_left fun l _ => turnL_len l _
  refine (region_iff h).2 ⟨by omega, by omega, by omega, fun r hr => ?_, ?_⟩
  · obtain ⟨l, hl, rfl⟩ := List.mem_map.1 (hp.mem_iff.1 hr)
    exact ring_turn (h4 l hl) (hf l hl)
  · refine (hp.pairwise_iff (fun {a b} hab => by rw [ringsMeet_comm]; exact hab)).2 ?_
    rw [List.pairwise_map]
    exact h5.imp fun hab => ringsMeet_turn hab
theorem heights_turn {g h : List (List Pt)} (f : List Pt → Nat) (hp : h.Perm (g.map fun l => turnL l (f l))) : heightsP h = heightsP g := by
  refine sorted_same (heights_sorted h) (heights_sorted g) fun z => ?_
  rw [heights_mem, heights_mem]
  simp only [List.mem_map, List.mem_flatten]
  constructor
  · rintro ⟨v, ⟨l, hl, hv⟩, rfl⟩
    obtain ⟨m, hm, rfl⟩ := List.mem_map.1 (hp.mem_iff.1 hl)
    exact ⟨v, ⟨m, hm, turnL_mem.1 hv⟩, rfl⟩
  · rintro ⟨v, ⟨l, hl, hv⟩, rfl⟩
    exact ⟨v, ⟨turnL l (f l), hp.mem_iff.2 (List.mem_map_of_mem hl), turnL_mem.2 hv⟩, rfl⟩
theorem thruR_turn (y : Int) {g h : List (List Pt)} (f : List Pt → Nat) (hp : h.Perm (g.map fun l => turnL l (f l))) : thruR y h = thruR y g := by
  unfold thruR
  rw [perm_sum (hp.map (thruL y)), List.map_map]
  congr 1
  exact List.map_congr_left fun l _ => thruL_turn y l _
theorem slabI_turn {g h : List (List Pt)} (f : List Pt → Nat) (hp : h.Perm (g.map fun l => turnL l (f l))) (i : Nat) : (slabI h i).length = (slabI g i).length := by
  unfold slabI
  rw [slab_thruR, slab_thruR, heights_turn f hp, thruR_turn _ f hp]
theorem inR_perm (p : Pt) {g h : List (List Pt)} (hp : h.Perm g) : inR p h = inR p g := by
  induction hp with
  | nil => rfl
  | cons x _ ih => rw [inR, inR, ih]
  | swap x y l => rw [inR, inR, inR, inR, ← Bool.xor_assoc, Bool.xor_comm (inP p y), Bool.xor_assoc]
  | trans _ _ h1 h2 => rw [h1, h2]
theorem inR_turn (p : Pt) {g h : List (List Pt)} (f : List Pt → Nat) (hp : h.Perm (g.map fun l => turnL l (f l))) : inR p h = inR p g := by
  rw [inR_perm p hp]
  clear hp
  induction g with
  | nil => rfl
  | cons r g ih => rw [List.map_cons, inR, inR, ih, inP_turn]
end Go.Geo

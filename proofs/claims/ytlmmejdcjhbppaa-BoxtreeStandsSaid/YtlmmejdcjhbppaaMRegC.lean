/- a region in whatever order: one invariant over the listed operations, one proof for each operation -/
import Derived.Orders
import Derived.KernelRfl
import Derived.Laws.World
import Derived.Below
import Derived.Laws.Tables
import Derived.Laws.Rows
import Derived.Laws.NewBlocks
import Derived.Laws.CopyOwn
import Derived.Laws.AppendOwn
import Derived.Laws.Append
set_option linter.unusedSimpArgs false
set_option linter.unusedVariables false
namespace Go.Proofs.Ytlmmejdcjhbppaa
open Go
theorem count_lt {α : Type} {p q : α → Bool} : ∀ {l : List α}, (∀ x ∈ l, q x = true → p x = true) → (∃ x ∈ l, p x = true ∧ q x = false) → l.countP q < l.countP p
  | [], _, h => by obtain ⟨x, hx, _⟩ := h; cases hx
  | y :: l, hs, h => by
    have hle : l.countP q ≤ l.countP p := List.countP_mono_left fun x hx => hs x (List.mem_cons_of_mem _ hx)
    rw [List.countP_cons, List.countP_cons]
    obtain ⟨x, hx, h1, h2⟩ := h
    rcases List.mem_cons.1 hx with rfl | hx
    · rw [h1, h2]; simp; omega
    · have := count_lt (l := l) (fun x hx => hs x (List.mem_cons_of_mem _ hx)) ⟨x, hx, h1, h2⟩
      have hy := hs y (List.mem_cons_self ..)
      cases h3 : q y with
      | false => simp; omega
      | true => rw [hy h3]; simp; omega
variable {P : Program} {ops : Array Oper} {Q : Exit → Act → World → Prop} {md : Region.Mode}
/-- how many are not listed yet. -/
def unlisted (ops : Array Oper) (listed : Array Bool) : Nat := (List.range ops.size).countP fun i => !listed.getD i true
theorem ready_nil {listed : Array Bool} (h : unlisted ops listed = 0) : Region.ready md ops listed = [] := by
  unfold unlisted at h
  rw [List.countP_eq_zero] at h
  unfold Region.ready
  rw [List.filter_eq_nil_iff]
  intro i hi
  have := h i hi
  simp at this
  simp [this]
theorem unlisted_lt {listed : Array Bool} {i : Nat} (hl : listed.size = ops.size) (h : i ∈ Region.ready md ops listed) : unlisted ops (listed.setIfInBounds i true) < unlisted ops listed := by
  obtain ⟨h1, o, ho, _⟩ := mem_ready.1 h
  have hlt : i < ops.size := (Array.getElem?_eq_some_iff.1 ho).1
  refine count_lt (fun x hx hq => ?_) ⟨i, List.mem_range.2 hlt, by rw [h1]; rfl, ?_⟩
  · by_cases hxi : i = x
    · subst hxi
      simp [Array.getD, hl, hlt] at hq
    · rw [getD_set_ne true hxi] at hq
      exact hq
  · simp [Array.getD, hl, hlt]
theorem wpAny_inv (I : Array Bool → Act → World → Prop)
    (step : ∀ (listed : Array Bool) (a : Act) (w : World) (i : Nat) (o : Oper), ops[i]? = some o → listed.getD i true = false → (∀ e ∈ o.after, Region.binds md e = true → listed.getD e.on false = true) → I listed a w →
      wpOp P ops Q i (fun a' w' => I (listed.setIfInBounds i true) a' w') a w)
    (done : ∀ (listed : Array Bool) (a : Act) (w : World), listed.size = ops.size → Region.ready md ops listed = [] → I listed a w → Q .normal a w) :
    ∀ (fuel : Nat) (listed : Array Bool) (a : Act) (w : World), listed.size = ops.size → unlisted ops listed ≤ fuel → I listed a w → wpAny P md ops Q fuel listed a w
  | 0, listed, a, w, hl, hu, hI => ⟨ready_nil (by omega), done listed a w hl (ready_nil (by omega)) hI⟩
  | fuel + 1, listed, a, w, hl, hu, hI => by
    refine ⟨fun h => done listed a w hl h hI, fun i hi => ?_⟩
    obtain ⟨h1, o, ho, h2⟩ := mem_ready.1 hi
    have hlt := unlisted_lt hl hi
    exact wpOp_mono (fun a' w' h => wpAny_inv I step done fuel _ a' w' (by simp [hl]) (by omega) h) (step listed a w i o ho h1 h2 hI)
theorem unlisted_start : unlisted ops (Array.replicate ops.size false) ≤ ops.size := by
  unfold unlisted
  exact Nat.le_trans List.countP_le_length (by simp)
/-- the region, begun. -/
theorem wp_region_inv {id : Nat} {a : Act} {w : World} (hm : P.follows .mixedOrders = true) (I : Array Bool → Act → World → Prop)
    (start : I (Array.replicate ops.size false) a { w with drawn := w.drawn + 1 })
    (step : ∀ (listed : Array Bool) (a : Act) (w : World) (i : Nat) (o : Oper), ops[i]? = some o → listed.getD i true = false → (∀ e ∈ o.after, Region.binds .any e = true → listed.getD e.on false = true) → I listed a w →
      wpOp P ops Q i (fun a' w' => I (listed.setIfInBounds i true) a' w') a w)
    (done : ∀ (listed : Array Bool) (a : Act) (w : World), listed.size = ops.size → Region.ready .any ops listed = [] → I listed a w → Q .normal a w) :
    (Code.region id ops true).wp P Q a w :=
  wp_region_any hm (wpAny_inv I step done _ _ a _ (by simp) unlisted_start start)
end Go.Proofs.Ytlmmejdcjhbppaa

/- a region in whatever order: one invariant over the listed operations and their values, one proof for each operation; the frame is told apart from it -/
set_option linter.unusedSimpArgs false
set_option linter.unusedVariables false
namespace Go.Proofs.Ytlmmejdcjhbppaa
open Go
def upd {α : Type} (L : Nat → α) (i : Nat) (x : α) : Nat → α := fun j => if j = i then x else L j
theorem upd_at {α : Type} (L : Nat → α) (i : Nat) (x : α) : upd L i x i = x := by unfold upd; simp
theorem upd_ne {α : Type} (L : Nat → α) (i j : Nat) (x : α) (h : j ≠ i) : upd L i x j = L j := by unfold upd; simp [h]
def predsOf (o : Oper) : List Nat := (o.after.toList.filter (fun e => Region.binds .any e)).map (·.on)
def dstsOf (l : List Oper) : List Nat := l.filterMap (·.dst)
def slotsOf : Nat → List Oper → List (Nat × Nat)
  | _, [] => []
  | k, o :: l => match o.dst with
    | some d => (d, k) :: slotsOf (k + 1) l
    | none => slotsOf (k + 1) l
def AllSteps (S : Nat → Oper → Prop) : Nat → List Oper → Prop
  | _, [] => True
  | k, o :: l => S k o ∧ AllSteps S (k + 1) l
theorem AllSteps.at {S : Nat → Oper → Prop} : ∀ {l : List Oper} {k : Nat}, AllSteps S k l → ∀ {i : Nat} {o : Oper}, l[i]? = some o → S (k + i) o
  | [], _, _, i, o, h => by simp at h
  | x :: l, k, ⟨h1, h2⟩, 0, o, h => by
    rw [List.getElem?_cons_zero] at h
    cases h
    exact h1
  | x :: l, k, ⟨h1, h2⟩, i + 1, o, h => by
    rw [List.getElem?_cons_succ] at h
    have := h2.at h
    rwa [Nat.add_assoc, Nat.add_comm 1 i] at this
/-- every edge of these operations goes back. -/
def backEdges : Nat → List Oper → Bool
  | _, [] => true
  | k, o :: l => (predsOf o).all (fun j => decide (j < k)) && backEdges (k + 1) l
theorem backEdges_at : ∀ {l : List Oper} {k : Nat}, backEdges k l = true → ∀ {i : Nat} {o : Oper}, l[i]? = some o → ∀ j ∈ predsOf o, j < k + i
  | [], _, _, i, o, h => by simp at h
  | x :: l, k, hb, 0, o, h => by
    unfold backEdges at hb
    rw [Bool.and_eq_true] at hb
    rw [List.getElem?_cons_zero] at h
    cases h
    intro j hj
    have := List.all_eq_true.1 hb.1 j hj
    simpa using this
  | x :: l, k, hb, i + 1, o, h => by
    unfold backEdges at hb
    rw [Bool.and_eq_true] at hb
    rw [List.getElem?_cons_succ] at h
    intro j hj
    have := backEdges_at hb.2 h j hj
    omega
theorem mem_preds {o : Oper} {j : Nat} : j ∈ predsOf o ↔ ∃ e ∈ o.after, Region.binds .any e = true ∧ e.on = j := by
  unfold predsOf
  simp only [List.mem_map, List.mem_filter, Array.mem_toList_iff]
  constructor
  · rintro ⟨e, ⟨h1, h2⟩, h3⟩; exact ⟨e, h1, h2, h3⟩
  · rintro ⟨e, h1, h2, h3⟩; exact ⟨e, ⟨h1, h2⟩, h3⟩
theorem all_listed {l : List Oper} {listed : Array Bool} (hb : backEdges 0 l = true) (hs : listed.size = l.length) (hr : Region.ready .any l.toArray listed = []) : ∀ i, i < l.length → listed.getD i false = true := by
  intro i
  induction i using Nat.strongRecOn with
  | ind i ih =>
    intro hi
    cases hl : listed.getD i false with
    | true => rfl
    | false =>
      exfalso
      have hmem : i ∈ Region.ready .any l.toArray listed := by
        refine mem_ready.2 ⟨?_, l[i], by simp [hi], ?_⟩
        · have h2 : i < listed.size := by omega
          simp only [Array.getD, h2, dif_pos] at hl ⊢
          exact hl
        · intro e he hbd
          have hj : e.on ∈ predsOf l[i] := mem_preds.2 ⟨e, he, hbd, rfl⟩
          have := backEdges_at hb (i := i) (o := l[i]) (by simp [hi]) _ hj
          exact ih _ (by omega) (by omega)
      rw [hr] at hmem
      cases hmem
/-- the frame of a region under way: what no operation writes stays; what is listed bears its value. -/
structure Fits (l : List Oper) (a0 a : Act) (L : Nat → Bool) (V : Nat → Value) : Prop where
  defers : a.defers = a0.defers
  size : a.tmps.size = a0.tmps.size
  out : ∀ t, (dstsOf l).contains t = false → a.tmps[t]? = a0.tmps[t]?
  got : ∀ i d, (d, i) ∈ slotsOf 0 l → L i = true → a.tmps[d]? = some (V i)
  kept : ∀ i d, (d, i) ∈ slotsOf 0 l → L i = false → a.tmps[d]? = a0.tmps[d]?
theorem slots_mem : ∀ {l : List Oper} {k i : Nat} {o : Oper} {d : Nat}, l[i]? = some o → o.dst = some d → (d, k + i) ∈ slotsOf k l
  | [], _, i, _, _, h, _ => by simp at h
  | x :: l, k, 0, o, d, h, hd => by
    rw [List.getElem?_cons_zero] at h
    cases h
    unfold slotsOf
    rw [hd]
    exact List.mem_cons_self
  | x :: l, k, i + 1, o, d, h, hd => by
    rw [List.getElem?_cons_succ] at h
    have := slots_mem (k := k + 1) h hd
    rw [Nat.add_assoc, Nat.add_comm 1 i] at this
    unfold slotsOf
    split
    · exact List.mem_cons_of_mem _ this
    · exact this
theorem slots_of : ∀ {l : List Oper} {k i d : Nat}, (d, i) ∈ slotsOf k l → ∃ j o, i = k + j ∧ l[j]? = some o ∧ o.dst = some d
  | [], _, i, d, h => by cases h
  | x :: l, k, i, d, h => by
    have key : (d, i) ∈ slotsOf (k + 1) l → ∃ j o, i = k + j ∧ (x :: l)[j]? = some o ∧ o.dst = some d := fun h => by
      obtain ⟨j, o, h1, h2, h3⟩ := slots_of h
      exact ⟨j + 1, o, by omega, by rw [List.getElem?_cons_succ]; exact h2, h3⟩
    unfold slotsOf at h
    split at h
    · rename_i d' hd
      rcases List.mem_cons.1 h with e | h
      · cases e
        exact ⟨0, x, rfl, rfl, hd⟩
      · exact key h
    · exact key h
theorem dsts_nodup : ∀ {l : List Oper} {i j : Nat} {o o' : Oper} {d : Nat}, (dstsOf l).Nodup → l[i]? = some o → l[j]? = some o' → o.dst = some d → o'.dst = some d → i = j
  | [], i, _, _, _, _, _, h, _, _, _ => by simp at h
  | x :: l, 0, 0, _, _, _, _, _, _, _, _ => rfl
  | x :: l, 0, j + 1, o, o', d, hn, h, h', hd, hd' => by
    exfalso
    rw [List.getElem?_cons_zero] at h
    rw [List.getElem?_cons_succ] at h'
    cases h
    unfold dstsOf at hn
    rw [List.filterMap_cons, hd] at hn
    exact (List.nodup_cons.1 hn).1 (List.mem_filterMap.2 ⟨o', List.mem_of_getElem? h', hd'⟩)
  | x :: l, i + 1, 0, o, o', d, hn, h, h', hd, hd' => by
    exfalso
    rw [List.getElem?_cons_zero] at h'
    rw [List.getElem?_cons_succ] at h
    cases h'
    unfold dstsOf at hn
    rw [List.filterMap_cons, hd'] at hn
    exact (List.nodup_cons.1 hn).1 (List.mem_filterMap.2 ⟨o, List.mem_of_getElem? h, hd⟩)
  | x :: l, i + 1, j + 1, o, o', d, hn, h, h', hd, hd' => by
    rw [List.getElem?_cons_succ] at h h'
    have hn2 : (dstsOf l).Nodup := by
      unfold dstsOf at hn ⊢
      rw [List.filterMap_cons] at hn
      split at hn
      · exact hn
      · exact (List.nodup_cons.1 hn).2
    rw [dsts_nodup hn2 h h' hd hd']
theorem Fits.put {l : List Oper} {a0 a : Act} {L : Nat → Bool} {V : Nat → Value} (hn : (dstsOf l).Nodup) (hsz : ∀ d ∈ dstsOf l, d < a0.tmps.size) (h : Fits l a0 a L V) {i : Nat} {o : Oper} (ho : l[i]? = some o) (v : Value) :
    Fits l a0 (a.put o.dst v) (upd L i true) (upd V i v) := by
  have hmem : ∀ d, o.dst = some d → d ∈ dstsOf l := fun d hd => List.mem_filterMap.2 ⟨o, List.mem_of_getElem? ho, hd⟩
  refine ⟨?_, ?_, ?_, ?_, ?_⟩
  · cases hd : o.dst <;> exact h.defers
  · cases hd : o.dst with
    | none => exact h.size
    | some d => simp only [Act.put, Array.size_setIfInBounds]; exact h.size
  · intro t ht
    cases hd : o.dst with
    | none => exact h.out t ht
    | some d =>
      have hne : d ≠ t := fun e => by
        subst e
        have := List.contains_iff_mem.2 (hmem d hd)
        rw [ht] at this
        cases this
      simp only [Act.put, Array.getElem?_setIfInBounds_ne hne]
      exact h.out t ht
  · intro j d hj hl
    obtain ⟨j', o', e, ho', hd'⟩ := slots_of hj
    obtain rfl : j = j' := by omega
    by_cases hji : j = i
    · subst hji
      have : o' = o := by rw [ho] at ho'; exact (Option.some.inj ho').symm
      subst this
      rw [hd', upd_at]
      have hlt : d < a.tmps.size := by rw [h.size]; exact hsz d (hmem d hd')
      simp only [Act.put]
      rw [Array.getElem?_setIfInBounds_self_of_lt hlt]
    · rw [upd_ne _ _ _ _ hji] at hl ⊢
      cases hd : o.dst with
      | none => exact h.got j d hj hl
      | some d2 =>
        have hne : d2 ≠ d := fun e => by
          subst e
          exact hji (dsts_nodup hn ho' ho hd' hd)
        simp only [Act.put, Array.getElem?_setIfInBounds_ne hne]
        exact h.got j d hj hl
  · intro j d hj hl
    obtain ⟨j', o', e, ho', hd'⟩ := slots_of hj
    obtain rfl : j = j' := by omega
    have hji : j ≠ i := fun e => by subst e; rw [upd_at] at hl; cases hl
    rw [upd_ne _ _ _ _ hji] at hl
    cases hd : o.dst with
    | none => exact h.kept j d hj hl
    | some d2 =>
      have hne : d2 ≠ d := fun e => by
        subst e
        exact hji (dsts_nodup hn ho' ho hd' hd)
      simp only [Act.put, Array.getElem?_setIfInBounds_ne hne]
      exact h.kept j d hj hl
/-- what an operation reads of the frame. -/
theorem Fits.in {l : List Oper} {a0 a : Act} {L : Nat → Bool} {V : Nat → Value} (h : Fits l a0 a L V) {i d : Nat} {v : Value} (hs : (slotsOf 0 l).contains (d, i) = true) (hl : L i = true) (hv : V i = v) : a.tmps[d]? = some v :=
  (h.got i d (List.contains_iff_mem.1 hs) hl).trans (by rw [hv])
theorem Fits.old {l : List Oper} {a0 a : Act} {L : Nat → Bool} {V : Nat → Value} (h : Fits l a0 a L V) {t : Nat} {v : Value} (hs : (dstsOf l).contains t = false) (hv : a0.tmps[t]? = some v) : a.tmps[t]? = some v :=
  (h.out t hs).trans hv
theorem Fits.still {l : List Oper} {a0 a : Act} {L : Nat → Bool} {V : Nat → Value} (h : Fits l a0 a L V) (i : Nat) {t : Nat} {v : Value} (hs : (slotsOf 0 l).contains (t, i) = true) (hl : L i = false) (hv : a0.tmps[t]? = some v) : a.tmps[t]? = some v :=
  (h.kept i t (List.contains_iff_mem.1 hs) hl).trans hv
/-- the frame behind the region. -/
def puts (V : Nat → Value) : List (Nat × Nat) → Act → Act
  | [], a => a
  | (d, i) :: l, a => puts V l (a.put (some d) (V i))
theorem puts_defers (V : Nat → Value) : ∀ (l : List (Nat × Nat)) (a : Act), (puts V l a).defers = a.defers
  | [], _ => rfl
  | (d, i) :: l, a => by rw [puts, puts_defers]; rfl
theorem puts_size (V : Nat → Value) : ∀ (l : List (Nat × Nat)) (a : Act), (puts V l a).tmps.size = a.tmps.size
  | [], _ => rfl
  | (d, i) :: l, a => by rw [puts, puts_size]; simp [Act.put]
theorem puts_out (V : Nat → Value) : ∀ (l : List (Nat × Nat)) (a : Act) (t : Nat), t ∉ l.map (·.1) → (puts V l a).tmps[t]? = a.tmps[t]?
  | [], _, _, _ => rfl
  | (d, i) :: l, a, t, h => by
    rw [List.map_cons, List.mem_cons, not_or] at h
    rw [puts, puts_out V l _ t h.2]
    simp only [Act.put]
    rw [Array.getElem?_setIfInBounds_ne (fun e => h.1 e.symm)]
theorem puts_in (V : Nat → Value) : ∀ (l : List (Nat × Nat)) (a : Act) (d i : Nat), (l.map (·.1)).Nodup → (d, i) ∈ l → d < a.tmps.size → (puts V l a).tmps[d]? = some (V i)
  | [], _, _, _, _, h, _ => by cases h
  | (d', i') :: l, a, d, i, hn, h, hs => by
    rw [List.map_cons, List.nodup_cons] at hn
    rw [puts]
    rcases List.mem_cons.1 h with e | h
    · cases e
      rw [puts_out V l _ _ hn.1]
      simp only [Act.put]
      rw [Array.getElem?_setIfInBounds_self_of_lt hs]
    · exact puts_in V l _ d i hn.2 h (by simp [Act.put]; exact hs)
theorem slots_dsts : ∀ (l : List Oper) (k : Nat), (slotsOf k l).map (·.1) = dstsOf l
  | [], _ => rfl
  | o :: l, k => by
    unfold slotsOf dstsOf
    rw [List.filterMap_cons]
    cases hd : o.dst with
    | none => exact slots_dsts l (k + 1)
    | some d => simp only [List.map_cons]; rw [slots_dsts l (k + 1)]; rfl
theorem Fits.eq {l : List Oper} {a0 a : Act} {V : Nat → Value} {s : List (Nat × Nat)} (h : Fits l a0 a (fun _ => true) V) (hn : (dstsOf l).Nodup) (hsz : ∀ d ∈ dstsOf l, d < a0.tmps.size) (hs : slotsOf 0 l = s) : a = puts V s a0 := by
  subst hs
  have ht : a.tmps = (puts V (slotsOf 0 l) a0).tmps := by
    apply Array.ext_getElem?
    intro t
    by_cases hm : t ∈ dstsOf l
    · obtain ⟨o, ho, hd⟩ := List.mem_filterMap.1 hm
      obtain ⟨i, hi⟩ := List.getElem?_of_mem ho
      have hmem := slots_mem (k := 0) hi hd
      rw [Nat.zero_add] at hmem
      rw [h.got i t hmem rfl, puts_in V _ _ t i (by rw [slots_dsts]; exact hn) hmem (hsz t hm)]
    · rw [puts_out V _ _ t (by rw [slots_dsts]; exact hm)]
      refine h.out t ?_
      cases hc : (dstsOf l).contains t with
      | false => rfl
      | true => exact absurd (List.contains_iff_mem.1 hc) hm
  have hd := (h.defers).trans (puts_defers V (slotsOf 0 l) a0).symm
  cases a
  generalize puts V (slotsOf 0 l) a0 = b at ht hd ⊢
  cases b
  simp only at ht hd
  rw [ht, hd]
/-- an operation whose guard says so; one whose guard says no. -/
theorem wanted_of {l : List Oper} {tm : Array Value} {o : Oper} {g d : Nat} {b : Bool} (hg : o.guard = some (g, b)) (hd : (l[g]?).bind (·.dst) = some d) (ht : tm[d]? = some (.bool b)) : Region.wanted o (yielded l.toArray tm) = true := by
  unfold Region.wanted yielded
  rw [hg]
  simp only [List.getElem?_toArray, hd, Option.bind_some, ht, beq_self_eq_true]
theorem wanted_not {l : List Oper} {tm : Array Value} {o : Oper} {g d : Nat} {b : Bool} (hg : o.guard = some (g, b)) (hd : (l[g]?).bind (·.dst) = some d) (ht : tm[d]? = some (.bool (!b))) : Region.wanted o (yielded l.toArray tm) = false := by
  unfold Region.wanted yielded
  rw [hg]
  simp only [List.getElem?_toArray, hd, Option.bind_some, ht]
  cases b <;> rfl
theorem wanted_none {l : List Oper} {tm : Array Value} {o : Oper} {g d : Nat} {b : Bool} (hg : o.guard = some (g, b)) (hd : (l[g]?).bind (·.dst) = some d) (ht : tm[d]? = some undef) : Region.wanted o (yielded l.toArray tm) = false := by
  unfold Region.wanted yielded
  rw [hg]
  simp only [List.getElem?_toArray, hd, Option.bind_some, ht]
  cases b <;> rfl
/-- who is listed has those listed that he waits for. -/
def Closed (l : List Oper) (L : Nat → Bool) : Prop := ∀ (c : Nat) (o : Oper), l[c]? = some o → L c = true → ∀ j, (predsOf o).contains j = true → L j = true
theorem Closed.no {l : List Oper} {L : Nat → Bool} (h : Closed l L) (c : Nat) {i : Nat} (hc : ((l[c]?).map (fun o => (predsOf o).contains i)) = some true) (hl : L i = false) : L c = false := by
  cases e : L c with
  | false => rfl
  | true =>
    cases ho : l[c]? with
    | none => rw [ho] at hc; cases hc
    | some o =>
      rw [ho] at hc
      simp only [Option.map_some, Option.some.injEq] at hc
      rw [h c o ho e i hc] at hl
      cases hl
theorem Closed.yes {l : List Oper} {L : Nat → Bool} (h : Closed l L) (c : Nat) {i : Nat} (hc : ((l[c]?).map (fun o => (predsOf o).contains i)) = some true) (hl : L c = true) : L i = true := by
  cases ho : l[c]? with
  | none => rw [ho] at hc; cases hc
  | some o =>
    rw [ho] at hc
    simp only [Option.map_some, Option.some.injEq] at hc
    exact h c o ho hl i hc
/-- one operation's proof. -/
def StepJ (P : Program) (l : List Oper) (Q : Exit → Act → World → Prop) (a0 : Act) (J : (Nat → Bool) → (Nat → Value) → World → Prop) (i : Nat) (o : Oper) : Prop :=
  ∀ (L : Nat → Bool) (V : Nat → Value) (a : Act) (w : World) (K : Act → World → Prop), L i = false → (∀ j, (predsOf o).contains j = true → L j = true) → Closed l L → Fits l a0 a L V → J L V w →
    (∀ (v : Value) (w' : World), J (upd L i true) (upd V i v) w' → K (a.put o.dst v) w') → if Region.wanted o (yielded l.toArray a.tmps) then o.wp P a w K Q else K (a.put o.dst undef) w
theorem wp_region_J {P : Program} {l : List Oper} {Q : Exit → Act → World → Prop} {id : Nat} {a0 : Act} {w : World} {s : List (Nat × Nat)} (hm : P.follows .mixedOrders = true) (J : (Nat → Bool) → (Nat → Value) → World → Prop)
    (hb : backEdges 0 l = true) (hn : decide (dstsOf l).Nodup = true) (hsz : (dstsOf l).all (fun d => decide (d < a0.tmps.size)) = true) (hs : slotsOf 0 l = s)
    (V0 : Nat → Value) (start : J (fun _ => false) V0 w.drew)
    (step : AllSteps (StepJ P l Q a0 J) 0 l)
    (done : ∀ (V : Nat → Value) (w : World), J (fun i => decide (i < l.length)) V w → Q .normal (puts V s a0) w) :
    (Code.region id l.toArray true).wp P Q a0 w := by
  have hn' : (dstsOf l).Nodup := of_decide_eq_true hn
  have hsz' : ∀ d ∈ dstsOf l, d < a0.tmps.size := fun d hd => by simpa using List.all_eq_true.1 hsz d hd
  refine wp_region_inv hm (fun listed a w => ∃ L V, (∀ i, L i = listed.getD i false) ∧ Closed l L ∧ Fits l a0 a L V ∧ J L V w ∧ listed.size = l.length) ?_ ?_ ?_
  · refine ⟨fun _ => false, V0, fun i => ?_, fun _ _ _ h => (by cases h), ⟨rfl, rfl, fun _ _ => rfl, fun _ _ _ h => (by cases h), fun _ _ _ _ => rfl⟩, start, by simp⟩
    by_cases hi : i < l.length <;> simp [Array.getD, hi]
  · rintro listed a w i o ho hl hp ⟨L, V, hL, hcl, hf, hJ, hsl⟩
    have ho' : l[i]? = some o := by simpa using ho
    have hilt : i < l.length := by
      rcases List.getElem?_eq_some_iff.1 ho' with ⟨h, _⟩
      exact h
    have hstep := step.at ho'
    rw [Nat.zero_add] at hstep
    have hLi : L i = false := by
      rw [hL]
      simp only [Array.getD, show i < listed.size by omega, dif_pos] at hl ⊢
      exact hl
    have hpre : ∀ j, (predsOf o).contains j = true → L j = true := fun j hj => by
      obtain ⟨e, he, hbd, rfl⟩ := mem_preds.1 (List.contains_iff_mem.1 hj)
      rw [hL]
      exact hp e he hbd
    have hnext : ∀ (v : Value) (w' : World), J (upd L i true) (upd V i v) w' → ∃ L' V', (∀ j, L' j = (listed.setIfInBounds i true).getD j false) ∧ Closed l L' ∧ Fits l a0 (a.put o.dst v) L' V' ∧ J L' V' w' ∧ (listed.setIfInBounds i true).size = l.length := fun v w' hJ' => by
      refine ⟨_, _, fun j => ?_, fun c oc hc hlc j hj => ?_, hf.put hn' hsz' ho' v, hJ', by simp [hsl]⟩
      rotate_left
      · by_cases hji : j = i
        · rw [hji, upd_at]
        · rw [upd_ne _ _ _ _ hji]
          by_cases hci : c = i
          · subst hci
            have : oc = o := by rw [ho'] at hc; exact (Option.some.inj hc).symm
            subst this
            exact hpre j hj
          · rw [upd_ne _ _ _ _ hci] at hlc
            exact hcl c oc hc hlc j hj
      by_cases hji : j = i
      · subst hji
        rw [upd_at]
        simp [Array.getD, hsl, hilt]
      · rw [upd_ne _ _ _ _ hji, hL, getD_set_ne false (fun e => hji e.symm)]
    have := hstep L V a w (fun a' w' => ∃ L V, (∀ j, L j = (listed.setIfInBounds i true).getD j false) ∧ Closed l L ∧ Fits l a0 a' L V ∧ J L V w' ∧ (listed.setIfInBounds i true).size = l.length) hLi hpre hcl hf hJ hnext
    unfold wpOp
    rw [ho]
    simp only
    split
    · rename_i hw
      rw [if_pos hw] at this
      exact .inl this
    · rename_i hw
      rw [if_neg hw] at this
      exact this
  · rintro listed a w hsz2 hr ⟨L, V, hL, hcl, hf, hJ, hsl⟩
    have hall := all_listed hb hsl hr
    have hLe : L = fun i => decide (i < l.length) := by
      funext i
      rw [hL]
      by_cases hi : i < l.length
      · rw [hall i hi, decide_eq_true hi]
      · rw [decide_eq_false hi]
        simp [Array.getD, hsl, hi]
    rw [hLe] at hJ hf
    have hf2 : Fits l a0 a (fun _ => true) V := ⟨hf.defers, hf.size, hf.out, fun i d hm _ => hf.got i d hm (by
      obtain ⟨j, o, e, ho, _⟩ := slots_of hm
      obtain rfl : i = j := by omega
      rcases List.getElem?_eq_some_iff.1 ho with ⟨h, _⟩
      exact decide_eq_true h), fun _ _ _ h => (by cases h)⟩
    rw [hf2.eq hn' hsz' hs]
    exact done V w hJ
end Go.Proofs.Ytlmmejdcjhbppaa

/- a region in whatever order: values, and blocks that it makes and fills -/
set_option linter.unusedSimpArgs false
set_option linter.unusedVariables false
namespace Go.Proofs.Ytlmmejdcjhbppaa
open Go Go.RowKit
/-- a block that operation i makes and operation st fills. -/
structure Alo where
  i : Nat
  st : Nat
  t : TypeId
  zero : Array Value
  full : Array Value
def aloOk (als : List Alo) : Bool := decide (als.map (·.i) ++ als.map (·.st)).Nodup
theorem nodup_inj {α β : Type} {f : α → β} : ∀ {l : List α}, (l.map f).Nodup → ∀ {a b : α}, a ∈ l → b ∈ l → f a = f b → a = b
  | [], _, _, _, h, _, _ => by cases h
  | x :: l, hn, a, b, ha, hb, e => by
    rw [List.map_cons, List.nodup_cons] at hn
    rcases List.mem_cons.1 ha with h1 | h1
    · rcases List.mem_cons.1 hb with h2 | h2
      · rw [h1, h2]
      · exact absurd (List.mem_map_of_mem (f := f) h2) (by rw [← e, h1]; exact hn.1)
    · rcases List.mem_cons.1 hb with h2 | h2
      · exact absurd (List.mem_map_of_mem (f := f) h1) (by rw [e, h2]; exact hn.1)
      · exact nodup_inj hn.2 h1 h2 e
theorem aloOk_spec {als : List Alo} (hok : aloOk als = true) : ∀ B ∈ als, ∀ C ∈ als, (B.i = C.i → B = C) ∧ (B.st = C.st → B = C) ∧ B.i ≠ C.st := fun B hB C hC => by
  have h := List.nodup_append.1 (of_decide_eq_true hok)
  exact ⟨fun e => nodup_inj h.1 hB hC e, fun e => nodup_inj h.2.1 hB hC e, h.2.2 _ (List.mem_map_of_mem hB) _ (List.mem_map_of_mem hC)⟩
def aloFree (als : List Alo) (i : Nat) : Bool := als.all fun A => A.i != i && A.st != i
structure StdJ (W : World) (val : Nat → Option Value) (als : List Alo) (L : Nat → Bool) (V : Nat → Value) (w : World) : Prop where
  below : Below W.heap.size W w
  vals : ∀ i v, val i = some v → L i = true → V i = v
  ord : ∀ A ∈ als, L A.st = true → L A.i = true
  made : ∃ β : Nat → Nat, (∀ A ∈ als, L A.i = true → V A.i = .pointer (some ⟨β A.i, 0, none⟩) ∧ W.heap.size ≤ β A.i ∧ w.heap[β A.i]? = some (.cells (if L A.st = true then A.full else A.zero) A.t (0, 0))) ∧
    (∀ A ∈ als, ∀ B ∈ als, L A.i = true → L B.i = true → A.i ≠ B.i → β A.i ≠ β B.i)
theorem StdJ.start {W w : World} {val : Nat → Option Value} {als : List Alo} {V : Nat → Value} (h : Below W.heap.size W w) : StdJ W val als (fun _ => false) V w :=
  ⟨h, fun _ _ _ h => (by cases h), fun _ _ h => (by cases h), fun _ => 0, fun _ _ h => (by cases h), fun _ _ _ _ h => (by cases h)⟩
theorem StdJ.val {W w w' : World} {val : Nat → Option Value} {als : List Alo} {L : Nat → Bool} {V : Nat → Value} (h : StdJ W val als L V w) (hb : Below w.heap.size w w') (i : Nat) (v : Value) (hf : aloFree als i = true) (hv : (match val i with | some u => u = v | none => True)) :
    StdJ W val als (upd L i true) (upd V i v) w' := by
  have hne : ∀ A ∈ als, A.i ≠ i ∧ A.st ≠ i := fun A hA => by simpa using List.all_eq_true.1 hf A hA
  obtain ⟨h1, h2, h5, β, h3, h4⟩ := h
  refine ⟨h1.trans (hb.mono h1.size), fun j u hj hl => ?_, fun A hA hl => ?_, β, fun A hA hl => ?_, fun A hA B hB ha hb' => ?_⟩
  · by_cases hji : j = i
    · subst hji
      rw [upd_at]
      rw [hj] at hv
      exact hv.symm
    · rw [upd_ne _ _ _ _ hji] at hl ⊢
      exact h2 j u hj hl
  · obtain ⟨n1, n2⟩ := hne A hA
    rw [upd_ne _ _ _ _ n2] at hl
    rw [upd_ne _ _ _ _ n1]
    exact h5 A hA hl
  · obtain ⟨n1, n2⟩ := hne A hA
    rw [upd_ne _ _ _ _ n1] at hl ⊢
    rw [upd_ne _ _ _ _ n2]
    obtain ⟨e1, e2, e3⟩ := h3 A hA hl
    exact ⟨e1, e2, (hb.block _ (Array.getElem?_eq_some_iff.1 e3).1).trans e3⟩
  · rw [upd_ne _ _ _ _ (hne A hA).1] at ha
    rw [upd_ne _ _ _ _ (hne B hB).1] at hb'
    exact h4 A hA B hB ha hb'
theorem StdJ.alloc {W w : World} {val : Nat → Option Value} {als : List Alo} {L : Nat → Bool} {V : Nat → Value} (h : StdJ W val als L V w) (hok : aloOk als = true) (A : Alo) (hA : A ∈ als) (hl : L A.i = false) (hv : val A.i = none) :
    StdJ W val als (upd L A.i true) (upd V A.i (.pointer (some ⟨w.heap.size, 0, none⟩))) (w.alloc (.cells A.zero A.t)) := by
  have hok' := aloOk_spec hok
  obtain ⟨h1, h2, h5, β, h3, h4⟩ := h
  have hb : Below w.heap.size w (w.alloc (.cells A.zero A.t)) := (Below.refl _ _).alloc (Nat.le_refl _) _
  have hs : L A.st = false := by
    cases e : L A.st with
    | false => rfl
    | true => rw [h5 A hA e] at hl; cases hl
  refine ⟨h1.alloc h1.size _, fun j u hj hl' => ?_, fun B hB hl' => ?_, upd β A.i w.heap.size, fun B hB hl' => ?_, fun B hB C hC hb' hc' hne => ?_⟩
  · have hji : j ≠ A.i := fun e => by subst e; rw [hv] at hj; cases hj
    rw [upd_ne _ _ _ _ hji] at hl' ⊢
    exact h2 j u hj hl'
  · by_cases hBA : B.i = A.i
    · rw [hBA, upd_at]
    · rw [upd_ne _ _ _ _ hBA]
      rw [upd_ne _ _ _ _ (fun e => (hok' A hA B hB).2.2 e.symm)] at hl'
      exact h5 B hB hl'
  · by_cases hBA : B.i = A.i
    · obtain rfl : B = A := (hok' B hB A hA).1 hBA
      rw [upd_at, upd_at]
      refine ⟨rfl, h1.size, ?_⟩
      rw [upd_ne _ _ _ _ (fun e => (hok' B hB B hB).2.2 e.symm), hs]
      have hnew : (w.alloc (.cells B.zero B.t)).heap[w.heap.size]? = some (.cells B.zero B.t (0, 0)) := by
        show (w.heap.push _)[w.heap.size]? = _
        simp
      rw [hnew]
      simp
    · rw [upd_ne _ _ _ _ hBA] at hl' ⊢
      rw [upd_ne _ _ _ _ hBA]
      rw [upd_ne _ _ _ _ (fun e => (hok' A hA B hB).2.2 e.symm)]
      obtain ⟨e1, e2, e3⟩ := h3 B hB hl'
      exact ⟨e1, e2, (hb.block _ (Array.getElem?_eq_some_iff.1 e3).1).trans e3⟩
  · have lt : ∀ D ∈ als, D.i ≠ A.i → L D.i = true → β D.i < w.heap.size := fun D hD hn hl' => by
      obtain ⟨_, _, e3⟩ := h3 D hD hl'
      exact (Array.getElem?_eq_some_iff.1 e3).1
    by_cases hBA : B.i = A.i
    · by_cases hCA : C.i = A.i
      · exact absurd (hBA.trans hCA.symm) hne
      · rw [hBA, upd_at, upd_ne _ _ _ _ hCA]
        rw [upd_ne _ _ _ _ hCA] at hc'
        have := lt C hC hCA hc'
        omega
    · by_cases hCA : C.i = A.i
      · rw [hCA, upd_at, upd_ne _ _ _ _ hBA]
        rw [upd_ne _ _ _ _ hBA] at hb'
        have := lt B hB hBA hb'
        omega
      · rw [upd_ne _ _ _ _ hBA, upd_ne _ _ _ _ hCA]
        rw [upd_ne _ _ _ _ hBA] at hb'
        rw [upd_ne _ _ _ _ hCA] at hc'
        exact h4 B hB C hC hb' hc' hne
theorem StdJ.ptr {W w : World} {val : Nat → Option Value} {als : List Alo} {L : Nat → Bool} {V : Nat → Value} (h : StdJ W val als L V w) (A : Alo) (hA : A ∈ als) (hl : L A.i = true) (hs : L A.st = false) :
    ∃ g, V A.i = .pointer (some ⟨g, 0, none⟩) ∧ w.heap[g]? = some (.cells A.zero A.t (0, 0)) := by
  obtain ⟨h1, h2, h5, β, h3, h4⟩ := h
  obtain ⟨e1, e2, e3⟩ := h3 A hA hl
  rw [hs] at e3
  exact ⟨_, e1, by simpa using e3⟩
theorem StdJ.got {W w : World} {val : Nat → Option Value} {als : List Alo} {L : Nat → Bool} {V : Nat → Value} (h : StdJ W val als L V w) (A : Alo) (hA : A ∈ als) (hl : L A.i = true) (hs : L A.st = true) :
    ∃ g, V A.i = .pointer (some ⟨g, 0, none⟩) ∧ W.heap.size ≤ g ∧ w.heap[g]? = some (.cells A.full A.t (0, 0)) := by
  obtain ⟨h1, h2, h5, β, h3, h4⟩ := h
  obtain ⟨e1, e2, e3⟩ := h3 A hA hl
  rw [hs] at e3
  exact ⟨_, e1, e2, by simpa using e3⟩
theorem StdJ.fill {W w : World} {val : Nat → Option Value} {als : List Alo} {L : Nat → Bool} {V : Nat → Value} (h : StdJ W val als L V w) (hok : aloOk als = true) (A : Alo) (hA : A ∈ als) (hl : L A.i = true) (hs : L A.st = false) (hv : val A.st = none) (g : Nat) (hg : V A.i = .pointer (some ⟨g, 0, none⟩)) (v : Value) :
    StdJ W val als (upd L A.st true) (upd V A.st v) (w.setRow g A.full) := by
  have hok' := aloOk_spec hok
  obtain ⟨h1, h2, h5, β, h3, h4⟩ := h
  obtain ⟨e1, e2, e3⟩ := h3 A hA hl
  rw [hs] at e3
  simp only [Bool.false_eq_true, if_false] at e3
  have hgb : g = β A.i := by
    rw [hg] at e1
    injection e1 with e1
    injection e1 with e1
    injection e1
  subst hgb
  have hlt : β A.i < w.heap.size := (Array.getElem?_eq_some_iff.1 e3).1
  have hoth : ∀ k, k ≠ β A.i → (w.setRow (β A.i) A.full).heap[k]? = w.heap[k]? := fun k hk => setRow_other w _ k _ hk
  refine ⟨below_setRow h1 e2 _, fun j u hj hl' => ?_, fun B hB hl' => ?_, β, fun B hB hl' => ?_, fun B hB C hC hb' hc' hne => ?_⟩
  · have hji : j ≠ A.st := fun e => by subst e; rw [hv] at hj; cases hj
    rw [upd_ne _ _ _ _ hji] at hl' ⊢
    exact h2 j u hj hl'
  · rw [upd_ne _ _ _ _ (hok' B hB A hA).2.2]
    by_cases hBA : B.st = A.st
    · obtain rfl : B = A := (hok' B hB A hA).2.1 hBA
      exact hl
    · rw [upd_ne _ _ _ _ hBA] at hl'
      exact h5 B hB hl'
  · have n1 : B.i ≠ A.st := (hok' B hB A hA).2.2
    rw [upd_ne _ _ _ _ n1] at hl' ⊢
    obtain ⟨f1, f2, f3⟩ := h3 B hB hl'
    refine ⟨f1, f2, ?_⟩
    by_cases hBA : B.st = A.st
    · obtain rfl : B = A := (hok' B hB A hA).2.1 hBA
      rw [upd_at, setRow_heap w _ _ B.full _ _ e3]
      simp
    · rw [upd_ne _ _ _ _ hBA]
      have hi : B.i ≠ A.i := fun e => hBA (congrArg Alo.st ((hok' B hB A hA).1 e))
      rw [hoth _ (h4 B hB A hA hl' hl hi)]
      exact f3
  · have n1 : B.i ≠ A.st := (hok' B hB A hA).2.2
    have n2 : C.i ≠ A.st := (hok' C hC A hA).2.2
    rw [upd_ne _ _ _ _ n1] at hb'
    rw [upd_ne _ _ _ _ n2] at hc'
    exact h4 B hB C hC hb' hc' hne
end Go.Proofs.Ytlmmejdcjhbppaa

/- a region in whatever order: values, and memory of its own that is made, handed on, written -/
set_option linter.unusedSimpArgs false
set_option linter.unusedVariables false
namespace Go.Proofs.Ytlmmejdcjhbppaa
open Go Go.RowKit
def ownAny : Value → Option Nat
  | .pointer (some a) => some a.block
  | .slice (some a) _ _ => some a.block
  | _ => none
/-- what operation i's value owns, from operation prod on till operation cons takes it. -/
structure Resr where
  k : Nat
  i : Nat
  prod : Nat
  cons : Option Nat
  deps : List Nat
  P : (Nat → Value) → World → Prop
def Resr.live (r : Resr) (L : Nat → Bool) : Bool := (decide (1000 ≤ r.prod) || L r.prod) && (match r.cons with | some c => !L c | none => true)
structure ResOk (W : World) (r : Resr) : Prop where
  lt : ∀ V w, r.P V w → ∀ g, ownAny (V r.i) = some g → W.heap.size ≤ g ∧ g < w.heap.size
  move : ∀ V V' w w', r.P V w → (∀ j, j = r.i ∨ j ∈ r.deps → V' j = V j) → w.heap.size ≤ w'.heap.size → (∀ g, ownAny (V r.i) = some g → w'.heap[g]? = w.heap[g]?) → r.P V' w'
structure ResJ (W : World) (val : Nat → Option Value) (rs : List Resr) (L : Nat → Bool) (V : Nat → Value) (w : World) : Prop where
  below : Below W.heap.size W w
  vals : ∀ i v, val i = some v → L i = true → V i = v
  ord : ∀ r ∈ rs, r.prod < 1000 → L r.prod = true → ∀ j, j = r.i ∨ j ∈ r.deps → L j = true
  res : ∀ r ∈ rs, r.live L = true → r.P V w
  apart : ∀ r ∈ rs, ∀ s ∈ rs, r.live L = true → s.live L = true → r.k ≠ s.k → ∀ g, ownAny (V r.i) = some g → ownAny (V s.i) ≠ some g
theorem ResJ.start {W w : World} {val : Nat → Option Value} {rs : List Resr} {V : Nat → Value} (h : Below W.heap.size W w) (hn : rs.all (fun r => decide (r.prod < 1000)) = true) : ResJ W val rs (fun _ => false) V w := by
  have hd : ∀ r ∈ rs, r.live (fun _ => false) = true → False := fun r hr hl => by
    have := of_decide_eq_true (List.all_eq_true.1 hn r hr)
    unfold Resr.live at hl
    rw [decide_eq_false (by omega)] at hl
    simp at hl
  exact ⟨h, fun _ _ _ h => (by cases h), fun _ _ _ h => (by cases h), fun r hr hl => (hd r hr hl).elim, fun r hr s _ hl => (hd r hr hl).elim⟩
/-- begun with one resource that came from outside. -/
theorem ResJ.start1 {W w : World} {val : Nat → Option Value} {rs : List Resr} {V : Nat → Value} (h : Below W.heap.size W w) (r0 : Resr) (rest : List Resr) (hrs : rs = r0 :: rest) (hn : rest.all (fun r => decide (r.prod < 1000)) = true) (hP : r0.P V w) : ResJ W val rs (fun _ => false) V w := by
  subst hrs
  have hd : ∀ r ∈ rest, r.live (fun _ => false) = true → False := fun r hr hl => by
    have := of_decide_eq_true (List.all_eq_true.1 hn r hr)
    unfold Resr.live at hl
    rw [decide_eq_false (by omega)] at hl
    simp at hl
  refine ⟨h, fun _ _ _ h => (by cases h), fun _ _ _ h => (by cases h), fun r hr hl => ?_, fun r hr s hs hl hl2 hk => ?_⟩
  · rcases List.mem_cons.1 hr with rfl | hr
    · exact hP
    · exact (hd r hr hl).elim
  · rcases List.mem_cons.1 hr with rfl | hr
    · rcases List.mem_cons.1 hs with rfl | hs
      · exact absurd rfl hk
      · exact (hd s hs hl2).elim
    · exact (hd r hr hl).elim
/-- how a resource stands to an operation: it is not its product; or it is, and it is the only one. -/
def resFits (rs : List Resr) (i : Nat) : Bool := decide (((rs.filter (fun r => r.prod == i)).map (·.k)).length ≤ 1) && decide (rs.map (·.k)).Nodup && rs.all (fun r => r.cons != some r.prod && (decide (r.prod < 1000) || (decide (1000 ≤ r.i) && r.deps.isEmpty))) && decide (i < 1000)
theorem filter_one {rs : List Resr} {i : Nat} (h : ((rs.filter (fun r => r.prod == i)).map (·.k)).length ≤ 1) {r s : Resr} (hr : r ∈ rs) (hs : s ∈ rs) (h1 : r.prod = i) (h2 : s.prod = i) : r = s := by
  have hr' : r ∈ rs.filter (fun r => r.prod == i) := List.mem_filter.2 ⟨hr, by simp [h1]⟩
  have hs' : s ∈ rs.filter (fun r => r.prod == i) := List.mem_filter.2 ⟨hs, by simp [h2]⟩
  rw [List.length_map] at h
  generalize rs.filter (fun r => r.prod == i) = q at h hr' hs'
  match q, h with
  | [], _ => cases hr'
  | [x], _ => rw [List.mem_singleton.1 hr', List.mem_singleton.1 hs']
  | x :: y :: q, h => simp at h
theorem new_one {rs : List Resr} {i : Nat} {Q : Resr → Prop} (hf : resFits rs i = true) (r0 : Resr) (hr : r0 ∈ rs) (hp : r0.prod = i) (hq : Q r0) : ∀ r ∈ rs, r.prod = i → Q r := fun r h h2 => by
  unfold resFits at hf
  rw [Bool.and_eq_true, Bool.and_eq_true, Bool.and_eq_true] at hf
  rw [filter_one (of_decide_eq_true hf.1.1.1) h hr h2 hp]
  exact hq
theorem alloc_new0 (w : World) (o : Obj) : (w.alloc o).heap[w.heap.size]? = some o := by
  show (w.heap.push o)[w.heap.size]? = _
  simp
theorem grown_setRow (w : World) (g : Nat) (cs : Array Value) : w.grownBy (w.setRow g cs) (some g) := ⟨rfl, rfl, rfl, by simp [World.setRow], fun k _ hk => setRow_other w g k cs (fun e => hk (by rw [e]))⟩
theorem live_old {r : Resr} {L : Nat → Bool} {i : Nat} (h : r.live (upd L i true) = true) (hp : r.prod ≠ i) : r.live L = true ∧ r.cons ≠ some i := by
  unfold Resr.live at h ⊢
  rw [upd_ne _ _ _ _ hp] at h
  rw [Bool.and_eq_true] at h
  obtain ⟨h1, h2⟩ := h
  rw [h1, Bool.true_and]
  cases hc : r.cons with
  | none => simp
  | some c =>
    rw [hc] at h2
    simp only at h2
    by_cases hci : c = i
    · subst hci
      rw [upd_at] at h2
      cases h2
    · rw [upd_ne _ _ _ _ hci] at h2
      simp only [h2, true_and]
      intro e
      exact hci (Option.some.inj e)
/-- one operation: it makes a value, may grow the memory, may write the block of a resource that it takes, may make one resource. -/
theorem ResJ.step {W w w' : World} {val : Nat → Option Value} {rs : List Resr} {L : Nat → Bool} {V : Nat → Value} (h : ResJ W val rs L V w) (hok : ∀ r ∈ rs, ResOk W r)
    (i : Nat) (v : Value) (hl : L i = false) (hf : resFits rs i = true) (hv : (match val i with | some u => u = v | none => True))
    (ob : Option Nat) (hg : w.grownBy w' ob) (hob : ob = none ∨ ∃ s ∈ rs, s.cons = some i ∧ (decide (1000 ≤ s.prod) || L s.prod) = true ∧ ownAny (V s.i) = ob)
    (hnew : ∀ r ∈ rs, r.prod = i → (∀ j, j = r.i ∨ j ∈ r.deps → j = i ∨ L j = true) ∧ r.P (upd V i v) w' ∧ ∀ g, ownAny (upd V i v r.i) = some g → w.heap.size ≤ g ∨ ob = some g) :
    ResJ W val rs (upd L i true) (upd V i v) w' := by
  unfold resFits at hf
  rw [Bool.and_eq_true, Bool.and_eq_true, Bool.and_eq_true] at hf
  have h1 := of_decide_eq_true hf.1.1.1
  have h2 := of_decide_eq_true hf.1.1.2
  have hi : i < 1000 := of_decide_eq_true hf.2
  have hout : ∀ r ∈ rs, 1000 ≤ r.prod → 1000 ≤ r.i ∧ r.deps = [] := fun r hr hp => by
    have := List.all_eq_true.1 hf.1.2 r hr
    rw [Bool.and_eq_true, Bool.or_eq_true] at this
    rcases this.2 with h | h
    · have := of_decide_eq_true h; omega
    · rw [Bool.and_eq_true] at h
      exact ⟨of_decide_eq_true h.1, List.isEmpty_iff.1 h.2⟩
  have hkinj : ∀ r ∈ rs, ∀ s ∈ rs, r.k = s.k → r = s := fun r hr s hs e => nodup_inj h2 hr hs e
  have hliveL : ∀ r ∈ rs, r.live L = true → ∀ j, j = r.i ∨ j ∈ r.deps → j ≠ i := fun r hr hlv j hj e => by
    unfold Resr.live at hlv
    rw [Bool.and_eq_true, Bool.or_eq_true] at hlv
    by_cases hp : 1000 ≤ r.prod
    · obtain ⟨e1, e2⟩ := hout r hr hp
      rcases hj with hj | hj
      · omega
      · rw [e2] at hj; cases hj
    · rcases hlv.1 with h' | h'
      · exact hp (of_decide_eq_true h')
      · have := h.ord r hr (by omega) h' j hj
        rw [e, hl] at this
        cases this
  -- the taken resource is alive till now
  have hsl : ∀ s ∈ rs, s.cons = some i → (decide (1000 ≤ s.prod) || L s.prod) = true → s.live L = true := fun s hs hc hp => by
    unfold Resr.live
    rw [hc, hp]
    simp [hl]
  -- what the operation may write is no other living resource's
  have hobr : ∀ r ∈ rs, r.live L = true → r.cons ≠ some i → ∀ g, ownAny (V r.i) = some g → ob ≠ some g := fun r hr hlv hc g hgr e => by
    rcases hob with h0 | ⟨s, hs, hsc, hsp, hso⟩
    · rw [h0] at e; cases e
    · have hk : r.k ≠ s.k := fun e2 => by
        have := hkinj r hr s hs e2
        subst this
        exact hc hsc
      exact h.apart r hr s hs hlv (hsl s hs hsc hsp) hk g hgr (hso.trans e)
  have hbnd : ∀ k, ob = some k → W.heap.size ≤ k := fun k hk => by
    rcases hob with h0 | ⟨s, hs, hsc, hsp, hso⟩
    · rw [h0] at hk; cases hk
    · exact ((hok s hs).lt _ _ (h.res s hs (hsl s hs hsc hsp)) k (hso.trans hk)).1
  have hkeep : ∀ r ∈ rs, r.live L = true → r.cons ≠ some i → r.P (upd V i v) w' := fun r hr hlv hc => by
    have hP := h.res r hr hlv
    refine (hok r hr).move _ _ _ _ hP (fun j hj => upd_ne _ _ _ _ (hliveL r hr hlv j hj)) hg.size fun g hgr => ?_
    exact hg.block g ((hok r hr).lt _ _ hP g hgr).2 (fun e => hobr r hr hlv hc g hgr e.symm)
  refine ⟨h.below.grown hg h.below.size hbnd, fun j u hj hlj => ?_, fun r hr hp0 hlr j hj => ?_, fun r hr hlr => ?_, fun r hr s hs hlr hls hk g hgr => ?_⟩
  · by_cases hji : j = i
    · subst hji
      rw [upd_at]
      rw [hj] at hv
      exact hv.symm
    · rw [upd_ne _ _ _ _ hji] at hlj ⊢
      exact h.vals j u hj hlj
  · by_cases hji : j = i
    · rw [hji, upd_at]
    · rw [upd_ne _ _ _ _ hji]
      by_cases hp : r.prod = i
      · rcases (hnew r hr hp).1 j hj with e | e
        · exact absurd e hji
        · exact e
      · rw [upd_ne _ _ _ _ hp] at hlr
        exact h.ord r hr hp0 hlr j hj
  · by_cases hp : r.prod = i
    · exact (hnew r hr hp).2.1
    · obtain ⟨a1, a2⟩ := live_old hlr hp
      exact hkeep r hr a1 a2
  · by_cases hp : r.prod = i
    · by_cases hq : s.prod = i
      · exact absurd (by rw [filter_one h1 hr hs hp hq]) hk
      · obtain ⟨b1, b2⟩ := live_old hls hq
        have hne := hliveL s hs b1 s.i (.inl rfl)
        rw [upd_ne _ _ _ _ hne]
        intro e
        rcases (hnew r hr hp).2.2 g hgr with hge | hge
        · have := ((hok s hs).lt _ _ (h.res s hs b1) g e).2
          omega
        · exact hobr s hs b1 b2 g e hge
    · obtain ⟨a1, a2⟩ := live_old hlr hp
      have hne := hliveL r hr a1 r.i (.inl rfl)
      rw [upd_ne _ _ _ _ hne] at hgr
      by_cases hq : s.prod = i
      · intro e
        rcases (hnew s hs hq).2.2 g e with hge | hge
        · have := ((hok r hr).lt _ _ (h.res r hr a1) g hgr).2
          omega
        · exact hobr r hr a1 a2 g hgr hge
      · obtain ⟨b1, b2⟩ := live_old hls hq
        have hne2 := hliveL s hs b1 s.i (.inl rfl)
        rw [upd_ne _ _ _ _ hne2]
        exact h.apart r hr s hs a1 b1 hk g hgr
theorem lor {L : Nat → Bool} {p : Nat} (h : L p = true) : (decide (1000 ≤ p) || L p) = true := by rw [h, Bool.or_true]
theorem grown_below {w w' : World} (h : Below w.heap.size w w') : w.grownBy w' none := ⟨h.os, h.tape, h.output, h.size, fun k hk _ => h.block k hk⟩
theorem ResJ.val {W w w' : World} {val : Nat → Option Value} {rs : List Resr} {L : Nat → Bool} {V : Nat → Value} (h : ResJ W val rs L V w) (hok : ∀ r ∈ rs, ResOk W r)
    (i : Nat) (v : Value) (hl : L i = false) (hf : resFits rs i = true) (hn : rs.all (fun r => r.prod != i) = true) (hv : (match val i with | some u => u = v | none => True)) (hb : Below w.heap.size w w') :
    ResJ W val rs (upd L i true) (upd V i v) w' :=
  h.step hok i v hl hf hv none (grown_below hb) (.inl rfl) (fun r hr hp => by
    have := List.all_eq_true.1 hn r hr
    simp [hp] at this)
theorem ResJ.at {W w : World} {val : Nat → Option Value} {rs : List Resr} {L : Nat → Bool} {V : Nat → Value} (h : ResJ W val rs L V w) (r : Resr) (hr : r ∈ rs) (hp : (decide (1000 ≤ r.prod) || L r.prod) = true) (hc : (match r.cons with | some c => L c = false | none => True)) : r.P V w := by
  refine h.res r hr ?_
  unfold Resr.live
  rw [hp]
  cases hcc : r.cons with
  | none => rfl
  | some c =>
    rw [hcc] at hc
    simp only at hc
    simp [hc]
/-- a block that the region makes; its cells may name other values. -/
def IsBlk (W : World) (t : TypeId) (c : Array Value) (v : Value) (w : World) : Prop := ∃ g, v = .pointer (some ⟨g, 0, none⟩) ∧ W.heap.size ≤ g ∧ w.heap[g]? = some (.cells c t (0, 0))
/-- a row of n elements that the region makes. -/
def IsLit (W : World) (t : TypeId) (n : Nat) (c : Array Value) (v : Value) (w : World) : Prop := ∃ g, v = .slice (some ⟨g, 0, none⟩) n n ∧ W.heap.size ≤ g ∧ w.heap[g]? = some (.cells c t (0, 0))
theorem resBlk_ok {W : World} {k i p : Nat} {c : Option Nat} {ds : List Nat} {t : TypeId} (cs : (Nat → Value) → Array Value) (hc : ∀ V V', (∀ j, j = i ∨ j ∈ ds → V' j = V j) → cs V' = cs V) : ResOk W ⟨k, i, p, c, ds, fun V w => IsBlk W t (cs V) (V i) w⟩ where
  lt := fun V w ⟨g, hv, hg, hh⟩ g' hg' => by
    simp only at hv hg'
    rw [hv] at hg'
    simp only [ownAny, Option.some.injEq] at hg'
    subst hg'
    exact ⟨hg, (Array.getElem?_eq_some_iff.1 hh).1⟩
  move := fun V V' w w' ⟨g, hv, hg, hh⟩ hj hs hm => ⟨g, (hj i (.inl rfl)).trans hv, hg, by rw [hc V V' hj]; exact (hm g (by simp only at hv ⊢; rw [hv]; rfl)).trans hh⟩
theorem resLit_ok {W : World} {k i p n : Nat} {c : Option Nat} {ds : List Nat} {t : TypeId} (cs : (Nat → Value) → Array Value) (hc : ∀ V V', (∀ j, j = i ∨ j ∈ ds → V' j = V j) → cs V' = cs V) : ResOk W ⟨k, i, p, c, ds, fun V w => IsLit W t n (cs V) (V i) w⟩ where
  lt := fun V w ⟨g, hv, hg, hh⟩ g' hg' => by
    simp only at hv hg'
    rw [hv] at hg'
    simp only [ownAny, Option.some.injEq] at hg'
    subst hg'
    exact ⟨hg, (Array.getElem?_eq_some_iff.1 hh).1⟩
  move := fun V V' w w' ⟨g, hv, hg, hh⟩ hj hs hm => ⟨g, (hj i (.inl rfl)).trans hv, hg, by rw [hc V V' hj]; exact (hm g (by simp only at hv ⊢; rw [hv]; rfl)).trans hh⟩
/-- what is known of values alone. -/
theorem resFact_ok {W : World} {k i p : Nat} {c : Option Nat} {ds : List Nat} (F : (Nat → Value) → Prop) (h0 : ∀ V, F V → ownAny (V i) = none) (hc : ∀ V V', (∀ j, j = i ∨ j ∈ ds → V' j = V j) → F V → F V') : ResOk W ⟨k, i, p, c, ds, fun V _ => F V⟩ where
  lt := fun V w h g' hg' => by simp only at hg'; rw [h0 V h] at hg'; cases hg'
  move := fun V V' w w' h hj _ _ => hc V V' hj h
/-- a row of the call's own. -/
theorem resRow_ok {W : World} {k i p : Nat} {c : Option Nat} {ds : List Nat} (e s n : Nat) (xs : List Value) : ResOk W ⟨k, i, p, c, ds, fun V w => w.ownsRow W.heap.size e s (V i) n xs⟩ where
  lt := fun V w h g hg => by
    simp only at h hg
    have hb : (V i).ownBlock = some g := by
      rcases h.2 with ⟨e, _⟩ | ⟨g', cap, cur, e, _⟩
      · rw [e] at hg; cases hg
      · rw [e] at hg ⊢; exact hg
    exact h.lt g hb
  move := fun V V' w w' h hj hs hm => by
    simp only at h hm ⊢
    rw [hj i (.inl rfl)]
    refine ⟨h.1, ?_⟩
    rcases h.2 with hn | ⟨g, cap, cur, e, hb, hgg, rest⟩
    · exact .inl hn
    · exact .inr ⟨g, cap, cur, e, hb, (hm g (by rw [e]; rfl)).trans hgg, rest⟩
end Go.Proofs.Ytlmmejdcjhbppaa

/- append: where the new row lies -/
set_option linter.unusedSimpArgs false
set_option linter.unusedVariables false
namespace Go.Proofs.Ytlmmejdcjhbppaa
open Go Go.RowKit
/-- the row that append hands back lies where the old one lay, or behind all memory. -/
theorem append_own_fresh {P : Program} (w : World) (base : Nat) (t ty e : TypeId) (i : TypeInfo) (z : Value) (size bytes : Nat) (ht : P.underlying t = some (.slice e)) (hi : P.info? e = some i) (hz : i.zero = some z)
    (hsize : i.size = size) (hby : i.bytes = bytes) (hzs : z.cells.size = size) (hsz : 0 < size)
    (v : Value) (n : Nat) (xs : List Value) (hown : w.ownsRow base e size v n xs)
    (a : Addr) (m c : Nat) (news : List Value) (hl : news.length = m * size) (hnews : ∀ j u, news[j]? = some u → w.cell? (a.add j) = some u) (h1 : ∀ u ∈ news, u.oneCell' = true)
    (h63 : n + m ≤ maxLen) (hbytes : (n + m) * bytes ≤ 140737488355328) {v' : Value} {w' : World} (hr : (Builtin.append_ #[t, t] ty #[v, .slice (some a) m c]).run P w = .ok v' w') :
    ∀ g, v'.ownBlock = some g → w.heap.size ≤ g ∨ v.ownBlock = some g := by
  intro g hg
  have hsmall : n + m ≤ 9223372036854775807 := by simp only [maxLen] at h63; omega
  rcases hown.2 with ⟨rfl, rfl⟩ | ⟨g0, cap, cur, rfl, hbg, hgg, hnc, hcm, hcs, htake⟩
  · have hx : xs = [] := List.eq_nil_of_length_eq_zero (by simpa using hown.1)
    subst hx
    obtain ⟨v2, w2, hr2, ho2, _⟩ := run_append_own (P := P) w w.heap.size t ty e i z size bytes ht hi hz hsize hby hzs hsz (.slice none 0 0) 0 [] (World.ownsRow_nil _ _ _ _) a m c news hl hnews h1 h63 hbytes (Nat.le_refl _)
    rw [hr2] at hr
    injection hr with e1 e2
    subst e1 e2
    exact .inl (ho2.lt g hg).1
  · subst hsize
    subst hby
    by_cases hroom : n + m ≤ cap
    · have hfit : n * i.size + news.length ≤ cur.size := by rw [hl, hcs, ← Nat.add_mul]; exact Nat.mul_le_mul_right _ hroom
      have hr2 := run_append_room (P := P) w t ty e i ht hi g0 n cap cur hgg a m c news hl hnews h1 hroom hfit
      rw [hr2] at hr
      injection hr with e1 e2
      subst e1
      exact .inr hg
    · have holds : ∀ j u, xs[j]? = some u → w.cell? ((⟨g0, 0, none⟩ : Addr).add j) = some u := hown.cells (g := g0) rfl
      have hr2 := run_append_grow (P := P) w t ty e i z ht hi hz ⟨g0, 0, none⟩ n cap xs hown.1 holds a m c news hl hnews (by omega) (by omega) (growslice_fits (by omega) hbytes)
      rw [hr2] at hr
      injection hr with e1 e2
      subst e1
      simp only [Value.ownBlock, Option.some.injEq] at hg
      exact .inl (by omega)
end Go.Proofs.Ytlmmejdcjhbppaa

/- a region in whatever order that only makes memory: values, and facts that growth keeps -/
set_option linter.unusedSimpArgs false
set_option linter.unusedVariables false
namespace Go.Proofs.Ytlmmejdcjhbppaa
open Go Go.RowKit
structure Fct where
  i : Nat
  P : Value → World → Prop
structure GrowJ (W : World) (val : Nat → Option Value) (fs : List Fct) (L : Nat → Bool) (V : Nat → Value) (w : World) : Prop where
  below : Below W.heap.size W w
  vals : ∀ i v, val i = some v → L i = true → V i = v
  facts : ∀ f ∈ fs, L f.i = true → f.P (V f.i) w
def FctOk (f : Fct) : Prop := ∀ v w w', f.P v w → Below w.heap.size w w' → f.P v w'
theorem GrowJ.start {W w : World} {val : Nat → Option Value} {fs : List Fct} {V : Nat → Value} (h : Below W.heap.size W w) : GrowJ W val fs (fun _ => false) V w :=
  ⟨h, fun _ _ _ h => (by cases h), fun _ _ h => (by cases h)⟩
theorem GrowJ.step {W w w' : World} {val : Nat → Option Value} {fs : List Fct} {L : Nat → Bool} {V : Nat → Value} (h : GrowJ W val fs L V w) (hok : ∀ f ∈ fs, FctOk f) (i : Nat) (v : Value) (hv : (match val i with | some u => u = v | none => True)) (hb : Below w.heap.size w w') (hnew : ∀ f ∈ fs, f.i = i → f.P v w') : GrowJ W val fs (upd L i true) (upd V i v) w' := by
  refine ⟨h.below.trans (hb.mono h.below.size), fun j u hj hl => ?_, fun f hf hl => ?_⟩
  · by_cases hji : j = i
    · subst hji
      rw [upd_at]
      rw [hj] at hv
      exact hv.symm
    · rw [upd_ne _ _ _ _ hji] at hl ⊢
      exact h.vals j u hj hl
  · by_cases hfi : f.i = i
    · rw [hfi, upd_at]
      exact hnew f hf hfi
    · rw [upd_ne _ _ _ _ hfi] at hl ⊢
      exact hok f hf _ _ _ (h.facts f hf hl) hb
theorem GrowJ.val {W w w' : World} {val : Nat → Option Value} {fs : List Fct} {L : Nat → Bool} {V : Nat → Value} (h : GrowJ W val fs L V w) (hok : ∀ f ∈ fs, FctOk f) (i : Nat) (v : Value) (hn : fs.all (fun f => f.i != i) = true) (hv : (match val i with | some u => u = v | none => True)) (hb : Below w.heap.size w w') : GrowJ W val fs (upd L i true) (upd V i v) w' :=
  h.step hok i v hv hb (fun f hf hfi => by
    have := List.all_eq_true.1 hn f hf
    simp [hfi] at this)
end Go.Proofs.Ytlmmejdcjhbppaa

/- a region in whatever order whose effects are one chain: one predicate for each stage -/
set_option linter.unusedSimpArgs false
set_option linter.unusedVariables false
namespace Go.Proofs.Ytlmmejdcjhbppaa
open Go Go.RowKit
structure ChainJ (val : Nat → Option Value) (chain : List Nat) (S : List Value → World → Prop) (L : Nat → Bool) (V : Nat → Value) (w : World) : Prop where
  vals : ∀ i v, val i = some v → L i = true → V i = v
  here : ∃ vs : List Value, vs.length ≤ chain.length ∧ (∀ j, j < chain.length → L (chain.getD j 0) = decide (j < vs.length)) ∧ (∀ j, j < vs.length → V (chain.getD j 0) = vs.getD j undef) ∧ S vs w
theorem ChainJ.start {val : Nat → Option Value} {chain : List Nat} {S : List Value → World → Prop} {V : Nat → Value} {w : World} (h : S [] w) : ChainJ val chain S (fun _ => false) V w :=
  ⟨fun _ _ _ h => (by cases h), [], Nat.zero_le _, fun j _ => by simp, fun j h => absurd h (by simp), h⟩
theorem ChainJ.val {val : Nat → Option Value} {chain : List Nat} {S : List Value → World → Prop} {L : Nat → Bool} {V : Nat → Value} {w w' : World} (h : ChainJ val chain S L V w) (i : Nat) (v : Value) (hc : chain.contains i = false) (hv : (match val i with | some u => u = v | none => True)) (hS : ∀ vs, S vs w → S vs w') : ChainJ val chain S (upd L i true) (upd V i v) w' := by
  obtain ⟨h1, vs, h2, h3, h4, h5⟩ := h
  have hne : ∀ j, j < chain.length → chain.getD j 0 ≠ i := fun j hj e => by
    have : chain.contains i = true := List.contains_iff_mem.2 (by
      rw [← e, List.getD_eq_getElem?_getD, List.getElem?_eq_getElem hj, Option.getD_some]
      exact List.getElem_mem _)
    rw [hc] at this
    cases this
  refine ⟨fun j u hj hl => ?_, vs, h2, fun j hj => by rw [upd_ne _ _ _ _ (hne j hj)]; exact h3 j hj, fun j hj => by rw [upd_ne _ _ _ _ (hne j (by omega))]; exact h4 j hj, hS vs h5⟩
  by_cases hji : j = i
  · subst hji
    rw [upd_at]
    rw [hj] at hv
    exact hv.symm
  · rw [upd_ne _ _ _ _ hji] at hl ⊢
    exact h1 j u hj hl
/-- how far the chain is, at most. -/
theorem ChainJ.upto {val : Nat → Option Value} {chain : List Nat} {S : List Value → World → Prop} {L : Nat → Bool} {V : Nat → Value} {w : World} (h : ChainJ val chain S L V w) (j : Nat) (hj : j < chain.length) (hl : L (chain.getD j 0) = false) : ∃ vs : List Value, vs.length ≤ j ∧ S vs w := by
  obtain ⟨h1, vs, h2, h3, h4, h5⟩ := h
  refine ⟨vs, ?_, h5⟩
  have := h3 j hj
  rw [hl] at this
  have := of_decide_eq_false this.symm
  omega
theorem ChainJ.next {val : Nat → Option Value} {chain : List Nat} {S : List Value → World → Prop} {L : Nat → Bool} {V : Nat → Value} {w : World} (h : ChainJ val chain S L V w) (hn : decide chain.Nodup = true) (j : Nat) (hj : decide (j < chain.length) = true) (hl : L (chain.getD j 0) = false) (hp : j = 0 ∨ L (chain.getD (j - 1) 0) = true) (hv : val (chain.getD j 0) = none) :
    ∃ vs : List Value, vs.length = j ∧ (∀ t, t < j → V (chain.getD t 0) = vs.getD t undef) ∧ S vs w ∧ ∀ v w', S (vs ++ [v]) w' → ChainJ val chain S (upd L (chain.getD j 0) true) (upd V (chain.getD j 0) v) w' := by
  obtain ⟨h1, vs, h2, h3, h4, h5⟩ := h
  have hj := of_decide_eq_true hj
  have hn := of_decide_eq_true hn
  have e1 := h3 j hj
  rw [hl] at e1
  have e1 := of_decide_eq_false e1.symm
  have hlen : vs.length = j := by
    rcases hp with rfl | hp
    · omega
    · by_cases hz : j = 0
      · omega
      · have e2 := h3 (j - 1) (by omega)
        rw [hp] at e2
        have e2 := of_decide_eq_true e2.symm
        omega
  have hne : ∀ t, t < chain.length → t ≠ j → chain.getD t 0 ≠ chain.getD j 0 := fun t ht hne e => by
    rw [List.getD_eq_getElem?_getD, List.getElem?_eq_getElem ht, List.getD_eq_getElem?_getD, List.getElem?_eq_getElem hj, Option.getD_some, Option.getD_some] at e
    exact hne ((List.getElem_inj hn).1 e)
  refine ⟨vs, hlen, fun t ht => h4 t (by omega), h5, fun v w' hS => ⟨fun k u hk hlk => ?_, vs ++ [v], by simp; omega, fun t ht => ?_, fun t ht => ?_, hS⟩⟩
  · have hki : k ≠ chain.getD j 0 := fun e => by subst e; rw [hv] at hk; cases hk
    rw [upd_ne _ _ _ _ hki] at hlk ⊢
    exact h1 k u hk hlk
  · by_cases htj : t = j
    · subst htj
      rw [upd_at]
      simp [hlen]
    · rw [upd_ne _ _ _ _ (hne t ht htj), h3 t ht]
      rw [Bool.eq_iff_iff]
      simp
      omega
  · have ht' : t < j + 1 := by simpa [hlen] using ht
    by_cases htj : t = j
    · subst htj
      rw [upd_at]
      simp [List.getD_eq_getElem?_getD, ← hlen]
    · rw [upd_ne _ _ _ _ (hne t (by omega) htj), h4 t (by omega)]
      simp [List.getD_eq_getElem?_getD, List.getElem?_append_left (show t < vs.length by omega)]
theorem ChainJ.all {val : Nat → Option Value} {chain : List Nat} {S : List Value → World → Prop} {n : Nat} {V : Nat → Value} {w : World} (h : ChainJ val chain S (fun i => decide (i < n)) V w) (hn : chain.all (fun i => decide (i < n)) = true) : ∃ vs : List Value, vs.length = chain.length ∧ (∀ t, t < chain.length → V (chain.getD t 0) = vs.getD t undef) ∧ S vs w := by
  obtain ⟨h1, vs, h2, h3, h4, h5⟩ := h
  have hlen : vs.length = chain.length := by
    by_cases hz : chain.length = 0
    · omega
    · have e := h3 (chain.length - 1) (by omega)
      have hm : chain.getD (chain.length - 1) 0 ∈ chain := by
        rw [List.getD_eq_getElem?_getD, List.getElem?_eq_getElem (by omega), Option.getD_some]
        exact List.getElem_mem _
      have := List.all_eq_true.1 hn _ hm
      rw [this] at e
      have := of_decide_eq_true e.symm
      omega
  exact ⟨vs, hlen, fun t ht => h4 t (by omega), h5⟩
end Go.Proofs.Ytlmmejdcjhbppaa

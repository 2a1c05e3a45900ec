/- a region in whatever order: one invariant over the listed operations, one proof for each operation -/
import Derived.Orders
import Derived.KernelRfl
import Derived.Laws.World
import Derived.Below
import Derived.Laws.Tables
import Derived.Laws.Rows
import Derived.Laws.NewBlocks
import Derived.Laws.CopyOwn
set_option linter.unusedSimpArgs false
set_option linter.unusedVariables false
namespace Go.Proofs.YtjiiikeniocmfaaGreat
open Go
theorem count_lt {α : Type} {p q : α → Bool} : ∀ {l : List α}, (∀ x ∈ l, q x = true → p x = true) → (∃ x ∈ l, p x = true ∧ q x = false) → l.countP q < l.countP p
  | [], _, h => by obtain ⟨x, hx, _⟩ := h; cases hx
  | y :: l, hs, h => by
    have hle : l.countP q ≤ l.countP p := List.countP_mono_left fun x hx => hs x (List.mem_cons_of_mem _ hx)
    rw [List.countP_cons, List.countP_cons]
    obtain ⟨x, hx, h1, h2⟩ := h
    rcases List.mem_cons.1 hx with rfl | hx
    · rw [h1, h2]; simp; omega
    · have := count_lt (l := l) (fun x hx => hs x (List.mem_cons_of_mem _ hx)) ⟨x, hx, h1, h2⟩
      have hy := hs y (List.mem_cons_self ..)
      cases h3 : q y with
      | false => simp; omega
      | true => rw [hy h3]; simp; omega
variable {P : Program} {ops : Array Oper} {Q : Exit → Act → World → Prop} {md : Region.Mode}
/-- how many are not listed yet. -/
def unlisted (ops : Array Oper) (listed : Array Bool) : Nat := (List.range ops.size).countP fun i => !listed.getD i true
theorem ready_nil {listed : Array Bool} (h : unlisted ops listed = 0) : Region.ready md ops listed = [] := by
  unfold unlisted at h
  rw [List.countP_eq_zero] at h
  unfold Region.ready
  rw [List.filter_eq_nil_iff]
  intro i hi
  have := h i hi
  simp at this
  simp [this]
theorem unlisted_lt {listed : Array Bool} {i : Nat} (hl : listed.size = ops.size) (h : i ∈ Region.ready md ops listed) : unlisted ops (listed.setIfInBounds i true) < unlisted ops listed := by
  obtain ⟨h1, o, ho, _⟩ := mem_ready.1 h
  have hlt : i < ops.size := (Array.getElem?_eq_some_iff.1 ho).1
  refine count_lt (fun x hx hq => ?_) ⟨i, List.mem_range.2 hlt, by rw [h1]; rfl, ?_⟩
  · by_cases hxi : i = x
    · subst hxi
      simp [Array.getD, hl, hlt] at hq
    · rw [getD_set_ne true hxi] at hq
      exact hq
  · simp [Array.getD, hl, hlt]
theorem wpAny_inv (I : Array Bool → Act → World → Prop)
    (step : ∀ (listed : Array Bool) (a : Act) (w : World) (i : Nat) (o : Oper), ops[i]? = some o → listed.getD i true = false → (∀ e ∈ o.after, Region.binds md e = true → listed.getD e.on false = true) → I listed a w →
      wpOp P ops Q i (fun a' w' => I (listed.setIfInBounds i true) a' w') a w)
    (done : ∀ (listed : Array Bool) (a : Act) (w : World), listed.size = ops.size → Region.ready md ops listed = [] → I listed a w → Q .normal a w) :
    ∀ (fuel : Nat) (listed : Array Bool) (a : Act) (w : World), listed.size = ops.size → unlisted ops listed ≤ fuel → I listed a w → wpAny P md ops Q fuel listed a w
  | 0, listed, a, w, hl, hu, hI => ⟨ready_nil (by omega), done listed a w hl (ready_nil (by omega)) hI⟩
  | fuel + 1, listed, a, w, hl, hu, hI => by
    refine ⟨fun h => done listed a w hl h hI, fun i hi => ?_⟩
    obtain ⟨h1, o, ho, h2⟩ := mem_ready.1 hi
    have hlt := unlisted_lt hl hi
    exact wpOp_mono (fun a' w' h => wpAny_inv I step done fuel _ a' w' (by simp [hl]) (by omega) h) (step listed a w i o ho h1 h2 hI)
theorem unlisted_start : unlisted ops (Array.replicate ops.size false) ≤ ops.size := by
  unfold unlisted
  exact Nat.le_trans List.countP_le_length (by simp)
/-- the region, begun. -/
theorem wp_region_inv {id : Nat} {a : Act} {w : World} (hm : P.follows .mixedOrders = true) (I : Array Bool → Act → World → Prop)
    (start : I (Array.replicate ops.size false) a { w with drawn := w.drawn + 1 })
    (step : ∀ (listed : Array Bool) (a : Act) (w : World) (i : Nat) (o : Oper), ops[i]? = some o → listed.getD i true = false → (∀ e ∈ o.after, Region.binds .any e = true → listed.getD e.on false = true) → I listed a w →
      wpOp P ops Q i (fun a' w' => I (listed.setIfInBounds i true) a' w') a w)
    (done : ∀ (listed : Array Bool) (a : Act) (w : World), listed.size = ops.size → Region.ready .any ops listed = [] → I listed a w → Q .normal a w) :
    (Code.region id ops true).wp P Q a w :=
  wp_region_any hm (wpAny_inv I step done _ _ a _ (by simp) unlisted_start start)
end Go.Proofs.YtjiiikeniocmfaaGreat

/- a region in whatever order: one invariant over the listed operations and their values, one proof for each operation; the frame is told apart from it -/
set_option linter.unusedSimpArgs false
set_option linter.unusedVariables false
namespace Go.Proofs.YtjiiikeniocmfaaGreat
open Go
def upd {α : Type} (L : Nat → α) (i : Nat) (x : α) : Nat → α := fun j => if j = i then x else L j
theorem upd_at {α : Type} (L : Nat → α) (i : Nat) (x : α) : upd L i x i = x := by unfold upd; simp
theorem upd_ne {α : Type} (L : Nat → α) (i j : Nat) (x : α) (h : j ≠ i) : upd L i x j = L j := by unfold upd; simp [h]
def predsOf (o : Oper) : List Nat := (o.after.toList.filter (fun e => Region.binds .any e)).map (·.on)
def dstsOf (l : List Oper) : List Nat := l.filterMap (·.dst)
def slotsOf : Nat → List Oper → List (Nat × Nat)
  | _, [] => []
  | k, o :: l => match o.dst with
    | some d => (d, k) :: slotsOf (k + 1) l
    | none => slotsOf (k + 1) l
def AllSteps (S : Nat → Oper → Prop) : Nat → List Oper → Prop
  | _, [] => True
  | k, o :: l => S k o ∧ AllSteps S (k + 1) l
theorem AllSteps.at {S : Nat → Oper → Prop} : ∀ {l : List Oper} {k : Nat}, AllSteps S k l → ∀ {i : Nat} {o : Oper}, l[i]? = some o → S (k + i) o
  | [], _, _, i, o, h => by simp at h
  | x :: l, k, ⟨h1, h2⟩, 0, o, h => by
    rw [List.getElem?_cons_zero] at h
    cases h
    exact h1
  | x :: l, k, ⟨h1, h2⟩, i + 1, o, h => by
    rw [List.getElem?_cons_succ] at h
    have := h2.at h
    rwa [Nat.add_assoc, Nat.add_comm 1 i] at this
/-- every edge of these operations goes back. -/
def backEdges : Nat → List Oper → Bool
  | _, [] => true
  | k, o :: l => (predsOf o).all (fun j => decide (j < k)) && backEdges (k + 1) l
theorem backEdges_at : ∀ {l : List Oper} {k : Nat}, backEdges k l = true → ∀ {i : Nat} {o : Oper}, l[i]? = some o → ∀ j ∈ predsOf o, j < k + i
  | [], _, _, i, o, h => by simp at h
  | x :: l, k, hb, 0, o, h => by
    unfold backEdges at hb
    rw [Bool.and_eq_true] at hb
    rw [List.getElem?_cons_zero] at h
    cases h
    intro j hj
    have := List.all_eq_true.1 hb.1 j hj
    simpa using this
  | x :: l, k, hb, i + 1, o, h => by
    unfold backEdges at hb
    rw [Bool.and_eq_true] at hb
    rw [List.getElem?_cons_succ] at h
    intro j hj
    have := backEdges_at hb.2 h j hj
    omega
theorem mem_preds {o : Oper} {j : Nat} : j ∈ predsOf o ↔ ∃ e ∈ o.after, Region.binds .any e = true ∧ e.on = j := by
  unfold predsOf
  simp only [List.mem_map, List.mem_filter, Array.mem_toList_iff]
  constructor
  · rintro ⟨e, ⟨h1, h2⟩, h3⟩; exact ⟨e, h1, h2, h3⟩
  · rintro ⟨e, h1, h2, h3⟩; exact ⟨e, ⟨h1, h2⟩, h3⟩
theorem all_listed {l : List Oper} {listed : Array Bool} (hb : backEdges 0 l = true) (hs : listed.size = l.length) (hr : Region.ready .any l.toArray listed = []) : ∀ i, i < l.length → listed.getD i false = true := by
  intro i
  induction i using Nat.strongRecOn with
  | ind i ih =>
    intro hi
    cases hl : listed.getD i false with
    | true => rfl
    | false =>
      exfalso
      have hmem : i ∈ Region.ready .any l.toArray listed := by
        refine mem_ready.2 ⟨?_, l[i], by simp [hi], ?_⟩
        · have h2 : i < listed.size := by omega
          simp only [Array.getD, h2, dif_pos] at hl ⊢
          exact hl
        · intro e he hbd
          have hj : e.on ∈ predsOf l[i] := mem_preds.2 ⟨e, he, hbd, rfl⟩
          have := backEdges_at hb (i := i) (o := l[i]) (by simp [hi]) _ hj
          exact ih _ (by omega) (by omega)
      rw [hr] at hmem
      cases hmem
/-- the frame of a region under way: what no operation writes stays; what is listed bears its value. -/
structure Fits (l : List Oper) (a0 a : Act) (L : Nat → Bool) (V : Nat → Value) : Prop where
  defers : a.defers = a0.defers
  size : a.tmps.size = a0.tmps.size
  out : ∀ t, (dstsOf l).contains t = false → a.tmps[t]? = a0.tmps[t]?
  got : ∀ i d, (d, i) ∈ slotsOf 0 l → L i = true → a.tmps[d]? = some (V i)
  kept : ∀ i d, (d, i) ∈ slotsOf 0 l → L i = false → a.tmps[d]? = a0.tmps[d]?
theorem slots_mem : ∀ {l : List Oper} {k i : Nat} {o : Oper} {d : Nat}, l[i]? = some o → o.dst = some d → (d, k + i) ∈ slotsOf k l
  | [], _, i, _, _, h, _ => by simp at h
  | x :: l, k, 0, o, d, h, hd => by
    rw [List.getElem?_cons_zero] at h
    cases h
    unfold slotsOf
    rw [hd]
    exact List.mem_cons_self
  | x :: l, k, i + 1, o, d, h, hd => by
    rw [List.getElem?_cons_succ] at h
    have := slots_mem (k := k + 1) h hd
    rw [Nat.add_assoc, Nat.add_comm 1 i] at this
    unfold slotsOf
    split
    · exact List.mem_cons_of_mem _ this
    · exact this
theorem slots_of : ∀ {l : List Oper} {k i d : Nat}, (d, i) ∈ slotsOf k l → ∃ j o, i = k + j ∧ l[j]? = some o ∧ o.dst = some d
  | [], _, i, d, h => by cases h
  | x :: l, k, i, d, h => by
    have key : (d, i) ∈ slotsOf (k + 1) l → ∃ j o, i = k + j ∧ (x :: l)[j]? = some o ∧ o.dst = some d := fun h => by
      obtain ⟨j, o, h1, h2, h3⟩ := slots_of h
      exact ⟨j + 1, o, by omega, by rw [List.getElem?_cons_succ]; exact h2, h3⟩
    unfold slotsOf at h
    split at h
    · rename_i d' hd
      rcases List.mem_cons.1 h with e | h
      · cases e
        exact ⟨0, x, rfl, rfl, hd⟩
      · exact key h
    · exact key h
theorem dsts_nodup : ∀ {l : List Oper} {i j : Nat} {o o' : Oper} {d : Nat}, (dstsOf l).Nodup → l[i]? = some o → l[j]? = some o' → o.dst = some d → o'.dst = some d → i = j
  | [], i, _, _, _, _, _, h, _, _, _ => by simp at h
  | x :: l, 0, 0, _, _, _, _, _, _, _, _ => rfl
  | x :: l, 0, j + 1, o, o', d, hn, h, h', hd, hd' => by
    exfalso
    rw [List.getElem?_cons_zero] at h
    rw [List.getElem?_cons_succ] at h'
    cases h
    unfold dstsOf at hn
    rw [List.filterMap_cons, hd] at hn
    exact (List.nodup_cons.1 hn).1 (List.mem_filterMap.2 ⟨o', List.mem_of_getElem? h', hd'⟩)
  | x :: l, i + 1, 0, o, o', d, hn, h, h', hd, hd' => by
    exfalso
    rw [List.getElem?_cons_zero] at h'
    rw [List.getElem?_cons_succ] at h
    cases h'
    unfold dstsOf at hn
    rw [List.filterMap_cons, hd'] at hn
    exact (List.nodup_cons.1 hn).1 (List.mem_filterMap.2 ⟨o, List.mem_of_getElem? h, hd⟩)
  | x :: l, i + 1, j + 1, o, o', d, hn, h, h', hd, hd' => by
    rw [List.getElem?_cons_succ] at h h'
    have hn2 : (dstsOf l).Nodup := by
      unfold dstsOf at hn ⊢
      rw [List.filterMap_cons] at hn
      split at hn
      · exact hn
      · exact (List.nodup_cons.1 hn).2
    rw [dsts_nodup hn2 h h' hd hd']
theorem Fits.put {l : List Oper} {a0 a : Act} {L : Nat → Bool} {V : Nat → Value} (hn : (dstsOf l).Nodup) (hsz : ∀ d ∈ dstsOf l, d < a0.tmps.size) (h : Fits l a0 a L V) {i : Nat} {o : Oper} (ho : l[i]? = some o) (v : Value) :
    Fits l a0 (a.put o.dst v) (upd L i true) (upd V i v) := by
  have hmem : ∀ d, o.dst = some d → d ∈ dstsOf l := fun d hd => List.mem_filterMap.2 ⟨o, List.mem_of_getElem? ho, hd⟩
  refine ⟨?_, ?_, ?_, ?_, ?_⟩
  · cases hd : o.dst <;> exact h.defers
  · cases hd : o.dst with
    | none => exact h.size
    | some d => simp only [Act.put, Array.size_setIfInBounds]; exact h.size
  · intro t ht
    cases hd : o.dst with
    | none => exact h.out t ht
    | some d =>
      have hne : d ≠ t := fun e => by
        subst e
        have := List.contains_iff_mem.2 (hmem d hd)
        rw [ht] at this
        cases this
      simp only [Act.put, Array.getElem?_setIfInBounds_ne hne]
      exact h.out t ht
  · intro j d hj hl
    obtain ⟨j', o', e, ho', hd'⟩ := slots_of hj
    obtain rfl : j = j' := by omega
    by_cases hji : j = i
    · subst hji
      have : o' = o := by rw [ho] at ho'; exact (Option.some.inj ho').symm
      subst this
      rw [hd', upd_at]
      have hlt : d < a.tmps.size := by rw [h.size]; exact hsz d (hmem d hd')
      simp only [Act.put]
      rw [Array.getElem?_setIfInBounds_self_of_lt hlt]
    · rw [upd_ne _ _ _ _ hji] at hl ⊢
      cases hd : o.dst with
      | none => exact h.got j d hj hl
      | some d2 =>
        have hne : d2 ≠ d := fun e => by
          subst e
          exact hji (dsts_nodup hn ho' ho hd' hd)
        simp only [Act.put, Array.getElem?_setIfInBounds_ne hne]
        exact h.got j d hj hl
  · intro j d hj hl
    obtain ⟨j', o', e, ho', hd'⟩ := slots_of hj
    obtain rfl : j = j' := by omega
    have hji : j ≠ i := fun e => by subst e; rw [upd_at] at hl; cases hl
    rw [upd_ne _ _ _ _ hji] at hl
    cases hd : o.dst with
    | none => exact h.kept j d hj hl
    | some d2 =>
      have hne : d2 ≠ d := fun e => by
        subst e
        exact hji (dsts_nodup hn ho' ho hd' hd)
      simp only [Act.put, Array.getElem?_setIfInBounds_ne hne]
      exact h.kept j d hj hl
/-- what an operation reads of the frame. -/
theorem Fits.in {l : List Oper} {a0 a : Act} {L : Nat → Bool} {V : Nat → Value} (h : Fits l a0 a L V) {i d : Nat} {v : Value} (hs : (slotsOf 0 l).contains (d, i) = true) (hl : L i = true) (hv : V i = v) : a.tmps[d]? = some v :=
  (h.got i d (List.contains_iff_mem.1 hs) hl).trans (by rw [hv])
theorem Fits.old {l : List Oper} {a0 a : Act} {L : Nat → Bool} {V : Nat → Value} (h : Fits l a0 a L V) {t : Nat} {v : Value} (hs : (dstsOf l).contains t = false) (hv : a0.tmps[t]? = some v) : a.tmps[t]? = some v :=
  (h.out t hs).trans hv
/-- the frame behind the region. -/
def puts (V : Nat → Value) : List (Nat × Nat) → Act → Act
  | [], a => a
  | (d, i) :: l, a => puts V l (a.put (some d) (V i))
theorem puts_defers (V : Nat → Value) : ∀ (l : List (Nat × Nat)) (a : Act), (puts V l a).defers = a.defers
  | [], _ => rfl
  | (d, i) :: l, a => by rw [puts, puts_defers]; rfl
theorem puts_out (V : Nat → Value) : ∀ (l : List (Nat × Nat)) (a : Act) (t : Nat), t ∉ l.map (·.1) → (puts V l a).tmps[t]? = a.tmps[t]?
  | [], _, _, _ => rfl
  | (d, i) :: l, a, t, h => by
    rw [List.map_cons, List.mem_cons, not_or] at h
    rw [puts, puts_out V l _ t h.2]
    simp only [Act.put]
    rw [Array.getElem?_setIfInBounds_ne (fun e => h.1 e.symm)]
theorem puts_in (V : Nat → Value) : ∀ (l : List (Nat × Nat)) (a : Act) (d i : Nat), (l.map (·.1)).Nodup → (d, i) ∈ l → d < a.tmps.size → (puts V l a).tmps[d]? = some (V i)
  | [], _, _, _, _, h, _ => by cases h
  | (d', i') :: l, a, d, i, hn, h, hs => by
    rw [List.map_cons, List.nodup_cons] at hn
    rw [puts]
    rcases List.mem_cons.1 h with e | h
    · cases e
      rw [puts_out V l _ _ hn.1]
      simp only [Act.put]
      rw [Array.getElem?_setIfInBounds_self_of_lt hs]
    · exact puts_in V l _ d i hn.2 h (by simp [Act.put]; exact hs)
theorem slots_dsts : ∀ (l : List Oper) (k : Nat), (slotsOf k l).map (·.1) = dstsOf l
  | [], _ => rfl
  | o :: l, k => by
    unfold slotsOf dstsOf
    rw [List.filterMap_cons]
    cases hd : o.dst with
    | none => exact slots_dsts l (k + 1)
    | some d => simp only [List.map_cons]; rw [slots_dsts l (k + 1)]; rfl
theorem Fits.eq {l : List Oper} {a0 a : Act} {V : Nat → Value} {s : List (Nat × Nat)} (h : Fits l a0 a (fun _ => true) V) (hn : (dstsOf l).Nodup) (hsz : ∀ d ∈ dstsOf l, d < a0.tmps.size) (hs : slotsOf 0 l = s) : a = puts V s a0 := by
  subst hs
  have ht : a.tmps = (puts V (slotsOf 0 l) a0).tmps := by
    apply Array.ext_getElem?
    intro t
    by_cases hm : t ∈ dstsOf l
    · obtain ⟨o, ho, hd⟩ := List.mem_filterMap.1 hm
      obtain ⟨i, hi⟩ := List.getElem?_of_mem ho
      have hmem := slots_mem (k := 0) hi hd
      rw [Nat.zero_add] at hmem
      rw [h.got i t hmem rfl, puts_in V _ _ t i (by rw [slots_dsts]; exact hn) hmem (hsz t hm)]
    · rw [puts_out V _ _ t (by rw [slots_dsts]; exact hm)]
      refine h.out t ?_
      cases hc : (dstsOf l).contains t with
      | false => rfl
      | true => exact absurd (List.contains_iff_mem.1 hc) hm
  have hd := (h.defers).trans (puts_defers V (slotsOf 0 l) a0).symm
  cases a
  generalize puts V (slotsOf 0 l) a0 = b at ht hd ⊢
  cases b
  simp only at ht hd
  rw [ht, hd]
/-- who is listed has those listed that he waits for. -/
def Closed (l : List Oper) (L : Nat → Bool) : Prop := ∀ (c : Nat) (o : Oper), l[c]? = some o → L c = true → ∀ j, (predsOf o).contains j = true → L j = true
theorem Closed.no {l : List Oper} {L : Nat → Bool} (h : Closed l L) (c : Nat) {i : Nat} (hc : ((l[c]?).map (fun o => (predsOf o).contains i)) = some true) (hl : L i = false) : L c = false := by
  cases e : L c with
  | false => rfl
  | true =>
    cases ho : l[c]? with
    | none => rw [ho] at hc; cases hc
    | some o =>
      rw [ho] at hc
      simp only [Option.map_some, Option.some.injEq] at hc
      rw [h c o ho e i hc] at hl
      cases hl
/-- one operation's proof. -/
def StepJ (P : Program) (l : List Oper) (Q : Exit → Act → World → Prop) (a0 : Act) (J : (Nat → Bool) → (Nat → Value) → World → Prop) (i : Nat) (o : Oper) : Prop :=
  ∀ (L : Nat → Bool) (V : Nat → Value) (a : Act) (w : World) (K : Act → World → Prop), L i = false → (∀ j, (predsOf o).contains j = true → L j = true) → Closed l L → Fits l a0 a L V → J L V w →
    (∀ (v : Value) (w' : World), J (upd L i true) (upd V i v) w' → K (a.put o.dst v) w') → if Region.wanted o (yielded l.toArray a.tmps) then o.wp P a w K Q else K (a.put o.dst undef) w
theorem wp_region_J {P : Program} {l : List Oper} {Q : Exit → Act → World → Prop} {id : Nat} {a0 : Act} {w : World} {s : List (Nat × Nat)} (hm : P.follows .mixedOrders = true) (J : (Nat → Bool) → (Nat → Value) → World → Prop)
    (hb : backEdges 0 l = true) (hn : decide (dstsOf l).Nodup = true) (hsz : (dstsOf l).all (fun d => decide (d < a0.tmps.size)) = true) (hs : slotsOf 0 l = s)
    (V0 : Nat → Value) (start : J (fun _ => false) V0 w.drew)
    (step : AllSteps (StepJ P l Q a0 J) 0 l)
    (done : ∀ (V : Nat → Value) (w : World), J (fun i => decide (i < l.length)) V w → Q .normal (puts V s a0) w) :
    (Code.region id l.toArray true).wp P Q a0 w := by
  have hn' : (dstsOf l).Nodup := of_decide_eq_true hn
  have hsz' : ∀ d ∈ dstsOf l, d < a0.tmps.size := fun d hd => by simpa using List.all_eq_true.1 hsz d hd
  refine wp_region_inv hm (fun listed a w => ∃ L V, (∀ i, L i = listed.getD i false) ∧ Closed l L ∧ Fits l a0 a L V ∧ J L V w ∧ listed.size = l.length) ?_ ?_ ?_
  · refine ⟨fun _ => false, V0, fun i => ?_, fun _ _ _ h => (by cases h), ⟨rfl, rfl, fun _ _ => rfl, fun _ _ _ h => (by cases h), fun _ _ _ _ => rfl⟩, start, by simp⟩
    by_cases hi : i < l.length <;> simp [Array.getD, hi]
  · rintro listed a w i o ho hl hp ⟨L, V, hL, hcl, hf, hJ, hsl⟩
    have ho' : l[i]? = some o := by simpa using ho
    have hilt : i < l.length := by
      rcases List.getElem?_eq_some_iff.1 ho' with ⟨h, _⟩
      exact h
    have hstep := step.at ho'
    rw [Nat.zero_add] at hstep
    have hLi : L i = false := by
      rw [hL]
      simp only [Array.getD, show i < listed.size by omega, dif_pos] at hl ⊢
      exact hl
    have hpre : ∀ j, (predsOf o).contains j = true → L j = true := fun j hj => by
      obtain ⟨e, he, hbd, rfl⟩ := mem_preds.1 (List.contains_iff_mem.1 hj)
      rw [hL]
      exact hp e he hbd
    have hnext : ∀ (v : Value) (w' : World), J (upd L i true) (upd V i v) w' → ∃ L' V', (∀ j, L' j = (listed.setIfInBounds i true).getD j false) ∧ Closed l L' ∧ Fits l a0 (a.put o.dst v) L' V' ∧ J L' V' w' ∧ (listed.setIfInBounds i true).size = l.length := fun v w' hJ' => by
      refine ⟨_, _, fun j => ?_, fun c oc hc hlc j hj => ?_, hf.put hn' hsz' ho' v, hJ', by simp [hsl]⟩
      rotate_left
      · by_cases hji : j = i
        · rw [hji, upd_at]
        · rw [upd_ne _ _ _ _ hji]
          by_cases hci : c = i
          · subst hci
            have : oc = o := by rw [ho'] at hc; exact (Option.some.inj hc).symm
            subst this
            exact hpre j hj
          · rw [upd_ne _ _ _ _ hci] at hlc
            exact hcl c oc hc hlc j hj
      by_cases hji : j = i
      · subst hji
        rw [upd_at]
        simp [Array.getD, hsl, hilt]
      · rw [upd_ne _ _ _ _ hji, hL, getD_set_ne false (fun e => hji e.symm)]
    have := hstep L V a w (fun a' w' => ∃ L V, (∀ j, L j = (listed.setIfInBounds i true).getD j false) ∧ Closed l L ∧ Fits l a0 a' L V ∧ J L V w' ∧ (listed.setIfInBounds i true).size = l.length) hLi hpre hcl hf hJ hnext
    unfold wpOp
    rw [ho]
    simp only
    split
    · rename_i hw
      rw [if_pos hw] at this
      exact .inl this
    · rename_i hw
      rw [if_neg hw] at this
      exact this
  · rintro listed a w hsz2 hr ⟨L, V, hL, hcl, hf, hJ, hsl⟩
    have hall := all_listed hb hsl hr
    have hLe : L = fun i => decide (i < l.length) := by
      funext i
      rw [hL]
      by_cases hi : i < l.length
      · rw [hall i hi, decide_eq_true hi]
      · rw [decide_eq_false hi]
        simp [Array.getD, hsl, hi]
    rw [hLe] at hJ hf
    have hf2 : Fits l a0 a (fun _ => true) V := ⟨hf.defers, hf.size, hf.out, fun i d hm _ => hf.got i d hm (by
      obtain ⟨j, o, e, ho, _⟩ := slots_of hm
      obtain rfl : i = j := by omega
      rcases List.getElem?_eq_some_iff.1 ho with ⟨h, _⟩
      exact decide_eq_true h), fun _ _ _ h => (by cases h)⟩
    rw [hf2.eq hn' hsz' hs]
    exact done V w hJ
end Go.Proofs.YtjiiikeniocmfaaGreat

/- a region in whatever order: values, and blocks that it makes and fills -/
set_option linter.unusedSimpArgs false
set_option linter.unusedVariables false
namespace Go.Proofs.YtjiiikeniocmfaaGreat
open Go Go.RowKit
/-- a block that operation i makes and operation st fills. -/
structure Alo where
  i : Nat
  st : Nat
  t : TypeId
  zero : Array Value
  full : Array Value
def aloOk (als : List Alo) : Bool := decide (als.map (·.i) ++ als.map (·.st)).Nodup
theorem nodup_inj {α β : Type} {f : α → β} : ∀ {l : List α}, (l.map f).Nodup → ∀ {a b : α}, a ∈ l → b ∈ l → f a = f b → a = b
  | [], _, _, _, h, _, _ => by cases h
  | x :: l, hn, a, b, ha, hb, e => by
    rw [List.map_cons, List.nodup_cons] at hn
    rcases List.mem_cons.1 ha with h1 | h1
    · rcases List.mem_cons.1 hb with h2 | h2
      · rw [h1, h2]
      · exact absurd (List.mem_map_of_mem (f := f) h2) (by rw [← e, h1]; exact hn.1)
    · rcases List.mem_cons.1 hb with h2 | h2
      · exact absurd (List.mem_map_of_mem (f := f) h1) (by rw [e, h2]; exact hn.1)
      · exact nodup_inj hn.2 h1 h2 e
theorem aloOk_spec {als : List Alo} (hok : aloOk als = true) : ∀ B ∈ als, ∀ C ∈ als, (B.i = C.i → B = C) ∧ (B.st = C.st → B = C) ∧ B.i ≠ C.st := fun B hB C hC => by
  have h := List.nodup_append.1 (of_decide_eq_true hok)
  exact ⟨fun e => nodup_inj h.1 hB hC e, fun e => nodup_inj h.2.1 hB hC e, h.2.2 _ (List.mem_map_of_mem hB) _ (List.mem_map_of_mem hC)⟩
def aloFree (als : List Alo) (i : Nat) : Bool := als.all fun A => A.i != i && A.st != i
structure StdJ (W : World) (val : Nat → Option Value) (als : List Alo) (L : Nat → Bool) (V : Nat → Value) (w : World) : Prop where
  below : Below W.heap.size W w
  vals : ∀ i v, val i = some v → L i = true → V i = v
  ord : ∀ A ∈ als, L A.st = true → L A.i = true
  made : ∃ β : Nat → Nat, (∀ A ∈ als, L A.i = true → V A.i = .pointer (some ⟨β A.i, 0, none⟩) ∧ W.heap.size ≤ β A.i ∧ w.heap[β A.i]? = some (.cells (if L A.st = true then A.full else A.zero) A.t (0, 0))) ∧
    (∀ A ∈ als, ∀ B ∈ als, L A.i = true → L B.i = true → A.i ≠ B.i → β A.i ≠ β B.i)
theorem StdJ.start {W w : World} {val : Nat → Option Value} {als : List Alo} {V : Nat → Value} (h : Below W.heap.size W w) : StdJ W val als (fun _ => false) V w :=
  ⟨h, fun _ _ _ h => (by cases h), fun _ _ h => (by cases h), fun _ => 0, fun _ _ h => (by cases h), fun _ _ _ _ h => (by cases h)⟩
theorem StdJ.val {W w w' : World} {val : Nat → Option Value} {als : List Alo} {L : Nat → Bool} {V : Nat → Value} (h : StdJ W val als L V w) (hb : Below w.heap.size w w') (i : Nat) (v : Value) (hf : aloFree als i = true) (hv : (match val i with | some u => u = v | none => True)) :
    StdJ W val als (upd L i true) (upd V i v) w' := by
  have hne : ∀ A ∈ als, A.i ≠ i ∧ A.st ≠ i := fun A hA => by simpa using List.all_eq_true.1 hf A hA
  obtain ⟨h1, h2, h5, β, h3, h4⟩ := h
  refine ⟨h1.trans (hb.mono h1.size), fun j u hj hl => ?_, fun A hA hl => ?_, β, fun A hA hl => ?_, fun A hA B hB ha hb' => ?_⟩
  · by_cases hji : j = i
    · subst hji
      rw [upd_at]
      rw [hj] at hv
      exact hv.symm
    · rw [upd_ne _ _ _ _ hji] at hl ⊢
      exact h2 j u hj hl
  · obtain ⟨n1, n2⟩ := hne A hA
    rw [upd_ne _ _ _ _ n2] at hl
    rw [upd_ne _ _ _ _ n1]
    exact h5 A hA hl
  · obtain ⟨n1, n2⟩ := hne A hA
    rw [upd_ne _ _ _ _ n1] at hl ⊢
    rw [upd_ne _ _ _ _ n2]
    obtain ⟨e1, e2, e3⟩ := h3 A hA hl
    exact ⟨e1, e2, (hb.block _ (Array.getElem?_eq_some_iff.1 e3).1).trans e3⟩
  · rw [upd_ne _ _ _ _ (hne A hA).1] at ha
    rw [upd_ne _ _ _ _ (hne B hB).1] at hb'
    exact h4 A hA B hB ha hb'
theorem StdJ.alloc {W w : World} {val : Nat → Option Value} {als : List Alo} {L : Nat → Bool} {V : Nat → Value} (h : StdJ W val als L V w) (hok : aloOk als = true) (A : Alo) (hA : A ∈ als) (hl : L A.i = false) (hv : val A.i = none) :
    StdJ W val als (upd L A.i true) (upd V A.i (.pointer (some ⟨w.heap.size, 0, none⟩))) (w.alloc (.cells A.zero A.t)) := by
  have hok' := aloOk_spec hok
  obtain ⟨h1, h2, h5, β, h3, h4⟩ := h
  have hb : Below w.heap.size w (w.alloc (.cells A.zero A.t)) := (Below.refl _ _).alloc (Nat.le_refl _) _
  have hs : L A.st = false := by
    cases e : L A.st with
    | false => rfl
    | true => rw [h5 A hA e] at hl; cases hl
  refine ⟨h1.alloc h1.size _, fun j u hj hl' => ?_, fun B hB hl' => ?_, upd β A.i w.heap.size, fun B hB hl' => ?_, fun B hB C hC hb' hc' hne => ?_⟩
  · have hji : j ≠ A.i := fun e => by subst e; rw [hv] at hj; cases hj
    rw [upd_ne _ _ _ _ hji] at hl' ⊢
    exact h2 j u hj hl'
  · by_cases hBA : B.i = A.i
    · rw [hBA, upd_at]
    · rw [upd_ne _ _ _ _ hBA]
      rw [upd_ne _ _ _ _ (fun e => (hok' A hA B hB).2.2 e.symm)] at hl'
      exact h5 B hB hl'
  · by_cases hBA : B.i = A.i
    · obtain rfl : B = A := (hok' B hB A hA).1 hBA
      rw [upd_at, upd_at]
      refine ⟨rfl, h1.size, ?_⟩
      rw [upd_ne _ _ _ _ (fun e => (hok' B hB B hB).2.2 e.symm), hs]
      have hnew : (w.alloc (.cells B.zero B.t)).heap[w.heap.size]? = some (.cells B.zero B.t (0, 0)) := by
        show (w.heap.push _)[w.heap.size]? = _
        simp
      rw [hnew]
      simp
    · rw [upd_ne _ _ _ _ hBA] at hl' ⊢
      rw [upd_ne _ _ _ _ hBA]
      rw [upd_ne _ _ _ _ (fun e => (hok' A hA B hB).2.2 e.symm)]
      obtain ⟨e1, e2, e3⟩ := h3 B hB hl'
      exact ⟨e1, e2, (hb.block _ (Array.getElem?_eq_some_iff.1 e3).1).trans e3⟩
  · have lt : ∀ D ∈ als, D.i ≠ A.i → L D.i = true → β D.i < w.heap.size := fun D hD hn hl' => by
      obtain ⟨_, _, e3⟩ := h3 D hD hl'
      exact (Array.getElem?_eq_some_iff.1 e3).1
    by_cases hBA : B.i = A.i
    · by_cases hCA : C.i = A.i
      · exact absurd (hBA.trans hCA.symm) hne
      · rw [hBA, upd_at, upd_ne _ _ _ _ hCA]
        rw [upd_ne _ _ _ _ hCA] at hc'
        have := lt C hC hCA hc'
        omega
    · by_cases hCA : C.i = A.i
      · rw [hCA, upd_at, upd_ne _ _ _ _ hBA]
        rw [upd_ne _ _ _ _ hBA] at hb'
        have := lt B hB hBA hb'
        omega
      · rw [upd_ne _ _ _ _ hBA, upd_ne _ _ _ _ hCA]
        rw [upd_ne _ _ _ _ hBA] at hb'
        rw [upd_ne _ _ _ _ hCA] at hc'
        exact h4 B hB C hC hb' hc' hne
theorem StdJ.ptr {W w : World} {val : Nat → Option Value} {als : List Alo} {L : Nat → Bool} {V : Nat → Value} (h : StdJ W val als L V w) (A : Alo) (hA : A ∈ als) (hl : L A.i = true) (hs : L A.st = false) :
    ∃ g, V A.i = .pointer (some ⟨g, 0, none⟩) ∧ w.heap[g]? = some (.cells A.zero A.t (0, 0)) := by
  obtain ⟨h1, h2, h5, β, h3, h4⟩ := h
  obtain ⟨e1, e2, e3⟩ := h3 A hA hl
  rw [hs] at e3
  exact ⟨_, e1, by simpa using e3⟩
theorem StdJ.got {W w : World} {val : Nat → Option Value} {als : List Alo} {L : Nat → Bool} {V : Nat → Value} (h : StdJ W val als L V w) (A : Alo) (hA : A ∈ als) (hl : L A.i = true) (hs : L A.st = true) :
    ∃ g, V A.i = .pointer (some ⟨g, 0, none⟩) ∧ W.heap.size ≤ g ∧ w.heap[g]? = some (.cells A.full A.t (0, 0)) := by
  obtain ⟨h1, h2, h5, β, h3, h4⟩ := h
  obtain ⟨e1, e2, e3⟩ := h3 A hA hl
  rw [hs] at e3
  exact ⟨_, e1, e2, by simpa using e3⟩
theorem StdJ.fill {W w : World} {val : Nat → Option Value} {als : List Alo} {L : Nat → Bool} {V : Nat → Value} (h : StdJ W val als L V w) (hok : aloOk als = true) (A : Alo) (hA : A ∈ als) (hl : L A.i = true) (hs : L A.st = false) (hv : val A.st = none) (g : Nat) (hg : V A.i = .pointer (some ⟨g, 0, none⟩)) (v : Value) :
    StdJ W val als (upd L A.st true) (upd V A.st v) (w.setRow g A.full) := by
  have hok' := aloOk_spec hok
  obtain ⟨h1, h2, h5, β, h3, h4⟩ := h
  obtain ⟨e1, e2, e3⟩ := h3 A hA hl
  rw [hs] at e3
  simp only [Bool.false_eq_true, if_false] at e3
  have hgb : g = β A.i := by
    rw [hg] at e1
    injection e1 with e1
    injection e1 with e1
    injection e1
  subst hgb
  have hlt : β A.i < w.heap.size := (Array.getElem?_eq_some_iff.1 e3).1
  have hoth : ∀ k, k ≠ β A.i → (w.setRow (β A.i) A.full).heap[k]? = w.heap[k]? := fun k hk => setRow_other w _ k _ hk
  refine ⟨below_setRow h1 e2 _, fun j u hj hl' => ?_, fun B hB hl' => ?_, β, fun B hB hl' => ?_, fun B hB C hC hb' hc' hne => ?_⟩
  · have hji : j ≠ A.st := fun e => by subst e; rw [hv] at hj; cases hj
    rw [upd_ne _ _ _ _ hji] at hl' ⊢
    exact h2 j u hj hl'
  · rw [upd_ne _ _ _ _ (hok' B hB A hA).2.2]
    by_cases hBA : B.st = A.st
    · obtain rfl : B = A := (hok' B hB A hA).2.1 hBA
      exact hl
    · rw [upd_ne _ _ _ _ hBA] at hl'
      exact h5 B hB hl'
  · have n1 : B.i ≠ A.st := (hok' B hB A hA).2.2
    rw [upd_ne _ _ _ _ n1] at hl' ⊢
    obtain ⟨f1, f2, f3⟩ := h3 B hB hl'
    refine ⟨f1, f2, ?_⟩
    by_cases hBA : B.st = A.st
    · obtain rfl : B = A := (hok' B hB A hA).2.1 hBA
      rw [upd_at, setRow_heap w _ _ B.full _ _ e3]
      simp
    · rw [upd_ne _ _ _ _ hBA]
      have hi : B.i ≠ A.i := fun e => hBA (congrArg Alo.st ((hok' B hB A hA).1 e))
      rw [hoth _ (h4 B hB A hA hl' hl hi)]
      exact f3
  · have n1 : B.i ≠ A.st := (hok' B hB A hA).2.2
    have n2 : C.i ≠ A.st := (hok' C hC A hA).2.2
    rw [upd_ne _ _ _ _ n1] at hb'
    rw [upd_ne _ _ _ _ n2] at hc'
    exact h4 B hB C hC hb' hc' hne
end Go.Proofs.YtjiiikeniocmfaaGreat

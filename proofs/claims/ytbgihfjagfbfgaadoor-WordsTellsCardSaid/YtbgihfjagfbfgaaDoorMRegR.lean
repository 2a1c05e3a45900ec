/- a region in whatever order: values, and memory of its own that is made, handed on, written -/
import Derived.Test.YtbgihfjagfbfgaaDoorMRegS
import Derived.Laws.AppendOwn
set_option linter.unusedSimpArgs false
set_option linter.unusedVariables false
namespace Go.Proofs.YtbgihfjagfbfgaaDoor
open Go Go.RowKit
def ownAny : Value → Option Nat
  | .pointer (some a) => some a.block
  | .slice (some a) _ _ => some a.block
  | _ => none
/-- what operation i's value owns, from operation prod on till operation cons takes it. -/
structure Resr where
  k : Nat
  i : Nat
  prod : Nat
  cons : Option Nat
  deps : List Nat
  P : (Nat → Value) → World → Prop
def Resr.live (r : Resr) (L : Nat → Bool) : Bool := (decide (1000 ≤ r.prod) || L r.prod) && (match r.cons with | some c => !L c | none => true)
structure ResOk (W : World) (r : Resr) : Prop where
  lt : ∀ V w, r.P V w → ∀ g, ownAny (V r.i) = some g → W.heap.size ≤ g ∧ g < w.heap.size
  move : ∀ V V' w w', r.P V w → (∀ j, j = r.i ∨ j ∈ r.deps → V' j = V j) → w.heap.size ≤ w'.heap.size → (∀ g, ownAny (V r.i) = some g → w'.heap[g]? = w.heap[g]?) → r.P V' w'
structure ResJ (W : World) (val : Nat → Option Value) (rs : List Resr) (L : Nat → Bool) (V : Nat → Value) (w : World) : Prop where
  below : Below W.heap.size W w
  vals : ∀ i v, val i = some v → L i = true → V i = v
  ord : ∀ r ∈ rs, r.prod < 1000 → L r.prod = true → ∀ j, j = r.i ∨ j ∈ r.deps → L j = true
  res : ∀ r ∈ rs, r.live L = true → r.P V w
  apart : ∀ r ∈ rs, ∀ s ∈ rs, r.live L = true → s.live L = true → r.k ≠ s.k → ∀ g, ownAny (V r.i) = some g → ownAny (V s.i) ≠ some g
theorem ResJ.start {W w : World} {val : Nat → Option Value} {rs : List Resr} {V : Nat → Value} (h : Below W.heap.size W w) (hn : rs.all (fun r => decide (r.prod < 1000)) = true) : ResJ W val rs (fun _ => false) V w := by
  have hd : ∀ r ∈ rs, r.live (fun _ => false) = true → False := fun r hr hl => by
    have := of_decide_eq_true (List.all_eq_true.1 hn r hr)
    unfold Resr.live at hl
    rw [decide_eq_false (by omega)] at hl
    simp at hl
  exact ⟨h, fun _ _ _ h => (by cases h), fun _ _ _ h => (by cases h), fun r hr hl => (hd r hr hl).elim, fun r hr s _ hl => (hd r hr hl).elim⟩
/-- begun with one resource that came from outside. -/
theorem ResJ.start1 {W w : World} {val : Nat → Option Value} {rs : List Resr} {V : Nat → Value} (h : Below W.heap.size W w) (r0 : Resr) (rest : List Resr) (hrs : rs = r0 :: rest) (hn : rest.all (fun r => decide (r.prod < 1000)) = true) (hP : r0.P V w) : ResJ W val rs (fun _ => false) V w := by
  subst hrs
  have hd : ∀ r ∈ rest, r.live (fun _ => false) = true → False := fun r hr hl => by
    have := of_decide_eq_true (List.all_eq_true.1 hn r hr)
    unfold Resr.live at hl
    rw [decide_eq_false (by omega)] at hl
    simp at hl
  refine ⟨h, fun _ _ _ h => (by cases h), fun _ _ _ h => (by cases h), fun r hr hl => ?_, fun r hr s hs hl hl2 hk => ?_⟩
  · rcases List.mem_cons.1 hr with rfl | hr
    · exact hP
    · exact (hd r hr hl).elim
  · rcases List.mem_cons.1 hr with rfl | hr
    · rcases List.mem_cons.1 hs with rfl | hs
      · exact absurd rfl hk
      · exact (hd s hs hl2).elim
    · exact (hd r hr hl).elim
/-- how a resource stands to an operation: it is not its product; or it is, and it is the only one. -/
def resFits (rs : List Resr) (i : Nat) : Bool := decide (((rs.filter (fun r => r.prod == i)).map (·.k)).length ≤ 1) && decide (rs.map (·.k)).Nodup && rs.all (fun r => r.cons != some r.prod && (decide (r.prod < 1000) || (decide (1000 ≤ r.i) && r.deps.isEmpty))) && decide (i < 1000)
theorem filter_one {rs : List Resr} {i : Nat} (h : ((rs.filter (fun r => r.prod == i)).map (·.k)).length ≤ 1) {r s : Resr} (hr : r ∈ rs) (hs : s ∈ rs) (h1 : r.prod = i) (h2 : s.prod = i) : r = s := by
  have hr' : r ∈ rs.filter (fun r => r.prod == i) := List.mem_filter.2 ⟨hr, by simp [h1]⟩
  have hs' : s ∈ rs.filter (fun r => r.prod == i) := List.mem_filter.2 ⟨hs, by simp [h2]⟩
  rw [List.length_map] at h
  generalize rs.filter (fun r => r.prod == i) = q at h hr' hs'
  match q, h with
  | [], _ => cases hr'
  | [x], _ => rw [List.mem_singleton.1 hr', List.mem_singleton.1 hs']
  | x :: y :: q, h => simp at h
theorem new_one {rs : List Resr} {i : Nat} {Q : Resr → Prop} (hf : resFits rs i = true) (r0 : Resr) (hr : r0 ∈ rs) (hp : r0.prod = i) (hq : Q r0) : ∀ r ∈ rs, r.prod = i → Q r := fun r h h2 => by
  unfold resFits at hf
  rw [Bool.and_eq_true, Bool.and_eq_true, Bool.and_eq_true] at hf
  rw [filter_one (of_decide_eq_true hf.1.1.1) h hr h2 hp]
  exact hq
theorem alloc_new0 (w : World) (o : Obj) : (w.alloc o).heap[w.heap.size]? = some o := by
  show (w.heap.push o)[w.heap.size]? = _
  simp
theorem grown_setRow (w : World) (g : Nat) (cs : Array Value) : w.grownBy (w.setRow g cs) (some g) := ⟨rfl, rfl, rfl, by simp [World.setRow], fun k _ hk => setRow_other w g k cs (fun e => hk (by rw [e]))⟩
theorem live_old {r : Resr} {L : Nat → Bool} {i : Nat} (h : r.live (upd L i true) = true) (hp : r.prod ≠ i) : r.live L = true ∧ r.cons ≠ some i := by
  unfold Resr.live at h ⊢
  rw [upd_ne _ _ _ _ hp] at h
  rw [Bool.and_eq_true] at h
  obtain ⟨h1, h2⟩ := h
  rw [h1, Bool.true_and]
  cases hc : r.cons with
  | none => simp
  | some c =>
    rw [hc] at h2
    simp only at h2
    by_cases hci : c = i
    · subst hci
      rw [upd_at] at h2
      cases h2
    · rw [upd_ne _ _ _ _ hci] at h2
      simp only [h2, true_and]
      intro e
      exact hci (Option.some.inj e)
/-- one operation: it makes a value, may grow the memory, may write the block of a resource that it takes, may make one resource. -/
theorem ResJ.step {W w w' : World} {val : Nat → Option Value} {rs : List Resr} {L : Nat → Bool} {V : Nat → Value} (h : ResJ W val rs L V w) (hok : ∀ r ∈ rs, ResOk W r)
    (i : Nat) (v : Value) (hl : L i = false) (hf : resFits rs i = true) (hv : (match val i with | some u => u = v | none => True))
    (ob : Option Nat) (hg : w.grownBy w' ob) (hob : ob = none ∨ ∃ s ∈ rs, s.cons = some i ∧ (decide (1000 ≤ s.prod) || L s.prod) = true ∧ ownAny (V s.i) = ob)
    (hnew : ∀ r ∈ rs, r.prod = i → (∀ j, j = r.i ∨ j ∈ r.deps → j = i ∨ L j = true) ∧ r.P (upd V i v) w' ∧ ∀ g, ownAny (upd V i v r.i) = some g → w.heap.size ≤ g ∨ ob = some g) :
    ResJ W val rs (upd L i true) (upd V i v) w' := by
  unfold resFits at hf
  rw [Bool.and_eq_true, Bool.and_eq_true, Bool.and_eq_true] at hf
  have h1 := of_decide_eq_true hf.1.1.1
  have h2 := of_decide_eq_true hf.1.1.2
  have hi : i < 1000 := of_decide_eq_true hf.2
  have hout : ∀ r ∈ rs, 1000 ≤ r.prod → 1000 ≤ r.i ∧ r.deps = [] := fun r hr hp => by
    have := List.all_eq_true.1 hf.1.2 r hr
    rw [Bool.and_eq_true, Bool.or_eq_true] at this
    rcases this.2 with h | h
    · have := of_decide_eq_true h; omega
    · rw [Bool.and_eq_true] at h
      exact ⟨of_decide_eq_true h.1, List.isEmpty_iff.1 h.2⟩
  have hkinj : ∀ r ∈ rs, ∀ s ∈ rs, r.k = s.k → r = s := fun r hr s hs e => nodup_inj h2 hr hs e
  have hliveL : ∀ r ∈ rs, r.live L = true → ∀ j, j = r.i ∨ j ∈ r.deps → j ≠ i := fun r hr hlv j hj e => by
    unfold Resr.live at hlv
    rw [Bool.and_eq_true, Bool.or_eq_true] at hlv
    by_cases hp : 1000 ≤ r.prod
    · obtain ⟨e1, e2⟩ := hout r hr hp
      rcases hj with hj | hj
      · omega
      · rw [e2] at hj; cases hj
    · rcases hlv.1 with h' | h'
      · exact hp (of_decide_eq_true h')
      · have := h.ord r hr (by omega) h' j hj
        rw [e, hl] at this
        cases this
  -- the taken resource is alive till now
  have hsl : ∀ s ∈ rs, s.cons = some i → (decide (1000 ≤ s.prod) || L s.prod) = true → s.live L = true := fun s hs hc hp => by
    unfold Resr.live
    rw [hc, hp]
    simp [hl]
  -- what the operation may write is no other living resource's
  have hobr : ∀ r ∈ rs, r.live L = true → r.cons ≠ some i → ∀ g, ownAny (V r.i) = some g → ob ≠ some g := fun r hr hlv hc g hgr e => by
    rcases hob with h0 | ⟨s, hs, hsc, hsp, hso⟩
    · rw [h0] at e; cases e
    · have hk : r.k ≠ s.k := fun e2 => by
        have := hkinj r hr s hs e2
        subst this
        exact hc hsc
      exact h.apart r hr s hs hlv (hsl s hs hsc hsp) hk g hgr (hso.trans e)
  have hbnd : ∀ k, ob = some k → W.heap.size ≤ k := fun k hk => by
    rcases hob with h0 | ⟨s, hs, hsc, hsp, hso⟩
    · rw [h0] at hk; cases hk
    · exact ((hok s hs).lt _ _ (h.res s hs (hsl s hs hsc hsp)) k (hso.trans hk)).1
  have hkeep : ∀ r ∈ rs, r.live L = true → r.cons ≠ some i → r.P (upd V i v) w' := fun r hr hlv hc => by
    have hP := h.res r hr hlv
    refine (hok r hr).move _ _ _ _ hP (fun j hj => upd_ne _ _ _ _ (hliveL r hr hlv j hj)) hg.size fun g hgr => ?_
    exact hg.block g ((hok r hr).lt _ _ hP g hgr).2 (fun e => hobr r hr hlv hc g hgr e.symm)
  refine ⟨h.below.grown hg h.below.size hbnd, fun j u hj hlj => ?_, fun r hr hp0 hlr j hj => ?_, fun r hr hlr => ?_, fun r hr s hs hlr hls hk g hgr => ?_⟩
  · by_cases hji : j = i
    · subst hji
      rw [upd_at]
      rw [hj] at hv
      exact hv.symm
    · rw [upd_ne _ _ _ _ hji] at hlj ⊢
      exact h.vals j u hj hlj
  · by_cases hji : j = i
    · rw [hji, upd_at]
    · rw [upd_ne _ _ _ _ hji]
      by_cases hp : r.prod = i
      · rcases (hnew r hr hp).1 j hj with e | e
        · exact absurd e hji
        · exact e
      · rw [upd_ne _ _ _ _ hp] at hlr
        exact h.ord r hr hp0 hlr j hj
  · by_cases hp : r.prod = i
    · exact (hnew r hr hp).2.1
    · obtain ⟨a1, a2⟩ := live_old hlr hp
      exact hkeep r hr a1 a2
  · by_cases hp : r.prod = i
    · by_cases hq : s.prod = i
      · exact absurd (by rw [filter_one h1 hr hs hp hq]) hk
      · obtain ⟨b1, b2⟩ := live_old hls hq
        have hne := hliveL s hs b1 s.i (.inl rfl)
        rw [upd_ne _ _ _ _ hne]
        intro e
        rcases (hnew r hr hp).2.2 g hgr with hge | hge
        · have := ((hok s hs).lt _ _ (h.res s hs b1) g e).2
          omega
        · exact hobr s hs b1 b2 g e hge
    · obtain ⟨a1, a2⟩ := live_old hlr hp
      have hne := hliveL r hr a1 r.i (.inl rfl)
      rw [upd_ne _ _ _ _ hne] at hgr
      by_cases hq : s.prod = i
      · intro e
        rcases (hnew s hs hq).2.2 g e with hge | hge
        · have := ((hok r hr).lt _ _ (h.res r hr a1) g hgr).2
          omega
        · exact hobr r hr a1 a2 g hgr hge
      · obtain ⟨b1, b2⟩ := live_old hls hq
        have hne2 := hliveL s hs b1 s.i (.inl rfl)
        rw [upd_ne _ _ _ _ hne2]
        exact h.apart r hr s hs a1 b1 hk g hgr
theorem lor {L : Nat → Bool} {p : Nat} (h : L p = true) : (decide (1000 ≤ p) || L p) = true := by rw [h, Bool.or_true]
theorem grown_below {w w' : World} (h : Below w.heap.size w w') : w.grownBy w' none := ⟨h.os, h.tape, h.output, h.size, fun k hk _ => h.block k hk⟩
theorem ResJ.val {W w w' : World} {val : Nat → Option Value} {rs : List Resr} {L : Nat → Bool} {V : Nat → Value} (h : ResJ W val rs L V w) (hok : ∀ r ∈ rs, ResOk W r)
    (i : Nat) (v : Value) (hl : L i = false) (hf : resFits rs i = true) (hn : rs.all (fun r => r.prod != i) = true) (hv : (match val i with | some u => u = v | none => True)) (hb : Below w.heap.size w w') :
    ResJ W val rs (upd L i true) (upd V i v) w' :=
  h.step hok i v hl hf hv none (grown_below hb) (.inl rfl) (fun r hr hp => by
    have := List.all_eq_true.1 hn r hr
    simp [hp] at this)
theorem ResJ.at {W w : World} {val : Nat → Option Value} {rs : List Resr} {L : Nat → Bool} {V : Nat → Value} (h : ResJ W val rs L V w) (r : Resr) (hr : r ∈ rs) (hp : (decide (1000 ≤ r.prod) || L r.prod) = true) (hc : (match r.cons with | some c => L c = false | none => True)) : r.P V w := by
  refine h.res r hr ?_
  unfold Resr.live
  rw [hp]
  cases hcc : r.cons with
  | none => rfl
  | some c =>
    rw [hcc] at hc
    simp only at hc
    simp [hc]
/-- a block that the region makes; its cells may name other values. -/
def IsBlk (W : World) (t : TypeId) (c : Array Value) (v : Value) (w : World) : Prop := ∃ g, v = .pointer (some ⟨g, 0, none⟩) ∧ W.heap.size ≤ g ∧ w.heap[g]? = some (.cells c t (0, 0))
/-- a row of n elements that the region makes. -/
def IsLit (W : World) (t : TypeId) (n : Nat) (c : Array Value) (v : Value) (w : World) : Prop := ∃ g, v = .slice (some ⟨g, 0, none⟩) n n ∧ W.heap.size ≤ g ∧ w.heap[g]? = some (.cells c t (0, 0))
theorem resBlk_ok {W : World} {k i p : Nat} {c : Option Nat} {ds : List Nat} {t : TypeId} (cs : (Nat → Value) → Array Value) (hc : ∀ V V', (∀ j, j = i ∨ j ∈ ds → V' j = V j) → cs V' = cs V) : ResOk W ⟨k, i, p, c, ds, fun V w => IsBlk W t (cs V) (V i) w⟩ where
  lt := fun V w ⟨g, hv, hg, hh⟩ g' hg' => by
    simp only at hv hg'
    rw [hv] at hg'
    simp only [ownAny, Option.some.injEq] at hg'
    subst hg'
    exact ⟨hg, (Array.getElem?_eq_some_iff.1 hh).1⟩
  move := fun V V' w w' ⟨g, hv, hg, hh⟩ hj hs hm => ⟨g, (hj i (.inl rfl)).trans hv, hg, by rw [hc V V' hj]; exact (hm g (by simp only at hv ⊢; rw [hv]; rfl)).trans hh⟩
theorem resLit_ok {W : World} {k i p n : Nat} {c : Option Nat} {ds : List Nat} {t : TypeId} (cs : (Nat → Value) → Array Value) (hc : ∀ V V', (∀ j, j = i ∨ j ∈ ds → V' j = V j) → cs V' = cs V) : ResOk W ⟨k, i, p, c, ds, fun V w => IsLit W t n (cs V) (V i) w⟩ where
  lt := fun V w ⟨g, hv, hg, hh⟩ g' hg' => by
    simp only at hv hg'
    rw [hv] at hg'
    simp only [ownAny, Option.some.injEq] at hg'
    subst hg'
    exact ⟨hg, (Array.getElem?_eq_some_iff.1 hh).1⟩
  move := fun V V' w w' ⟨g, hv, hg, hh⟩ hj hs hm => ⟨g, (hj i (.inl rfl)).trans hv, hg, by rw [hc V V' hj]; exact (hm g (by simp only at hv ⊢; rw [hv]; rfl)).trans hh⟩
/-- what is known of values alone. -/
theorem resFact_ok {W : World} {k i p : Nat} {c : Option Nat} {ds : List Nat} (F : (Nat → Value) → Prop) (h0 : ∀ V, F V → ownAny (V i) = none) (hc : ∀ V V', (∀ j, j = i ∨ j ∈ ds → V' j = V j) → F V → F V') : ResOk W ⟨k, i, p, c, ds, fun V _ => F V⟩ where
  lt := fun V w h g' hg' => by simp only at hg'; rw [h0 V h] at hg'; cases hg'
  move := fun V V' w w' h hj _ _ => hc V V' hj h
/-- a row of the call's own. -/
theorem resRow_ok {W : World} {k i p : Nat} {c : Option Nat} {ds : List Nat} (e s n : Nat) (xs : List Value) : ResOk W ⟨k, i, p, c, ds, fun V w => w.ownsRow W.heap.size e s (V i) n xs⟩ where
  lt := fun V w h g hg => by
    simp only at h hg
    have hb : (V i).ownBlock = some g := by
      rcases h.2 with ⟨e, _⟩ | ⟨g', cap, cur, e, _⟩
      · rw [e] at hg; cases hg
      · rw [e] at hg ⊢; exact hg
    exact h.lt g hb
  move := fun V V' w w' h hj hs hm => by
    simp only at h hm ⊢
    rw [hj i (.inl rfl)]
    refine ⟨h.1, ?_⟩
    rcases h.2 with hn | ⟨g, cap, cur, e, hb, hgg, rest⟩
    · exact .inl hn
    · exact .inr ⟨g, cap, cur, e, hb, (hm g (by rw [e]; rfl)).trans hgg, rest⟩
end Go.Proofs.YtbgihfjagfbfgaaDoor

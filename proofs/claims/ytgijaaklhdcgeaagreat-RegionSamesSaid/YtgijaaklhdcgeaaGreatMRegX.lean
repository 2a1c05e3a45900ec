/- a region in whatever order: values, and memory of its own that is made, handed on, written -/
import Derived.Test.YtgijaaklhdcgeaaGreatMR11b
import Derived.Laws.AppendOwn
import Derived.Laws.Append
import Derived.Test.YtgijaaklhdcgeaaGreatMQLay
set_option linter.unusedSimpArgs false
set_option linter.unusedVariables false
namespace Go.Proofs.YtgijaaklhdcgeaaGreat
open Go Go.RowKit
def ownAny : Value → Option Nat
  | .pointer (some a) => some a.block
  | .slice (some a) _ _ => some a.block
  | _ => none
/-- what operation i's value owns, from operation prod on till operation cons takes it. -/
structure Resr where
  k : Nat
  i : Nat
  prod : Nat
  cons : Option Nat
  deps : List Nat
  P : (Nat → Value) → World → Prop
def Resr.live (r : Resr) (L : Nat → Bool) : Bool := (decide (1000 ≤ r.prod) || L r.prod) && (match r.cons with | some c => !L c | none => true)
structure ResOk (W : World) (r : Resr) : Prop where
  lt : ∀ V w, r.P V w → ∀ g, ownAny (V r.i) = some g → W.heap.size ≤ g ∧ g < w.heap.size
  move : ∀ V V' w w', r.P V w → (∀ j, j = r.i ∨ j ∈ r.deps → V' j = V j) → w.heap.size ≤ w'.heap.size → (∀ g, ownAny (V r.i) = some g → w'.heap[g]? = w.heap[g]?) → r.P V' w'
structure ResJ (W : World) (val : Nat → Option Value) (rs : List Resr) (L : Nat → Bool) (V : Nat → Value) (w : World) : Prop where
  below : Below W.heap.size W w
  vals : ∀ i v, val i = some v → L i = true → V i = v
  ord : ∀ r ∈ rs, r.prod < 1000 → L r.prod = true → ∀ j, j = r.i ∨ j ∈ r.deps → L j = true
  res : ∀ r ∈ rs, r.live L = true → r.P V w
  apart : ∀ r ∈ rs, ∀ s ∈ rs, r.live L = true → s.live L = true → r.k ≠ s.k → ∀ g, ownAny (V r.i) = some g → ownAny (V s.i) ≠ some g
theorem ResJ.start {W w : World} {val : Nat → Option Value} {rs : List Resr} {V : Nat → Value} (h : Below W.heap.size W w) (hn : rs.all (fun r => decide (r.prod < 1000)) = true) : ResJ W val rs (fun _ => false) V w := by
  have hd : ∀ r ∈ rs, r.live (fun _ => false) = true → False := fun r hr hl => by
    have := of_decide_eq_true (List.all_eq_true.1 hn r hr)
    unfold Resr.live at hl
    rw [decide_eq_false (by omega)] at hl
    simp at hl
  exact ⟨h, fun _ _ _ h => (by cases h), fun _ _ _ h => (by cases h), fun r hr hl => (hd r hr hl).elim, fun r hr s _ hl => (hd r hr hl).elim⟩
/-- begun with one resource that came from outside. -/
theorem ResJ.start1 {W w : World} {val : Nat → Option Value} {rs : List Resr} {V : Nat → Value} (h : Below W.heap.size W w) (r0 : Resr) (rest : List Resr) (hrs : rs = r0 :: rest) (hn : rest.all (fun r => decide (r.prod < 1000)) = true) (hP : r0.P V w) : ResJ W val rs (fun _ => false) V w := by
  subst hrs
  have hd : ∀ r ∈ rest, r.live (fun _ => false) = true → False := fun r hr hl => by
    have := of_decide_eq_true (List.all_eq_true.1 hn r hr)
    unfold Resr.live at hl
    rw [decide_eq_false (by omega)] at hl
    simp at hl
  refine ⟨h, fun _ _ _ h => (by cases h), fun _ _ _ h => (by cases h), fun r hr hl => ?_, fun r hr s hs hl hl2 hk => ?_⟩
  · rcases List.mem_cons.1 hr with rfl | hr
    · exact hP
    · exact (hd r hr hl).elim
  · rcases List.mem_cons.1 hr with rfl | hr
    · rcases List.mem_cons.1 hs with rfl | hs
      · exact absurd rfl hk
      · exact (hd s hs hl2).elim
    · exact (hd r hr hl).elim
/-- how a resource stands to an operation: it is not its product; or it is, and it is the only one. -/
def resFits (rs : List Resr) (i : Nat) : Bool := decide (((rs.filter (fun r => r.prod == i)).map (·.k)).length ≤ 1) && decide (rs.map (·.k)).Nodup && rs.all (fun r => r.cons != some r.prod && (decide (r.prod < 1000) || (decide (1000 ≤ r.i) && r.deps.isEmpty))) && decide (i < 1000)
theorem filter_one {rs : List Resr} {i : Nat} (h : ((rs.filter (fun r => r.prod == i)).map (·.k)).length ≤ 1) {r s : Resr} (hr : r ∈ rs) (hs : s ∈ rs) (h1 : r.prod = i) (h2 : s.prod = i) : r = s := by
  have hr' : r ∈ rs.filter (fun r => r.prod == i) := List.mem_filter.2 ⟨hr, by simp [h1]⟩
  have hs' : s ∈ rs.filter (fun r => r.prod == i) := List.mem_filter.2 ⟨hs, by simp [h2]⟩
  rw [List.length_map] at h
  generalize rs.filter (fun r => r.prod == i) = q at h hr' hs'
  match q, h with
  | [], _ => cases hr'
  | [x], _ => rw [List.mem_singleton.1 hr', List.mem_singleton.1 hs']
  | x :: y :: q, h => simp at h
theorem new_one {rs : List Resr} {i : Nat} {Q : Resr → Prop} (hf : resFits rs i = true) (r0 : Resr) (hr : r0 ∈ rs) (hp : r0.prod = i) (hq : Q r0) : ∀ r ∈ rs, r.prod = i → Q r := fun r h h2 => by
  unfold resFits at hf
  rw [Bool.and_eq_true, Bool.and_eq_true, Bool.and_eq_true] at hf
  rw [filter_one (of_decide_eq_true hf.1.1.1) h hr h2 hp]
  exact hq
theorem alloc_new0 (w : World) (o : Obj) : (w.alloc o).heap[w.heap.size]? = some o := by
  show (w.heap.push o)[w.heap.size]? = _
  simp
theorem grown_setRow (w : World) (g : Nat) (cs : Array Value) : w.grownBy (w.setRow g cs) (some g) := ⟨rfl, rfl, rfl, by simp [World.setRow], fun k _ hk => setRow_other w g k cs (fun e => hk (by rw [e]))⟩
theorem live_old {r : Resr} {L : Nat → Bool} {i : Nat} (h : r.live (upd L i true) = true) (hp : r.prod ≠ i) : r.live L = true ∧ r.cons ≠ some i := by
  unfold Resr.live at h ⊢
  rw [upd_ne _ _ _ _ hp] at h
  rw [Bool.and_eq_true] at h
  obtain ⟨h1, h2⟩ := h
  rw [h1, Bool.true_and]
  cases hc : r.cons with
  | none => simp
  | some c =>
    rw [hc] at h2
    simp only at h2
    by_cases hci : c = i
    · subst hci
      rw [upd_at] at h2
      cases h2
    · rw [upd_ne _ _ _ _ hci] at h2
      simp only [h2, true_and]
      intro e
      exact hci (Option.some.inj e)
/-- one operation: it makes a value, may grow the memory, may write the block of a resource that it takes, may make one resource. -/
theorem ResJ.step {W w w' : World} {val : Nat → Option Value} {rs : List Resr} {L : Nat → Bool} {V : Nat → Value} (h : ResJ W val rs L V w) (hok : ∀ r ∈ rs, ResOk W r)
    (i : Nat) (v : Value) (hl : L i = false) (hf : resFits rs i = true) (hv : (match val i with | some u => u = v | none => True))
    (ob : Option Nat) (hg : w.grownBy w' ob) (hob : ob = none ∨ ∃ s ∈ rs, s.cons = some i ∧ (decide (1000 ≤ s.prod) || L s.prod) = true ∧ ownAny (V s.i) = ob)
    (hnew : ∀ r ∈ rs, r.prod = i → (∀ j, j = r.i ∨ j ∈ r.deps → j = i ∨ L j = true) ∧ r.P (upd V i v) w' ∧ ∀ g, ownAny (upd V i v r.i) = some g → w.heap.size ≤ g ∨ ob = some g) :
    ResJ W val rs (upd L i true) (upd V i v) w' := by
  unfold resFits at hf
  rw [Bool.and_eq_true, Bool.and_eq_true, Bool.and_eq_true] at hf
  have h1 := of_decide_eq_true hf.1.1.1
  have h2 := of_decide_eq_true hf.1.1.2
  have hi : i < 1000 := of_decide_eq_true hf.2
  have hout : ∀ r ∈ rs, 1000 ≤ r.prod → 1000 ≤ r.i ∧ r.deps = [] := fun r hr hp => by
    have := List.all_eq_true.1 hf.1.2 r hr
    rw [Bool.and_eq_true, Bool.or_eq_true] at this
    rcases this.2 with h | h
    · have := of_decide_eq_true h; omega
    · rw [Bool.and_eq_true] at h
      exact ⟨of_decide_eq_true h.1, List.isEmpty_iff.1 h.2⟩
  have hkinj : ∀ r ∈ rs, ∀ s ∈ rs, r.k = s.k → r = s := fun r hr s hs e => nodup_inj h2 hr hs e
  have hliveL : ∀ r ∈ rs, r.live L = true → ∀ j, j = r.i ∨ j ∈ r.deps → j ≠ i := fun r hr hlv j hj e => by
    unfold Resr.live at hlv
    rw [Bool.and_eq_true, Bool.or_eq_true] at hlv
    by_cases hp : 1000 ≤ r.prod
    · obtain ⟨e1, e2⟩ := hout r hr hp
      rcases hj with hj | hj
      · omega
      · rw [e2] at hj; cases hj
    · rcases hlv.1 with h' | h'
      · exact hp (of_decide_eq_true h')
      · have := h.ord r hr (by omega) h' j hj
        rw [e, hl] at this
        cases this
  -- the taken resource is alive till now
  have hsl : ∀ s ∈ rs, s.cons = some i → (decide (1000 ≤ s.prod) || L s.prod) = true → s.live L = true := fun s hs hc hp => by
    unfold Resr.live
    rw [hc, hp]
    simp [hl]
  -- what the operation may write is no other living resource's
  have hobr : ∀ r ∈ rs, r.live L = true → r.cons ≠ some i → ∀ g, ownAny (V r.i) = some g → ob ≠ some g := fun r hr hlv hc g hgr e => by
    rcases hob with h0 | ⟨s, hs, hsc, hsp, hso⟩
    · rw [h0] at e; cases e
    · have hk : r.k ≠ s.k := fun e2 => by
        have := hkinj r hr s hs e2
        subst this
        exact hc hsc
      exact h.apart r hr s hs hlv (hsl s hs hsc hsp) hk g hgr (hso.trans e)
  have hbnd : ∀ k, ob = some k → W.heap.size ≤ k := fun k hk => by
    rcases hob with h0 | ⟨s, hs, hsc, hsp, hso⟩
    · rw [h0] at hk; cases hk
    · exact ((hok s hs).lt _ _ (h.res s hs (hsl s hs hsc hsp)) k (hso.trans hk)).1
  have hkeep : ∀ r ∈ rs, r.live L = true → r.cons ≠ some i → r.P (upd V i v) w' := fun r hr hlv hc => by
    have hP := h.res r hr hlv
    refine (hok r hr).move _ _ _ _ hP (fun j hj => upd_ne _ _ _ _ (hliveL r hr hlv j hj)) hg.size fun g hgr => ?_
    exact hg.block g ((hok r hr).lt _ _ hP g hgr).2 (fun e => hobr r hr hlv hc g hgr e.symm)
  refine ⟨h.below.grown hg h.below.size hbnd, fun j u hj hlj => ?_, fun r hr hp0 hlr j hj => ?_, fun r hr hlr => ?_, fun r hr s hs hlr hls hk g hgr => ?_⟩
  · by_cases hji : j = i
    · subst hji
      rw [upd_at]
      rw [hj] at hv
      exact hv.symm
    · rw [upd_ne _ _ _ _ hji] at hlj ⊢
      exact h.vals j u hj hlj
  · by_cases hji : j = i
    · rw [hji, upd_at]
    · rw [upd_ne _ _ _ _ hji]
      by_cases hp : r.prod = i
      · rcases (hnew r hr hp).1 j hj with e | e
        · exact absurd e hji
        · exact e
      · rw [upd_ne _ _ _ _ hp] at hlr
        exact h.ord r hr hp0 hlr j hj
  · by_cases hp : r.prod = i
    · exact (hnew r hr hp).2.1
    · obtain ⟨a1, a2⟩ := live_old hlr hp
      exact hkeep r hr a1 a2
  · by_cases hp : r.prod = i
    · by_cases hq : s.prod = i
      · exact absurd (by rw [filter_one h1 hr hs hp hq]) hk
      · obtain ⟨b1, b2⟩ := live_old hls hq
        have hne := hliveL s hs b1 s.i (.inl rfl)
        rw [upd_ne _ _ _ _ hne]
        intro e
        rcases (hnew r hr hp).2.2 g hgr with hge | hge
        · have := ((hok s hs).lt _ _ (h.res s hs b1) g e).2
          omega
        · exact hobr s hs b1 b2 g e hge
    · obtain ⟨a1, a2⟩ := live_old hlr hp
      have hne := hliveL r hr a1 r.i (.inl rfl)
      rw [upd_ne _ _ _ _ hne] at hgr
      by_cases hq : s.prod = i
      · intro e
        rcases (hnew s hs hq).2.2 g e with hge | hge
        · have := ((hok r hr).lt _ _ (h.res r hr a1) g hgr).2
          omega
        · exact hobr r hr a1 a2 g hgr hge
      · obtain ⟨b1, b2⟩ := live_old hls hq
        have hne2 := hliveL s hs b1 s.i (.inl rfl)
        rw [upd_ne _ _ _ _ hne2]
        exact h.apart r hr s hs a1 b1 hk g hgr
theorem lor {L : Nat → Bool} {p : Nat} (h : L p = true) : (decide (1000 ≤ p) || L p) = true := by rw [h, Bool.or_true]
theorem grown_below {w w' : World} (h : Below w.heap.size w w') : w.grownBy w' none := ⟨h.os, h.tape, h.output, h.size, fun k hk _ => h.block k hk⟩
theorem ResJ.val {W w w' : World} {val : Nat → Option Value} {rs : List Resr} {L : Nat → Bool} {V : Nat → Value} (h : ResJ W val rs L V w) (hok : ∀ r ∈ rs, ResOk W r)
    (i : Nat) (v : Value) (hl : L i = false) (hf : resFits rs i = true) (hn : rs.all (fun r => r.prod != i) = true) (hv : (match val i with | some u => u = v | none => True)) (hb : Below w.heap.size w w') :
    ResJ W val rs (upd L i true) (upd V i v) w' :=
  h.step hok i v hl hf hv none (grown_below hb) (.inl rfl) (fun r hr hp => by
    have := List.all_eq_true.1 hn r hr
    simp [hp] at this)
theorem ResJ.at {W w : World} {val : Nat → Option Value} {rs : List Resr} {L : Nat → Bool} {V : Nat → Value} (h : ResJ W val rs L V w) (r : Resr) (hr : r ∈ rs) (hp : (decide (1000 ≤ r.prod) || L r.prod) = true) (hc : (match r.cons with | some c => L c = false | none => True)) : r.P V w := by
  refine h.res r hr ?_
  unfold Resr.live
  rw [hp]
  cases hcc : r.cons with
  | none => rfl
  | some c =>
    rw [hcc] at hc
    simp only at hc
    simp [hc]
/-- a block that the region makes; its cells may name other values. -/
def IsBlk (W : World) (t : TypeId) (c : Array Value) (v : Value) (w : World) : Prop := ∃ g, v = .pointer (some ⟨g, 0, none⟩) ∧ W.heap.size ≤ g ∧ w.heap[g]? = some (.cells c t (0, 0))
/-- a row of n elements that the region makes. -/
def IsLit (W : World) (t : TypeId) (n : Nat) (c : Array Value) (v : Value) (w : World) : Prop := ∃ g, v = .slice (some ⟨g, 0, none⟩) n n ∧ W.heap.size ≤ g ∧ w.heap[g]? = some (.cells c t (0, 0))
theorem resBlk_ok {W : World} {k i p : Nat} {c : Option Nat} {ds : List Nat} {t : TypeId} (cs : (Nat → Value) → Array Value) (hc : ∀ V V', (∀ j, j = i ∨ j ∈ ds → V' j = V j) → cs V' = cs V) : ResOk W ⟨k, i, p, c, ds, fun V w => IsBlk W t (cs V) (V i) w⟩ where
  lt := fun V w ⟨g, hv, hg, hh⟩ g' hg' => by
    simp only at hv hg'
    rw [hv] at hg'
    simp only [ownAny, Option.some.injEq] at hg'
    subst hg'
    exact ⟨hg, (Array.getElem?_eq_some_iff.1 hh).1⟩
  move := fun V V' w w' ⟨g, hv, hg, hh⟩ hj hs hm => ⟨g, (hj i (.inl rfl)).trans hv, hg, by rw [hc V V' hj]; exact (hm g (by simp only at hv ⊢; rw [hv]; rfl)).trans hh⟩
theorem resLit_ok {W : World} {k i p n : Nat} {c : Option Nat} {ds : List Nat} {t : TypeId} (cs : (Nat → Value) → Array Value) (hc : ∀ V V', (∀ j, j = i ∨ j ∈ ds → V' j = V j) → cs V' = cs V) : ResOk W ⟨k, i, p, c, ds, fun V w => IsLit W t n (cs V) (V i) w⟩ where
  lt := fun V w ⟨g, hv, hg, hh⟩ g' hg' => by
    simp only at hv hg'
    rw [hv] at hg'
    simp only [ownAny, Option.some.injEq] at hg'
    subst hg'
    exact ⟨hg, (Array.getElem?_eq_some_iff.1 hh).1⟩
  move := fun V V' w w' ⟨g, hv, hg, hh⟩ hj hs hm => ⟨g, (hj i (.inl rfl)).trans hv, hg, by rw [hc V V' hj]; exact (hm g (by simp only at hv ⊢; rw [hv]; rfl)).trans hh⟩
/-- what is known of values alone. -/
theorem resFact_ok {W : World} {k i p : Nat} {c : Option Nat} {ds : List Nat} (F : (Nat → Value) → Prop) (h0 : ∀ V, F V → ownAny (V i) = none) (hc : ∀ V V', (∀ j, j = i ∨ j ∈ ds → V' j = V j) → F V → F V') : ResOk W ⟨k, i, p, c, ds, fun V _ => F V⟩ where
  lt := fun V w h g' hg' => by simp only at hg'; rw [h0 V h] at hg'; cases hg'
  move := fun V V' w w' h hj _ _ => hc V V' hj h
/-- a row of the call's own. -/
theorem resRow_ok {W : World} {k i p : Nat} {c : Option Nat} {ds : List Nat} (e s n : Nat) (xs : List Value) : ResOk W ⟨k, i, p, c, ds, fun V w => w.ownsRow W.heap.size e s (V i) n xs⟩ where
  lt := fun V w h g hg => by
    simp only at h hg
    have hb : (V i).ownBlock = some g := by
      rcases h.2 with ⟨e, _⟩ | ⟨g', cap, cur, e, _⟩
      · rw [e] at hg; cases hg
      · rw [e] at hg ⊢; exact hg
    exact h.lt g hb
  move := fun V V' w w' h hj hs hm => by
    simp only at h hm ⊢
    rw [hj i (.inl rfl)]
    refine ⟨h.1, ?_⟩
    rcases h.2 with hn | ⟨g, cap, cur, e, hb, hgg, rest⟩
    · exact .inl hn
    · exact .inr ⟨g, cap, cur, e, hb, (hm g (by rw [e]; rfl)).trans hgg, rest⟩
end Go.Proofs.YtgijaaklhdcgeaaGreat

/- append: where the new row lies -/
set_option linter.unusedSimpArgs false
set_option linter.unusedVariables false
namespace Go.Proofs.YtgijaaklhdcgeaaGreat
open Go Go.RowKit
/-- the row that append hands back lies where the old one lay, or behind all memory. -/
theorem append_own_fresh {P : Program} (w : World) (base : Nat) (t ty e : TypeId) (i : TypeInfo) (z : Value) (size bytes : Nat) (ht : P.underlying t = some (.slice e)) (hi : P.info? e = some i) (hz : i.zero = some z)
    (hsize : i.size = size) (hby : i.bytes = bytes) (hzs : z.cells.size = size) (hsz : 0 < size)
    (v : Value) (n : Nat) (xs : List Value) (hown : w.ownsRow base e size v n xs)
    (a : Addr) (m c : Nat) (news : List Value) (hl : news.length = m * size) (hnews : ∀ j u, news[j]? = some u → w.cell? (a.add j) = some u) (h1 : ∀ u ∈ news, u.oneCell' = true)
    (h63 : n + m ≤ maxLen) (hbytes : (n + m) * bytes ≤ 140737488355328) {v' : Value} {w' : World} (hr : (Builtin.append_ #[t, t] ty #[v, .slice (some a) m c]).run P w = .ok v' w') :
    ∀ g, v'.ownBlock = some g → w.heap.size ≤ g ∨ v.ownBlock = some g := by
  intro g hg
  have hsmall : n + m ≤ 9223372036854775807 := by simp only [maxLen] at h63; omega
  rcases hown.2 with ⟨rfl, rfl⟩ | ⟨g0, cap, cur, rfl, hbg, hgg, hnc, hcm, hcs, htake⟩
  · have hx : xs = [] := List.eq_nil_of_length_eq_zero (by simpa using hown.1)
    subst hx
    obtain ⟨v2, w2, hr2, ho2, _⟩ := run_append_own (P := P) w w.heap.size t ty e i z size bytes ht hi hz hsize hby hzs hsz (.slice none 0 0) 0 [] (World.ownsRow_nil _ _ _ _) a m c news hl hnews h1 h63 hbytes (Nat.le_refl _)
    rw [hr2] at hr
    injection hr with e1 e2
    subst e1 e2
    exact .inl (ho2.lt g hg).1
  · subst hsize
    subst hby
    by_cases hroom : n + m ≤ cap
    · have hfit : n * i.size + news.length ≤ cur.size := by rw [hl, hcs, ← Nat.add_mul]; exact Nat.mul_le_mul_right _ hroom
      have hr2 := run_append_room (P := P) w t ty e i ht hi g0 n cap cur hgg a m c news hl hnews h1 hroom hfit
      rw [hr2] at hr
      injection hr with e1 e2
      subst e1
      exact .inr hg
    · have holds : ∀ j u, xs[j]? = some u → w.cell? ((⟨g0, 0, none⟩ : Addr).add j) = some u := hown.cells (g := g0) rfl
      have hr2 := run_append_grow (P := P) w t ty e i z ht hi hz ⟨g0, 0, none⟩ n cap xs hown.1 holds a m c news hl hnews (by omega) (by omega) (growslice_fits (by omega) hbytes)
      rw [hr2] at hr
      injection hr with e1 e2
      subst e1
      simp only [Value.ownBlock, Option.some.injEq] at hg
      exact .inl (by omega)
end Go.Proofs.YtgijaaklhdcgeaaGreat

/- a drawn region's points: rows of its own, appends -/
set_option linter.unusedSimpArgs false
set_option linter.unusedVariables false
namespace Go.Proofs.YtgijaaklhdcgeaaGreat
open Go.RowKit Go.Geo
theorem OwnP.any {w : World} {base : Nat} {v : Value} {L : List Pt} (h : OwnP w base v L) : ownAny v = v.ownBlock := by
  rcases h.2 with ⟨rfl, _⟩ | ⟨g', cap, cur, rfl, _⟩ <;> rfl
theorem OwnP.lit (w : World) (base : Nat) (hb : base ≤ w.heap.size) (P : List Pt) (hp : P.length ≤ 1000000) : OwnP (w.alloc (.cells (flatP P).toArray 40)) base (.slice (some ⟨w.heap.size, 0, none⟩) P.length P.length) P :=
  ⟨flatP_length P, .inr ⟨_, _, (flatP P).toArray, rfl, hb, alloc_new w _, Nat.le_refl _, by unfold maxLen; omega, by simp [flatP_length], by rw [← flatP_length, List.take_of_length_le (by simp)]⟩⟩
theorem resPts_ok {W : World} {k i p : Nat} {c : Option Nat} {ds : List Nat} (L : List Pt) : ResOk W ⟨k, i, p, c, ds, fun V w => OwnP w W.heap.size (V i) L⟩ := resRow_ok _ _ _ _
theorem resPtsAt_ok {W : World} {k i p : Nat} {c : Option Nat} {ds : List Nat} (v0 : Value) (L : List Pt) : ResOk W ⟨k, i, p, c, ds, fun V w => V i = v0 ∧ OwnP w W.heap.size (V i) L⟩ where
  lt := fun V w h => (resPts_ok (k := k) (p := p) (c := c) (ds := ds) L).lt V w h.2
  move := fun V V' w w' h hj h2 h3 => ⟨(hj i (.inl rfl)).trans h.1, (resPts_ok (k := k) (p := p) (c := c) (ds := ds) L).move V V' w w' h.2 hj h2 h3⟩
theorem run_append_ptsF {w : World} (ty base : Nat) (v : Value) (L : List Pt) (hown : OwnP w base v L)
    (ao : Option Addr) (m c : Nat) (L2 : List Pt) (hsrc : IsPts w ao m c L2) (hnm : L.length + m ≤ 1000000000) (hbase : base ≤ w.heap.size) :
    ∃ v' w', (Builtin.append_ #[36, 36] ty #[v, .slice ao m c]).run Tryz.prog w = .ok v' w' ∧ OwnP w' base v' (L ++ L2) ∧ w.grownBy w' v.ownBlock ∧ (∀ g, v'.ownBlock = some g → w.heap.size ≤ g ∨ v.ownBlock = some g) := by
  obtain ⟨i0, hi, hz0, hz1, hz2⟩ := info_parts' Tryz.infoPt
  have hl := hsrc.1
  cases ao with
  | none =>
    obtain ⟨rfl, rfl⟩ := hsrc.2.2.2.2 rfl
    obtain rfl : L2 = [] := List.eq_nil_of_length_eq_zero hl
    exact ⟨v, w, run_append_owned_none (P := Tryz.prog) (w := w) base _ ty _ i0 2 Tryz.underlying36 hi v _ _ hown, by rw [List.append_nil]; exact hown, ⟨rfl, rfl, rfl, Nat.le_refl _, fun _ _ _ => rfl⟩, fun g hg => .inr hg⟩
  | some ad =>
    obtain ⟨b, off, spot⟩ := ad
    obtain ⟨v', w', hr, h2, h3, _⟩ := run_append_own (P := Tryz.prog) w base 36 ty _ i0 (.agg #[.int .i64 0, .int .i64 0]) 2 16 Tryz.underlying36 hi hz0 hz1 hz2 rfl (by decide) v _ _ hown ⟨b, off, spot⟩ m c (flatP L2) (by rw [flatP_length, hl]) hsrc.cells (flatP_one _)
      (by unfold maxLen; omega) (by omega) hbase
    refine ⟨v', w', hr, ?_, h3, append_own_fresh (P := Tryz.prog) w base 36 ty _ i0 (.agg #[.int .i64 0, .int .i64 0]) 2 16 Tryz.underlying36 hi hz0 hz1 hz2 rfl (by decide) v _ _ hown ⟨b, off, spot⟩ m c (flatP L2) (by rw [flatP_length, hl]) hsrc.cells (flatP_one _)
      (by unfold maxLen; omega) (by omega) hr⟩
    unfold OwnP
    rw [flatP_append, List.length_append, hl]; exact h2
theorem opwp_append_ptsF {w : World} {o : Oper} {a : Act} {K : Act → World → Prop} {Q : Exit → Act → World → Prop} (s x : Operand)
    (ho : o.op = .call { callee := .builtin .append, args := #[s, x], argTypes := #[36, 36] })
    (base : Nat) (v : Value) (L : List Pt) (hs : a.eval s = v) (hown : OwnP w base v L)
    (ao : Option Addr) (m c : Nat) (L2 : List Pt) (hx : a.eval x = .slice ao m c) (hsrc : IsPts w ao m c L2) (hnm : L.length + m ≤ 1000000000) (hbase : base ≤ w.heap.size)
    (h : ∀ v' w', OwnP w' base v' (L ++ L2) → w.grownBy w' v.ownBlock → (∀ g, ownAny v' = some g → w.heap.size ≤ g ∨ v.ownBlock = some g) → K (a.put o.dst v') w') : o.wp Tryz.prog a w K Q := by
  obtain ⟨v', w', hr, h2, h3, h4⟩ := run_append_ptsF o.type base v L hown ao m c L2 hsrc hnm hbase
  unfold Oper.wp execOp
  simp only [ho, resolve, invoke, builtin, Sem.run_bind, Sem.run_pure, Result.andThen_ok, List.map_toArray, List.map_cons, List.map_nil, hs, hx, hr]
  exact h v' w' h2 h3 (by rw [h2.any]; exact h4)
theorem eval_tmp {a : Act} {t : Nat} {v : Value} (h : a.tmps[t]? = some v) : a.eval (.tmp t) = v := by simp [Act.eval, h]
end Go.Proofs.YtgijaaklhdcgeaaGreat

/- a region in whatever order that only makes memory: values, and facts that growth keeps -/
set_option linter.unusedSimpArgs false
set_option linter.unusedVariables false
namespace Go.Proofs.YtgijaaklhdcgeaaGreat
open Go Go.RowKit
structure Fct where
  i : Nat
  P : Value → World → Prop
structure GrowJ (W : World) (val : Nat → Option Value) (fs : List Fct) (L : Nat → Bool) (V : Nat → Value) (w : World) : Prop where
  below : Below W.heap.size W w
  vals : ∀ i v, val i = some v → L i = true → V i = v
  facts : ∀ f ∈ fs, L f.i = true → f.P (V f.i) w
def FctOk (f : Fct) : Prop := ∀ v w w', f.P v w → Below w.heap.size w w' → f.P v w'
theorem GrowJ.start {W w : World} {val : Nat → Option Value} {fs : List Fct} {V : Nat → Value} (h : Below W.heap.size W w) : GrowJ W val fs (fun _ => false) V w :=
  ⟨h, fun _ _ _ h => (by cases h), fun _ _ h => (by cases h)⟩
theorem GrowJ.step {W w w' : World} {val : Nat → Option Value} {fs : List Fct} {L : Nat → Bool} {V : Nat → Value} (h : GrowJ W val fs L V w) (hok : ∀ f ∈ fs, FctOk f) (i : Nat) (v : Value) (hv : (match val i with | some u => u = v | none => True)) (hb : Below w.heap.size w w') (hnew : ∀ f ∈ fs, f.i = i → f.P v w') : GrowJ W val fs (upd L i true) (upd V i v) w' := by
  refine ⟨h.below.trans (hb.mono h.below.size), fun j u hj hl => ?_, fun f hf hl => ?_⟩
  · by_cases hji : j = i
    · subst hji
      rw [upd_at]
      rw [hj] at hv
      exact hv.symm
    · rw [upd_ne _ _ _ _ hji] at hl ⊢
      exact h.vals j u hj hl
  · by_cases hfi : f.i = i
    · rw [hfi, upd_at]
      exact hnew f hf hfi
    · rw [upd_ne _ _ _ _ hfi] at hl ⊢
      exact hok f hf _ _ _ (h.facts f hf hl) hb
theorem GrowJ.val {W w w' : World} {val : Nat → Option Value} {fs : List Fct} {L : Nat → Bool} {V : Nat → Value} (h : GrowJ W val fs L V w) (hok : ∀ f ∈ fs, FctOk f) (i : Nat) (v : Value) (hn : fs.all (fun f => f.i != i) = true) (hv : (match val i with | some u => u = v | none => True)) (hb : Below w.heap.size w w') : GrowJ W val fs (upd L i true) (upd V i v) w' :=
  h.step hok i v hv hb (fun f hf hfi => by
    have := List.all_eq_true.1 hn f hf
    simp [hfi] at this)
end Go.Proofs.YtgijaaklhdcgeaaGreat

/- a region in whatever order: values, facts that growth keeps, and blocks that it makes and fills with what it has got -/
set_option linter.unusedSimpArgs false
set_option linter.unusedVariables false
namespace Go.Proofs.YtgijaaklhdcgeaaGreat
open Go Go.RowKit
/-- all that was there stays, but for blocks of these types. -/
def KeepsBut (T : List TypeId) (w w' : World) : Prop := w.heap.size ≤ w'.heap.size ∧ ∀ (k : Nat) (o : Obj), w.heap[k]? = some o → (∀ c t f, o = .cells c t f → t ∉ T) → w'.heap[k]? = some o
theorem KeepsBut.of_below {T : List TypeId} {w w' : World} (h : Below w.heap.size w w') : KeepsBut T w w' :=
  ⟨h.size, fun k o ho _ => (h.block _ (Array.getElem?_eq_some_iff.1 ho).1).trans ho⟩
/-- a block that operation i makes and operation st fills with what operation src has got. -/
structure Alx where
  i : Nat
  st : Nat
  src : Nat
  t : TypeId
  zero : Array Value
  full : Value → Array Value
def alxOk (als : List Alx) : Bool := decide (als.map (·.i) ++ als.map (·.st)).Nodup
theorem alxOk_spec {als : List Alx} (hok : alxOk als = true) : ∀ B ∈ als, ∀ C ∈ als, (B.i = C.i → B = C) ∧ (B.st = C.st → B = C) ∧ B.i ≠ C.st := fun B hB C hC => by
  have h := List.nodup_append.1 (of_decide_eq_true hok)
  exact ⟨fun e => nodup_inj h.1 hB hC e, fun e => nodup_inj h.2.1 hB hC e, h.2.2 _ (List.mem_map_of_mem hB) _ (List.mem_map_of_mem hC)⟩
def alxFree (als : List Alx) (i : Nat) : Bool := als.all fun A => A.i != i && A.st != i
def FctKeep (T : List TypeId) (f : Fct) : Prop := ∀ v w w', f.P v w → KeepsBut T w w' → f.P v w'
structure MixJ (W : World) (val : Nat → Option Value) (fs : List Fct) (als : List Alx) (L : Nat → Bool) (V : Nat → Value) (w : World) : Prop where
  below : Below W.heap.size W w
  vals : ∀ i v, val i = some v → L i = true → V i = v
  facts : ∀ f ∈ fs, L f.i = true → f.P (V f.i) w
  ord : ∀ A ∈ als, L A.st = true → L A.i = true ∧ L A.src = true
  made : ∃ β : Nat → Nat, (∀ A ∈ als, L A.i = true → V A.i = .pointer (some ⟨β A.i, 0, none⟩) ∧ W.heap.size ≤ β A.i ∧ w.heap[β A.i]? = some (.cells (if L A.st = true then A.full (V A.src) else A.zero) A.t (0, 0))) ∧
    (∀ A ∈ als, ∀ B ∈ als, L A.i = true → L B.i = true → A.i ≠ B.i → β A.i ≠ β B.i)
theorem MixJ.start {W w : World} {val : Nat → Option Value} {fs : List Fct} {als : List Alx} {V : Nat → Value} (h : Below W.heap.size W w) : MixJ W val fs als (fun _ => false) V w :=
  ⟨h, fun _ _ _ h => (by cases h), fun _ _ h => (by cases h), fun _ _ h => (by cases h), fun _ => 0, fun _ _ h => (by cases h), fun _ _ _ _ h => (by cases h)⟩
theorem MixJ.step {T : List TypeId} {W w w' : World} {val : Nat → Option Value} {fs : List Fct} {als : List Alx} {L : Nat → Bool} {V : Nat → Value} (h : MixJ W val fs als L V w) (hok : ∀ f ∈ fs, FctKeep T f) (i : Nat) (v : Value) (hl : L i = false) (hb : Below w.heap.size w w') (hf : alxFree als i = true) (hv : (match val i with | some u => u = v | none => True)) (hnew : ∀ f ∈ fs, f.i = i → f.P v w') :
    MixJ W val fs als (upd L i true) (upd V i v) w' := by
  have hne : ∀ A ∈ als, A.i ≠ i ∧ A.st ≠ i := fun A hA => by simpa using List.all_eq_true.1 hf A hA
  obtain ⟨h1, h2, h6, h5, β, h3, h4⟩ := h
  refine ⟨h1.trans (hb.mono h1.size), fun j u hj hl' => ?_, fun f hf' hl' => ?_, fun A hA hl' => ?_, β, fun A hA hl' => ?_, fun A hA B hB ha hb' => ?_⟩
  · by_cases hji : j = i
    · subst hji
      rw [upd_at]
      rw [hj] at hv
      exact hv.symm
    · rw [upd_ne _ _ _ _ hji] at hl' ⊢
      exact h2 j u hj hl'
  · by_cases hfi : f.i = i
    · rw [hfi, upd_at]
      exact hnew f hf' hfi
    · rw [upd_ne _ _ _ _ hfi] at hl' ⊢
      exact hok f hf' _ _ _ (h6 f hf' hl') (.of_below hb)
  · obtain ⟨n1, n2⟩ := hne A hA
    rw [upd_ne _ _ _ _ n2] at hl'
    obtain ⟨e1, e2⟩ := h5 A hA hl'
    refine ⟨by rw [upd_ne _ _ _ _ n1]; exact e1, ?_⟩
    rw [upd_ne _ _ _ _ (fun e => by rw [e, hl] at e2; cases e2)]
    exact e2
  · obtain ⟨n1, n2⟩ := hne A hA
    rw [upd_ne _ _ _ _ n1] at hl' ⊢
    rw [upd_ne _ _ _ _ n2]
    obtain ⟨e1, e2, e3⟩ := h3 A hA hl'
    refine ⟨e1, e2, (hb.block _ (Array.getElem?_eq_some_iff.1 e3).1).trans ?_⟩
    rw [e3]
    by_cases hs : L A.st = true
    · rw [if_pos hs, if_pos hs, upd_ne _ _ _ _ (fun e => by have := (h5 A hA hs).2; rw [e, hl] at this; cases this)]
    · rw [if_neg hs, if_neg hs]
  · rw [upd_ne _ _ _ _ (hne A hA).1] at ha
    rw [upd_ne _ _ _ _ (hne B hB).1] at hb'
    exact h4 A hA B hB ha hb'
theorem MixJ.val {T : List TypeId} {W w w' : World} {val : Nat → Option Value} {fs : List Fct} {als : List Alx} {L : Nat → Bool} {V : Nat → Value} (h : MixJ W val fs als L V w) (hok : ∀ f ∈ fs, FctKeep T f) (i : Nat) (v : Value) (hl : L i = false) (hb : Below w.heap.size w w') (hf : alxFree als i = true) (hn : fs.all (fun f => f.i != i) = true) (hv : (match val i with | some u => u = v | none => True)) :
    MixJ W val fs als (upd L i true) (upd V i v) w' :=
  h.step hok i v hl hb hf hv (fun f hf hfi => by
    have := List.all_eq_true.1 hn f hf
    simp [hfi] at this)
theorem MixJ.alloc {T : List TypeId} {W w : World} {val : Nat → Option Value} {fs : List Fct} {als : List Alx} {L : Nat → Bool} {V : Nat → Value} (h : MixJ W val fs als L V w) (hfk : ∀ f ∈ fs, FctKeep T f) (hok : alxOk als = true) (A : Alx) (hA : A ∈ als) (hl : L A.i = false) (hv : val A.i = none) (hn : fs.all (fun f => f.i != A.i) = true) :
    MixJ W val fs als (upd L A.i true) (upd V A.i (.pointer (some ⟨w.heap.size, 0, none⟩))) (w.alloc (.cells A.zero A.t)) := by
  have hok' := alxOk_spec hok
  obtain ⟨h1, h2, h6, h5, β, h3, h4⟩ := h
  have hb : Below w.heap.size w (w.alloc (.cells A.zero A.t)) := (Below.refl _ _).alloc (Nat.le_refl _) _
  have hs : L A.st = false := by
    cases e : L A.st with
    | false => rfl
    | true => have := (h5 A hA e).1; rw [hl] at this; cases this
  refine ⟨h1.alloc h1.size _, fun j u hj hl' => ?_, fun f hf' hl' => ?_, fun B hB hl' => ?_, upd β A.i w.heap.size, fun B hB hl' => ?_, fun B hB C hC hb' hc' hne => ?_⟩
  · have hji : j ≠ A.i := fun e => by subst e; rw [hv] at hj; cases hj
    rw [upd_ne _ _ _ _ hji] at hl' ⊢
    exact h2 j u hj hl'
  · have hfi : f.i ≠ A.i := by simpa using List.all_eq_true.1 hn f hf'
    rw [upd_ne _ _ _ _ hfi] at hl' ⊢
    exact hfk f hf' _ _ _ (h6 f hf' hl') (.of_below hb)
  · rw [upd_ne _ _ _ _ (fun e => (hok' A hA B hB).2.2 e.symm)] at hl'
    obtain ⟨e1, e2⟩ := h5 B hB hl'
    constructor
    · by_cases hBA : B.i = A.i
      · rw [hBA, upd_at]
      · rw [upd_ne _ _ _ _ hBA]; exact e1
    · rw [upd_ne _ _ _ _ (fun e => by rw [e, hl] at e2; cases e2)]
      exact e2
  · by_cases hBA : B.i = A.i
    · obtain rfl : B = A := (hok' B hB A hA).1 hBA
      rw [upd_at, upd_at]
      refine ⟨rfl, h1.size, ?_⟩
      rw [upd_ne _ _ _ _ (fun e => (hok' B hB B hB).2.2 e.symm), hs]
      have hnew : (w.alloc (.cells B.zero B.t)).heap[w.heap.size]? = some (.cells B.zero B.t (0, 0)) := by
        show (w.heap.push _)[w.heap.size]? = _
        simp
      rw [hnew]
      simp
    · rw [upd_ne _ _ _ _ hBA] at hl' ⊢
      rw [upd_ne _ _ _ _ hBA]
      rw [upd_ne _ _ _ _ (fun e => (hok' A hA B hB).2.2 e.symm)]
      obtain ⟨e1, e2, e3⟩ := h3 B hB hl'
      refine ⟨e1, e2, (hb.block _ (Array.getElem?_eq_some_iff.1 e3).1).trans ?_⟩
      rw [e3]
      by_cases hs' : L B.st = true
      · rw [if_pos hs', if_pos hs', upd_ne _ _ _ _ (fun e => by have := (h5 B hB hs').2; rw [e, hl] at this; cases this)]
      · rw [if_neg hs', if_neg hs']
  · have lt : ∀ D ∈ als, D.i ≠ A.i → L D.i = true → β D.i < w.heap.size := fun D hD hn hl' => by
      obtain ⟨_, _, e3⟩ := h3 D hD hl'
      exact (Array.getElem?_eq_some_iff.1 e3).1
    by_cases hBA : B.i = A.i
    · by_cases hCA : C.i = A.i
      · exact absurd (hBA.trans hCA.symm) hne
      · rw [hBA, upd_at, upd_ne _ _ _ _ hCA]
        rw [upd_ne _ _ _ _ hCA] at hc'
        have := lt C hC hCA hc'
        omega
    · by_cases hCA : C.i = A.i
      · rw [hCA, upd_at, upd_ne _ _ _ _ hBA]
        rw [upd_ne _ _ _ _ hBA] at hb'
        have := lt B hB hBA hb'
        omega
      · rw [upd_ne _ _ _ _ hBA, upd_ne _ _ _ _ hCA]
        rw [upd_ne _ _ _ _ hBA] at hb'
        rw [upd_ne _ _ _ _ hCA] at hc'
        exact h4 B hB C hC hb' hc' hne
theorem MixJ.ptr {W w : World} {val : Nat → Option Value} {fs : List Fct} {als : List Alx} {L : Nat → Bool} {V : Nat → Value} (h : MixJ W val fs als L V w) (A : Alx) (hA : A ∈ als) (hl : L A.i = true) (hs : L A.st = false) :
    ∃ g, V A.i = .pointer (some ⟨g, 0, none⟩) ∧ w.heap[g]? = some (.cells A.zero A.t (0, 0)) := by
  obtain ⟨h1, h2, h6, h5, β, h3, h4⟩ := h
  obtain ⟨e1, e2, e3⟩ := h3 A hA hl
  rw [hs] at e3
  exact ⟨_, e1, by simpa using e3⟩
theorem MixJ.got {W w : World} {val : Nat → Option Value} {fs : List Fct} {als : List Alx} {L : Nat → Bool} {V : Nat → Value} (h : MixJ W val fs als L V w) (A : Alx) (hA : A ∈ als) (hl : L A.i = true) (hs : L A.st = true) :
    ∃ g, V A.i = .pointer (some ⟨g, 0, none⟩) ∧ W.heap.size ≤ g ∧ w.heap[g]? = some (.cells (A.full (V A.src)) A.t (0, 0)) := by
  obtain ⟨h1, h2, h6, h5, β, h3, h4⟩ := h
  obtain ⟨e1, e2, e3⟩ := h3 A hA hl
  rw [hs] at e3
  exact ⟨_, e1, e2, by simpa using e3⟩
theorem MixJ.fill {T : List TypeId} {W w : World} {val : Nat → Option Value} {fs : List Fct} {als : List Alx} {L : Nat → Bool} {V : Nat → Value} (h : MixJ W val fs als L V w) (hfk : ∀ f ∈ fs, FctKeep T f) (hok : alxOk als = true) (A : Alx) (hA : A ∈ als) (hT : A.t ∈ T) (hl : L A.i = true) (hs : L A.st = false) (hsrc : L A.src = true) (hv : val A.st = none) (hn : fs.all (fun f => f.i != A.st) = true) (g : Nat) (hg : V A.i = .pointer (some ⟨g, 0, none⟩)) (v : Value) :
    MixJ W val fs als (upd L A.st true) (upd V A.st v) (w.setRow g (A.full (V A.src))) := by
  have hok' := alxOk_spec hok
  obtain ⟨h1, h2, h6, h5, β, h3, h4⟩ := h
  obtain ⟨e1, e2, e3⟩ := h3 A hA hl
  rw [hs] at e3
  simp only [Bool.false_eq_true, if_false] at e3
  have hgb : g = β A.i := by
    rw [hg] at e1
    injection e1 with e1
    injection e1 with e1
    injection e1
  subst hgb
  have hlt : β A.i < w.heap.size := (Array.getElem?_eq_some_iff.1 e3).1
  have hoth : ∀ k, k ≠ β A.i → (w.setRow (β A.i) (A.full (V A.src))).heap[k]? = w.heap[k]? := fun k hk => setRow_other w _ k _ hk
  have hkb : KeepsBut T w (w.setRow (β A.i) (A.full (V A.src))) := by
    refine ⟨by simp [World.setRow], fun k o ho hno => ?_⟩
    by_cases hk : k = β A.i
    · subst hk
      rw [e3] at ho
      injection ho with ho
      exact absurd hT (hno _ _ _ ho.symm)
    · rw [hoth k hk]; exact ho
  refine ⟨below_setRow h1 e2 _, fun j u hj hl' => ?_, fun f hf' hl' => ?_, fun B hB hl' => ?_, β, fun B hB hl' => ?_, fun B hB C hC hb' hc' hne => ?_⟩
  · have hji : j ≠ A.st := fun e => by subst e; rw [hv] at hj; cases hj
    rw [upd_ne _ _ _ _ hji] at hl' ⊢
    exact h2 j u hj hl'
  · have hfi : f.i ≠ A.st := by simpa using List.all_eq_true.1 hn f hf'
    rw [upd_ne _ _ _ _ hfi] at hl' ⊢
    exact hfk f hf' _ _ _ (h6 f hf' hl') hkb
  · by_cases hBA : B.st = A.st
    · obtain rfl : B = A := (hok' B hB A hA).2.1 hBA
      rw [upd_ne _ _ _ _ (hok' B hB B hB).2.2]
      refine ⟨hl, ?_⟩
      by_cases hss : B.src = B.st
      · rw [hss, upd_at]
      · rw [upd_ne _ _ _ _ hss]; exact hsrc
    · rw [upd_ne _ _ _ _ hBA] at hl'
      obtain ⟨f1, f2⟩ := h5 B hB hl'
      refine ⟨by rw [upd_ne _ _ _ _ (hok' B hB A hA).2.2]; exact f1, ?_⟩
      by_cases hss : B.src = A.st
      · rw [hss, upd_at]
      · rw [upd_ne _ _ _ _ hss]; exact f2
  · have n1 : B.i ≠ A.st := (hok' B hB A hA).2.2
    rw [upd_ne _ _ _ _ n1] at hl' ⊢
    obtain ⟨f1, f2, f3⟩ := h3 B hB hl'
    refine ⟨f1, f2, ?_⟩
    by_cases hBA : B.st = A.st
    · obtain rfl : B = A := (hok' B hB A hA).2.1 hBA
      rw [upd_at, if_pos rfl, upd_ne _ _ _ _ (fun e => by rw [e, hs] at hsrc; cases hsrc), setRow_heap w _ _ (B.full (V B.src)) _ _ e3]
    · rw [upd_ne _ _ _ _ hBA]
      have hi : B.i ≠ A.i := fun e => hBA (congrArg Alx.st ((hok' B hB A hA).1 e))
      rw [hoth _ (h4 B hB A hA hl' hl hi), f3]
      by_cases hs' : L B.st = true
      · rw [if_pos hs', if_pos hs', upd_ne _ _ _ _ (fun e => by have := (h5 B hB hs').2; rw [e, hs] at this; cases this)]
      · rw [if_neg hs', if_neg hs']
  · have n1 : B.i ≠ A.st := (hok' B hB A hA).2.2
    have n2 : C.i ≠ A.st := (hok' C hC A hA).2.2
    rw [upd_ne _ _ _ _ n1] at hb'
    rw [upd_ne _ _ _ _ n2] at hc'
    exact h4 B hB C hC hb' hc' hne
end Go.Proofs.YtgijaaklhdcgeaaGreat

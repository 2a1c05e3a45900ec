/- a region in whatever order: values, and memory of its own that is made, handed on, written -/
import Derived.Test.YtjiiikeniocmfaaGreatMRegS
import Derived.Laws.AppendOwn
import Derived.Laws.Append
set_option linter.unusedSimpArgs false
set_option linter.unusedVariables false
namespace Go.Proofs.YtjiiikeniocmfaaGreat
open Go Go.RowKit
def ownAny : Value → Option Nat
  | .pointer (some a) => some a.block
  | .slice (some a) _ _ => some a.block
  | _ => none
/-- what operation i's value owns, from operation prod on till operation cons takes it. -/
structure Resr where
  k : Nat
  i : Nat
  prod : Nat
  cons : Option Nat
  deps : List Nat
  P : (Nat → Value) → World → Prop
def Resr.live (r : Resr) (L : Nat → Bool) : Bool := (decide (1000 ≤ r.prod) || L r.prod) && (match r.cons with | some c => !L c | none => true)
structure ResOk (W : World) (r : Resr) : Prop where
  lt : ∀ V w, r.P V w → ∀ g, ownAny (V r.i) = some g → W.heap.size ≤ g ∧ g < w.heap.size
  move : ∀ V V' w w', r.P V w → (∀ j, j = r.i ∨ j ∈ r.deps → V' j = V j) → w.heap.size ≤ w'.heap.size → (∀ g, ownAny (V r.i) = some g → w'.heap[g]? = w.heap[g]?) → r.P V' w'
structure ResJ (W : World) (val : Nat → Option Value) (rs : List Resr) (L : Nat → Bool) (V : Nat → Value) (w : World) : Prop where
  below : Below W.heap.size W w
  vals : ∀ i v, val i = some v → L i = true → V i = v
  ord : ∀ r ∈ rs, r.prod < 1000 → L r.prod = true → ∀ j, j = r.i ∨ j ∈ r.deps → L j = true
  res : ∀ r ∈ rs, r.live L = true → r.P V w
  apart : ∀ r ∈ rs, ∀ s ∈ rs, r.live L = true → s.live L = true → r.k ≠ s.k → ∀ g, ownAny (V r.i) = some g → ownAny (V s.i) ≠ some g
theorem ResJ.start {W w : World} {val : Nat → Option Value} {rs : List Resr} {V : Nat → Value} (h : Below W.heap.size W w) (hn : rs.all (fun r => decide (r.prod < 1000)) = true) : ResJ W val rs (fun _ => false) V w := by
  have hd : ∀ r ∈ rs, r.live (fun _ => false) = true → False := fun r hr hl => by
    have := of_decide_eq_true (List.all_eq_true.1 hn r hr)
    unfold Resr.live at hl
    rw [decide_eq_false (by omega)] at hl
    simp at hl
  exact ⟨h, fun _ _ _ h => (by cases h), fun _ _ _ h => (by cases h), fun r hr hl => (hd r hr hl).elim, fun r hr s _ hl => (hd r hr hl).elim⟩
/-- begun with one resource that came from outside. -/
theorem ResJ.start1 {W w : World} {val : Nat → Option Value} {rs : List Resr} {V : Nat → Value} (h : Below W.heap.size W w) (r0 : Resr) (rest : List Resr) (hrs : rs = r0 :: rest) (hn : rest.all (fun r => decide (r.prod < 1000)) = true) (hP : r0.P V w) : ResJ W val rs (fun _ => false) V w := by
  subst hrs
  have hd : ∀ r ∈ rest, r.live (fun _ => false) = true → False := fun r hr hl => by
    have := of_decide_eq_true (List.all_eq_true.1 hn r hr)
    unfold Resr.live at hl
    rw [decide_eq_false (by omega)] at hl
    simp at hl
  refine ⟨h, fun _ _ _ h => (by cases h), fun _ _ _ h => (by cases h), fun r hr hl => ?_, fun r hr s hs hl hl2 hk => ?_⟩
  · rcases List.mem_cons.1 hr with rfl | hr
    · exact hP
    · exact (hd r hr hl).elim
  · rcases List.mem_cons.1 hr with rfl | hr
    · rcases List.mem_cons.1 hs with rfl | hs
      · exact absurd rfl hk
      · exact (hd s hs hl2).elim
    · exact (hd r hr hl).elim
/-- how a resource stands to an operation: it is not its product; or it is, and it is the only one. -/
def resFits (rs : List Resr) (i : Nat) : Bool := decide (((rs.filter (fun r => r.prod == i)).map (·.k)).length ≤ 1) && decide (rs.map (·.k)).Nodup && rs.all (fun r => r.cons != some r.prod && (decide (r.prod < 1000) || (decide (1000 ≤ r.i) && r.deps.isEmpty))) && decide (i < 1000)
theorem filter_one {rs : List Resr} {i : Nat} (h : ((rs.filter (fun r => r.prod == i)).map (·.k)).length ≤ 1) {r s : Resr} (hr : r ∈ rs) (hs : s ∈ rs) (h1 : r.prod = i) (h2 : s.prod = i) : r = s := by
  have hr' : r ∈ rs.filter (fun r => r.prod == i) := List.mem_filter.2 ⟨hr, by simp [h1]⟩
  have hs' : s ∈ rs.filter (fun r => r.prod == i) := List.mem_filter.2 ⟨hs, by simp [h2]⟩
  rw [List.length_map] at h
  generalize rs.filter (fun r => r.prod == i) = q at h hr' hs'
  match q, h with
  | [], _ => cases hr'
  | [x], _ => rw [List.mem_singleton.1 hr', List.mem_singleton.1 hs']
  | x :: y :: q, h => simp at h
theorem live_old {r : Resr} {L : Nat → Bool} {i : Nat} (h : r.live (upd L i true) = true) (hp : r.prod ≠ i) : r.live L = true ∧ r.cons ≠ some i := by
  unfold Resr.live at h ⊢
  rw [upd_ne _ _ _ _ hp] at h
  rw [Bool.and_eq_true] at h
  obtain ⟨h1, h2⟩ := h
  rw [h1, Bool.true_and]
  cases hc : r.cons with
  | none => simp
  | some c =>
    rw [hc] at h2
    simp only at h2
    by_cases hci : c = i
    · subst hci
      rw [upd_at] at h2
      cases h2
    · rw [upd_ne _ _ _ _ hci] at h2
      simp only [h2, true_and]
      intro e
      exact hci (Option.some.inj e)
/-- one operation: it makes a value, may grow the memory, may write the block of a resource that it takes, may make one resource. -/
theorem ResJ.step {W w w' : World} {val : Nat → Option Value} {rs : List Resr} {L : Nat → Bool} {V : Nat → Value} (h : ResJ W val rs L V w) (hok : ∀ r ∈ rs, ResOk W r)
    (i : Nat) (v : Value) (hl : L i = false) (hf : resFits rs i = true) (hv : (match val i with | some u => u = v | none => True))
    (ob : Option Nat) (hg : w.grownBy w' ob) (hob : ob = none ∨ ∃ s ∈ rs, s.cons = some i ∧ (decide (1000 ≤ s.prod) || L s.prod) = true ∧ ownAny (V s.i) = ob)
    (hnew : ∀ r ∈ rs, r.prod = i → (∀ j, j = r.i ∨ j ∈ r.deps → j = i ∨ L j = true) ∧ r.P (upd V i v) w' ∧ ∀ g, ownAny (upd V i v r.i) = some g → w.heap.size ≤ g ∨ ob = some g) :
    ResJ W val rs (upd L i true) (upd V i v) w' := by
  unfold resFits at hf
  rw [Bool.and_eq_true, Bool.and_eq_true, Bool.and_eq_true] at hf
  have h1 := of_decide_eq_true hf.1.1.1
  have h2 := of_decide_eq_true hf.1.1.2
  have hi : i < 1000 := of_decide_eq_true hf.2
  have hout : ∀ r ∈ rs, 1000 ≤ r.prod → 1000 ≤ r.i ∧ r.deps = [] := fun r hr hp => by
    have := List.all_eq_true.1 hf.1.2 r hr
    rw [Bool.and_eq_true, Bool.or_eq_true] at this
    rcases this.2 with h | h
    · have := of_decide_eq_true h; omega
    · rw [Bool.and_eq_true] at h
      exact ⟨of_decide_eq_true h.1, List.isEmpty_iff.1 h.2⟩
  have hkinj : ∀ r ∈ rs, ∀ s ∈ rs, r.k = s.k → r = s := fun r hr s hs e => nodup_inj h2 hr hs e
  have hliveL : ∀ r ∈ rs, r.live L = true → ∀ j, j = r.i ∨ j ∈ r.deps → j ≠ i := fun r hr hlv j hj e => by
    unfold Resr.live at hlv
    rw [Bool.and_eq_true, Bool.or_eq_true] at hlv
    by_cases hp : 1000 ≤ r.prod
    · obtain ⟨e1, e2⟩ := hout r hr hp
      rcases hj with hj | hj
      · omega
      · rw [e2] at hj; cases hj
    · rcases hlv.1 with h' | h'
      · exact hp (of_decide_eq_true h')
      · have := h.ord r hr (by omega) h' j hj
        rw [e, hl] at this
        cases this
  -- the taken resource is alive till now
  have hsl : ∀ s ∈ rs, s.cons = some i → (decide (1000 ≤ s.prod) || L s.prod) = true → s.live L = true := fun s hs hc hp => by
    unfold Resr.live
    rw [hc, hp]
    simp [hl]
  -- what the operation may write is no other living resource's
  have hobr : ∀ r ∈ rs, r.live L = true → r.cons ≠ some i → ∀ g, ownAny (V r.i) = some g → ob ≠ some g := fun r hr hlv hc g hgr e => by
    rcases hob with h0 | ⟨s, hs, hsc, hsp, hso⟩
    · rw [h0] at e; cases e
    · have hk : r.k ≠ s.k := fun e2 => by
        have := hkinj r hr s hs e2
        subst this
        exact hc hsc
      exact h.apart r hr s hs hlv (hsl s hs hsc hsp) hk g hgr (hso.trans e)
  have hbnd : ∀ k, ob = some k → W.heap.size ≤ k := fun k hk => by
    rcases hob with h0 | ⟨s, hs, hsc, hsp, hso⟩
    · rw [h0] at hk; cases hk
    · exact ((hok s hs).lt _ _ (h.res s hs (hsl s hs hsc hsp)) k (hso.trans hk)).1
  have hkeep : ∀ r ∈ rs, r.live L = true → r.cons ≠ some i → r.P (upd V i v) w' := fun r hr hlv hc => by
    have hP := h.res r hr hlv
    refine (hok r hr).move _ _ _ _ hP (fun j hj => upd_ne _ _ _ _ (hliveL r hr hlv j hj)) hg.size fun g hgr => ?_
    exact hg.block g ((hok r hr).lt _ _ hP g hgr).2 (fun e => hobr r hr hlv hc g hgr e.symm)
  refine ⟨h.below.grown hg h.below.size hbnd, fun j u hj hlj => ?_, fun r hr hp0 hlr j hj => ?_, fun r hr hlr => ?_, fun r hr s hs hlr hls hk g hgr => ?_⟩
  · by_cases hji : j = i
    · subst hji
      rw [upd_at]
      rw [hj] at hv
      exact hv.symm
    · rw [upd_ne _ _ _ _ hji] at hlj ⊢
      exact h.vals j u hj hlj
  · by_cases hji : j = i
    · rw [hji, upd_at]
    · rw [upd_ne _ _ _ _ hji]
      by_cases hp : r.prod = i
      · rcases (hnew r hr hp).1 j hj with e | e
        · exact absurd e hji
        · exact e
      · rw [upd_ne _ _ _ _ hp] at hlr
        exact h.ord r hr hp0 hlr j hj
  · by_cases hp : r.prod = i
    · exact (hnew r hr hp).2.1
    · obtain ⟨a1, a2⟩ := live_old hlr hp
      exact hkeep r hr a1 a2
  · by_cases hp : r.prod = i
    · by_cases hq : s.prod = i
      · exact absurd (by rw [filter_one h1 hr hs hp hq]) hk
      · obtain ⟨b1, b2⟩ := live_old hls hq
        have hne := hliveL s hs b1 s.i (.inl rfl)
        rw [upd_ne _ _ _ _ hne]
        intro e
        rcases (hnew r hr hp).2.2 g hgr with hge | hge
        · have := ((hok s hs).lt _ _ (h.res s hs b1) g e).2
          omega
        · exact hobr s hs b1 b2 g e hge
    · obtain ⟨a1, a2⟩ := live_old hlr hp
      have hne := hliveL r hr a1 r.i (.inl rfl)
      rw [upd_ne _ _ _ _ hne] at hgr
      by_cases hq : s.prod = i
      · intro e
        rcases (hnew s hs hq).2.2 g e with hge | hge
        · have := ((hok r hr).lt _ _ (h.res r hr a1) g hgr).2
          omega
        · exact hobr r hr a1 a2 g hgr hge
      · obtain ⟨b1, b2⟩ := live_old hls hq
        have hne2 := hliveL s hs b1 s.i (.inl rfl)
        rw [upd_ne _ _ _ _ hne2]
        exact h.apart r hr s hs a1 b1 hk g hgr
theorem grown_below {w w' : World} (h : Below w.heap.size w w') : w.grownBy w' none := ⟨h.os, h.tape, h.output, h.size, fun k hk _ => h.block k hk⟩
theorem ResJ.val {W w w' : World} {val : Nat → Option Value} {rs : List Resr} {L : Nat → Bool} {V : Nat → Value} (h : ResJ W val rs L V w) (hok : ∀ r ∈ rs, ResOk W r)
    (i : Nat) (v : Value) (hl : L i = false) (hf : resFits rs i = true) (hn : rs.all (fun r => r.prod != i) = true) (hv : (match val i with | some u => u = v | none => True)) (hb : Below w.heap.size w w') :
    ResJ W val rs (upd L i true) (upd V i v) w' :=
  h.step hok i v hl hf hv none (grown_below hb) (.inl rfl) (fun r hr hp => by
    have := List.all_eq_true.1 hn r hr
    simp [hp] at this)
theorem ResJ.at {W w : World} {val : Nat → Option Value} {rs : List Resr} {L : Nat → Bool} {V : Nat → Value} (h : ResJ W val rs L V w) (r : Resr) (hr : r ∈ rs) (hp : (decide (1000 ≤ r.prod) || L r.prod) = true) (hc : (match r.cons with | some c => L c = false | none => True)) : r.P V w := by
  refine h.res r hr ?_
  unfold Resr.live
  rw [hp]
  cases hcc : r.cons with
  | none => rfl
  | some c =>
    rw [hcc] at hc
    simp only at hc
    simp [hc]
end Go.Proofs.YtjiiikeniocmfaaGreat

/- append: where the new row lies -/
set_option linter.unusedSimpArgs false
set_option linter.unusedVariables false
namespace Go.Proofs.YtjiiikeniocmfaaGreat
open Go Go.RowKit
/-- the row that append hands back lies where the old one lay, or behind all memory. -/
theorem append_own_fresh {P : Program} (w : World) (base : Nat) (t ty e : TypeId) (i : TypeInfo) (z : Value) (size bytes : Nat) (ht : P.underlying t = some (.slice e)) (hi : P.info? e = some i) (hz : i.zero = some z)
    (hsize : i.size = size) (hby : i.bytes = bytes) (hzs : z.cells.size = size) (hsz : 0 < size)
    (v : Value) (n : Nat) (xs : List Value) (hown : w.ownsRow base e size v n xs)
    (a : Addr) (m c : Nat) (news : List Value) (hl : news.length = m * size) (hnews : ∀ j u, news[j]? = some u → w.cell? (a.add j) = some u) (h1 : ∀ u ∈ news, u.oneCell' = true)
    (h63 : n + m ≤ maxLen) (hbytes : (n + m) * bytes ≤ 140737488355328) {v' : Value} {w' : World} (hr : (Builtin.append_ #[t, t] ty #[v, .slice (some a) m c]).run P w = .ok v' w') :
    ∀ g, v'.ownBlock = some g → w.heap.size ≤ g ∨ v.ownBlock = some g := by
  intro g hg
  have hsmall : n + m ≤ 9223372036854775807 := by simp only [maxLen] at h63; omega
  rcases hown.2 with ⟨rfl, rfl⟩ | ⟨g0, cap, cur, rfl, hbg, hgg, hnc, hcm, hcs, htake⟩
  · have hx : xs = [] := List.eq_nil_of_length_eq_zero (by simpa using hown.1)
    subst hx
    obtain ⟨v2, w2, hr2, ho2, _⟩ := run_append_own (P := P) w w.heap.size t ty e i z size bytes ht hi hz hsize hby hzs hsz (.slice none 0 0) 0 [] (World.ownsRow_nil _ _ _ _) a m c news hl hnews h1 h63 hbytes (Nat.le_refl _)
    rw [hr2] at hr
    injection hr with e1 e2
    subst e1 e2
    exact .inl (ho2.lt g hg).1
  · subst hsize
    subst hby
    by_cases hroom : n + m ≤ cap
    · have hfit : n * i.size + news.length ≤ cur.size := by rw [hl, hcs, ← Nat.add_mul]; exact Nat.mul_le_mul_right _ hroom
      have hr2 := run_append_room (P := P) w t ty e i ht hi g0 n cap cur hgg a m c news hl hnews h1 hroom hfit
      rw [hr2] at hr
      injection hr with e1 e2
      subst e1
      exact .inr hg
    · have holds : ∀ j u, xs[j]? = some u → w.cell? ((⟨g0, 0, none⟩ : Addr).add j) = some u := hown.cells (g := g0) rfl
      have hr2 := run_append_grow (P := P) w t ty e i z ht hi hz ⟨g0, 0, none⟩ n cap xs hown.1 holds a m c news hl hnews (by omega) (by omega) (growslice_fits (by omega) hbytes)
      rw [hr2] at hr
      injection hr with e1 e2
      subst e1
      simp only [Value.ownBlock, Option.some.injEq] at hg
      exact .inl (by omega)
end Go.Proofs.YtjiiikeniocmfaaGreat

/- plain law of points, turns, rings: no program in sight -/
namespace Go.Geo
structure Pt where
  x : Int
  y : Int
deriving DecidableEq
/-- a coordinate that may be. -/
def fitsC (n : Int) : Bool := decide (-1099511627775 ≤ n) && decide (n ≤ 1099511627775)
def validP (p : Pt) : Bool := fitsC p.x && fitsC p.y
theorem validP_iff (p : Pt) : validP p = true ↔ (-1099511627775 ≤ p.x ∧ p.x ≤ 1099511627775) ∧ (-1099511627775 ≤ p.y ∧ p.y ≤ 1099511627775) := by simp [validP, fitsC]
def sgn (n : Int) : Int := if n < 0 then -1 else if n = 0 then 0 else 1
theorem sgn_one {n : Int} : sgn n = 1 ↔ 0 < n := by unfold sgn; split <;> (try split) <;> omega
theorem sgn_zero {n : Int} : sgn n = 0 ↔ n = 0 := by unfold sgn; split <;> (try split) <;> omega
/-- twice the area. -/
def area (a b c : Pt) : Int := (b.x - a.x) * (c.y - a.y) - (b.y - a.y) * (c.x - a.x)
def turnP (a b c : Pt) : Int := if validP a && validP b && validP c then sgn (area a b c) else 0
def countsP (p a b : Pt) : Bool :=
  validP p && validP a && validP b && (if b.y < a.y then decide (b.y ≤ p.y) && decide (p.y < a.y) && decide (turnP b a p = 1) else decide (a.y ≤ p.y) && decide (p.y < b.y) && decide (turnP a b p = 1))
theorem countsP_comm (p a b : Pt) : countsP p a b = countsP p b a := by
  unfold countsP
  by_cases h : b.y < a.y
  · rw [if_pos h, if_neg (by omega)]
    cases validP a <;> cases validP b <;> simp
  · by_cases h2 : a.y < b.y
    · rw [if_neg h, if_pos h2]
      cases validP a <;> cases validP b <;> simp
    · rw [if_neg h, if_neg h2]
      have e1 : (decide (a.y ≤ p.y) && decide (p.y < b.y)) = false := by simp; omega
      have e2 : (decide (b.y ≤ p.y) && decide (p.y < a.y)) = false := by simp; omega
      rw [e1, e2]
      simp
/-- the edges from a on, each put in or out. -/
def xorP (f : Pt → Pt → Bool) : Pt → List Pt → Bool
  | _, [] => false
  | a, b :: l => f a b ^^ xorP f b l
/-- the last of a list, or a. -/
def lastP (a : Pt) (l : List Pt) : Pt := l.getLastD a
def inP (p : Pt) (l : List Pt) : Bool := match l with
  | [] => false
  | a :: m => xorP (countsP p) (lastP a m) (a :: m)
theorem lastP_cons (a b : Pt) (l : List Pt) : lastP a (b :: l) = lastP b l := by cases l <;> rfl
theorem xorP_alike {f : Pt → Pt → Bool} {g : Pt → Bool} : ∀ (l : List Pt) (a : Pt), (∀ u v, u ∈ a :: l → v ∈ a :: l → f u v = (g u ^^ g v)) → xorP f a l = (g a ^^ g (lastP a l))
  | [], a, _ => by simp [xorP, lastP]
  | b :: l, a, h => by
    rw [xorP, h a b (by simp) (by simp), xorP_alike l b (fun u v hu hv => h u v (List.mem_cons_of_mem _ hu) (List.mem_cons_of_mem _ hv)), lastP_cons]
    cases g a <;> cases g b <;> cases g (lastP b l) <;> rfl
theorem xorP_none {f : Pt → Pt → Bool} : ∀ (l : List Pt) (a : Pt), (∀ u v, u ∈ a :: l → v ∈ a :: l → f u v = false) → xorP f a l = false
  | [], a, _ => rfl
  | b :: l, a, h => by
    rw [xorP, h a b (by simp) (by simp), xorP_none l b (fun u v hu hv => h u v (List.mem_cons_of_mem _ hu) (List.mem_cons_of_mem _ hv))]
    rfl
theorem lastP_mem (a : Pt) (l : List Pt) : lastP a l ∈ a :: l := by
  unfold lastP
  rw [List.getLastD_eq_getLast?]
  cases h : l.getLast? with
  | none => simp
  | some z => simp [List.mem_of_getLast? h]
/-- left of all: an edge counts just where it goes over the height. -/
theorem counts_left {p a b : Pt} (hp : validP p = true) (ha : validP a = true) (hb : validP b = true) (h1 : p.x < a.x) (h2 : p.x < b.x) : countsP p a b = (decide (a.y ≤ p.y) ^^ decide (b.y ≤ p.y)) := by
  have key : ∀ a b : Pt, validP a = true → validP b = true → p.x < a.x → p.x < b.x → a.y ≤ p.y → p.y < b.y → turnP a b p = 1 := by
    intro a b ha hb h1 h2 h3 h4
    unfold turnP
    rw [ha, hb, hp]
    simp only [Bool.and_self, if_true]
    rw [sgn_one]
    have e : area a b p = (p.y - a.y) * (b.x - p.x) + (b.y - p.y) * (a.x - p.x) := by unfold area; grind
    rw [e]
    have q1 : 0 ≤ (p.y - a.y) * (b.x - p.x) := Int.mul_nonneg (by omega) (by omega)
    have q2 : 0 < (b.y - p.y) * (a.x - p.x) := Int.mul_pos (by omega) (by omega)
    omega
  unfold countsP
  rw [hp, ha, hb]
  by_cases h : b.y < a.y
  · rw [if_pos h]
    by_cases q1 : b.y ≤ p.y
    · by_cases q2 : p.y < a.y
      · rw [key b a hb ha h2 h1 q1 q2]
        have : ¬ a.y ≤ p.y := by omega
        simp [q1, q2, this]
      · have : a.y ≤ p.y := by omega
        simp [q1, q2, this]
    · have : ¬ a.y ≤ p.y := by omega
      simp [q1, this]
  · rw [if_neg h]
    by_cases q1 : a.y ≤ p.y
    · by_cases q2 : p.y < b.y
      · rw [key a b ha hb h1 h2 q1 q2]
        have : ¬ b.y ≤ p.y := by omega
        simp [q1, q2, this]
      · have : b.y ≤ p.y := by omega
        simp [q1, q2, this]
    · have : ¬ b.y ≤ p.y := by omega
      simp [q1, this]
/-- an edge that counts goes over the height, and to the right of the point. -/
theorem counts_right {p a b : Pt} (h : countsP p a b = true) : (a.y ≤ p.y ∧ p.y < b.y ∨ b.y ≤ p.y ∧ p.y < a.y) ∧ (p.x < a.x ∨ p.x < b.x) ∧ validP p = true ∧ validP a = true ∧ validP b = true := by
  have key : ∀ a b : Pt, turnP a b p = 1 → a.y ≤ p.y → p.y < b.y → p.x < a.x ∨ p.x < b.x := by
    intro a b ht h3 h4
    unfold turnP at ht
    split at ht
    · rw [sgn_one] at ht
      have e : area a b p = (p.y - a.y) * (b.x - p.x) + (b.y - p.y) * (a.x - p.x) := by unfold area; grind
      rw [e] at ht
      by_cases q : p.x < a.x ∨ p.x < b.x
      · exact q
      · have q1 : (p.y - a.y) * (b.x - p.x) ≤ 0 := Int.mul_nonpos_of_nonneg_of_nonpos (by omega) (by omega)
        have q2 : (b.y - p.y) * (a.x - p.x) ≤ 0 := Int.mul_nonpos_of_nonneg_of_nonpos (by omega) (by omega)
        omega
    · cases ht
  unfold countsP at h
  simp only [Bool.and_eq_true] at h
  obtain ⟨⟨⟨hp, ha⟩, hb⟩, h⟩ := h
  by_cases q : b.y < a.y
  · rw [if_pos q] at h
    simp only [Bool.and_eq_true, decide_eq_true_eq] at h
    obtain ⟨⟨h1, h2⟩, h3⟩ := h
    have := key b a h3 h1 h2
    exact ⟨.inr ⟨h1, h2⟩, this.symm, hp, ha, hb⟩
  · rw [if_neg q] at h
    simp only [Bool.and_eq_true, decide_eq_true_eq] at h
    obtain ⟨⟨h1, h2⟩, h3⟩ := h
    exact ⟨.inl ⟨h1, h2⟩, key a b h3 h1 h2, hp, ha, hb⟩
theorem xorP_some {f : Pt → Pt → Bool} : ∀ (l : List Pt) (a : Pt), xorP f a l = true → ∃ u v, u ∈ a :: l ∧ v ∈ a :: l ∧ f u v = true
  | [], a, h => by cases h
  | b :: l, a, h => by
    by_cases q : f a b = true
    · exact ⟨a, b, by simp, by simp, q⟩
    · rw [xorP] at h
      have q : f a b = false := by simpa using q
      rw [q] at h
      obtain ⟨u, v, hu, hv, hf⟩ := xorP_some l b (by simpa using h)
      exact ⟨u, v, List.mem_cons_of_mem _ hu, List.mem_cons_of_mem _ hv, hf⟩
/-- what is in a ring is in any box of its points. -/
theorem in_box {p : Pt} {l : List Pt} {lx ly hx hy : Int} (h : inP p l = true) (hall : ∀ v ∈ l, validP v = true) (hb : ∀ v ∈ l, lx ≤ v.x ∧ v.x ≤ hx ∧ ly ≤ v.y ∧ v.y ≤ hy) : lx ≤ p.x ∧ p.x < hx ∧ ly ≤ p.y ∧ p.y < hy := by
  cases l with
  | nil => cases h
  | cons a m =>
    have h : xorP (countsP p) (lastP a m) (a :: m) = true := h
    have hm : ∀ v, v ∈ lastP a m :: a :: m → v ∈ a :: m := fun v hv => by
      rcases List.mem_cons.1 hv with rfl | hv
      · exact lastP_mem a m
      · exact hv
    obtain ⟨u, v, hu, hv, hf⟩ := xorP_some _ _ h
    obtain ⟨h1, h2, hp, _, _⟩ := counts_right hf
    have b1 := hb u (hm u hu)
    have b2 := hb v (hm v hv)
    refine ⟨?_, by omega, by omega, by omega⟩
    by_cases q : lx ≤ p.x
    · exact q
    exfalso
    -- all edges that may be count by the height alone
    have hval : ∀ v, v ∈ a :: m → p.x < v.x := fun v hv => by have := hb v hv; omega
    have := xorP_alike (f := countsP p) (g := fun v => decide (v.y ≤ p.y)) (a :: m) (lastP a m) (fun u v hu hv => counts_left hp (hall u (hm u hu)) (hall v (hm v hv)) (hval u (hm u hu)) (hval v (hm v hv)))
    rw [h, lastP_cons] at this
    simp at this
theorem xorP_append {f : Pt → Pt → Bool} : ∀ (l : List Pt) (a : Pt) (m : List Pt), xorP f a (l ++ m) = (xorP f a l ^^ xorP f (lastP a l) m)
  | [], a, m => by simp [xorP, lastP]
  | b :: l, a, m => by
    rw [List.cons_append, xorP, xorP_append l b m, xorP, lastP_cons]
    cases f a b <;> simp
theorem lastP_append (a : Pt) (l : List Pt) (b : Pt) : lastP a (l ++ [b]) = b := by simp [lastP, List.getLastD_eq_getLast?]
/-- a path, there and back. -/
theorem xorP_reverse {f : Pt → Pt → Bool} (hf : ∀ a b, f a b = f b a) : ∀ (l : List Pt) (a : Pt), xorP f (lastP a l) ((a :: l).reverse.drop 1) = xorP f a l
  | [], a => rfl
  | b :: l, a => by
    have e : (a :: b :: l).reverse.drop 1 = ((b :: l).reverse.drop 1) ++ [a] := by
      simp only [List.reverse_cons]
      rw [List.drop_append_of_le_length (by simp)]
    rw [e, lastP_cons, xorP_append, xorP_reverse hf l b]
    have e2 : lastP (lastP b l) ((b :: l).reverse.drop 1) = b := by
      cases l with
      | nil => rfl
      | cons c l =>
        have : (b :: c :: l).reverse.drop 1 = ((c :: l).reverse.drop 1) ++ [b] := by
          simp only [List.reverse_cons]
          rw [List.drop_append_of_le_length (by simp)]
        rw [this, lastP_append]
    rw [e2, xorP, xorP, hf b a]
    show _ = (f a b ^^ xorP f b l)
    cases f a b <;> cases xorP f b l <;> rfl
theorem area_low (a b p : Pt) : area a b p = (p.y - a.y) * (b.x - p.x) + (b.y - p.y) * (a.x - p.x) := by unfold area; grind
/-- a vertical edge. -/
theorem counts_vert {p a b : Pt} (hp : validP p = true) (ha : validP a = true) (hb : validP b = true) (hx : a.x = b.x) : countsP p a b = ((decide (a.y ≤ p.y) ^^ decide (b.y ≤ p.y)) && decide (p.x < a.x)) := by
  by_cases h : p.x < a.x
  · rw [counts_left hp ha hb h (by omega)]
    simp [h]
  · have : countsP p a b = false := by
      cases q : countsP p a b with
      | false => rfl
      | true => have := counts_right q; omega
    rw [this]
    simp [h]
/-- a level edge. -/
theorem counts_level {p a b : Pt} (hy : a.y = b.y) : countsP p a b = false := by
  cases q : countsP p a b with
  | false => rfl
  | true => have := counts_right q; omega
theorem counts_invalid {p a b : Pt} (hp : validP p = false) : countsP p a b = false := by
  cases q : countsP p a b with
  | false => rfl
  | true => have := (counts_right q).2.2.1; rw [hp] at this; cases this
/-- a box cut by a line: a point of it is in just one of the two. -/
theorem tiles {p low high a b : Pt} {line : List Pt} (hlv : validP low = true) (hhv : validP high = true) (hx : low.x < high.x) (hy : low.y < high.y) (ha : a.x = low.x ∧ low.y ≤ a.y ∧ a.y ≤ high.y) (hb : b.x = high.x ∧ low.y ≤ b.y ∧ b.y ≤ high.y) (hl : lastP a line = b) :
    (inP p (low :: ⟨high.x, low.y⟩ :: (a :: line).reverse) ^^ inP p (high :: ⟨low.x, high.y⟩ :: a :: line)) = (decide (low.x ≤ p.x) && decide (p.x < high.x) && decide (low.y ≤ p.y) && decide (p.y < high.y)) := by
  rw [validP_iff] at hlv hhv
  obtain ⟨c, hc⟩ : ∃ c : Pt, c = ⟨high.x, low.y⟩ := ⟨_, rfl⟩
  obtain ⟨d, hd⟩ : ∃ d : Pt, d = ⟨low.x, high.y⟩ := ⟨_, rfl⟩
  rw [← hc, ← hd]
  have hcx : c.x = high.x := by rw [hc]
  have hcy : c.y = low.y := by rw [hc]
  have hdx : d.x = low.x := by rw [hd]
  have hdy : d.y = high.y := by rw [hd]
  by_cases hp : validP p = true
  · have ev : ∀ v : Pt, (low.x ≤ v.x ∧ v.x ≤ high.x) → (low.y ≤ v.y ∧ v.y ≤ high.y) → validP v = true := fun v h1 h2 => by rw [validP_iff]; omega
    have vl := ev low (by omega) (by omega)
    have vh := ev high (by omega) (by omega)
    have vc := ev c (by omega) (by omega)
    have vd := ev d (by omega) (by omega)
    have va := ev a (by omega) (by omega)
    have vb := ev b (by omega) (by omega)
    have e1 : inP p (low :: c :: (a :: line).reverse) = (countsP p a low ^^ countsP p c b ^^ xorP (countsP p) a line) := by
      have er : (a :: line).reverse = b :: (a :: line).reverse.drop 1 := by
        rw [← hl]
        cases line with
        | nil => rfl
        | cons z l =>
          have : (a :: z :: l).reverse ≠ [] := by simp
          obtain ⟨x, m, hm⟩ := List.exists_cons_of_ne_nil this
          rw [hm, List.drop_one, List.tail_cons]
          have h2 : (a :: z :: l).reverse.head? = some x := by rw [hm]; rfl
          rw [List.head?_reverse] at h2
          unfold lastP
          rw [List.getLastD_eq_getLast?]
          have : (a :: z :: l).getLast? = (z :: l).getLast? := by simp
          rw [this] at h2
          rw [h2]
          rfl
      have el : lastP low (c :: (a :: line).reverse) = a := by
        rw [lastP_cons]
        have : (a :: line).reverse = line.reverse ++ [a] := by simp
        rw [this, lastP_append]
      show xorP (countsP p) (lastP low (c :: (a :: line).reverse)) (low :: c :: (a :: line).reverse) = _
      rw [el, er, xorP, xorP, xorP]
      have := xorP_reverse (f := countsP p) (countsP_comm p) line a
      rw [hl] at this
      rw [this, counts_level (a := low) (b := c) (by omega)]
      cases countsP p a low <;> cases countsP p c b <;> cases xorP (countsP p) a line <;> rfl
    have e2 : inP p (high :: d :: a :: line) = (countsP p b high ^^ countsP p d a ^^ xorP (countsP p) a line) := by
      show xorP (countsP p) (lastP high (d :: a :: line)) (high :: d :: a :: line) = _
      rw [lastP_cons, lastP_cons, hl, xorP, xorP, xorP, counts_level (a := high) (b := d) (by omega)]
      cases countsP p b high <;> cases countsP p d a <;> cases xorP (countsP p) a line <;> rfl
    rw [e1, e2, counts_vert hp va vl (by omega), counts_vert hp vc vb (by omega), counts_vert hp vb vh (by omega), counts_vert hp vd va (by omega)]
    rw [hcx, hcy, hdx, hdy, ha.1, hb.1]
    generalize xorP (countsP p) a line = t
    by_cases q1 : p.x < low.x
    · have q2 : p.x < high.x := by omega
      have q3 : ¬ low.x ≤ p.x := by omega
      simp only [q1, q2, q3, decide_true, decide_false, Bool.and_true, Bool.false_and]
      cases decide (a.y ≤ p.y) <;> cases decide (b.y ≤ p.y) <;> cases decide (low.y ≤ p.y) <;> cases decide (high.y ≤ p.y) <;> cases t <;> rfl
    · have q3 : low.x ≤ p.x := by omega
      by_cases q2 : p.x < high.x
      · simp only [q1, q2, q3, decide_true, decide_false, Bool.and_true, Bool.true_and, Bool.and_false]
        have q5 : decide (p.y < high.y) = !decide (high.y ≤ p.y) := by by_cases h : p.y < high.y <;> simp [h] <;> omega
        rw [q5]
        by_cases q4 : low.y ≤ p.y
        · simp only [q4, decide_true]
          cases decide (a.y ≤ p.y) <;> cases decide (b.y ≤ p.y) <;> cases decide (high.y ≤ p.y) <;> cases t <;> rfl
        · have q6 : ¬ high.y ≤ p.y := by omega
          have q7 : ¬ b.y ≤ p.y := by omega
          simp only [q4, q6, q7, decide_false]
          cases decide (a.y ≤ p.y) <;> cases t <;> rfl
      · simp only [q1, q2, q3, decide_true, decide_false, Bool.and_false, Bool.false_and]
        cases t <;> rfl
  · have hp : validP p = false := by simpa using hp
    have hn : ∀ l a, xorP (countsP p) a l = false := fun l a => xorP_none l a (fun _ _ _ _ => counts_invalid hp)
    have e1 : inP p (low :: c :: (a :: line).reverse) = false := hn _ _
    have e2 : inP p (high :: d :: a :: line) = false := hn _ _
    rw [e1, e2]
    have : ¬ (low.x ≤ p.x ∧ p.x < high.x ∧ low.y ≤ p.y ∧ p.y < high.y) := fun h => by
      have : validP p = true := by rw [validP_iff]; omega
      rw [hp] at this
      cases this
    simp
    omega
end Go.Geo

/- plain law of segments that meet: no program in sight -/
namespace Go.Geo
def betw (n a b : Int) : Bool := decide (min a b ≤ n) && decide (n ≤ max a b)
def onP (p a b : Pt) : Bool := validP p && validP a && validP b && betw p.x a.x b.x && betw p.y a.y b.y && decide (turnP a b p = 0)
def mayP (a b : Pt) : Bool := validP a && validP b && decide (a ≠ b)
/-- those of a list that are not there yet, behind it. -/
def gatherP : List Pt → List Pt → List Pt
  | out, [] => out
  | out, p :: l => gatherP (if p ∈ out then out else out ++ [p]) l
def endsP (a b c d : Pt) : List Pt := if mayP a b && mayP c d then gatherP (gatherP [] ([a, b].filter (fun p => onP p c d))) ([c, d].filter (fun p => onP p a b)) else []
def crossP (a b c d : Pt) : Bool := decide (turnP a b c * turnP a b d < 0) && decide (turnP c d a * turnP c d b < 0)
/-- 0 none, 1 touch, 2 cross, 3 over; none where an edge is none. -/
def meetK (a b c d : Pt) : Nat := if mayP a b && mayP c d then (match (endsP a b c d).length with
  | 0 => if crossP a b c d then 2 else 0
  | 1 => 1
  | _ => 3) else 0
theorem sgn_range (n : Int) : sgn n = -1 ∨ sgn n = 0 ∨ sgn n = 1 := by unfold sgn; split <;> (try split) <;> simp
theorem turnP_range (a b c : Pt) : turnP a b c = -1 ∨ turnP a b c = 0 ∨ turnP a b c = 1 := by
  unfold turnP
  split
  · exact sgn_range _
  · simp
theorem sgn_mul {m n : Int} (h : sgn m * sgn n < 0) : (0 < m ∧ n < 0) ∨ (m < 0 ∧ 0 < n) := by
  unfold sgn at h
  repeat' split at h
  all_goals omega
theorem gatherP_mem : ∀ (l out : List Pt) (p : Pt), p ∈ gatherP out l → p ∈ out ∨ p ∈ l
  | [], out, p, h => .inl h
  | q :: l, out, p, h => by
    rcases gatherP_mem l _ p h with h | h
    · split at h
      · exact .inl h
      · rcases List.mem_append.1 h with h | h
        · exact .inl h
        · exact .inr (by rw [List.mem_singleton.1 h]; simp)
    · exact .inr (List.mem_cons_of_mem _ h)
/-- two spans have a number in common. -/
def spans (a b c d : Int) : Prop := max (min a b) (min c d) ≤ min (max a b) (max c d)
theorem spans_of {n a b c d : Int} (h1 : betw n a b = true) (h2 : betw n c d = true) : spans a b c d := by
  simp only [betw, Bool.and_eq_true, decide_eq_true_eq] at h1 h2
  unfold spans
  omega
theorem betw_left (a b : Int) : betw a a b = true := by simp only [betw, Bool.and_eq_true, decide_eq_true_eq]; omega
theorem betw_right (a b : Int) : betw b a b = true := by simp only [betw, Bool.and_eq_true, decide_eq_true_eq]; omega
theorem cross_core {A B C D M m ax bx cx dx : Int} (hA : 0 < A) (hB : B < 0) (hC : C < 0) (hD : 0 < D) (he : A * dx - B * cx = D * ax - C * bx) (hs : D - C = A - B) (h1 : ax ≤ M) (h2 : bx ≤ M) (h3 : m ≤ cx) (h4 : m ≤ dx) : m ≤ M := by
  by_cases q : m ≤ M
  · exact q
  exfalso
  have k1 : A * m ≤ A * dx := Int.mul_le_mul_of_nonneg_left h4 (by omega)
  have k2 : (-B) * m ≤ (-B) * cx := Int.mul_le_mul_of_nonneg_left h3 (by omega)
  have k3 : D * ax ≤ D * M := Int.mul_le_mul_of_nonneg_left h1 (by omega)
  have k4 : (-C) * bx ≤ (-C) * M := Int.mul_le_mul_of_nonneg_left h2 (by omega)
  have k5 : (A - B) * M < (A - B) * m := Int.mul_lt_mul_of_pos_left (by omega) (by omega)
  have e1 : (A - B) * m = A * m + (-B) * m := by grind
  have e2 : (A - B) * M = D * M + (-C) * M := by rw [← hs]; grind
  have e3 : (-B) * cx = -(B * cx) := by grind
  have e4 : (-C) * bx = -(C * bx) := by grind
  omega
theorem cross_core2 {A B C D M m ax bx cx dx : Int} (hA : 0 < A) (hB : B < 0) (hC : C < 0) (hD : 0 < D) (he : A * dx - B * cx = D * ax - C * bx) (hs : D - C = A - B) (h1 : m ≤ ax) (h2 : m ≤ bx) (h3 : cx ≤ M) (h4 : dx ≤ M) : m ≤ M := by
  have := cross_core (A := A) (B := B) (C := C) (D := D) (M := -m) (m := -M) (ax := -ax) (bx := -bx) (cx := -cx) (dx := -dx) hA hB hC hD (by grind) hs (by omega) (by omega) (by omega) (by omega)
  omega
theorem cross_spans {A B C D ax bx cx dx : Int} (hAB : (0 < A ∧ B < 0) ∨ (A < 0 ∧ 0 < B)) (hCD : (0 < C ∧ D < 0) ∨ (C < 0 ∧ 0 < D)) (he : A * dx - B * cx = D * ax - C * bx) (hs : D - C = A - B) : spans ax bx cx dx := by
  unfold spans
  rcases hAB with ⟨hA, hB⟩ | ⟨hA, hB⟩
  · have hCD : C < 0 ∧ 0 < D := by omega
    have k1 := cross_core (M := max ax bx) (m := min cx dx) hA hB hCD.1 hCD.2 he hs (by omega) (by omega) (by omega) (by omega)
    have k2 := cross_core2 (m := min ax bx) (M := max cx dx) hA hB hCD.1 hCD.2 he hs (by omega) (by omega) (by omega) (by omega)
    omega
  · have hCD : 0 < C ∧ D < 0 := by omega
    have k1 := cross_core (A := -A) (B := -B) (C := -C) (D := -D) (ax := ax) (bx := bx) (cx := cx) (dx := dx) (M := max ax bx) (m := min cx dx) (by omega) (by omega) (by omega) (by omega) (by grind) (by omega) (by omega) (by omega) (by omega) (by omega)
    have k2 := cross_core2 (A := -A) (B := -B) (C := -C) (D := -D) (ax := ax) (bx := bx) (cx := cx) (dx := dx) (m := min ax bx) (M := max cx dx) (by omega) (by omega) (by omega) (by omega) (by grind) (by omega) (by omega) (by omega) (by omega) (by omega)
    omega
theorem area_x (a b c d : Pt) : area a b c * d.x - area a b d * c.x = area c d b * a.x - area c d a * b.x := by unfold area; grind
theorem area_y (a b c d : Pt) : area a b c * d.y - area a b d * c.y = area c d b * a.y - area c d a * b.y := by unfold area; grind
theorem area_s (a b c d : Pt) : area c d b - area c d a = area a b c - area a b d := by unfold area; grind
/-- where edges cross, or lie one over the other, their boxes have a point in common. -/
theorem meet_spans {a b c d : Pt} (h : 2 ≤ meetK a b c d) : spans a.x b.x c.x d.x ∧ spans a.y b.y c.y d.y := by
  unfold meetK at h
  split at h
  · rename_i hm
    have hv : validP a = true ∧ validP b = true ∧ validP c = true ∧ validP d = true := by
      simp only [mayP, Bool.and_eq_true] at hm
      exact ⟨hm.1.1.1, hm.1.1.2, hm.2.1.1, hm.2.1.2⟩
    split at h
    · split at h
      · rename_i hc
        simp only [crossP, Bool.and_eq_true, decide_eq_true_eq] at hc
        unfold turnP at hc
        rw [hv.1, hv.2.1, hv.2.2.1, hv.2.2.2] at hc
        simp only [Bool.and_self, if_true] at hc
        have k1 := sgn_mul hc.1
        have k2 := sgn_mul hc.2
        exact ⟨cross_spans k1 k2 (area_x a b c d) (area_s a b c d), cross_spans k1 k2 (area_y a b c d) (area_s a b c d)⟩
      · omega
    · omega
    · rename_i h0 h1
      have : ∃ e, e ∈ endsP a b c d := by
        cases he : endsP a b c d with
        | nil => rw [he] at h0; exact absurd rfl h0
        | cons e l => exact ⟨e, by simp⟩
      obtain ⟨e, he⟩ := this
      unfold endsP at he
      rw [if_pos hm] at he
      have key : ∀ e p q r s : Pt, e ∈ [p, q].filter (fun z => onP z r s) → (betw e.x p.x q.x = true ∧ betw e.x r.x s.x = true) ∧ (betw e.y p.y q.y = true ∧ betw e.y r.y s.y = true) := by
        intro e p q r s he
        obtain ⟨h1, h2⟩ := List.mem_filter.1 he
        simp only [onP, Bool.and_eq_true] at h2
        rcases List.mem_cons.1 h1 with rfl | h1
        · exact ⟨⟨betw_left _ _, h2.1.1.2⟩, betw_left _ _, h2.1.2⟩
        · obtain rfl := List.mem_singleton.1 h1
          exact ⟨⟨betw_right _ _, h2.1.1.2⟩, betw_right _ _, h2.1.2⟩
      rcases gatherP_mem _ _ _ he with he | he
      · rcases gatherP_mem _ _ _ he with he | he
        · cases he
        · have := key e a b c d he
          exact ⟨spans_of this.1.1 this.1.2, spans_of this.2.1 this.2.2⟩
      · have := key e c d a b he
        exact ⟨spans_of this.1.2 this.1.1, spans_of this.2.2 this.2.1⟩
  · omega
end Go.Geo

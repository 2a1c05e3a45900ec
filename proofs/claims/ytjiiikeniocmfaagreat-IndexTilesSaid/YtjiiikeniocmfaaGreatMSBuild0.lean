/- a region in whatever order whose effects are one chain: one predicate for each stage -/
import Derived.Test.YtjiiikeniocmfaaGreatMRegS
import Derived.Test.YtjiiikeniocmfaaGreatMQPoint
import Derived.Test.YtjiiikeniocmfaaGreatMGeo8
import Derived.Test.YtjiiikeniocmfaaGreatMSlabW
import Derived.Test.YtjiiikeniocmfaaGreatMQRing1
set_option linter.unusedSimpArgs false
set_option linter.unusedVariables false
namespace Go.Proofs.YtjiiikeniocmfaaGreat
open Go Go.RowKit
structure ChainJ (val : Nat → Option Value) (chain : List Nat) (S : List Value → World → Prop) (L : Nat → Bool) (V : Nat → Value) (w : World) : Prop where
  vals : ∀ i v, val i = some v → L i = true → V i = v
  here : ∃ vs : List Value, vs.length ≤ chain.length ∧ (∀ j, j < chain.length → L (chain.getD j 0) = decide (j < vs.length)) ∧ (∀ j, j < vs.length → V (chain.getD j 0) = vs.getD j undef) ∧ S vs w
theorem ChainJ.start {val : Nat → Option Value} {chain : List Nat} {S : List Value → World → Prop} {V : Nat → Value} {w : World} (h : S [] w) : ChainJ val chain S (fun _ => false) V w :=
  ⟨fun _ _ _ h => (by cases h), [], Nat.zero_le _, fun j _ => by simp, fun j h => absurd h (by simp), h⟩
theorem ChainJ.val {val : Nat → Option Value} {chain : List Nat} {S : List Value → World → Prop} {L : Nat → Bool} {V : Nat → Value} {w w' : World} (h : ChainJ val chain S L V w) (i : Nat) (v : Value) (hc : chain.contains i = false) (hv : (match val i with | some u => u = v | none => True)) (hS : ∀ vs, S vs w → S vs w') : ChainJ val chain S (upd L i true) (upd V i v) w' := by
  obtain ⟨h1, vs, h2, h3, h4, h5⟩ := h
  have hne : ∀ j, j < chain.length → chain.getD j 0 ≠ i := fun j hj e => by
    have : chain.contains i = true := List.contains_iff_mem.2 (by
      rw [← e, List.getD_eq_getElem?_getD, List.getElem?_eq_getElem hj, Option.getD_some]
      exact List.getElem_mem _)
    rw [hc] at this
    cases this
  refine ⟨fun j u hj hl => ?_, vs, h2, fun j hj => by rw [upd_ne _ _ _ _ (hne j hj)]; exact h3 j hj, fun j hj => by rw [upd_ne _ _ _ _ (hne j (by omega))]; exact h4 j hj, hS vs h5⟩
  by_cases hji : j = i
  · subst hji
    rw [upd_at]
    rw [hj] at hv
    exact hv.symm
  · rw [upd_ne _ _ _ _ hji] at hl ⊢
    exact h1 j u hj hl
/-- how far the chain is, at most. -/
theorem ChainJ.upto {val : Nat → Option Value} {chain : List Nat} {S : List Value → World → Prop} {L : Nat → Bool} {V : Nat → Value} {w : World} (h : ChainJ val chain S L V w) (j : Nat) (hj : j < chain.length) (hl : L (chain.getD j 0) = false) : ∃ vs : List Value, vs.length ≤ j ∧ S vs w := by
  obtain ⟨h1, vs, h2, h3, h4, h5⟩ := h
  refine ⟨vs, ?_, h5⟩
  have := h3 j hj
  rw [hl] at this
  have := of_decide_eq_false this.symm
  omega
theorem ChainJ.next {val : Nat → Option Value} {chain : List Nat} {S : List Value → World → Prop} {L : Nat → Bool} {V : Nat → Value} {w : World} (h : ChainJ val chain S L V w) (hn : decide chain.Nodup = true) (j : Nat) (hj : decide (j < chain.length) = true) (hl : L (chain.getD j 0) = false) (hp : j = 0 ∨ L (chain.getD (j - 1) 0) = true) (hv : val (chain.getD j 0) = none) :
    ∃ vs : List Value, vs.length = j ∧ (∀ t, t < j → V (chain.getD t 0) = vs.getD t undef) ∧ S vs w ∧ ∀ v w', S (vs ++ [v]) w' → ChainJ val chain S (upd L (chain.getD j 0) true) (upd V (chain.getD j 0) v) w' := by
  obtain ⟨h1, vs, h2, h3, h4, h5⟩ := h
  have hj := of_decide_eq_true hj
  have hn := of_decide_eq_true hn
  have e1 := h3 j hj
  rw [hl] at e1
  have e1 := of_decide_eq_false e1.symm
  have hlen : vs.length = j := by
    rcases hp with rfl | hp
    · omega
    · by_cases hz : j = 0
      · omega
      · have e2 := h3 (j - 1) (by omega)
        rw [hp] at e2
        have e2 := of_decide_eq_true e2.symm
        omega
  have hne : ∀ t, t < chain.length → t ≠ j → chain.getD t 0 ≠ chain.getD j 0 := fun t ht hne e => by
    rw [List.getD_eq_getElem?_getD, List.getElem?_eq_getElem ht, List.getD_eq_getElem?_getD, List.getElem?_eq_getElem hj, Option.getD_some, Option.getD_some] at e
    exact hne ((List.getElem_inj hn).1 e)
  refine ⟨vs, hlen, fun t ht => h4 t (by omega), h5, fun v w' hS => ⟨fun k u hk hlk => ?_, vs ++ [v], by simp; omega, fun t ht => ?_, fun t ht => ?_, hS⟩⟩
  · have hki : k ≠ chain.getD j 0 := fun e => by subst e; rw [hv] at hk; cases hk
    rw [upd_ne _ _ _ _ hki] at hlk ⊢
    exact h1 k u hk hlk
  · by_cases htj : t = j
    · subst htj
      rw [upd_at]
      simp [hlen]
    · rw [upd_ne _ _ _ _ (hne t ht htj), h3 t ht]
      rw [Bool.eq_iff_iff]
      simp
      omega
  · have ht' : t < j + 1 := by simpa [hlen] using ht
    by_cases htj : t = j
    · subst htj
      rw [upd_at]
      simp [List.getD_eq_getElem?_getD, ← hlen]
    · rw [upd_ne _ _ _ _ (hne t (by omega) htj), h4 t (by omega)]
      simp [List.getD_eq_getElem?_getD, List.getElem?_append_left (show t < vs.length by omega)]
theorem ChainJ.all {val : Nat → Option Value} {chain : List Nat} {S : List Value → World → Prop} {n : Nat} {V : Nat → Value} {w : World} (h : ChainJ val chain S (fun i => decide (i < n)) V w) (hn : chain.all (fun i => decide (i < n)) = true) : ∃ vs : List Value, vs.length = chain.length ∧ (∀ t, t < chain.length → V (chain.getD t 0) = vs.getD t undef) ∧ S vs w := by
  obtain ⟨h1, vs, h2, h3, h4, h5⟩ := h
  have hlen : vs.length = chain.length := by
    by_cases hz : chain.length = 0
    · omega
    · have e := h3 (chain.length - 1) (by omega)
      have hm : chain.getD (chain.length - 1) 0 ∈ chain := by
        rw [List.getD_eq_getElem?_getD, List.getElem?_eq_getElem (by omega), Option.getD_some]
        exact List.getElem_mem _
      have := List.all_eq_true.1 hn _ hm
      rw [this] at e
      have := of_decide_eq_true e.symm
      omega
  exact ⟨vs, hlen, fun t ht => h4 t (by omega), h5⟩
end Go.Proofs.YtjiiikeniocmfaaGreat

/- plain law: slabs stand one on the other, each with an even number of edges: no program in sight -/
namespace Go.Geo
/-- the edges of the i-th slab. -/
def slabI (R : List (List Pt)) (i : Nat) : List (Pt × Pt) := slabE (edgesP R) ((heightsP R).getD i 0)
/-- how many edges of a ring go through a height. -/
def thruL (y : Int) (l : List Pt) : Nat := cntB l.length (fun i => (decide ((l.getD i p0).y ≤ y) ^^ decide ((atP l (i + 1)).y ≤ y)))
theorem up_edge (y : Int) (a b : Pt) : (decide (a.y ≤ y) ^^ decide (b.y ≤ y)) = match edgeP a b with | none => false | some e => upB y e := by
  unfold edgeP
  by_cases h1 : b.y < a.y
  · rw [if_pos h1]
    simp only [upB]
    by_cases h2 : a.y ≤ y
    · rw [decide_eq_true h2, decide_eq_true (by omega : b.y ≤ y), decide_eq_false (by omega : ¬ y < a.y)]; rfl
    · rw [decide_eq_false h2, decide_eq_true (by omega : y < a.y)]; simp
  · rw [if_neg h1]
    by_cases h3 : a.y = b.y
    · rw [if_pos h3, h3]; simp
    · rw [if_neg h3]
      simp only [upB]
      by_cases h2 : b.y ≤ y
      · rw [decide_eq_true h2, decide_eq_true (by omega : a.y ≤ y), decide_eq_false (by omega : ¬ y < b.y)]; rfl
      · rw [decide_eq_false h2, decide_eq_true (by omega : y < b.y)]; simp
theorem slab_thru (y : Int) (l : List Pt) : ((slabL l).filter (upB y)).length = thruL y l := by
  rw [← List.countP_eq_length_filter]
  unfold slabL thruL
  rw [countP_filterMap_range]
  refine cntB_congr _ fun i hi => ?_
  rw [up_edge]
  cases edgeP (l.getD i p0) (atP l (i + 1)) <;> rfl
theorem cyc_count (f : Pt → Pt → Bool) (a : Pt) (m : List Pt) : oddB (cntB (a :: m).length (fun i => f ((a :: m).getD i p0) (atP (a :: m) (i + 1)))) = xorP f (lastP a m) (a :: m) := by
  rw [xorP, xorP_cnt, List.length_cons, cntB, oddB_add, oddB_ite]
  have e1 : atP (a :: m) (m.length + 1) = a := by unfold atP; simp
  rw [e1, ← lastP_getD, Bool.xor_comm]
  congr 1
  congr 1
  refine cntB_congr _ fun i hi => ?_
  rw [atP_lt (by simp; omega)]
theorem thru_even (y : Int) (l : List Pt) : oddB (thruL y l) = false := by
  cases l with
  | nil => rfl
  | cons a m =>
    unfold thruL
    rw [cyc_count (fun u v => decide (u.y ≤ y) ^^ decide (v.y ≤ y)), xorP, xorP_alike (g := fun v => decide (v.y ≤ y)) m a (fun _ _ _ _ => rfl)]
    generalize decide ((lastP a m).y ≤ y) = b1
    generalize decide (a.y ≤ y) = b2
    cases b1 <;> cases b2 <;> rfl
theorem cntB_zero {f : Nat → Bool} : ∀ {n : Nat}, cntB n f = 0 → ∀ i, i < n → f i = false
  | 0, _, i, hi => absurd hi (by omega)
  | n + 1, h, i, hi => by
    rw [cntB] at h
    by_cases hin : i = n
    · subst hin
      cases e : f i with
      | false => rfl
      | true => rw [e] at h; simp at h
    · have h2 : cntB n f = 0 := by split at h <;> omega
      exact cntB_zero h2 i (by omega)
theorem thru_some {y : Int} {l : List Pt} {u v : Pt} (hu : u ∈ l) (hv : v ∈ l) (h1 : u.y ≤ y) (h2 : y < v.y) : 2 ≤ thruL y l := by
  have h0 : thruL y l ≠ 0 := by
    intro h
    have hz := cntB_zero h
    have hall : ∀ i, i < l.length → decide ((l.getD i p0).y ≤ y) = decide ((l.getD 0 p0).y ≤ y) := by
      intro i
      induction i with
      | zero => intro _; rfl
      | succ i ih =>
        intro hi
        have := hz i (by omega)
        rw [atP_lt hi] at this
        rw [← ih (by omega)]
        generalize decide ((l.getD i p0).y ≤ y) = b1 at this ⊢
        generalize decide ((l.getD (i + 1) p0).y ≤ y) = b2 at this ⊢
        cases b1 <;> cases b2 <;> simp at this ⊢
    obtain ⟨i, hi, rfl⟩ := List.mem_iff_getElem.1 hu
    obtain ⟨j, hj, rfl⟩ := List.mem_iff_getElem.1 hv
    have e1 := hall i hi
    have e2 := hall j hj
    rw [List.getD_eq_getElem?_getD, List.getElem?_eq_getElem hi, Option.getD_some] at e1
    rw [List.getD_eq_getElem?_getD, List.getElem?_eq_getElem hj, Option.getD_some] at e2
    rw [decide_eq_true h1] at e1
    rw [decide_eq_false (by omega)] at e2
    rw [← e1] at e2
    cases e2
  have h1 := thru_even y l
  unfold oddB at h1
  have := of_decide_eq_false h1
  omega
/-- a ring that may be is not level. -/
theorem ring_uneven {l : List Pt} (h : (ringCheckP l).1 = 0) (y : Int) : ∃ v ∈ l, v.y ≠ y := by
  have h3 := (ring_ok h).1
  have hs := sign_ne h
  unfold signP at hs
  rw [if_neg (by omega)] at hs
  apply Classical.byContradiction
  intro hno
  have hall : ∀ v ∈ l, v.y = y := fun v hv => Classical.byContradiction fun hne => hno ⟨v, hv, hne⟩
  have e1 := hall _ (atP_memP (l := l) (i := leastP l + l.length - 1) (by omega))
  have e2 := hall _ (getD_memP (leastP_lt (l := l) (by omega)))
  have e3 := hall _ (atP_memP (l := l) (i := leastP l + 1) (by omega))
  refine hs ?_
  unfold turnP
  split
  · rw [sgn_zero]
    unfold area
    rw [e1, e2, e3]
    simp
  · rfl
def thruR (y : Int) (R : List (List Pt)) : Nat := (R.map (thruL y)).sum
theorem slab_thruR (y : Int) : ∀ R : List (List Pt), (slabE (edgesP R) y).length = thruR y R
  | [] => rfl
  | l :: R => by
    have ih := slab_thruR y R
    unfold slabE edgesP thruR at *
    rw [List.flatMap_cons, List.filter_append, List.length_append, List.map_cons, List.sum_cons, ih, slab_thru]
theorem thruR_le {y : Int} {l : List Pt} : ∀ {R : List (List Pt)}, l ∈ R → thruL y l ≤ thruR y R
  | [], h => by cases h
  | m :: R, h => by
    unfold thruR
    rw [List.map_cons, List.sum_cons]
    rcases List.mem_cons.1 h with rfl | h
    · omega
    · have := thruR_le (y := y) h
      unfold thruR at this
      omega
theorem heights_ring {R : List (List Pt)} {z : Int} (h : z ∈ heightsP R) : ∃ l ∈ R, ∃ v ∈ l, v.y = z := by
  obtain ⟨v, hv, e⟩ := List.mem_map.1 ((heights_mem R z).1 h)
  obtain ⟨l, hl, hv⟩ := List.mem_flatten.1 hv
  exact ⟨l, hl, v, hv, e⟩
theorem mem_heights {R : List (List Pt)} {l : List Pt} {v : Pt} (hl : l ∈ R) (hv : v ∈ l) : v.y ∈ heightsP R := (heights_mem R _).2 (List.mem_map_of_mem (List.mem_flatten.2 ⟨l, hl, hv⟩))
theorem heights_two {R : List (List Pt)} (h : (regionCheckP R).1 = 0) : 2 ≤ (heightsP R).length := by
  obtain ⟨h1, _, _, h4⟩ := region_ok h
  obtain ⟨l, hl⟩ : ∃ l, l ∈ R := by
    cases R with
    | nil => simp at h1
    | cons l R => exact ⟨l, by simp⟩
  have hr := h4 l hl
  have h3 := (ring_ok hr).1
  obtain ⟨u, hu⟩ : ∃ u, u ∈ l := by
    cases l with
    | nil => simp at h3
    | cons u l => exact ⟨u, by simp⟩
  obtain ⟨v, hv, hne⟩ := ring_uneven hr u.y
  obtain ⟨i, hi, ei⟩ := mem_getI (mem_heights hl hu)
  obtain ⟨j, hj, ej⟩ := mem_getI (mem_heights hl hv)
  have : i ≠ j := fun e => hne (by rw [← ei, ← ej, e])
  omega
theorem slab_first {R : List (List Pt)} (h : (regionCheckP R).1 = 0) : 2 ≤ (slabI R 0).length := by
  have hn := heights_two h
  have hs := heights_sorted R
  obtain ⟨l, hl, u, hu, e⟩ := heights_ring (getD_memI (H := heightsP R) (j := 0) (by omega))
  obtain ⟨v, hv, hne⟩ := ring_uneven ((region_ok h).2.2.2 l hl) u.y
  obtain ⟨j, hj, ej⟩ := mem_getI (mem_heights hl hv)
  have hj0 : j ≠ 0 := fun e2 => hne (by rw [← ej, e2, e])
  have := sorted_lt hs (i := 0) (j := j) (by omega) hj
  unfold slabI
  rw [slab_thruR]
  exact Nat.le_trans (thru_some hu hv (by omega) (by omega)) (thruR_le hl)
end Go.Geo

/- the struct that slab.Build fills: its rows, and how they grow -/
set_option linter.unusedSimpArgs false
set_option linter.unusedVariables false
namespace Go.Proofs.YtjiiikeniocmfaaGreat
open Go.RowKit Go.Geo
/-- the rows of a *Slabs at block g: all behind it, none lies in another. -/
structure SBo (W : World) (g : Nat) (hv ov ev : Value) (H O : List Int) (F : List Edg) (w : World) : Prop where
  h : OwnI w (g + 1) hv H
  o : OwnI w (g + 1) ov O
  e : OwnE w (g + 1) ev F
  ap : ∀ k, hv.ownBlock = some k → ov.ownBlock ≠ some k
  below : Below g W w
  lt : g < w.heap.size
def SBr (g : Nat) (hv ov ev : Value) (w : World) : Prop := w.heap[g]? = some (.cells #[.bool true, hv, ov, ev] 134 (0, 0))
theorem SBo.later {W w w' : World} {g : Nat} {hv ov ev : Value} {H O : List Int} {F : List Edg} (h : SBo W g hv ov ev H O F w) (hb : Below w.heap.size w w') : SBo W g hv ov ev H O F w' :=
  ⟨h.h.later hb, h.o.later hb, h.e.later hb, h.ap, h.below.trans (hb.mono (Nat.le_of_lt h.lt)), Nat.lt_of_lt_of_le h.lt hb.size⟩
theorem SBr.later {w w' : World} {g : Nat} {hv ov ev : Value} (h : SBr g hv ov ev w) (hb : Below w.heap.size w w') : SBr g hv ov ev w' := (hb.block g (heap_lt' h)).trans h
theorem SBr.cell {w : World} {g : Nat} {hv ov ev : Value} (h : SBr g hv ov ev w) : w.cell? ⟨g, 0, none⟩ = some (.bool true) ∧ w.cell? ⟨g, 1, none⟩ = some hv ∧ w.cell? ⟨g, 2, none⟩ = some ov ∧ w.cell? ⟨g, 3, none⟩ = some ev :=
  ⟨cell_of_row _ _ _ _ _ _ h, cell_of_row _ _ _ _ _ _ h, cell_of_row _ _ _ _ _ _ h, cell_of_row _ _ _ _ _ _ h⟩
theorem SBr.frozen {w : World} {g : Nat} {hv ov ev : Value} (h : SBr g hv ov ev w) (k : Nat) : w.frozen? ⟨g, k, none⟩ = false := frozen_of_row _ _ _ _ _ h
theorem own_lt {w : World} {base e s n : Nat} {v : Value} {xs : List Value} (h : w.ownsRow base e s v n xs) {k : Nat} (hk : v.ownBlock = some k) : base ≤ k ∧ k < w.heap.size := h.lt k hk
theorem grown_other {w w' : World} {base e s n : Nat} {v : Value} {xs : List Value} {ob : Option Nat} (h : w.ownsRow base e s v n xs) (hg : w.grownBy w' ob) (hne : ∀ k, v.ownBlock = some k → ob ≠ some k) : w'.ownsRow base e s v n xs :=
  ownsRow_move h fun k hk => hg.block k (h.lt k hk).2 (fun e => hne k hk (e ▸ rfl))
theorem SBr.grown {w w' : World} {g : Nat} {hv ov ev : Value} {ob : Option Nat} (h : SBr g hv ov ev w) (hg : w.grownBy w' ob) (hne : ∀ k, ob = some k → g < k) : SBr g hv ov ev w' :=
  (hg.block g (heap_lt' h) (fun e => by have := hne g e.symm; omega)).trans h
theorem SBo.growH {W w w' : World} {g : Nat} {hv ov ev v' : Value} {H H' O : List Int} {F : List Edg} (h : SBo W g hv ov ev H O F w) (ho : OwnI w' (g + 1) v' H') (hg : w.grownBy w' hv.ownBlock) (hf : ∀ k, v'.ownBlock = some k → w.heap.size ≤ k ∨ hv.ownBlock = some k) : SBo W g v' ov ev H' O F w' := by
  refine ⟨ho, grown_other h.o hg (fun k hk e => h.ap k e hk), grown_other h.e hg (fun k hk e => ?_), fun k hk e => ?_, h.below.grown hg (Nat.le_of_lt h.lt) (fun k hk => by have := (own_lt h.h hk).1; omega), Nat.lt_of_lt_of_le h.lt hg.size⟩
  · rcases own_apart (by decide) h.h h.e with h1 | h1
    · rw [h1] at hk; cases hk
    · exact h1 (hk.trans e.symm)
  · rcases hf k hk with h1 | h1
    · have := (own_lt h.o e).2; omega
    · exact h.ap k h1 e
theorem SBo.growO {W w w' : World} {g : Nat} {hv ov ev v' : Value} {H O O' : List Int} {F : List Edg} (h : SBo W g hv ov ev H O F w) (ho : OwnI w' (g + 1) v' O') (hg : w.grownBy w' ov.ownBlock) (hf : ∀ k, v'.ownBlock = some k → w.heap.size ≤ k ∨ ov.ownBlock = some k) : SBo W g hv v' ev H O' F w' := by
  refine ⟨grown_other h.h hg (fun k hk e => h.ap k hk e), ho, grown_other h.e hg (fun k hk e => ?_), fun k hk e => ?_, h.below.grown hg (Nat.le_of_lt h.lt) (fun k hk => by have := (own_lt h.o hk).1; omega), Nat.lt_of_lt_of_le h.lt hg.size⟩
  · rcases own_apart (by decide) h.o h.e with h1 | h1
    · rw [h1] at hk; cases hk
    · exact h1 (hk.trans e.symm)
  · rcases hf k e with h1 | h1
    · have := (own_lt h.h hk).2; omega
    · exact h.ap k hk h1
theorem SBo.growE {W w w' : World} {g : Nat} {hv ov ev v' : Value} {H O : List Int} {F F' : List Edg} (h : SBo W g hv ov ev H O F w) (ho : OwnE w' (g + 1) v' F') (hg : w.grownBy w' ev.ownBlock) : SBo W g hv ov v' H O F' w' := by
  refine ⟨grown_other h.h hg (fun k hk e => ?_), grown_other h.o hg (fun k hk e => ?_), ho, h.ap, h.below.grown hg (Nat.le_of_lt h.lt) (fun k hk => by have := (own_lt h.e hk).1; omega), Nat.lt_of_lt_of_le h.lt hg.size⟩
  · rcases own_apart (by decide) h.h h.e with h1 | h1
    · rw [h1] at e; cases e
    · exact h1 (e.trans hk.symm)
  · rcases own_apart (by decide) h.o h.e with h1 | h1
    · rw [h1] at e; cases e
    · exact h1 (e.trans hk.symm)
theorem SBo.set {W w : World} {g o : Nat} {hv ov ev u : Value} {H O : List Int} {F : List Edg} (h : SBo W g hv ov ev H O F w) : SBo W g hv ov ev H O F (w.setCell ⟨g, o, none⟩ u) := by
  have hk : ∀ k, g + 1 ≤ k → (w.setCell ⟨g, o, none⟩ u).heap[k]? = w.heap[k]? := fun k hk => Below.heap_setCell _ _ _ _ (by simp only; omega)
  exact ⟨ownsRow_move h.h fun k e => hk k (own_lt h.h e).1, ownsRow_move h.o fun k e => hk k (own_lt h.o e).1, ownsRow_move h.e fun k e => hk k (own_lt h.e e).1, h.ap, h.below.setCell (p := ⟨g, o, none⟩) (Nat.le_refl _) _, by
    have := ((Below.refl g w).setCell (p := ⟨g, o, none⟩) (Nat.le_refl _) u).size
    exact Nat.lt_of_lt_of_le h.lt this⟩
theorem SBr.setH {w : World} {g : Nat} {hv ov ev u : Value} (h : SBr g hv ov ev w) : SBr g u ov ev (w.setCell ⟨g, 1, none⟩ u) := heap_setCell_same _ _ 1 _ _ u h
theorem SBr.setO {w : World} {g : Nat} {hv ov ev u : Value} (h : SBr g hv ov ev w) : SBr g hv u ev (w.setCell ⟨g, 2, none⟩ u) := heap_setCell_same _ _ 2 _ _ u h
theorem SBr.setE {w : World} {g : Nat} {hv ov ev u : Value} (h : SBr g hv ov ev w) : SBr g hv ov u (w.setCell ⟨g, 3, none⟩ u) := heap_setCell_same _ _ 3 _ _ u h
/-- the stages of 's.heights = append(s.heights, y)', of the offsets, of the edges. -/
def StH (W : World) (g : Nat) (hv ov ev : Value) (H O : List Int) (F : List Edg) (y : Int) (C : World → Prop) : List Value → World → Prop
  | [], w => SBr g hv ov ev w ∧ SBo W g hv ov ev H O F w ∧ C w
  | [a], w => SBr g hv ov ev w ∧ SBo W g hv ov ev H O F w ∧ ∃ k, a = .slice (some ⟨k, 0, none⟩) 1 1 ∧ IsInts w (some ⟨k, 0, none⟩) 1 1 [y]
  | [_, b], w => SBr g hv ov ev w ∧ SBo W g b ov ev (H ++ [y]) O F w
  | [_, b, _], w => SBr g b ov ev w ∧ SBo W g b ov ev (H ++ [y]) O F w
  | _, _ => False
/-- the same when heights and edges stand: what was there stays, but for the struct itself. -/
structure SB2 (W WE : World) (g : Nat) (ov ev : Value) (O : List Int) (F : List Edg) (w : World) : Prop where
  o : OwnI w WE.heap.size ov O
  e : OwnE w WE.heap.size ev F
  keep : ∀ k, k < WE.heap.size → k ≠ g → w.heap[k]? = WE.heap[k]?
  below : Below g W w
  size : WE.heap.size ≤ w.heap.size
  glt : g < WE.heap.size
theorem SB2.later {W WE w w' : World} {g : Nat} {ov ev : Value} {O : List Int} {F : List Edg} (h : SB2 W WE g ov ev O F w) (hb : Below w.heap.size w w') : SB2 W WE g ov ev O F w' :=
  ⟨h.o.later hb, h.e.later hb, fun k hk hne => (hb.block k (Nat.lt_of_lt_of_le hk h.size)).trans (h.keep k hk hne), h.below.trans (hb.mono (Nat.le_of_lt (Nat.lt_of_lt_of_le h.glt h.size))), Nat.le_trans h.size hb.size, h.glt⟩
theorem SB2.growO {W WE w w' : World} {g : Nat} {ov ev v' : Value} {O O' : List Int} {F : List Edg} (h : SB2 W WE g ov ev O F w) (ho : OwnI w' WE.heap.size v' O') (hg : w.grownBy w' ov.ownBlock) : SB2 W WE g v' ev O' F w' := by
  have hob : ∀ k, ov.ownBlock = some k → WE.heap.size ≤ k := fun k hk => (own_lt h.o hk).1
  refine ⟨ho, grown_other h.e hg (fun k hk e => ?_), fun k hk hne => (hg.block k (Nat.lt_of_lt_of_le hk h.size) (fun e => by have := hob k e.symm; omega)).trans (h.keep k hk hne), h.below.grown hg (Nat.le_of_lt (Nat.lt_of_lt_of_le h.glt h.size)) (fun k hk => by have := hob k hk; have := h.glt; omega), Nat.le_trans h.size hg.size, h.glt⟩
  rcases own_apart (by decide) h.o h.e with h1 | h1
  · rw [h1] at hk; cases hk
  · exact h1 (hk.trans e.symm)
theorem SB2.growE {W WE w w' : World} {g : Nat} {ov ev v' : Value} {O : List Int} {F F' : List Edg} (h : SB2 W WE g ov ev O F w) (ho : OwnE w' WE.heap.size v' F') (hg : w.grownBy w' ev.ownBlock) : SB2 W WE g ov v' O F' w' := by
  have hob : ∀ k, ev.ownBlock = some k → WE.heap.size ≤ k := fun k hk => (own_lt h.e hk).1
  refine ⟨grown_other h.o hg (fun k hk e => ?_), ho, fun k hk hne => (hg.block k (Nat.lt_of_lt_of_le hk h.size) (fun e => by have := hob k e.symm; omega)).trans (h.keep k hk hne), h.below.grown hg (Nat.le_of_lt (Nat.lt_of_lt_of_le h.glt h.size)) (fun k hk => by have := hob k hk; have := h.glt; omega), Nat.le_trans h.size hg.size, h.glt⟩
  rcases own_apart (by decide) h.o h.e with h1 | h1
  · rw [h1] at e; cases e
  · exact h1 (e.trans hk.symm)
theorem SB2.set {W WE w : World} {g o : Nat} {ov ev u : Value} {O : List Int} {F : List Edg} (h : SB2 W WE g ov ev O F w) : SB2 W WE g ov ev O F (w.setCell ⟨g, o, none⟩ u) := by
  have hk : ∀ k, k ≠ g → (w.setCell ⟨g, o, none⟩ u).heap[k]? = w.heap[k]? := fun k hk => Below.heap_setCell _ _ _ _ hk
  have hs := ((Below.refl g w).setCell (p := ⟨g, o, none⟩) (Nat.le_refl _) u).size
  have hglt := h.glt
  exact ⟨ownsRow_move h.o fun k e => hk k (by have := (own_lt h.o e).1; omega), ownsRow_move h.e fun k e => hk k (by have := (own_lt h.e e).1; omega), fun k hk' hne => (hk k hne).trans (h.keep k hk' hne), h.below.setCell (p := ⟨g, o, none⟩) (Nat.le_refl _) _, Nat.le_trans h.size hs, hglt⟩
def StO (W WE : World) (g : Nat) (hv ov ev : Value) (O : List Int) (F : List Edg) (y : Int) : List Value → World → Prop
  | [], w => SBr g hv ov ev w ∧ SB2 W WE g ov ev O F w
  | [a], w => SBr g hv ov ev w ∧ SB2 W WE g ov ev O F w ∧ ∃ k, a = .slice (some ⟨k, 0, none⟩) 1 1 ∧ IsInts w (some ⟨k, 0, none⟩) 1 1 [y]
  | [_, b], w => SBr g hv ov ev w ∧ SB2 W WE g b ev (O ++ [y]) F w
  | [_, b, _], w => SBr g hv b ev w ∧ SB2 W WE g b ev (O ++ [y]) F w
  | _, _ => False
def StE (W WE : World) (g : Nat) (hv ov ev : Value) (O : List Int) (F : List Edg) (y : Edg) (C : World → Prop) : List Value → World → Prop
  | [], w => SBr g hv ov ev w ∧ SB2 W WE g ov ev O F w ∧ C w
  | [a], w => SBr g hv ov ev w ∧ SB2 W WE g ov ev O F w ∧ ∃ k, a = .slice (some ⟨k, 0, none⟩) 1 1 ∧ IsEdgs w (some ⟨k, 0, none⟩) 1 1 [y]
  | [_, b], w => SBr g hv ov ev w ∧ SB2 W WE g ov b O (F ++ [y]) w
  | [_, b, _], w => SBr g hv ov b w ∧ SB2 W WE g ov b O (F ++ [y]) w
  | _, _ => False
/-- what Build hands back. -/
def SlabOwn (w : World) (g : Nat) (H : List Int) (Es : List (List Edg)) : Prop := ∃ hv ov ev, SBr g hv ov ev w ∧ OwnI w (g + 1) hv H ∧ OwnI w (g + 1) ov (offsI Es) ∧ OwnE w (g + 1) ev Es.flatten
theorem SlabOwn.is {w : World} {g : Nat} {H : List Int} {Es : List (List Edg)} (h : SlabOwn w g H Es) (hl : H.length = Es.length + 1) (h0 : 0 < Es.flatten.length) (h1 : H.length ≤ 1000000) (h2 : Es.flatten.length ≤ 1000000) : SlabIs w g H Es := by
  obtain ⟨hv, ov, ev, k1, k2, k3, k4⟩ := h
  obtain ⟨ah, ch, e1, i1⟩ := k2.ints
  obtain ⟨ao, co, e2, i2⟩ := k3.ints
  obtain ⟨ae, ce, e3, i3⟩ := k4.edgs
  rw [offsI_len] at e2 i2
  subst e1 e2 e3
  exact ⟨⟨ah, ch, ao, co, ae, ce, k1, i1, i2, i3⟩, hl, h0, h1, h2⟩
theorem SlabOwn.move {w w' : World} {g : Nat} {H : List Int} {Es : List (List Edg)} (h : SlabOwn w g H Es) (hb : ∀ k, g ≤ k → k < w.heap.size → w'.heap[k]? = w.heap[k]?) : SlabOwn w' g H Es := by
  obtain ⟨hv, ov, ev, k1, k2, k3, k4⟩ := h
  have hm : ∀ {e s n : Nat} {v : Value} {xs : List Value}, w.ownsRow (g + 1) e s v n xs → w'.ownsRow (g + 1) e s v n xs := fun h => ownsRow_move h fun k hk => hb k (by have := (own_lt h hk).1; omega) (own_lt h hk).2
  exact ⟨hv, ov, ev, (hb g (Nat.le_refl _) (heap_lt' k1)).trans k1, hm k2, hm k3, hm k4⟩
/-- the slabs as Build lays them. -/
def slabsK (R : List (List Pt)) (i : Nat) : List (List Edg) := (List.range i).map (slabI R)
def offK (R : List (List Pt)) (i : Nat) : List Int := (List.range i).map fun j => ((slabsK R j).flatten.length : Int)
def slabsR (R : List (List Pt)) : List (List Edg) := slabsK R ((heightsP R).length - 1)
theorem slabsK_len (R : List (List Pt)) (i : Nat) : (slabsK R i).length = i := by simp [slabsK]
theorem slabsK_succ (R : List (List Pt)) (i : Nat) : slabsK R (i + 1) = slabsK R i ++ [slabI R i] := by unfold slabsK; rw [List.range_succ, List.map_append]; rfl
theorem slabsK_flat (R : List (List Pt)) (i : Nat) : (slabsK R (i + 1)).flatten = (slabsK R i).flatten ++ slabI R i := by rw [slabsK_succ]; simp
theorem offK_succ (R : List (List Pt)) (i : Nat) : offK R (i + 1) = offK R i ++ [((slabsK R i).flatten.length : Int)] := by unfold offK; rw [List.range_succ, List.map_append]; rfl
theorem offK_len (R : List (List Pt)) (i : Nat) : (offK R i).length = i := by simp [offK]
theorem slabsK_take (R : List (List Pt)) {i j : Nat} (h : j ≤ i) : (slabsK R i).take j = slabsK R j := by
  unfold slabsK
  rw [← List.map_take, List.take_range, Nat.min_eq_left h]
theorem offK_all (R : List (List Pt)) (m : Nat) : offsI (slabsK R m) = offK R (m + 1) := by
  unfold offsI offK
  rw [slabsK_len]
  apply List.map_congr_left
  intro j hj
  rw [slabsK_take R (by have := List.mem_range.1 hj; omega)]
theorem slabI_len (R : List (List Pt)) (i : Nat) : (slabI R i).length ≤ (edgesP R).length := List.length_filter_le _ _
theorem slabsK_bound (R : List (List Pt)) : ∀ i, (slabsK R i).flatten.length ≤ i * (edgesP R).length
  | 0 => by simp [slabsK]
  | i + 1 => by
    rw [slabsK_flat, List.length_append]
    have h1 := slabsK_bound R i
    have h2 := slabI_len R i
    rw [Nat.add_mul]
    omega
theorem results_tf {fn : Func} {p u : Tmp} (h : fn.results = #[.tmp u, .cell p 35]) {tmps : Array Value} {w : World} {g : Nat} {a b : Value} (hp : tmps.getD p undef = .pointer (some ⟨g, 0, none⟩)) (hg : w.heap[g]? = some (.cells #[a, b] 35 (0, 0))) :
    (results fn tmps).run Tryz.prog w = .ok (.tuple #[tmps.getD u undef, .agg #[a, b]]) w := by
  have h2 : (results fn tmps).run Tryz.prog w = ((asAddr (tmps.getD p undef)).run Tryz.prog w).andThen fun a w₁ => ((loadVar 35 a).run Tryz.prog w₁).andThen fun v w₂ => .ok (.tuple #[tmps.getD u undef, v]) w₂ := by
    simp only [results, h]
    simp [Sem.run_bind, Result.andThen]
  rw [h2, hp]
  simp [asAddr, load_two (fun w => by kernel_rfl) (fun w => by kernel_rfl) hg, Result.andThen_ok]
end Go.Proofs.YtjiiikeniocmfaaGreat

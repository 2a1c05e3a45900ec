/- the reference's disk: a file's parts are stored -/
import Derived.Test.YtjkkfjmloleedaaGreatRStep
import Derived.Laws.OwnMore
import Derived.Deep.RegionHeld3
namespace Go.Proofs.YtjkkfjmloleedaaGreat
open Go.RowKit
set_option linter.unusedSectionVars false
variable [Zone]
theorem flat3_set : ∀ (T : List V3) (k : Nat) (t : V3), k < T.length → flat3 (T.set k t) = (((flat3 T).set (k * 3) t.1).set (k * 3 + 1) t.2.1).set (k * 3 + 2) t.2.2
  | x :: T, 0, t, _ => by simp [flat3]
  | x :: T, k + 1, t, h => by
    rw [List.set_cons_succ, flat3_cons, flat3_cons, flat3_set T k t (by simpa using h)]
    rw [show (k + 1) * 3 = k * 3 + 1 + 1 + 1 by omega, show k * 3 + 1 + 1 + 1 + 1 = (k * 3 + 1) + 1 + 1 + 1 by omega, show k * 3 + 1 + 1 + 1 + 2 = (k * 3 + 2) + 1 + 1 + 1 by omega]
    simp only [List.set_cons_succ]
theorem set_same {l : List Value} {j : Nat} {u : Value} (h : l[j]? = some u) : l.set j u = l := by
  apply List.ext_getElem?
  intro i
  rw [List.getElem?_set]
  split
  · rename_i e
    subst e
    split
    · exact h.symm
    · rename_i hn
      rw [List.getElem?_eq_none (by omega)] at h
      cases h
  · rfl
theorem flat3_set2 (T : List V3) (k : Nat) (u : Value) (h : k < T.length) : flat3 (T.set k ((T.getD k v30).1, (T.getD k v30).2.1, u)) = (flat3 T).set (k * 3 + 2) u := by
  obtain ⟨g0, g1, g2⟩ := flat3_get T k h
  rw [flat3_set T k _ h]
  dsimp only
  rw [set_same g0, set_same g1]
theorem flat3_set1 (T : List V3) (k : Nat) (u : Value) (h : k < T.length) : flat3 (T.set k ((T.getD k v30).1, u, (T.getD k v30).2.2)) = (flat3 T).set (k * 3 + 1) u := by
  obtain ⟨g0, g1, g2⟩ := flat3_get T k h
  rw [flat3_set T k _ h]
  dsimp only
  rw [set_same g0]
  refine set_same ?_
  rw [List.getElem?_set, if_neg (by omega)]
  exact g2
theorem AllCells.set {w : World} {g j n cap : Nat} {cs : Array Value} {e : TypeId} {u : Value} {P : Value → Prop} (h : AllCells w (.slice (some ⟨g, 0, none⟩) n cap) P) (ho : w.heap[g]? = some (.cells cs e (0, 0))) (hu : P u) : AllCells (w.setCell ⟨g, j, none⟩ u) (.slice (some ⟨g, 0, none⟩) n cap) P := by
  intro g' c t f hg hc x hx
  simp only [Value.ownBlock, Option.some.injEq] at hg
  subst hg
  rw [heap_setCell_same w g j cs e u ho] at hc
  injection hc with hc
  injection hc with hc _
  subst hc
  rcases Array.mem_or_eq_of_mem_setIfInBounds hx with q | q
  · exact h g cs e (0, 0) rfl ho x q
  · rw [q]; exact hu
theorem Own3.put {w : World} {base g n cap j : Nat} {ty : TypeId} {T T' : List V3} {u : Value} (h : Own3 w base ty (.slice (some ⟨g, 0, none⟩) n cap) T) (hT : flat3 T' = (flat3 T).set j u) (hl : T'.length = T.length) (hu : u.oneCell' = true ∧ PlainV u) : Own3 (w.setCell ⟨g, j, none⟩ u) base ty (.slice (some ⟨g, 0, none⟩) n cap) T' := by
  obtain ⟨ao, cap', e, _⟩ := h.is3
  injection e with e1 e2 e3
  subst e2
  have hrow : ∃ cs, w.heap[g]? = some (.cells cs ty (0, 0)) := by
    rcases h.1.2 with ⟨e, _⟩ | ⟨g', cap', cur, e, _, hg, _⟩
    · cases e
    · injection e with e _
      injection e with e
      injection e with e
      subst e
      exact ⟨_, hg⟩
  obtain ⟨cs, hcs⟩ := hrow
  refine ⟨?_, h.2.1.set hcs hu.2, fun x hx => ?_⟩
  · have := (World.ownsRow.stored h.1 j u).1
    rw [hT, hl]
    exact this
  · rw [hT] at hx
    rcases List.mem_or_eq_of_mem_set hx with q | q
    · exact h.2.2 x q
    · rw [q]; exact hu
theorem getD_set_ne {α : Type} {l : List α} {k i : Nat} {x d : α} (h : i ≠ k) : (l.set k x).getD i d = l.getD i d := by
  rw [List.getD_eq_getElem?_getD, List.getD_eq_getElem?_getD, List.getElem?_set, if_neg (Ne.symm h)]
theorem getD_set_at {α : Type} {l : List α} {k : Nat} {x d : α} (h : k < l.length) : (l.set k x).getD k d = x := by
  rw [List.getD_eq_getElem?_getD, List.getElem?_set, if_pos rfl, if_pos h]
  rfl
theorem Files3.set {w : World} {T : List V3} {R : List FileV} {k : Nat} {t : V3} {x : FileV} (h : Files3 w T R) (hk : k < R.length) (hx : IsRFile w t x) : Files3 w (T.set k t) (R.set k x) := by
  refine ⟨by simp [h.1], fun i hi => ?_⟩
  rw [List.length_set] at hi
  by_cases e : i = k
  · subst e
    rw [getD_set_at hk, getD_set_at (by rw [h.1]; exact hk)]
    exact hx
  · rw [getD_set_ne e, getD_set_ne e]
    exact h.2 i hi
/-- where the k-th file lies, and what a store into it does. -/
theorem RefAt.put {w : World} {r base k : Nat} {R : List FileV} {N lf : Int} {fz out : Bool} (h : RefAt w r base R N fz lf out) (hk : k < R.length) : ∃ g cap, RefRow w r (.slice (some ⟨g, 0, none⟩) R.length cap) N fz lf out ∧ g < w.heap.size ∧ base ≤ g ∧ g ≠ r ∧ ((∀ j, w.frozen? ⟨g, j, none⟩ = false) ∧ ∀ i u j, (w.setCell ⟨g, i, none⟩ u).frozen? ⟨g, j, none⟩ = false) ∧ R.length ≤ cap ∧ cap ≤ maxLen ∧
    (∀ al m capl D', IsRActs w al m capl D' → RefAt (w.setCell ⟨g, k * 3 + 2, none⟩ (.slice al m capl)) r base (R.set k ((R.getD k f0).1, (R.getD k f0).2.1, D')) N fz lf out ∧ MovedR r base w (w.setCell ⟨g, k * 3 + 2, none⟩ (.slice al m capl))) ∧
    (∀ sa sn sc S', IsBytesZ w sa sn sc S' → RefAt (w.setCell ⟨g, k * 3 + 1, none⟩ (.slice sa sn sc)) r base (R.set k ((R.getD k f0).1, S', (R.getD k f0).2.2)) N fz lf out ∧ MovedR r base w (w.setCell ⟨g, k * 3 + 1, none⟩ (.slice sa sn sc))) := by
  obtain ⟨hbr, v, T, hr, hown, hf⟩ := h
  have hTl := hf.1
  have hkT : k < T.length := by rw [hTl]; exact hk
  have hrow : ∃ g cap cs, v = .slice (some ⟨g, 0, none⟩) T.length cap ∧ base ≤ g ∧ w.heap[g]? = some (.cells cs 86 (0, 0)) ∧ T.length ≤ cap ∧ cap ≤ maxLen := by
    rcases hown.1.2 with ⟨_, h0⟩ | ⟨g, cap, cur, e, hb, hg, hn, hm, _⟩
    · omega
    · exact ⟨g, cap, cur, e, hb, hg, hn, hm⟩
  obtain ⟨g, cap, cs, rfl, hbg, hg, hn, hm⟩ := hrow
  have hgr : g ≠ r := by
    rintro rfl
    unfold RefRow at hr
    rw [hr] at hg
    injection hg with hg
    injection hg with _ hg
    exact absurd hg (by decide)
  have hmv : ∀ j u, MovedR r base w (w.setCell ⟨g, j, none⟩ u) := fun j u => by
    refine ⟨⟨rfl, rfl, rfl, by simp, fun i hi => Below.heap_setCell _ _ _ _ (by dsimp only; omega)⟩, fun i _ _ hne => Below.heap_setCell _ _ _ _ (fun e => hne ?_), fun i hi => .inl ?_⟩
    · rw [listOf_row hr]
      exact congrArg some (show g = i from e.symm)
    · rwa [listOf_same (Below.heap_setCell _ _ _ _ (Ne.symm hgr))] at hi
  have hfm : ∀ j u, Files3 (w.setCell ⟨g, j, none⟩ u) T R := fun j u => by
    refine hf.moved (fun i o x hc => Below.heap_setCell _ _ _ _ (fun e => ?_)) (fun i c fr hi => Below.heap_setCell _ _ _ _ (fun e => ?_))
    · have e' : i = g := e
      rw [e'] at hc
      simp only [World.cell?, hg] at hc
      have := hown.2.1 g cs _ _ rfl hg _ (Array.mem_of_getElem? hc)
      simp [PlainV, plainV] at this
    · have e' : i = g := e
      rw [e', hg] at hi
      injection hi with hi
      injection hi with _ hi
      exact absurd hi (by decide)
  have hbm : ∀ {j u sa sn sc S'}, IsBytesZ w sa sn sc S' → IsBytesZ (w.setCell ⟨g, j, none⟩ u) sa sn sc S' := fun {j u sa sn sc S'} hb => hb.moved (fun i o x hc => Below.heap_setCell _ _ _ _ (fun e => by
    have e' : i = g := e
    rw [e'] at hc
    simp only [World.cell?, hg] at hc
    have := hown.2.1 g cs _ _ rfl hg _ (Array.mem_of_getElem? hc)
    simp [PlainV, plainV] at this))
  have ham : ∀ {j u al m capl D'}, IsRActs w al m capl D' → IsRActs (w.setCell ⟨g, j, none⟩ u) al m capl D' := fun {j u al m capl D'} hb => hb.moved (fun i o x hc => Below.heap_setCell _ _ _ _ (fun e => by
    have e' : i = g := e
    rw [e'] at hc
    simp only [World.cell?, hg] at hc
    have := hown.2.1 g cs _ _ rfl hg _ (Array.mem_of_getElem? hc)
    simp [PlainV, plainV] at this)) (fun i c fr hi => Below.heap_setCell _ _ _ _ (fun e => by
    have e' : i = g := e
    rw [e', hg] at hi
    injection hi with hi
    injection hi with _ hi
    exact absurd hi (by decide)))
  have hrr : ∀ j u, RefRow (w.setCell ⟨g, j, none⟩ u) r (.slice (some ⟨g, 0, none⟩) T.length cap) N fz lf out := fun j u => (Below.heap_setCell _ _ _ _ (Ne.symm hgr)).trans hr
  refine ⟨g, cap, hTl ▸ hr, heap_lt hg, hbg, hgr, ⟨fun j => frozen_of_row _ _ _ _ _ hg, fun i u j => frozen_of_row _ _ _ _ _ (heap_setCell_same w g i _ _ u hg)⟩, hTl ▸ hn, hm, fun al m capl D' hD => ⟨⟨hbr, .slice (some ⟨g, 0, none⟩) T.length cap, T.set k ((T.getD k v30).1, (T.getD k v30).2.1, .slice al m capl), ?_, ?_, ?_⟩, hmv _ _⟩, fun sa sn sc S' hS => ⟨⟨hbr, .slice (some ⟨g, 0, none⟩) T.length cap, T.set k ((T.getD k v30).1, .slice sa sn sc, (T.getD k v30).2.2), ?_, ?_, ?_⟩, hmv _ _⟩⟩
  · exact hrr _ _
  · exact hown.put (flat3_set2 T k _ hkT) (by simp) ⟨rfl, rfl⟩
  · have hx := (hfm (k * 3 + 2) (.slice al m capl)).2 k hk
    exact (hfm _ _).set hk ⟨hx.1, hx.2.1, ⟨_, _, _, rfl, ham hD⟩⟩
  · exact hrr _ _
  · exact hown.put (flat3_set1 T k _ hkT) (by simp) ⟨rfl, rfl⟩
  · have hx := (hfm (k * 3 + 1) (.slice sa sn sc)).2 k hk
    exact (hfm _ _).set hk ⟨hx.1, ⟨_, _, _, rfl, hbm hS⟩, hx.2.2⟩
/-- the k-th file's cells, and the stores into it, in this world and later ones. -/
theorem RefAt.at {w : World} {r base k : Nat} {R : List FileV} {N lf : Int} {fz out : Bool} (h : RefAt w r base R N fz lf out) (hk : k < R.length) : ∃ g cap sa sn sc al m capl, RefRow w r (.slice (some ⟨g, 0, none⟩) R.length cap) N fz lf out ∧ (g < w.heap.size ∧ g ≠ r ∧ R.length ≤ cap ∧ cap ≤ maxLen) ∧
    w.cell? ⟨g, k * 3, none⟩ = some (.string (R.getD k f0).1) ∧ w.cell? ⟨g, k * 3 + 1, none⟩ = some (.slice sa sn sc) ∧ w.cell? ⟨g, k * 3 + 2, none⟩ = some (.slice al m capl) ∧ IsBytes w sa sn sc (R.getD k f0).2.1 ∧ IsRActs w al m capl (R.getD k f0).2.2 ∧
    ∀ w' : World, Below w.heap.size w w' → ((∀ j, w'.frozen? ⟨g, j, none⟩ = false) ∧ ∀ i u j, (w'.setCell ⟨g, i, none⟩ u).frozen? ⟨g, j, none⟩ = false) ∧
      (∀ al m capl D', IsRActs w' al m capl D' → RefAt (w'.setCell ⟨g, k * 3 + 2, none⟩ (.slice al m capl)) r base (R.set k ((R.getD k f0).1, (R.getD k f0).2.1, D')) N fz lf out ∧ MovedR r base w' (w'.setCell ⟨g, k * 3 + 2, none⟩ (.slice al m capl))) ∧
      (∀ sa sn sc S', IsBytesZ w' sa sn sc S' → RefAt (w'.setCell ⟨g, k * 3 + 1, none⟩ (.slice sa sn sc)) r base (R.set k ((R.getD k f0).1, S', (R.getD k f0).2.2)) N fz lf out ∧ MovedR r base w' (w'.setCell ⟨g, k * 3 + 1, none⟩ (.slice sa sn sc))) := by
  obtain ⟨g, cap, hr, hg1, hg2, hg3, hg4, hg5, hg6, hg7, hg8⟩ := h.put hk
  obtain ⟨ao, cap', hr', _, _, hcell⟩ := h.file
  obtain ⟨b, off, sa, sn, sc, al, m, capl, e, q0, q1, q2, hb, hd⟩ := hcell k hk
  have hrr := hr
  unfold RefRow at hrr hr'
  rw [hr'] at hrr
  injection hrr with hrr
  injection hrr with hrr _
  have e2 : ao = some ⟨g, 0, none⟩ ∧ cap' = cap := by
    have := congrArg (fun a : Array Value => a[0]?) hrr
    simp at this
    exact ⟨this.1, this.2⟩
  rw [e2.1] at e
  injection e with e
  injection e with e3 e4
  subst e3
  subst e4
  rw [Nat.zero_add] at q0 q1 q2
  refine ⟨g, cap, sa, sn, sc, al, m, capl, hr, ⟨hg1, hg3, hg5, hg6⟩, q0, q1, q2, hb, hd, fun w' hbl => ?_⟩
  obtain ⟨g', cap2, hr2, _, _, _, f4, _, _, f7, f8⟩ := (h.later hbl).put hk
  have hr3 := (hbl.block r hr.lt).trans hr
  unfold RefRow at hr2
  rw [hr2] at hr3
  injection hr3 with hr3
  injection hr3 with hr3 _
  have e5 : g' = g := by
    have := congrArg (fun a : Array Value => a[0]?) hr3
    simp at this
    exact this.1
  subst e5
  exact ⟨f4, f7, f8⟩
end Go.Proofs.YtjkkfjmloleedaaGreat

/- the reference's disk: keeps -/
namespace Go.Proofs.YtjkkfjmloleedaaGreat
open Go.RowKit
set_option linter.unusedSectionVars false
variable [Zone]
/-- the first units of what is under way. -/
def keepsD : Nat → List Deed → List Deed
  | _, [] => []
  | n, d :: D => if n = 0 then [] else match d with
    | .cut z => .cut z :: keepsD (n - 1) D
    | .more x => .more (x.take (min n x.length)) :: keepsD (n - min n x.length) D
theorem keepsD_zero (D : List Deed) : keepsD 0 D = [] := by cases D <;> simp [keepsD]
theorem keepsD_cut {n : Nat} (z : Nat) (D : List Deed) (h : n ≠ 0) : keepsD n (.cut z :: D) = .cut z :: keepsD (n - 1) D := by rw [keepsD, if_neg h]
theorem keepsD_more {n : Nat} (x : List UInt8) (D : List Deed) (h : n ≠ 0) : keepsD n (.more x :: D) = .more (x.take (min n x.length)) :: keepsD (n - min n x.length) D := by rw [keepsD, if_neg h]
/-- a file's bytes behind a crash, the one way and the other. -/
theorem runD_keeps : ∀ (D : List Deed) (S : List UInt8) (n : Nat), runD S (keepsD n D) = afterZ S D (n : Nat)
  | [], S, n => by simp [keepsD, runD, afterZ]
  | .more x :: D, S, n => by
    by_cases h : n = 0
    · subst h
      rw [keepsD_zero, afterZ_stop _ _ _ (by omega)]
      rfl
    · rw [keepsD_more _ _ h, afterZ_more _ _ _ (by omega), runD]
      have e1 : (min (n : Int) (x.length : Int)).toNat = min n x.length := by omega
      rw [e1]
      by_cases hx : x.length ≤ n
      · rw [runD_keeps D _ _]
        congr 1
        omega
      · rw [show n - min n x.length = 0 by omega, keepsD_zero, runD]
        cases D with
        | nil => rw [afterZ]
        | cons d D => rw [afterZ_stop _ _ _ (by omega)]
  | .cut z :: D, S, n => by
    by_cases h : n = 0
    · subst h
      rw [keepsD_zero, afterZ_stop _ _ _ (by omega)]
      rfl
    · rw [keepsD_cut _ _ h, afterZ_cut _ _ _ (by omega), runD, runD_keeps D _ _]
      congr 1
      omega
theorem fitsD_keeps : ∀ (D : List Deed) (S : List UInt8) (n : Nat), fitsD S D → fitsD S (keepsD n D)
  | [], _, _, _ => trivial
  | .more x :: D, S, n, h => by
    by_cases h0 : n = 0
    · subst h0; rw [keepsD_zero]; trivial
    · rw [keepsD_more _ _ h0]
      by_cases hx : x.length ≤ n
      · rw [show min n x.length = x.length by omega, List.take_of_length_le (Nat.le_refl _)]
        exact fitsD_keeps D _ _ h
      · rw [show n - min n x.length = 0 by omega, keepsD_zero]
        trivial
  | .cut z :: D, S, n, h => by
    by_cases h0 : n = 0
    · subst h0; rw [keepsD_zero]; trivial
    · rw [keepsD_cut _ _ h0]
      exact ⟨h.1, fitsD_keeps D _ _ h.2⟩
theorem units_keeps : ∀ (D : List Deed) (n : Nat), unitsD (keepsD n D) ≤ unitsD D
  | [], n => by simp [keepsD]
  | .more x :: D, n => by
    by_cases h0 : n = 0
    · subst h0; rw [keepsD_zero]; simp [unitsD]
    · rw [keepsD_more _ _ h0]
      have := units_keeps D (n - min n x.length)
      simp only [unitsD, List.map_cons, List.sum_cons, Deed.units, List.length_take] at *
      omega
  | .cut z :: D, n => by
    by_cases h0 : n = 0
    · subst h0; rw [keepsD_zero]; simp [unitsD]
    · rw [keepsD_cut _ _ h0]
      have := units_keeps D (n - 1)
      simp only [unitsD, List.map_cons, List.sum_cons, Deed.units] at *
      omega
theorem Own3.u8 {w : World} {base : Nat} {ty : TypeId} {v : Value} {T : List V3} (h : Own3 w base ty v T) {j off : Nat} {x : Int} (hc : w.cell? ⟨j, off, none⟩ = some (.int .u8 x)) : some j ≠ v.ownBlock := by
  intro e
  rcases h.1.2 with ⟨rfl, _⟩ | ⟨g, cap, cur, rfl, _, hg, _⟩
  · simp [Value.ownBlock] at e
  · simp only [Value.ownBlock, Option.some.injEq] at e
    subst e
    simp only [World.cell?, hg] at hc
    have := h.2.1 j cur _ _ rfl hg _ (Array.mem_of_getElem? hc)
    simp [PlainV, plainV] at this
theorem Is3.one (w : World) (ty : TypeId) (t : V3) (h : Ok3 [t]) : Is3 (w.alloc (.cells #[t.1, t.2.1, t.2.2] ty)) ty (some ⟨w.heap.size, 0, none⟩) 1 1 [t] := by
  refine ⟨rfl, Nat.le_refl _, by unfold maxLen; omega, (fun e => by cases e), h, fun _ => ⟨_, _, _, _, rfl, heap_alloc_new _ _, fun j u hu => ?_⟩⟩
  rw [Nat.zero_add]
  have : flat3 [t] = [t.1, t.2.1, t.2.2] := rfl
  rw [this] at hu
  rw [List.getElem?_toArray]
  exact hu
/-- own acts. -/
def OwnA (w : World) (base : Nat) (v : Value) (D : List Deed) : Prop := ∃ T, Own3 w base 97 v T ∧ Acts3 w T D
theorem OwnA.nil (w : World) (base : Nat) : OwnA w base (.slice none 0 0) [] := ⟨[], Own3.nil _ _ _, Acts3.nil w⟩
theorem OwnA.acts {w : World} {base : Nat} {v : Value} {D : List Deed} (h : OwnA w base v D) : ∃ a cap, v = .slice a D.length cap ∧ IsRActs w a D.length cap D := by
  obtain ⟨T, h1, h2⟩ := h
  obtain ⟨a, cap, e, h3⟩ := h1.is3
  rw [h2.1] at e h3
  exact ⟨a, cap, e, T, h3, h2⟩
theorem OwnA.later {w w' : World} {base : Nat} {v : Value} {D : List Deed} (h : OwnA w base v D) (hb : Below w.heap.size w w') : OwnA w' base v D := by
  obtain ⟨T, h1, h2⟩ := h
  exact ⟨T, h1.later hb, h2.later hb⟩
theorem OwnA.base {w : World} {base base' : Nat} {v : Value} {D : List Deed} (h : OwnA w base v D) (hb : base' ≤ base) : OwnA w base' v D := by
  obtain ⟨T, h1, h2⟩ := h
  exact ⟨T, h1.base hb, h2⟩
theorem OwnA.lt {w : World} {base : Nat} {v : Value} {D : List Deed} (h : OwnA w base v D) {g : Nat} (hg : v.ownBlock = some g) : base ≤ g ∧ g < w.heap.size := by
  obtain ⟨T, h1, _⟩ := h
  exact h1.1.lt g hg
theorem wpList_append_act {w : World} {ops : Array Oper} {rest : List Oper} {o : Oper} {a : Act} {Q : Exit → Act → World → Prop} (hgd : o.guard = none) (s x : Operand)
    (ho : o.op = .call { callee := .builtin .append, args := #[s, x], argTypes := #[84, 84] })
    (base : Nat) (v : Value) (D : List Deed) (hs : a.eval s = v) (hown : OwnA w base v D) (g : Nat) (t : V3) (d : Deed) (hx : a.eval x = .slice (some ⟨g, 0, none⟩) 1 1) (hsrc : Is3 w 97 (some ⟨g, 0, none⟩) 1 1 [t]) (ht : IsRAct w t.1 t.2.1 t.2.2 d) (hnm : D.length ≤ 1000000) (hbase : base ≤ w.heap.size)
    (h : ∀ v' w', OwnA w' base v' (D ++ [d]) → w.grownBy w' v.ownBlock → wpList Tryz.prog ops Q rest (a.put o.dst v') w') : wpList Tryz.prog ops Q (o :: rest) a w := by
  obtain ⟨T, h1, h2⟩ := hown
  refine wpList_append3 ty3_act hgd s x ho base v T hs h1 _ 1 1 [t] hx hsrc (by have := h2.1; omega) hbase (fun v' w' k1 k2 _ => h v' w' ⟨T ++ [t], k1, ?_⟩ k2)
  have hm : ∀ j off x, w.cell? ⟨j, off, none⟩ = some (.int .u8 x) → w'.heap[j]? = w.heap[j]? := fun j off x hc => k2.block j (block_lt_of_cell hc) (h1.u8 hc)
  exact (h2.moved hm).push (ht.moved hm)
end Go.Proofs.YtjkkfjmloleedaaGreat

/- the reference's disk: Sync -/
namespace Go.Proofs.YtjkkfjmloleedaaGreat
open Go.RowKit
set_option linter.unusedSectionVars false
variable [Zone]
/-- what a changing call of the reference's tells at a file that is there: the disk goes out, or it is done. -/
def RDone (r base : Nat) (R R' : List FileV) (N : Int) (fz : Bool) (lf : Int) (w : World) (e : Ending) (w' : World) : Prop :=
  MovedR r base w w' ∧ (((fz = true ∧ lf = 0) ∧ e = .returned (.int .i64 10) ∧ RefAt w' r base R N fz lf true) ∨ (¬ (fz = true ∧ lf = 0) ∧ e = .returned (.int .i64 0) ∧ RefAt w' r base R' (N + 1) fz (if fz = true then lf - 1 else lf) false))
/-- .. at any name. -/
def RCall (s : ByteArray) (r base : Nat) (R : List FileV) (f : Nat → List FileV) (N : Int) (fz : Bool) (lf : Int) (out : Bool) (w : World) (e : Ending) (w' : World) : Prop :=
  (out = true ∧ e = .returned (.int .i64 10) ∧ w' = w) ∨ (out = false ∧ ∃ z, AtR s R z ∧ ((z < 0 ∧ e = .returned (.int .i64 6) ∧ w' = w) ∨ (0 ≤ z ∧ RDone r base R (f z.toNat) N fz lf w e w')))
theorem RefAt.grown {w w' : World} {r base : Nat} {R : List FileV} {N lf : Int} {fz out : Bool} (h : RefAt w r base R N fz lf out) (hb : Below w.heap.size w w') : r < w.heap.size ∧ base ≤ w.heap.size ∧ RefAt w' r base R N fz lf out := by
  obtain ⟨v, hr⟩ := h.row
  exact ⟨hr.lt, by have := h.1; have := hr.lt; omega, h.later hb⟩
set_option maxRecDepth 100000 in
set_option maxHeartbeats 2000000 in
theorem rSync_any (s : ByteArray) (r base : Nat) (R : List FileV) (N : Int) (fz : Bool) (lf : Int) (out : Bool) (w : World) (hN0 : 0 ≤ N) (hN1 : N ≤ 1000000) (hl0 : 0 ≤ lf) (hl1 : lf ≤ 9223372036854775807) (hzw : ZW w) (h : RefAt w r base R N fz lf out) (hfit : ∀ k, k < R.length → FitF (R.getD k f0)) :
    Calls Tryz.prog 25 #[.pointer (some ⟨r, 0, none⟩), .string s] w fun e w' => RCall s r base R (fun k => R.set k ((R.getD k f0).1, runD (R.getD k f0).2.1 (R.getD k f0).2.2, [])) N fz lf out w e w' := by
  have HZW0 := Lib.hid hzw
  clear hzw
  have HAt := Lib.hid (At_any s r base R N fz lf out w h)
  obtain ⟨v, hrow⟩ := h.row
  have r4 := hrow.cells.2.2.2.2
  have H := Lib.hid (And.intro h hfit)
  clear h hfit hrow
  go_enter Tryz.func25, Tryz.ntmps25
  go_wp2_with fail
  refine HAt.out.mono ?_
  rintro e w' ⟨z, rfl, hz, rfl⟩
  have HZ := Lib.hid hz
  cases out with
  | true =>
    go_wp2_with fail
    go_ret
    exact .inl ⟨rfl, rfl, rfl⟩
  | false =>
    rcases hz with ⟨k, rfl, hk, _, _⟩ | ⟨rfl, _⟩
    · have hk0 : ¬ (k : Int) < 0 := by omega
      have hk1 : (0 : Int) ≤ (k : Int) := by omega
      have HKK := Lib.hid hk
      go_wp2_with fail
      refine (rstep_any r base R N fz lf false w hN0 hN1 hl0 hl1 H.out.1).mono ?_
      rintro e W ⟨hmv, ⟨hq, rfl, hout⟩ | ⟨hq, rfl, hW⟩⟩
      · have HQ := Lib.hid (And.intro hmv (And.intro hq hout))
        clear hmv hq hout
        go_wp2_with fail
        go_ret
        exact .inr ⟨rfl, _, HZ.out, .inr ⟨hk1, HQ.out.1, .inl ⟨HQ.out.2.1, rfl, HQ.out.2.2⟩⟩⟩
      · obtain ⟨g, cap, sa, sn, sc, al, m, capl, hr, hg, q0, q1, q2, hb, hd, hat⟩ := hW.at hk
        have hu := H.out.2 k hk
        have HZW : Hid (ZW W) := Lib.hid (HZW0.out.mono hmv.below.size)
        have hrl := hr.lt
        obtain ⟨n, hn⟩ : ∃ n, n = R.length := ⟨_, rfl⟩
        have hbase : base ≤ W.heap.size := by have := hW.1; omega
        have r0 : W.cell? ⟨r, 0, none⟩ = some (.slice (some ⟨g, 0, none⟩) n cap) := by rw [hn]; exact hr.cells.1
        have hcap := hg.2.2.1
        have hcm := hg.2.2.2
        rw [← hn] at hcap
        unfold maxLen at hcm
        have hk2 : (k : Int) < (n : Int) := by omega
        obtain ⟨x, hx⟩ : ∃ x, x = R.getD k f0 := ⟨_, rfl⟩
        rw [← hx] at q0 hb hd hu hat
        obtain ⟨nm, hnm⟩ : ∃ nm, nm = x.1 := ⟨_, rfl⟩
        rw [← hnm] at q0
        have HS : Hid (∀ w' : World, Below W.heap.size W w' → (w'.cell? ⟨r, 0, none⟩ = some (.slice (some ⟨g, 0, none⟩) n cap) ∧ w'.frozen? ⟨g, k * 3 + 1, none⟩ = false) ∧ ∀ u, ((w'.setCell ⟨g, k * 3 + 1, none⟩ u).cell? ⟨r, 0, none⟩ = some (.slice (some ⟨g, 0, none⟩) n cap) ∧ (w'.setCell ⟨g, k * 3 + 1, none⟩ u).frozen? ⟨g, k * 3 + 1, none⟩ = false)) := Lib.hid (fun w' hb' => by
          have c0 := (hb'.cell (p := ⟨r, 0, none⟩) hrl).trans r0
          refine ⟨⟨c0, (hat w' hb').1.1 _⟩, fun u => ⟨?_, (hat w' hb').1.2 _ _ _⟩⟩
          rw [World.cell?_of_block (w := w') (a := ⟨r, 0, none⟩) (Below.heap_setCell _ _ _ _ (Ne.symm hg.2.1))]
          exact c0)
        have HX := Lib.hid (And.intro hb (And.intro hd (And.intro hu (And.intro (And.intro hrl hbase) hk))))
        have HAT := Lib.hid hat
        have HN := Lib.hid hn
        have HK : Hid (∀ (w' : World) (R' : List FileV), RefAt w' r base (R.set k (x.1, runD x.2.1 x.2.2, [])) (N + 1) fz (if fz = true then lf - 1 else lf) false → MovedR r base W w' → RCall s r base R (fun k => R.set k ((R.getD k f0).1, runD (R.getD k f0).2.1 (R.getD k f0).2.2, [])) N fz lf false w (.returned (.int .i64 0)) w') := Lib.hid (fun w' _ hR hM => by
          refine .inr ⟨rfl, _, HZ.out, .inr ⟨hk1, hmv.trans hM, .inr ⟨hq, rfl, ?_⟩⟩⟩
          rw [hx] at hR
          exact hR)
        clear hr hg hb hd hu hat hn hrl hbase hW hmv hq hx hnm hk
        go_wp2_with fail
        refine wp_region_held_drew (S := fun w' => w'.cell? ⟨r, 0, none⟩ = some (.slice (some ⟨g, 0, none⟩) n cap) ∧ w'.frozen? ⟨g, k * 3 + 1, none⟩ = false) (by kernel_rfl) ?hS0 (fun hHeld => ?_)
        case hS0 => (exact (HS.out _ (Below.refl _ _).drew).1)
        refine wpAnyH_take (i := 0) (v := ?v1) rfl (by kernel_rfl) (by kernel_rfl) (by kernel_rfl) (fun _ _ _ h => h) (Or.inl ⟨?hw1, ?hy1⟩) (by assumption) ?_
        case hw1 => rfl
        case hy1 => (intro w hSw; (try dsimp only at hSw); go_simp; (first | done | with_reducible rfl))
        try simp only [Act.put, List.setIfInBounds_toArray, List.set_cons_zero, List.set_cons_succ]
        refine wpAnyH_take (i := 1) (v := ?v2) rfl (by kernel_rfl) (by kernel_rfl) (by kernel_rfl) (fun _ _ _ h => h) (Or.inl ⟨?hw2, ?hy2⟩) (by assumption) ?_
        case hw2 => rfl
        case hy2 => (intro w hSw; (try dsimp only at hSw); go_simp; (first | done | with_reducible rfl))
        try simp only [Act.put, List.setIfInBounds_toArray, List.set_cons_zero, List.set_cons_succ]
        refine wpAnyH_take (i := 2) (v := ?v3) rfl (by kernel_rfl) (by kernel_rfl) (by kernel_rfl) (fun _ _ _ h => h) (Or.inl ⟨?hw3, ?hy3⟩) (by assumption) ?_
        case hw3 => rfl
        case hy3 => (intro w hSw; (try dsimp only at hSw); go_simp; (first | done | with_reducible rfl))
        try simp only [Act.put, List.setIfInBounds_toArray, List.set_cons_zero, List.set_cons_succ]
        refine wpAnyH_take (i := 3) (v := ?v4) rfl (by kernel_rfl) (by kernel_rfl) (by kernel_rfl) (fun _ _ _ h => h) (Or.inl ⟨?hw4, ?hy4⟩) (by assumption) ?_
        case hw4 => rfl
        case hy4 => (intro w hSw; (try dsimp only at hSw); go_simp; (first | done | with_reducible rfl))
        try simp only [Act.put, List.setIfInBounds_toArray, List.set_cons_zero, List.set_cons_succ]
        refine wpAnyH_take (i := 4) (v := ?v5) rfl (by kernel_rfl) (by kernel_rfl) (by kernel_rfl) (fun _ _ _ h => h) (Or.inl ⟨?hw5, ?hy5⟩) (by assumption) ?_
        case hw5 => rfl
        case hy5 => (intro w hSw; (try dsimp only at hSw); go_simp; (first | done | with_reducible rfl))
        try simp only [Act.put, List.setIfInBounds_toArray, List.set_cons_zero, List.set_cons_succ]
        refine wpAnyH_take (i := 5) (v := ?v6) rfl (by kernel_rfl) (by kernel_rfl) (by kernel_rfl) (fun _ _ _ h => h) (Or.inl ⟨?hw6, ?hy6⟩) (by assumption) ?_
        case hw6 => rfl
        case hy6 => (intro w hSw; (try dsimp only at hSw); go_simp; (first | done | with_reducible rfl))
        try simp only [Act.put, List.setIfInBounds_toArray, List.set_cons_zero, List.set_cons_succ]
        refine wpAnyH_take (i := 6) (v := ?v7) rfl (by kernel_rfl) (by kernel_rfl) (by kernel_rfl) (fun _ _ _ h => h) (Or.inl ⟨?hw7, ?hy7⟩) (by assumption) ?_
        case hw7 => rfl
        case hy7 => (intro w hSw; (try dsimp only at hSw); go_simp; (first | done | with_reducible rfl))
        try simp only [Act.put, List.setIfInBounds_toArray, List.set_cons_zero, List.set_cons_succ]
        refine wpAnyH_take (i := 7) (v := ?v8) rfl (by kernel_rfl) (by kernel_rfl) (by kernel_rfl) (fun _ _ _ h => h) (Or.inl ⟨?hw8, ?hy8⟩) (by assumption) ?_
        case hw8 => rfl
        case hy8 => (intro w hSw; (try dsimp only at hSw); go_simp; (first | done | with_reducible rfl))
        try simp only [Act.put, List.setIfInBounds_toArray, List.set_cons_zero, List.set_cons_succ]
        refine wpAnyH_take (i := 8) (v := ?v9) rfl (by kernel_rfl) (by kernel_rfl) (by kernel_rfl) (fun _ _ _ h => h) (Or.inl ⟨?hw9, ?hy9⟩) (by assumption) ?_
        case hw9 => rfl
        case hy9 => (intro w hSw; (try dsimp only at hSw); go_simp; (first | done | with_reducible rfl))
        try simp only [Act.put, List.setIfInBounds_toArray, List.set_cons_zero, List.set_cons_succ]
        refine wpAnyH_take (i := 9) (v := ?v10) rfl (by kernel_rfl) (by kernel_rfl) (by kernel_rfl) (fun _ _ _ h => h) (Or.inl ⟨?hw10, ?hy10⟩) (by assumption) ?_
        case hw10 => rfl
        case hy10 => (intro w hSw; (try dsimp only at hSw); go_simp; (first | done | with_reducible rfl))
        try simp only [Act.put, List.setIfInBounds_toArray, List.set_cons_zero, List.set_cons_succ]
        refine wpAnyH_take (i := 10) (v := ?v11) rfl (by kernel_rfl) (by kernel_rfl) (by kernel_rfl) (fun _ _ _ h => h) (Or.inl ⟨?hw11, ?hy11⟩) (by assumption) ?_
        case hw11 => rfl
        case hy11 => (intro w hSw; (try dsimp only at hSw); go_simp; (first | done | with_reducible rfl))
        try simp only [Act.put, List.setIfInBounds_toArray, List.set_cons_zero, List.set_cons_succ]
        refine wpAnyH_ready (rs := [11]) (by kernel_rfl) (by simp) ?_
        refine AllReadyH.cons (o := _) rfl (fun K hK => ?step12) ?_
        case step12 =>
          go_simp
          refine hK.out _ _ ?hS12 (fun hHeld => ?_)
          case hS12 => (first | (exact (HS.out _ (Below.refl _ _).drew).1) | (exact (HS.out _ hbW).1) | (exact (HS.out _ hbW).2 _))
          clear hK K
          try simp only [Act.put, List.setIfInBounds_toArray, List.set_cons_zero, List.set_cons_succ]
          refine wpAnyH_ready (rs := [12]) (by kernel_rfl) (by simp) ?_
          refine AllReadyH.cons (o := _) rfl (fun K hK => ?step13) ?_
          case step13 =>
            go_simp
            refine (Bytes_any nm sa sn sc x.2.1 al m capl x.2.2 _ (HX.out.1.later (Below.refl _ _).drew) (HX.out.2.1.later (Below.refl _ _).drew) HX.out.2.2.1.1 HX.out.2.2.1.2).mono ?_
            rintro e w2 ⟨v2, rfl, hown2, hb2⟩
            have hbW : Below W.heap.size W w2 := Below.trans (Below.refl _ W).drew hb2
            obtain ⟨av2, cv2, hv2, hbs2, _⟩ := hown2.bytes
            have HB2 : Hid (IsBytesZ _ _ _ _ _) := Lib.hid ⟨hbs2, ZS.of_own (by rw [← hv2]; exact hown2) HZW.out⟩
            have q1b : w2.cell? ⟨g, k * 3 + 1, none⟩ = some (.slice sa sn sc) := (hbW.cell (block_lt_of_cell q1)).trans q1
            subst hv2
            clear hown2 hbs2
            (try dsimp only)
            refine hK.out _ _ ?hS13 (fun hHeld => ?_)
            case hS13 => (first | (exact (HS.out _ (Below.refl _ _).drew).1) | (exact (HS.out _ hbW).1) | (exact (HS.out _ hbW).2 _))
            clear hK K
            try simp only [Act.put, List.setIfInBounds_toArray, List.set_cons_zero, List.set_cons_succ]
            refine wpAnyH_take (i := 13) (v := ?v14) rfl (by kernel_rfl) (by kernel_rfl) (by kernel_rfl) (fun _ _ _ h => h) (Or.inl ⟨?hw14, ?hy14⟩) (by assumption) ?_
            case hw14 => rfl
            case hy14 => (intro w hSw; (try dsimp only at hSw); go_simp; (first | done | with_reducible rfl))
            try simp only [Act.put, List.setIfInBounds_toArray, List.set_cons_zero, List.set_cons_succ]
            refine wpAnyH_take (i := 14) (v := ?v15) rfl (by kernel_rfl) (by kernel_rfl) (by kernel_rfl) (fun _ _ _ h => h) (Or.inl ⟨?hw15, ?hy15⟩) (by assumption) ?_
            case hw15 => rfl
            case hy15 => (intro w hSw; (try dsimp only at hSw); go_simp; (first | done | with_reducible rfl))
            try simp only [Act.put, List.setIfInBounds_toArray, List.set_cons_zero, List.set_cons_succ]
            refine wpAnyH_ready (rs := [15]) (by kernel_rfl) (by simp) ?_
            refine AllReadyH.cons (o := _) rfl (fun K hK => ?step16) ?_
            case step16 =>
              go_simp
              refine hK.out _ _ ?hS16 (fun hHeld => ?_)
              case hS16 => (first | (exact (HS.out _ (Below.refl _ _).drew).1) | (exact (HS.out _ hbW).1) | (exact (HS.out _ hbW).2 _))
              clear hK K
              try simp only [Act.put, List.setIfInBounds_toArray, List.set_cons_zero, List.set_cons_succ]
              refine wpAnyH_done (by kernel_rfl) ?_ _
              obtain ⟨hRX, hMX⟩ := (HAT.out w2 hbW).2.2 _ _ _ _ HB2.out
              generalize hX : w2.setCell ⟨g, k * 3 + 1, none⟩ _ = X at hRX hMX ⊢
              clear hX
              obtain ⟨g', cap', _, _, _, _, _, _, hrX, hgX, _, _, _, _, _, hATX⟩ := hRX.at (k := k) (by simpa using HX.out.2.2.2.2)
              have hrX' := hrX.cells.1
              have x0 : X.cell? ⟨r, 0, none⟩ = some (.slice (some ⟨g', 0, none⟩) n cap') := by
                rw [hrX', List.length_set, ← HN.out]
              have zX := (hATX X (Below.refl _ _)).1.1 (k * 3 + 2)
              have HF := Lib.hid ((hATX X (Below.refl _ _)).2.1 none 0 0 [] (IsRActs.nil X))
              have hgc := hgX.2.2
              have HM := Lib.hid (((MovedR.of_below hbW HX.out.2.2.2.1.1 HX.out.2.2.2.1.2).trans hMX).trans HF.out.2)
              have hcap' := hgX.2.2.1
              have hcap2 := hgX.2.2.2
              rw [List.length_set, ← HN.out] at hcap'
              unfold maxLen at hcap2
              clear hRX hMX hrX hgX hATX hrX' hgc hb2 hbW
              go_wp2_with fail
              go_ret
              have hF := HF.out.1
              rw [List.set_set, getD_set_at HX.out.2.2.2.2] at hF
              exact HK.out _ [] hF HM.out
            exact AllReadyH.nil
          exact AllReadyH.nil
        exact AllReadyH.nil
    · go_wp2_with fail
      go_ret
      exact .inr ⟨rfl, -1, HZ.out, .inl ⟨by omega, rfl, rfl⟩⟩
end Go.Proofs.YtjkkfjmloleedaaGreat

/- the reference's disk: appends of acts and of files, in drawn regions -/
namespace Go.Proofs.YtjkkfjmloleedaaGreat
open Go.RowKit
set_option linter.unusedSectionVars false
variable [Zone]
theorem Own3.none_new (w : World) (base : Nat) (ty : TypeId) (hb : base ≤ w.heap.size) : Own3 (w.alloc (.cells #[] ty)) base ty (.slice (some ⟨w.heap.size, 0, none⟩) 0 0) [] := by
  refine ⟨World.ownsRow_made w #[] 0 hb (by unfold maxLen; omega) (by simp), fun g c t f hg hc u hu => ?_, Ok3.nil⟩
  simp only [Value.ownBlock, Option.some.injEq] at hg
  subst hg
  rw [heap_alloc_new] at hc
  cases hc
  simp at hu
theorem OwnA.none_new (w : World) (base : Nat) (hb : base ≤ w.heap.size) : OwnA (w.alloc (.cells #[] 97)) base (.slice (some ⟨w.heap.size, 0, none⟩) 0 0) [] := ⟨[], Own3.none_new w base _ hb, Acts3.nil _⟩
theorem Acts3.append {w : World} {T : List V3} {D : List Deed} {U : List V3} {E : List Deed} (h : Acts3 w T D) (k : Acts3 w U E) : Acts3 w (T ++ U) (D ++ E) := by
  refine ⟨by simp [h.1, k.1], fun i hi => ?_⟩
  simp only [List.length_append] at hi
  by_cases hl : i < D.length
  · have e1 : (T ++ U).getD i v30 = T.getD i v30 := by simp [List.getD_eq_getElem?_getD, List.getElem?_append_left (show i < T.length by rw [h.1]; exact hl)]
    have e2 : (D ++ E).getD i (.cut 0) = D.getD i (.cut 0) := by simp [List.getD_eq_getElem?_getD, List.getElem?_append_left hl]
    rw [e1, e2]
    exact h.2 i hl
  · have e1 : (T ++ U).getD i v30 = U.getD (i - D.length) v30 := by rw [← h.1]; simp [List.getD_eq_getElem?_getD, List.getElem?_append_right (show T.length ≤ i by rw [h.1]; omega)]
    have e2 : (D ++ E).getD i (.cut 0) = E.getD (i - D.length) (.cut 0) := by simp [List.getD_eq_getElem?_getD, List.getElem?_append_right (show D.length ≤ i by omega)]
    rw [e1, e2]
    exact k.2 _ (by omega)
theorem opwp_append3 {w : World} {et sl : TypeId} (hT : Ty3 et sl) {o : Oper} {a : Act} {K : Act → World → Prop} {Q : Exit → Act → World → Prop} (s x : Operand)
    (ho : o.op = .call { callee := .builtin .append, args := #[s, x], argTypes := #[sl, sl] })
    (base : Nat) (v : Value) (T : List V3) (hs : a.eval s = v) (hown : Own3 w base et v T)
    (ao : Option Addr) (m c : Nat) (U : List V3) (hx : a.eval x = .slice ao m c) (hsrc : Is3 w et ao m c U) (hnm : T.length + m ≤ 100000000) (hbase : base ≤ w.heap.size)
    (h : ∀ v' w', Own3 w' base et v' (T ++ U) → w.grownBy w' v.ownBlock → (∀ g, v'.ownBlock = some g → v.ownBlock = some g ∨ w.heap.size ≤ g) → K (a.put o.dst v') w') : o.wp Tryz.prog a w K Q := by
  obtain ⟨v', w', hr, h2, h3, h4⟩ := run_append3 hT o.type base v T hown ao m c U hsrc hnm hbase
  unfold Oper.wp execOp
  simp only [ho, resolve, invoke, builtin, Sem.run_bind, Sem.run_pure, Result.andThen_ok, List.map_toArray, List.map_cons, List.map_nil, hs, hx, hr]
  exact h v' w' h2 h3 h4
theorem opwp_append_acts {w : World} {o : Oper} {a : Act} {K : Act → World → Prop} {Q : Exit → Act → World → Prop} (s x : Operand)
    (ho : o.op = .call { callee := .builtin .append, args := #[s, x], argTypes := #[84, 84] })
    (base : Nat) (v : Value) (D : List Deed) (hs : a.eval s = v) (hown : OwnA w base v D)
    (al : Option Addr) (m c : Nat) (E : List Deed) (hx : a.eval x = .slice al m c) (hsrc : IsRActs w al m c E) (hnm : D.length + m ≤ 100000000) (hbase : base ≤ w.heap.size)
    (h : ∀ v' w', OwnA w' base v' (D ++ E) → w.grownBy w' v.ownBlock → (∀ g, v'.ownBlock = some g → base ≤ g) → K (a.put o.dst v') w') : o.wp Tryz.prog a w K Q := by
  obtain ⟨T, h1, h2⟩ := hown
  obtain ⟨U, k1, k2⟩ := hsrc
  refine opwp_append3 ty3_act s x ho base v T hs h1 al m c U hx k1 (by have := h2.1; omega) hbase (fun v' w' q1 q2 q3 => h v' w' ⟨T ++ U, q1, ?_⟩ q2 (fun g hg => (q1.1.lt g hg).1))
  have hm : ∀ j off x, w.cell? ⟨j, off, none⟩ = some (.int .u8 x) → w'.heap[j]? = w.heap[j]? := fun j off x hc => q2.block j (block_lt_of_cell hc) (h1.u8 hc)
  exact (h2.moved hm).append (k2.moved hm)
theorem IsRActs.one {w : World} {g : Nat} {t : V3} {d : Deed} (h : Is3 w 97 (some ⟨g, 0, none⟩) 1 1 [t]) (ht : IsRAct w t.1 t.2.1 t.2.2 d) : IsRActs w (some ⟨g, 0, none⟩) 1 1 [d] := by
  refine ⟨[t], h, rfl, fun i hi => ?_⟩
  obtain rfl : i = 0 := by simpa using hi
  exact ht
theorem Is3.at {w : World} {ty : TypeId} {g : Nat} {t : V3} (hg : w.heap[g]? = some (.cells #[t.1, t.2.1, t.2.2] ty (0, 0))) (h : Ok3 [t]) : Is3 w ty (some ⟨g, 0, none⟩) 1 1 [t] := by
  refine ⟨rfl, Nat.le_refl _, by unfold maxLen; omega, (fun e => by cases e), h, fun _ => ⟨_, _, _, _, rfl, hg, fun j u hu => ?_⟩⟩
  rw [Nat.zero_add]
  have : flat3 [t] = [t.1, t.2.1, t.2.2] := rfl
  rw [this] at hu
  rw [List.getElem?_toArray]
  exact hu
/-- a cut of one's own, bytes of one's own. -/
theorem IsRActs.cut_at {w : World} {g z : Nat} (h : w.heap[g]? = some (.cells #[.bool true, .int .i64 (z : Int), .slice none 0 0] 97 (0, 0))) : IsRActs w (some ⟨g, 0, none⟩) 1 1 [.cut z] :=
  IsRActs.one (t := (.bool true, .int .i64 (z : Int), .slice none 0 0)) (Is3.at h (by intro u hu; simp [flat3] at hu; rcases hu with rfl | rfl | rfl <;> trivial)) ⟨rfl, rfl, rfl⟩
theorem IsRActs.more_at {w : World} {g : Nat} {a : Option Addr} {n c : Nat} {B : List UInt8} (h : w.heap[g]? = some (.cells #[.bool false, .int .i64 0, .slice a n c] 97 (0, 0))) (hb : IsBytesZ w a n c B) : IsRActs w (some ⟨g, 0, none⟩) 1 1 [.more B] :=
  IsRActs.one (t := (.bool false, .int .i64 0, .slice a n c)) (Is3.at h (by intro u hu; simp [flat3] at hu; rcases hu with rfl | rfl | rfl <;> trivial)) ⟨rfl, rfl, _, _, _, rfl, hb⟩
/-- behind an append to a row of one's own: whatever lies elsewhere. -/
theorem Below.grownA {B : Nat} {w w1 w2 : World} {v : Value} {D : List Deed} (h : Below B w w1) (hown : OwnA w1 B v D) (hs : B ≤ w1.heap.size) (hg : w1.grownBy w2 v.ownBlock) : Below B w w2 := h.grown hg hs (fun _ hk => (hown.lt hk).1)
end Go.Proofs.YtjkkfjmloleedaaGreat

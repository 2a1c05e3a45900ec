/- slices.SortFunc of rings that the call owns -/
import Derived.Test.YtgijaaklhdcgeaaGreatMQSame1
import Derived.Test.YtgijaaklhdcgeaaGreatMQSLay
set_option linter.unusedSimpArgs false
set_option linter.unusedVariables false
namespace Go.Proofs.YtgijaaklhdcgeaaGreat
open Go.RowKit Go.Sort Go.Geo
/-- a ring that lies outside of block g. -/
abbrev Elt (w : World) (base g : Nat) := {p : Value × List Pt // ∀ W : World, (∀ k, k < w.heap.size → k ≠ g → W.heap[k]? = w.heap[k]?) → OwnP W base p.1 p.2}
def encElt {w : World} {base g : Nat} (x : Elt w base g) : Value := x.1.1
def cfElt {w : World} {base g : Nat} (x y : Elt w base g) : Int := cmpL x.1.2 y.1.2
theorem swoElt {w : World} {base g : Nat} : SWO (Go.Proofs.ltOf (cfElt (w := w) (base := base) (g := g))) := by
  refine ⟨fun x => ?_, fun x y z h1 h2 => ?_, fun x y z h1 h2 => ?_⟩
  · unfold Go.Proofs.ltOf cfElt
    rw [decide_eq_false_iff_not, cmpL_lt]; exact lessL_irrefl _
  · unfold Go.Proofs.ltOf cfElt at *
    rw [decide_eq_true_eq, cmpL_lt] at *
    exact lessL_trans h1 h2
  · unfold Go.Proofs.ltOf cfElt at *
    rw [decide_eq_false_iff_not, cmpL_lt] at *
    intro h
    rcases lessL_total y.1.2 z.1.2 with h3 | h3 | h3
    · exact h2 h3
    · rw [← h3] at h; exact h1 h
    · exact h1 (lessL_trans h h3)
theorem oneElt {w : World} {base g : Nat} : Go.Proofs.OneCell (encElt (w := w) (base := base) (g := g)) := fun x => by
  obtain ⟨ao, cap, hv, _⟩ := (x.2 w (fun _ _ _ => rfl)).pts
  unfold encElt
  rw [hv]; rfl
theorem enters_n1 : ∀ args w, (callFunc 33 args).run Tryz.prog w = .ok (.enter 33 args) w := enters_of Tryz.func33 (by kernel_rfl) rfl
theorem sortWorld_block {α : Type} [Inhabited α] (enc : α → Value) (w : World) (g m : Nat) (dk : Array α) (os : Array Obj) (k : Nat) (hk : k < w.heap.size) (hg : k ≠ g) : (Go.Proofs.sortWorld enc w g 0 m dk os).heap[k]? = w.heap[k]? := by
  unfold Go.Proofs.sortWorld
  rw [heap_grow_old _ _ (by unfold putRow mapBlock Go.Sort.ahead; simpa using hk)]
  unfold putRow mapBlock Go.Sort.ahead
  simp only [Array.getElem?_modify]
  rw [if_neg (fun e => hg e.symm)]
theorem sortWorld_belowR {α : Type} [Inhabited α] (enc : α → Value) (w : World) (g base m : Nat) (dk : Array α) (os : Array Obj) (hg : base ≤ g) (hw : base ≤ w.heap.size) : Below base w (Go.Proofs.sortWorld enc w g 0 m dk os) := by
  refine ⟨rfl, rfl, rfl, ?_, fun k hk => sortWorld_block enc w g m dk os k (by omega) (by omega)⟩
  unfold Go.Proofs.sortWorld putRow mapBlock Go.Sort.ahead grow
  simp
theorem elt_get {w : World} {base g : Nat} [Inhabited (Elt w base g)] (d : Array (Elt w base g)) (i : Nat) (h : i < d.size) : (d[i]!).1.2 = (d.toList.map (·.1.2)).getD i [] := by
  rw [getElem!_pos d i h, List.getD_eq_getElem?_getD, List.getElem?_map, Array.getElem?_toList, Array.getElem?_eq_getElem h]
  rfl
theorem SortR_any (base : Nat) (v : Value) (R : List (List Pt)) (w : World) (h : OwnR w base v R) (hb : base ≤ w.heap.size) (hn : R.length ≤ 100000) :
    Calls Tryz.prog 32 #[v, .func (.func 33) #[] #[]] w fun e w' => e = .returned (.tuple #[]) ∧ ∃ R', OwnR w' base v R' ∧ R'.Perm R ∧ SortedR R' ∧ Below base w w' := by
  have hown := h
  obtain ⟨vs, h1, h2, h3⟩ := h
  rcases h2.2 with ⟨rfl, h0⟩ | ⟨g, cap', cur, rfl, hbg, hg, hnc, hm, hs, ht⟩
  · have : R = [] := List.eq_nil_of_length_eq_zero h0
    subst this
    have hcon := Go.Proofs.AnyF.slices_SortFunc_none { Tryz.sortR with } none 0 (.func (.func 33) #[] #[]) w
    change Calls Tryz.prog 32 _ _ _ at hcon
    refine hcon.mono ?_
    rintro e w' ⟨rfl, rfl⟩
    exact ⟨rfl, [], hown, List.Perm.refl _, List.Pairwise.nil, Below.refl _ _⟩
  · by_cases hR0 : R = []
    · subst hR0
      have hcon := Go.Proofs.AnyF.slices_SortFunc_none { Tryz.sortR with } (some ⟨g, 0, none⟩) cap' (.func (.func 33) #[] #[]) w
      change Calls Tryz.prog 32 _ _ _ at hcon
      refine hcon.mono ?_
      rintro e w' ⟨rfl, rfl⟩
      exact ⟨rfl, [], hown, List.Perm.refl _, List.Pairwise.nil, Below.refl _ _⟩
    · have hlt : g < w.heap.size := (Array.getElem?_eq_some_iff.1 hg).1
      have helt : ∀ i, i < R.length → ∀ u, vs[i]? = some u → ∀ W : World, (∀ k, k < w.heap.size → k ≠ g → W.heap[k]? = w.heap[k]?) → OwnP W base u (R.getD i []) := fun i hi u hu W hW => by
        obtain ⟨u', hu', ho⟩ := h3 i hi
        rw [hu] at hu'
        cases hu'
        refine ownsRow_move ho fun k hk => hW k (ho.lt k hk).2 (fun e => ?_)
        subst e
        rcases own_apart (by decide) h2 ho with hx | hx
        · rw [hx] at hk; cases hk
        · exact hx hk
      obtain ⟨D, hD1, hD2⟩ : ∃ D : List (Elt w base g), D.map (·.1.2) = R ∧ D.map encElt = vs := by
        refine ⟨(List.range R.length).pmap (fun i (hi : i < R.length) => (⟨(vs.getD i undef, R.getD i []), helt i hi _ (by rw [List.getD_eq_getElem?_getD, List.getElem?_eq_getElem (by omega), Option.getD_some])⟩ : Elt w base g)) (fun i hi => List.mem_range.1 hi), ?_, ?_⟩
        · apply List.ext_getElem?
          intro i
          by_cases hi : i < R.length
          · simp [List.map_pmap, List.getElem?_pmap, List.getElem?_range hi, List.getElem?_eq_getElem hi, List.getD_eq_getElem?_getD]
          · rw [List.getElem?_eq_none (by simp; omega), List.getElem?_eq_none (by omega)]
        · apply List.ext_getElem?
          intro i
          by_cases hi : i < R.length
          · have hi2 : i < vs.length := by omega
            simp [List.map_pmap, List.getElem?_pmap, List.getElem?_range hi, List.getElem?_eq_getElem hi2, encElt, List.getD_eq_getElem?_getD]
          · rw [List.getElem?_eq_none (by simp; omega), List.getElem?_eq_none (by omega)]
      have hDl : D.length = R.length := by rw [← hD1, List.length_map]
      have hDn : D ≠ [] := fun e => hR0 (by rw [← hD1, e]; rfl)
      obtain ⟨x0, hx0⟩ := List.exists_mem_of_ne_nil D hDn
      letI : Inhabited (Elt w base g) := ⟨x0⟩
      have hcmp : Go.Proofs.CmpLays1 Tryz.prog 33 #[] (encElt (w := w) (base := base) (g := g)) cfElt g 0 D.toArray.size w := by
        intro m os dk _ x y
        obtain ⟨ax, cx, hvx, hpx⟩ := (x.2 _ (fun k hk hkg => sortWorld_block encElt w g m dk os k hk hkg)).pts
        obtain ⟨ay, cy, hvy, hpy⟩ := (y.2 _ (fun k hk hkg => sortWorld_block encElt w g m dk os k hk hkg)).pts
        have hc := normal1_any ax _ cx x.1.2 ay _ cy y.1.2 _ hpx hpy
        rw [← hvx, ← hvy] at hc
        refine hc.mono ?_
        rintro e w' ⟨he, hgr⟩
        exact ⟨he, hgr.grow⟩
      have hH : Holds (encElt (w := w) (base := base) (g := g)) w g 0 D.toArray := by
        intro j hj
        have hj' : j < D.length := by simpa using hj
        have hvj : vs[j]? = some (encElt (D.toArray[j]!)) := by
          rw [← hD2, List.getElem?_map, List.getElem?_eq_getElem hj', getElem!_pos D.toArray j hj]
          rfl
        have hc := World.ownsRow.cells h2 (g := g) rfl j _ hvj
        have e : (⟨g, 0, none⟩ : Addr).add j = ⟨g, 0 + j, none⟩ := by unfold Addr.add; split <;> simp_all
        rw [e] at hc
        exact ⟨hc, frozen_of_row _ _ _ _ _ hg⟩
      have hcon := Go.Proofs.Any.slices_SortFunc Tryz.sortR (encElt (w := w) (base := base) (g := g)) oneElt cfElt swoElt 33 #[] g 0 cap' D.toArray w enters_n1 hcmp hH hlt (by simp; omega)
      change Calls Tryz.prog 32 _ _ _ at hcon
      rw [List.size_toArray, hDl] at hcon
      refine hcon.mono ?_
      rintro e w' ⟨rfl, d', q, os, hp, hso, rfl⟩
      obtain ⟨hsz0, _, hperm⟩ := hp
      have hsz : d'.size = R.length := by rw [hsz0]; simpa using hDl
      have hput : (Go.Proofs.sortWorld encElt w g 0 q d' os).heap[g]? = some (.cells (putCells encElt 0 d' cur) 36 (0, 0)) := by
        unfold Go.Proofs.sortWorld
        rw [heap_grow_old _ _ (by unfold putRow mapBlock Go.Sort.ahead; simpa using hlt)]
        unfold putRow mapBlock Go.Sort.ahead
        simp only [Array.getElem?_modify, if_true, hg]
        rfl
      have hMl : (d'.toList.map (·.1.2)).length = R.length := by rw [List.length_map, Array.length_toList, hsz]
      have hVl : (d'.toList.map encElt).length = R.length := by rw [List.length_map, Array.length_toList, hsz]
      have hperm2 : d'.toList.Perm D := by
        rw [← hDl] at hperm
        have e1 : (d'.extract 0 D.length).toList = d'.toList := by
          rw [show D.length = d'.size by rw [hDl, hsz]]; simp
        have e2 : (D.toArray.extract 0 D.length).toList = D := by simp
        rwa [e1, e2] at hperm
      refine ⟨rfl, d'.toList.map (·.1.2), ⟨d'.toList.map encElt, by rw [hVl, hMl], ⟨by rw [hVl, hMl, Nat.mul_one], .inr ⟨g, cap', _, by rw [hMl], hbg, hput, by rw [hMl]; exact hnc, hm, ?_, ?_⟩⟩, fun i hi => ?_⟩, ?_, ?_, sortWorld_belowR _ _ _ _ _ _ _ hbg hb⟩
      · unfold putCells
        rw [Array.size_mapIdx, hs]
      · apply List.ext_getElem?
        intro i
        rw [List.getElem?_take, hMl, Nat.mul_one]
        by_cases hi : i < R.length
        · have hic : i < cur.size := by rw [hs]; omega
          rw [if_pos hi, Array.getElem?_toList, List.getElem?_map, Array.getElem?_toList]
          unfold putCells
          rw [Array.getElem?_mapIdx, Array.getElem?_eq_getElem hic, Option.map_some, if_pos ⟨Nat.zero_le _, by omega⟩, Nat.sub_zero, Array.getElem?_eq_getElem (by omega), getElem!_pos d' i (by omega)]
          rfl
        · rw [if_neg hi, List.getElem?_eq_none (by rw [hVl]; omega)]
      · rw [hMl] at hi
        have hid : i < d'.size := by omega
        refine ⟨encElt d'[i], by rw [List.getElem?_map, Array.getElem?_toList, Array.getElem?_eq_getElem hid]; rfl, ?_⟩
        have := (d'[i]).2 _ (fun k hk hkg => sortWorld_block encElt w g q d' os k hk hkg)
        have e : (d'.toList.map (·.1.2)).getD i [] = d'[i].1.2 := by
          rw [List.getD_eq_getElem?_getD, List.getElem?_map, Array.getElem?_toList, Array.getElem?_eq_getElem hid]; rfl
        rw [e]
        exact this
      · rw [← hD1]
        exact hperm2.map _
      · unfold SortedR
        rw [List.pairwise_iff_getElem]
        intro i j hi hj hij
        rw [hMl] at hi hj
        have := hso i j (Nat.zero_le _) hij hj
        unfold Go.Proofs.ltOf cfElt at this
        rw [decide_eq_false_iff_not, cmpL_lt, elt_get _ _ (by omega), elt_get _ _ (by omega)] at this
        rw [List.getD_eq_getElem?_getD, List.getElem?_eq_getElem (by rw [hMl]; omega), List.getD_eq_getElem?_getD, List.getElem?_eq_getElem (by rw [hMl]; omega)] at this
        exact this
end Go.Proofs.YtgijaaklhdcgeaaGreat

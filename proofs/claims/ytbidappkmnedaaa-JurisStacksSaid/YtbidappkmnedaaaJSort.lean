/- juris: slices.SortFunc of the ints that Stack has cloned; Compact -/
import Derived.Test.YtbidappkmnedaaaJCmp
import Derived.Test.YtbidappkmnedaaaJInts
namespace Go.Proofs.Ytbidappkmnedaaa
open Go.RowKit Go.Sort
/-- the numbers that are there. -/
abbrev Idn (L : List Jur) := {x : Int // atJ L x ≠ none}
def encJ (L : List Jur) (x : Idn L) : Value := .int .i64 x.1
def cfJ (L : List Jur) (x y : Idn L) : Int := ordJ L x.1 y.1
theorem cmpI_lt {a b : Int} : cmpI a b < 0 ↔ a < b := by unfold cmpI; split <;> (try split) <;> omega
theorem cmpI_eq {a b : Int} : cmpI a b = 0 ↔ a = b := by unfold cmpI; split <;> (try split) <;> omega
/-- ahead in a stack. -/
theorem ordJ_lt {L : List Jur} {a b : Int} : ordJ L a b < 0 ↔ kiOf L a < kiOf L b ∨ (kiOf L a = kiOf L b ∧ a < b) := by
  unfold ordJ
  split
  · rename_i h
    rw [cmpI_eq] at h
    rw [cmpI_lt, h]
    omega
  · rename_i h
    rw [cmpI_eq] at h
    rw [cmpI_lt]
    omega
theorem swoJ (L : List Jur) : SWO (Go.Proofs.ltOf (cfJ L)) := by
  refine ⟨fun x => ?_, fun x y z h1 h2 => ?_, fun x y z h1 h2 => ?_⟩
  · unfold Go.Proofs.ltOf cfJ
    rw [decide_eq_false_iff_not, ordJ_lt]; omega
  · unfold Go.Proofs.ltOf cfJ at *
    rw [decide_eq_true_eq, ordJ_lt] at *
    omega
  · unfold Go.Proofs.ltOf cfJ at *
    rw [decide_eq_false_iff_not, ordJ_lt] at *
    omega
theorem oneJ (L : List Jur) : Go.Proofs.OneCell (encJ L) := fun _ => rfl
theorem enters_ord : ∀ args w, (callFunc 37 args).run Try.prog w = .ok (.enter 37 args) w := enters_of Try.func37 (by kernel_rfl) rfl
theorem idn_get {L : List Jur} [Inhabited (Idn L)] (d : Array (Idn L)) (i : Nat) (h : i < d.size) : (d[i]!).1 = (d.toList.map (·.1)).getD i 0 := by
  rw [getElem!_pos d i h, List.getD_eq_getElem?_getD, List.getElem?_map, Array.getElem?_toList, Array.getElem?_eq_getElem h]
  rfl
/-- of two numbers in a list the later one is not ahead. -/
def SortedJ (L : List Jur) (M : List Int) : Prop := ∀ i j, i < j → j < M.length → ¬ ordJ L (M.getD j 0) (M.getD i 0) < 0
theorem sortWorld_below {α : Type} [Inhabited α] (enc : α → Value) (w : World) (g base m : Nat) (dk : Array α) (os : Array Obj) (hg : base ≤ g) (hw : base ≤ w.heap.size) : Below base w (Go.Proofs.sortWorld enc w g 0 m dk os) := by
  refine ⟨rfl, rfl, rfl, ?_, fun k hk => ?_⟩
  · unfold Go.Proofs.sortWorld putRow mapBlock Go.Sort.ahead grow
    simp
  · unfold Go.Proofs.sortWorld
    rw [heap_grow_old _ _ (by unfold putRow mapBlock Go.Sort.ahead; simp; omega)]
    unfold putRow mapBlock Go.Sort.ahead
    simp only [Array.getElem?_modify]
    rw [if_neg (by omega)]
theorem SortFunc_any (base B : Nat) (v : Value) (M : List Int) (L : List Jur) (ao : Option Addr) (n cap : Nat) (w : World) (h : OwnI w base v M) (hb : base ≤ w.heap.size) (hn : M.length ≤ 100000) (hM : ∀ x ∈ M, atJ L x ≠ none)
    (hJ : ∀ W, Below base w W → IsJurs W ao n cap L) (hB : ∀ W, Below base w W → W.cell? ⟨B, 0, none⟩ = some (.slice ao n cap)) :
    Calls Try.prog 36 #[v, .func (.func 37) #[] #[.pointer (some ⟨B, 0, none⟩)]] w fun e w' => e = .returned (.tuple #[]) ∧ ∃ M', OwnI w' base v M' ∧ M'.Perm M ∧ SortedJ L M' ∧ Below base w w' := by
  have hown := h
  rcases h.2 with ⟨rfl, h0⟩ | ⟨g, cap', cur, rfl, hbg, hg, hnc, hm, hs, ht⟩
  · have : M = [] := List.eq_nil_of_length_eq_zero h0
    subst this
    have hcon := Go.Proofs.AnyF.slices_SortFunc_none { Try.sortI with } none 0 (.func (.func 37) #[] #[.pointer (some ⟨B, 0, none⟩)]) w
    change Calls Try.prog 36 _ _ _ at hcon
    refine hcon.mono ?_
    rintro e w' ⟨rfl, rfl⟩
    exact ⟨rfl, [], hown, List.Perm.refl _, fun i j _ hj => absurd hj (by simp), Below.refl _ _⟩
  · by_cases hM0 : M = []
    · subst hM0
      have hcon := Go.Proofs.AnyF.slices_SortFunc_none { Try.sortI with } (some ⟨g, 0, none⟩) cap' (.func (.func 37) #[] #[.pointer (some ⟨B, 0, none⟩)]) w
      change Calls Try.prog 36 _ _ _ at hcon
      refine hcon.mono ?_
      rintro e w' ⟨rfl, rfl⟩
      exact ⟨rfl, [], hown, List.Perm.refl _, fun i j _ hj => absurd hj (by simp), Below.refl _ _⟩
    · have hlt : g < w.heap.size := (Array.getElem?_eq_some_iff.1 hg).1
      obtain ⟨x0, hx0⟩ := List.exists_mem_of_ne_nil M hM0
      letI : Inhabited (Idn L) := ⟨⟨x0, hM x0 hx0⟩⟩
      obtain ⟨D, hD⟩ : ∃ D : List (Idn L), D.map (·.1) = M := ⟨M.pmap Subtype.mk hM, by simp [List.map_pmap]⟩
      have hDl : D.length = M.length := by rw [← hD, List.length_map]
      have hcmp : Go.Proofs.CmpLays1 Try.prog 37 #[.pointer (some ⟨B, 0, none⟩)] (encJ L) (cfJ L) g 0 D.toArray.size w := by
        intro m os dk _ x y
        have hbw := sortWorld_below (encJ L) w g base m dk os hbg hb
        refine (ord_any ao n cap L B x.1 y.1 _ (hJ _ hbw) (hB _ hbw) x.2 y.2).mono ?_
        rintro e w' ⟨he, hgr⟩
        exact ⟨he, hgr.grow⟩
      have hH : Holds (encJ L) w g 0 D.toArray := by
        intro j hj
        have hj' : j < D.length := by simpa using hj
        have hc := World.ownsRow.cells hown (g := g) rfl j _ (flatI_get M j (by omega))
        have e : (⟨g, 0, none⟩ : Addr).add j = ⟨g, 0 + j, none⟩ := by unfold Addr.add; split <;> simp_all
        rw [e] at hc
        refine ⟨?_, frozen_of_row _ _ _ _ _ hg⟩
        rw [hc]
        unfold encJ
        rw [idn_get _ _ hj, List.toList_toArray, hD]
      have hcon := Go.Proofs.Any.slices_SortFunc Try.sortI (encJ L) (oneJ L) (cfJ L) (swoJ L) 37 #[.pointer (some ⟨B, 0, none⟩)] g 0 cap' D.toArray w enters_ord hcmp hH hlt (by simp; omega)
      change Calls Try.prog 36 _ _ _ at hcon
      rw [List.size_toArray, hDl] at hcon
      refine hcon.mono ?_
      rintro e w' ⟨rfl, d', q, os, hp, hso, rfl⟩
      obtain ⟨hsz0, _, hperm⟩ := hp
      have hsz : d'.size = M.length := by rw [hsz0]; simpa using hDl
      have hput : (Go.Proofs.sortWorld (encJ L) w g 0 q d' os).heap[g]? = some (.cells (putCells (encJ L) 0 d' cur) 3 (0, 0)) := by
        unfold Go.Proofs.sortWorld
        rw [heap_grow_old _ _ (by unfold putRow mapBlock Go.Sort.ahead; simpa using hlt)]
        unfold putRow mapBlock Go.Sort.ahead
        simp only [Array.getElem?_modify, if_true, hg]
        rfl
      have hMl : (d'.toList.map (·.1)).length = M.length := by rw [List.length_map, Array.length_toList, hsz]
      refine ⟨rfl, d'.toList.map (·.1), ⟨by rw [flatI_length, Nat.mul_one], .inr ⟨g, cap', _, by rw [hMl], hbg, hput, by rw [hMl]; exact hnc, hm, ?_, ?_⟩⟩, ?_, ?_, sortWorld_below _ _ _ _ _ _ _ hbg hb⟩
      · unfold putCells
        rw [Array.size_mapIdx, hs]
      · apply List.ext_getElem?
        intro i
        rw [List.getElem?_take, hMl, Nat.mul_one]
        by_cases hi : i < M.length
        · have hic : i < cur.size := by rw [hs]; omega
          rw [if_pos hi, Array.getElem?_toList, flatI_get _ _ (by rw [hMl]; exact hi)]
          unfold putCells
          rw [Array.getElem?_mapIdx, Array.getElem?_eq_getElem hic, Option.map_some, if_pos ⟨Nat.zero_le _, by omega⟩, Nat.sub_zero]
          unfold encJ
          rw [idn_get _ _ (by omega)]
        · rw [if_neg hi, List.getElem?_eq_none (by rw [flatI_length, hMl]; omega)]
      · rw [← hD, ← hDl] at *
        have e1 : (d'.extract 0 D.length).toList = d'.toList := by
          rw [show D.length = d'.size from hsz.symm]; simp
        have e2 : (D.toArray.extract 0 D.length).toList = D := by simp
        rw [e1, e2] at hperm
        exact hperm.map _
      · intro i j hij hj
        rw [hMl] at hj
        have := hso i j (Nat.zero_le _) hij hj
        unfold Go.Proofs.ltOf cfJ at this
        rw [decide_eq_false_iff_not, idn_get _ _ (by omega), idn_get _ _ (by omega)] at this
        exact this
/-- slices.Compact of ints that the call owns: how many there are then. -/
theorem Compact_any (base : Nat) (v : Value) (M : List Int) (w : World) (h : OwnI w base v M) (hb : base ≤ w.heap.size) (hn : M.length ≤ 100000) :
    Calls Try.prog 40 #[v] w fun e w' => (∃ ao cap, e = .returned (.slice ao (Lib.compact M).length cap)) ∧ Below base w w' := by
  have hown := h
  rcases h.2 with ⟨rfl, h0⟩ | ⟨g, cap', cur, rfl, hbg, hg, hnc, hm, hs, ht⟩
  · have : M = [] := List.eq_nil_of_length_eq_zero h0
    subst this
    have hcon := Go.Proofs.AnyG.slices_Compact_int_empty Try.compactI none 0 w
    change Calls Try.prog 40 _ _ _ at hcon
    refine hcon.mono ?_
    rintro e w' ⟨rfl, rfl⟩
    exact ⟨⟨_, _, rfl⟩, Below.refl _ _⟩
  · have hlt : g < w.heap.size := (Array.getElem?_eq_some_iff.1 hg).1
    have hH : Holds (Value.int .i64) w g 0 M.toArray := by
      intro j hj
      have hj' : j < M.length := by simpa using hj
      have hc := World.ownsRow.cells hown (g := g) rfl j _ (flatI_get M j hj')
      have e : (⟨g, 0, none⟩ : Addr).add j = ⟨g, 0 + j, none⟩ := by unfold Addr.add; split <;> simp_all
      rw [e] at hc
      refine ⟨?_, frozen_of_row _ _ _ _ _ hg⟩
      rw [hc, getElem!_pos M.toArray j hj, List.getD_eq_getElem?_getD, List.getElem?_eq_getElem hj']
      rfl
    have hcon := Go.Proofs.AnyG.slices_Compact_int Try.compactI g 0 cap' M w hH (by omega) hnc
    change Calls Try.prog 40 _ _ _ at hcon
    refine hcon.mono ?_
    rintro e w' ⟨rfl, q, rfl⟩
    refine ⟨⟨_, _, rfl⟩, rfl, rfl, rfl, ?_, fun k hk => ?_⟩
    · unfold putRow mapBlock Go.Sort.ahead; simp
    · unfold putRow mapBlock Go.Sort.ahead
      simp only [Array.getElem?_modify]
      rw [if_neg (by omega)]
end Go.Proofs.Ytbidappkmnedaaa

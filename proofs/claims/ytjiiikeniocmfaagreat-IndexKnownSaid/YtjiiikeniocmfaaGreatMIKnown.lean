/- a region in whatever order whose effects are one chain, beside operations that float (fl): the predicate of a stage knows what the floating ones have got -/
import Derived.Test.YtjiiikeniocmfaaGreatMRegS
import Derived.Test.YtjiiikeniocmfaaGreatMIAwake
import Derived.Test.YtjiiikeniocmfaaGreatMQConcat
set_option linter.unusedSimpArgs false
set_option linter.unusedVariables false
namespace Go.Proofs.YtjiiikeniocmfaaGreat
open Go Go.RowKit
/-- what the floating ones have got so far. -/
def flo (fl : List Nat) (L : Nat → Bool) (V : Nat → Value) : Nat → Option Value := fun x => if (fl.contains x && L x) = true then some (V x) else none
theorem flo_at {fl : List Nat} {L : Nat → Bool} {V : Nat → Value} {i : Nat} (h : fl.contains i = true) (hl : L i = true) : flo fl L V i = some (V i) := by unfold flo; rw [h, hl]; rfl
theorem flo_not {fl : List Nat} {L : Nat → Bool} {V : Nat → Value} {i : Nat} (hl : L i = false) : flo fl L V i = none := by unfold flo; rw [hl, Bool.and_false]; rfl
theorem flo_none (fl : List Nat) (V : Nat → Value) : flo fl (fun _ => false) V = fun _ => none := by funext x; exact flo_not rfl
theorem flo_same {fl : List Nat} {L : Nat → Bool} {V : Nat → Value} {i : Nat} {v : Value} (h : fl.contains i = false) : flo fl (upd L i true) (upd V i v) = flo fl L V := by
  funext x
  unfold flo
  by_cases e : x = i
  · subst e; rw [h]; rfl
  · rw [upd_ne _ _ _ _ e, upd_ne _ _ _ _ e]
theorem flo_more {fl : List Nat} {L : Nat → Bool} {V : Nat → Value} {i : Nat} {v : Value} (h : fl.contains i = true) : flo fl (upd L i true) (upd V i v) = upd (flo fl L V) i (some v) := by
  funext x
  by_cases e : x = i
  · subst e; rw [upd_at, flo_at h (upd_at _ _ _), upd_at]
  · rw [upd_ne _ _ _ _ e]; unfold flo; rw [upd_ne _ _ _ _ e, upd_ne _ _ _ _ e]
structure FloatJ (val : Nat → Option Value) (chain : List Nat) (fl : List Nat) (S : List Value → (Nat → Option Value) → World → Prop) (L : Nat → Bool) (V : Nat → Value) (w : World) : Prop where
  vals : ∀ i v, val i = some v → L i = true → V i = v
  here : ∃ vs : List Value, vs.length ≤ chain.length ∧ (∀ j, j < chain.length → L (chain.getD j 0) = decide (j < vs.length)) ∧ (∀ j, j < vs.length → V (chain.getD j 0) = vs.getD j undef) ∧ S vs (flo fl L V) w
theorem FloatJ.start {val : Nat → Option Value} {chain : List Nat} {fl : List Nat} {S : List Value → (Nat → Option Value) → World → Prop} {V : Nat → Value} {w : World} (h : S [] (fun _ => none) w) : FloatJ val chain fl S (fun _ => false) V w :=
  ⟨fun _ _ _ h => (by cases h), [], Nat.zero_le _, fun j _ => by simp, fun j h => absurd h (by simp), by rw [flo_none]; exact h⟩
theorem FloatJ.val {val : Nat → Option Value} {chain : List Nat} {fl : List Nat} {S : List Value → (Nat → Option Value) → World → Prop} {L : Nat → Bool} {V : Nat → Value} {w w' : World} (h : FloatJ val chain fl S L V w) (i : Nat) (v : Value) (hc : chain.contains i = false) (hv : (match val i with | some u => u = v | none => True)) (hfl : fl.contains i = false) (hS : ∀ vs F, S vs F w → S vs F w') : FloatJ val chain fl S (upd L i true) (upd V i v) w' := by
  obtain ⟨h1, vs, h2, h3, h4, h5⟩ := h
  have hne : ∀ j, j < chain.length → chain.getD j 0 ≠ i := fun j hj e => by
    have : chain.contains i = true := List.contains_iff_mem.2 (by
      rw [← e, List.getD_eq_getElem?_getD, List.getElem?_eq_getElem hj, Option.getD_some]
      exact List.getElem_mem _)
    rw [hc] at this
    cases this
  refine ⟨fun j u hj hl => ?_, vs, h2, fun j hj => by rw [upd_ne _ _ _ _ (hne j hj)]; exact h3 j hj, fun j hj => by rw [upd_ne _ _ _ _ (hne j (by omega))]; exact h4 j hj, by rw [flo_same hfl]; exact hS vs _ h5⟩
  by_cases hji : j = i
  · subst hji
    rw [upd_at]
    rw [hj] at hv
    exact hv.symm
  · rw [upd_ne _ _ _ _ hji] at hl ⊢
    exact h1 j u hj hl
theorem FloatJ.float {val : Nat → Option Value} {chain : List Nat} {fl : List Nat} {S : List Value → (Nat → Option Value) → World → Prop} {L : Nat → Bool} {V : Nat → Value} {w w' : World} (h : FloatJ val chain fl S L V w) (i : Nat) (v : Value) (hc : chain.contains i = false) (hv : (match val i with | some u => u = v | none => True)) (hfl : fl.contains i = true) (hl0 : L i = false) (hS : ∀ vs F, F i = none → S vs F w → S vs (upd F i (some v)) w') : FloatJ val chain fl S (upd L i true) (upd V i v) w' := by
  obtain ⟨h1, vs, h2, h3, h4, h5⟩ := h
  have hne : ∀ j, j < chain.length → chain.getD j 0 ≠ i := fun j hj e => by
    have : chain.contains i = true := List.contains_iff_mem.2 (by
      rw [← e, List.getD_eq_getElem?_getD, List.getElem?_eq_getElem hj, Option.getD_some]
      exact List.getElem_mem _)
    rw [hc] at this
    cases this
  refine ⟨fun j u hj hl => ?_, vs, h2, fun j hj => by rw [upd_ne _ _ _ _ (hne j hj)]; exact h3 j hj, fun j hj => by rw [upd_ne _ _ _ _ (hne j (by omega))]; exact h4 j hj, by rw [flo_more hfl]; exact hS vs _ (flo_not hl0) h5⟩
  by_cases hji : j = i
  · subst hji
    rw [upd_at]
    rw [hj] at hv
    exact hv.symm
  · rw [upd_ne _ _ _ _ hji] at hl ⊢
    exact h1 j u hj hl
/-- how far the chain is, at most. -/
theorem FloatJ.upto {val : Nat → Option Value} {chain : List Nat} {fl : List Nat} {S : List Value → (Nat → Option Value) → World → Prop} {L : Nat → Bool} {V : Nat → Value} {w : World} (h : FloatJ val chain fl S L V w) (j : Nat) (hj : j < chain.length) (hl : L (chain.getD j 0) = false) : ∃ vs : List Value, vs.length ≤ j ∧ S vs (flo fl L V) w := by
  obtain ⟨h1, vs, h2, h3, h4, h5⟩ := h
  refine ⟨vs, ?_, h5⟩
  have := h3 j hj
  rw [hl] at this
  have := of_decide_eq_false this.symm
  omega
theorem FloatJ.next {val : Nat → Option Value} {chain : List Nat} {fl : List Nat} {S : List Value → (Nat → Option Value) → World → Prop} {L : Nat → Bool} {V : Nat → Value} {w : World} (h : FloatJ val chain fl S L V w) (hn : decide chain.Nodup = true) (j : Nat) (hj : decide (j < chain.length) = true) (hl : L (chain.getD j 0) = false) (hp : j = 0 ∨ L (chain.getD (j - 1) 0) = true) (hv : val (chain.getD j 0) = none) (hfl : fl.contains (chain.getD j 0) = false) :
    ∃ vs : List Value, vs.length = j ∧ (∀ t, t < j → V (chain.getD t 0) = vs.getD t undef) ∧ S vs (flo fl L V) w ∧ ∀ v w', S (vs ++ [v]) (flo fl L V) w' → FloatJ val chain fl S (upd L (chain.getD j 0) true) (upd V (chain.getD j 0) v) w' := by
  obtain ⟨h1, vs, h2, h3, h4, h5⟩ := h
  have hj := of_decide_eq_true hj
  have hn := of_decide_eq_true hn
  have e1 := h3 j hj
  rw [hl] at e1
  have e1 := of_decide_eq_false e1.symm
  have hlen : vs.length = j := by
    rcases hp with rfl | hp
    · omega
    · by_cases hz : j = 0
      · omega
      · have e2 := h3 (j - 1) (by omega)
        rw [hp] at e2
        have e2 := of_decide_eq_true e2.symm
        omega
  have hne : ∀ t, t < chain.length → t ≠ j → chain.getD t 0 ≠ chain.getD j 0 := fun t ht hne e => by
    rw [List.getD_eq_getElem?_getD, List.getElem?_eq_getElem ht, List.getD_eq_getElem?_getD, List.getElem?_eq_getElem hj, Option.getD_some, Option.getD_some] at e
    exact hne ((List.getElem_inj hn).1 e)
  refine ⟨vs, hlen, fun t ht => h4 t (by omega), h5, fun v w' hS => ⟨fun k u hk hlk => ?_, vs ++ [v], by simp; omega, fun t ht => ?_, fun t ht => ?_, by rw [flo_same hfl]; exact hS⟩⟩
  · have hki : k ≠ chain.getD j 0 := fun e => by subst e; rw [hv] at hk; cases hk
    rw [upd_ne _ _ _ _ hki] at hlk ⊢
    exact h1 k u hk hlk
  · by_cases htj : t = j
    · subst htj
      rw [upd_at]
      simp [hlen]
    · rw [upd_ne _ _ _ _ (hne t ht htj), h3 t ht]
      rw [Bool.eq_iff_iff]
      simp
      omega
  · have ht' : t < j + 1 := by simpa [hlen] using ht
    by_cases htj : t = j
    · subst htj
      rw [upd_at]
      simp [List.getD_eq_getElem?_getD, ← hlen]
    · rw [upd_ne _ _ _ _ (hne t (by omega) htj), h4 t (by omega)]
      simp [List.getD_eq_getElem?_getD, List.getElem?_append_left (show t < vs.length by omega)]
theorem FloatJ.all {val : Nat → Option Value} {chain : List Nat} {fl : List Nat} {S : List Value → (Nat → Option Value) → World → Prop} {n : Nat} {V : Nat → Value} {w : World} (h : FloatJ val chain fl S (fun i => decide (i < n)) V w) (hn : chain.all (fun i => decide (i < n)) = true) : ∃ vs : List Value, vs.length = chain.length ∧ (∀ t, t < chain.length → V (chain.getD t 0) = vs.getD t undef) ∧ S vs (flo fl (fun i => decide (i < n)) V) w := by
  obtain ⟨h1, vs, h2, h3, h4, h5⟩ := h
  have hlen : vs.length = chain.length := by
    by_cases hz : chain.length = 0
    · omega
    · have e := h3 (chain.length - 1) (by omega)
      have hm : chain.getD (chain.length - 1) 0 ∈ chain := by
        rw [List.getD_eq_getElem?_getD, List.getElem?_eq_getElem (by omega), Option.getD_some]
        exact List.getElem_mem _
      have := List.all_eq_true.1 hn _ hm
      rw [this] at e
      have := of_decide_eq_true e.symm
      omega
  exact ⟨vs, hlen, fun t ht => h4 t (by omega), h5⟩
end Go.Proofs.YtjiiikeniocmfaaGreat

/- IndexKnown's walk, its parts -/
set_option linter.unusedSimpArgs false
set_option linter.unusedVariables false
namespace Go.Proofs.YtjiiikeniocmfaaGreat
open Go.RowKit Go.Geo
attribute [local go_sem] Oper.semAt_some
theorem IIn_low (B g og sg i : Nat) (G : List Reg) (p : Pt) (w : World) (h : IdxOn (fun _ => False) w B g og sg G) (hi : i < G.length) (hB : B ≤ w.heap.size) :
    Calls Tryz.prog 15 #[.pointer (some ⟨g, 0, none⟩), .int .i64 (i : Int), ptV p] w fun e w' => e = .returned (.tuple #[.bool (inR p (G.getD i [])), .int .i64 0]) ∧ IdxOn (fun _ => False) w' B g og sg G ∧ Below B w w' := by
  refine (IIn_any (fun _ => False) B g og sg i G p w h (fun k hk => hk.elim) hi).mono ?_
  rintro e w' ⟨rfl, h1, h2⟩
  exact ⟨rfl, h1, h2.below h.lo h.ls hB⟩
theorem IAt_two (B g og sg : Nat) (G : List Reg) (p : Pt) (w : World) (h : IdxOn (fun _ => False) w B g og sg G) (hB : B ≤ w.heap.size) :
    Calls Tryz.prog 12 #[.pointer (some ⟨g, 0, none⟩), ptV p] w fun e w' => ∃ ao cap, e = .returned (.slice ao (askG (inR p) G).length cap) ∧ IsInts w' ao (askG (inR p) G).length cap (askG (inR p) G) ∧ IdxOn (fun _ => False) w' B g og sg G ∧ Below B w w' ∧ Two og sg w w' := by
  refine (IAt_any (fun _ => False) B g og sg G p w h (fun k hk => hk.elim)).mono ?_
  rintro e w' ⟨v, rfl, ho, hi, ht⟩
  obtain ⟨ao, cap, rfl, hs⟩ := ho.ints
  exact ⟨ao, cap, rfl, hs, hi.step (Nat.le_refl _) (fun _ _ _ => rfl) (fun k hk => hk.elim), ht.below h.lo h.ls hB, ht⟩
theorem one_int (w : World) (x : Int) : IsInts (w.alloc (Obj.cells #[.int .i64 x] 3)) (some ⟨w.heap.size, 0, none⟩) 1 1 [x] := by
  refine ⟨rfl, Nat.le_refl _, by unfold maxLen; omega, fun _ => ⟨_, 0, rfl, fun k hk => ?_⟩, fun h => by cases h⟩
  obtain rfl : k = 0 := by omega
  exact cell_of_row _ _ _ _ _ _ (alloc_new w _)
theorem INear_low (B g og sg : Nat) (G : List Reg) (p : Pt) (w : World) (h : IdxOn (fun _ => False) w B g og sg G) :
    Calls Tryz.prog 17 #[.pointer (some ⟨g, 0, none⟩), ptV p] w fun e w' => ∃ ao cap, e = .returned (.slice ao (askB (nearQ p) (boxesR G)).length cap) ∧ IsInts w' ao (askB (nearQ p) (boxesR G)).length cap (askB (nearQ p) (boxesR G)) ∧ Below w.heap.size w w' := by
  refine (Near_any (fun _ => False) B g og sg G p w h).mono ?_
  rintro e w' ⟨v, rfl, ho, hb⟩
  obtain ⟨ao, cap, rfl, hi⟩ := ho.ints
  exact ⟨ao, cap, rfl, hi, hb⟩
theorem make_regs65 (w : World) : ∃ w', (Instr.makeSlice 26 (.int .i64 65) (.int .i64 65)).run Tryz.prog w = .ok (.slice (some ⟨w.heap.size, 0, none⟩) 65 65) w' ∧ Below w.heap.size w w' ∧ IsRegs w' (some ⟨w.heap.size, 0, none⟩) 65 65 (List.replicate 65 []) := by
  obtain ⟨i0, hi, hz0, hz1, hz2⟩ := info_parts' Tryz.infoRg
  have h := run_makeSlice (P := Tryz.prog) w 26 30 i0 _ Tryz.underlying26 hi hz0 .i64 .i64 (65 : Int) (65 : Int) (by omega) (by omega) (by rw [hz1]; omega) (by rw [hz2]; omega) (by omega)
  rw [hz1] at h
  refine ⟨_, h, (Below.refl _ _).alloc (Nat.le_refl _) _, rfl, Nat.le_refl _, by unfold maxLen; omega, (fun h => by cases h), fun k hk => ?_⟩
  have hk1 : k % 1 = 0 := by omega
  have hc : (madeCells (Value.agg #[Value.slice none 0 0]).cells (Int.toNat 65 * 1))[0 + k]? = some (.slice none 0 0) := by
    rw [Nat.zero_add, made_at _ _ _ (by simp; omega)]
    show some ((#[Value.slice none 0 0] : Array Value)[k % 1]!) = _
    rw [hk1]; rfl
  refine ⟨_, 0, none, 0, 0, rfl, (cell_of_row _ _ _ _ _ _ (alloc_new _ _)).trans hc, ?_⟩
  have : (List.replicate 65 ([] : Reg)).getD k [] = [] := by
    rw [List.getD_eq_getElem?_getD, List.getElem?_replicate, if_pos hk]; rfl
  rw [this]
  exact ⟨rfl, Nat.le_refl _, by unfold maxLen; omega, fun _ => ⟨rfl, rfl⟩, fun j hj => absurd hj (by omega)⟩
def kn2 : List Reg := [[boxP 0 0 4 4], [[⟨0, 0⟩, ⟨1, 1⟩]]]
theorem kn2_regs (w : World) (q : Nat) (hq : IsRings w (some ⟨q, 0, none⟩) 1 1 [boxP 0 0 4 4]) :
    IsRegs (((w.alloc (Obj.cells #[.int .i64 0, .int .i64 0, .int .i64 1, .int .i64 1] 24)).alloc (Obj.cells #[.slice (some ⟨w.heap.size, 0, none⟩) 2 2] 40)).alloc (Obj.cells #[.slice (some ⟨q, 0, none⟩) 1 1, .slice (some ⟨w.heap.size + 1, 0, none⟩) 1 1] 30)) (some ⟨w.heap.size + 1 + 1, 0, none⟩) 2 2 kn2 ∧
    Below w.heap.size w (((w.alloc (Obj.cells #[.int .i64 0, .int .i64 0, .int .i64 1, .int .i64 1] 24)).alloc (Obj.cells #[.slice (some ⟨w.heap.size, 0, none⟩) 2 2] 40)).alloc (Obj.cells #[.slice (some ⟨q, 0, none⟩) 1 1, .slice (some ⟨w.heap.size + 1, 0, none⟩) 1 1] 30)) := by
  obtain ⟨W1, hW1⟩ : ∃ W, W = w.alloc (Obj.cells #[.int .i64 0, .int .i64 0, .int .i64 1, .int .i64 1] 24) := ⟨_, rfl⟩
  obtain ⟨W2, hW2⟩ : ∃ W, W = W1.alloc (Obj.cells #[.slice (some ⟨w.heap.size, 0, none⟩) 2 2] 40) := ⟨_, rfl⟩
  obtain ⟨W3, hW3⟩ : ∃ W, W = W2.alloc (Obj.cells #[.slice (some ⟨q, 0, none⟩) 1 1, .slice (some ⟨w.heap.size + 1, 0, none⟩) 1 1] 30) := ⟨_, rfl⟩
  rw [← hW1, ← hW2, ← hW3]
  have s1 : W1.heap.size = w.heap.size + 1 := by rw [hW1]; simp
  have s2 : W2.heap.size = w.heap.size + 1 + 1 := by rw [hW2]; simp [s1]
  have b1 : Below w.heap.size w W1 := by rw [hW1]; exact (Below.refl _ _).alloc (Nat.le_refl _) _
  have b2 : Below W1.heap.size W1 W2 := by rw [hW2]; exact (Below.refl _ _).alloc (Nat.le_refl _) _
  have b3 : Below W2.heap.size W2 W3 := by rw [hW3]; exact (Below.refl _ _).alloc (Nat.le_refl _) _
  have hb : Below w.heap.size w W3 := (b1.trans (b2.mono (by omega))).trans (b3.mono (by omega))
  have r1 : W1.heap[w.heap.size]? = some (.cells #[.int .i64 0, .int .i64 0, .int .i64 1, .int .i64 1] 24 (0, 0)) := by rw [hW1]; exact alloc_new _ _
  have r2 : W2.heap[w.heap.size + 1]? = some (.cells #[.slice (some ⟨w.heap.size, 0, none⟩) 2 2] 40 (0, 0)) := by rw [hW2, ← s1]; exact alloc_new _ _
  have r3 : W3.heap[w.heap.size + 1 + 1]? = some (.cells #[.slice (some ⟨q, 0, none⟩) 1 1, .slice (some ⟨w.heap.size + 1, 0, none⟩) 1 1] 30 (0, 0)) := by rw [hW3, ← s2]; exact alloc_new _ _
  have q1 := (b3.block _ (by omega)).trans ((b2.block _ (by omega)).trans r1)
  have q2 := (b3.block _ (by omega)).trans r2
  refine ⟨⟨rfl, Nat.le_refl _, by unfold maxLen; omega, (fun h => by cases h), fun k hk => ?_⟩, hb⟩
  match k, hk with
  | 0, _ => exact ⟨_, 0, _, _, _, rfl, cell_of_row _ _ _ _ _ _ r3, hq.later hb (Nat.le_refl _)⟩
  | 1, _ =>
    refine ⟨_, 0, _, _, _, rfl, cell_of_row _ _ _ _ _ _ r3, rfl, Nat.le_refl _, by unfold maxLen; omega, (fun h => by cases h), fun k hk => ?_⟩
    obtain rfl : k = 0 := by omega
    refine ⟨_, 0, _, _, _, rfl, cell_of_row _ _ _ _ _ _ q2, rfl, Nat.le_refl _, by unfold maxLen; omega, fun _ => ⟨_, 0, rfl, fun i hi => ?_⟩, fun h => by cases h⟩
    match i, hi with
    | 0, _ => exact ⟨cell_of_row _ _ _ _ _ _ q1, cell_of_row _ _ _ _ _ _ q1⟩
    | 1, _ => exact ⟨cell_of_row _ _ _ _ _ _ q1, cell_of_row _ _ _ _ _ _ q1⟩
theorem kn1_bad : idxCheckP (List.replicate 65 []) = (3, 0) := by decide +kernel
theorem kn2_bad : idxCheckP kn2 = (190, 1) := by decide +kernel
theorem kn_at : askG (inR ⟨5, 5⟩) smG = [2] := by decide +kernel
theorem kn_near : askB (nearQ ⟨8, 8⟩) (boxesR smG) = [2] := by decide +kernel
theorem kn_in1 : inR ⟨4, 1⟩ (smG.getD 1 []) = true := by decide +kernel
theorem kn_in0 : inR ⟨4, 1⟩ (smG.getD 0 []) = false := by decide +kernel
end Go.Proofs.YtjiiikeniocmfaaGreat

/- IndexKnown: the walk -/
set_option linter.unusedSimpArgs false
set_option linter.unusedVariables false
namespace Go.Proofs.YtjiiikeniocmfaaGreat
open Go.RowKit Go.Geo
attribute [local go_sem] Oper.semAt_some
set_option maxRecDepth 100000 in
set_option maxHeartbeats 4000000 in
theorem IndexKnown_any (w : World) : Calls Tryz.prog 4 #[] w fun e w' => e = .returned (.bool true) ∧ Below w.heap.size w w' := by
  go_enter Tryz.func4, Tryz.ntmps4
  go_wp2_with fail
  refine (sampleI_any w).mono ?_
  rintro e w1 ⟨g, og, sg, rfl, hx, hb⟩
  have HX1 := Lib.hid hx
  have HB1 := Lib.hid hb
  clear hx hb
  go_wp2_with fail
  refine (atI_any 4 1 w1).mono ?_
  rintro e w2 ⟨rfl, hb2⟩
  have HX2 := Lib.hid (HX1.out.later hb2)
  have HB2 := Lib.hid (HB1.out.trans (hb2.mono HB1.out.size))
  clear hb2
  go_wp2_with fail
  have ha := IIn_low _ g og sg 1 smG ⟨4, 1⟩ w2 HX2.out (by decide) HB2.out.size
  rw [kn_in1] at ha
  refine ha.mono ?_
  rintro e w3 ⟨rfl, hx3, hb3⟩
  have HX3 := Lib.hid hx3
  have HB3 := Lib.hid (HB2.out.trans hb3)
  clear hx3 hb3 ha
  go_wp2_with fail
  refine (atI_any 4 1 w3).mono ?_
  rintro e w4 ⟨rfl, hb4⟩
  have HX4 := Lib.hid (HX3.out.later hb4)
  have HB4 := Lib.hid (HB3.out.trans (hb4.mono HB3.out.size))
  clear hb4
  go_wp2_with fail
  have ha := IIn_low _ g og sg 0 smG ⟨4, 1⟩ w4 HX4.out (by decide) HB4.out.size
  rw [kn_in0] at ha
  refine ha.mono ?_
  rintro e w5 ⟨rfl, hx5, hb5⟩
  have HX5 := Lib.hid hx5
  have HB5 := Lib.hid (HB4.out.trans hb5)
  clear hx5 hb5 ha
  go_wp2_with fail
  refine (atI_any 1 1 w5).mono ?_
  rintro e w6 ⟨rfl, hb6⟩
  have HX6 := Lib.hid (HX5.out.later hb6)
  have HB6 := Lib.hid (HB5.out.trans (hb6.mono HB5.out.size))
  clear hb6
  go_wp2_with fail
  refine (IIn_out (fun _ => False) _ g og sg 3 smG ⟨1, 1⟩ w6 HX6.out (.inr (by decide))).mono ?_
  rintro e w7 ⟨rfl, hb7⟩
  have HX7 := Lib.hid (HX6.out.later hb7)
  have HB7 := Lib.hid (HB6.out.trans (hb7.mono HB6.out.size))
  clear hb7
  go_wp2_with fail
  obtain ⟨w8, hmk, hb8, hri⟩ := make_regs65 w7
  have HX8 := Lib.hid (HX7.out.later hb8)
  have HB8 := Lib.hid (HB7.out.trans (hb8.mono HB7.out.size))
  have HBU := Lib.hid (IBuild_any _ 65 65 (List.replicate 65 []) w8 hri (fun i hi => by
    rw [List.getD_eq_getElem?_getD, List.getElem?_replicate, if_pos hi]; decide))
  rw [hmk]
  clear hmk hb8 hri
  go_wp2_with fail
  refine HBU.out.mono ?_
  rintro e w9 ⟨hb9, _, hbad⟩
  have hbad := hbad (by rw [kn1_bad]; decide)
  rw [kn1_bad] at hbad
  subst hbad
  have HX9 := Lib.hid (HX8.out.later hb9)
  have HB9 := Lib.hid (HB8.out.trans (hb9.mono HB8.out.size))
  clear hb9 HBU
  unfold faultV
  go_wp2_with fail
  obtain ⟨W9, hW9⟩ : ∃ W, W = w9.alloc (Obj.cells #[.int .i64 3, .int .i64 0] 35) := ⟨_, rfl⟩
  obtain ⟨q9, hq9⟩ : ∃ q, q = w9.heap.size := ⟨_, rfl⟩
  rw [← hW9, ← hq9]
  have hb9 : Below w9.heap.size w9 W9 := by rw [hW9]; exact (Below.refl _ _).alloc (Nat.le_refl _) _
  have hr9 : W9.heap[q9]? = some (.cells #[.int .i64 3, .int .i64 0] 35 (0, 0)) := by rw [hW9, hq9]; exact alloc_new _ _
  have HX10 := Lib.hid (HX9.out.later hb9)
  have HB10 := Lib.hid (HB9.out.trans (hb9.mono HB9.out.size))
  have HR10 := Lib.hid hr9
  have HQ9 := Lib.hid (show og < q9 ∧ sg < q9 by have h1 := HX9.out.lt; rw [hq9]; exact ⟨h1.1, h1.2.1⟩)
  clear hb9 hr9 hW9 hq9
  refine (boxI_any 0 0 4 4 W9).mono ?_
  rintro e w11 ⟨qb, rfl, hri, hb11⟩
  have HX11 := Lib.hid (HX10.out.later hb11)
  have HB11 := Lib.hid (HB10.out.trans (hb11.mono HB10.out.size))
  have HR11 := Lib.hid ((hb11.block _ (heap_lt' HR10.out)).trans HR10.out)
  have HG11 := Lib.hid hri
  clear hb11 hri
  go_wp2_with fail
  refine (atI_any 0 0 w11).mono ?_
  rintro e w12 ⟨rfl, hb12⟩
  have HX12 := Lib.hid (HX11.out.later hb12)
  have HB12 := Lib.hid (HB11.out.trans (hb12.mono HB11.out.size))
  have HR12 := Lib.hid ((hb12.block _ (heap_lt' HR11.out)).trans HR11.out)
  have HG12 := Lib.hid (HG11.out.later hb12 (Nat.le_refl _))
  clear hb12
  go_wp2_with fail
  refine (atI_any 1 1 w12).mono ?_
  rintro e w13 ⟨rfl, hb13⟩
  have HX13 := Lib.hid (HX12.out.later hb13)
  have HB13 := Lib.hid (HB12.out.trans (hb13.mono HB12.out.size))
  have HR13 := Lib.hid ((hb13.block _ (heap_lt' HR12.out)).trans HR12.out)
  have HG13 := Lib.hid (HG12.out.later hb13 (Nat.le_refl _))
  clear hb13
  go_wp2_with fail
  have hkn := kn2_regs w13 qb HG13.out
  obtain ⟨W14, hW14⟩ : ∃ W, W = ((w13.alloc (Obj.cells #[.int .i64 0, .int .i64 0, .int .i64 1, .int .i64 1] 24)).alloc (Obj.cells #[.slice (some ⟨w13.heap.size, 0, none⟩) 2 2] 40)).alloc (Obj.cells #[.slice (some ⟨qb, 0, none⟩) 1 1, .slice (some ⟨w13.heap.size + 1, 0, none⟩) 1 1] 30) := ⟨_, rfl⟩
  rw [← hW14] at hkn ⊢
  have hb14 := hkn.2
  have HX14 := Lib.hid (HX13.out.later hb14)
  have HB14 := Lib.hid (HB13.out.trans (hb14.mono HB13.out.size))
  have HR14 := Lib.hid ((hb14.block _ (heap_lt' HR13.out)).trans HR13.out)
  have HBU := Lib.hid (IBuild_any _ 2 2 kn2 W14 hkn.1 (fun i hi => by
    match i, hi with
    | 0, _ => decide
    | 1, _ => decide))
  clear hkn hb14 hW14
  refine HBU.out.mono ?_
  rintro e w15 ⟨hb15, _, hbad⟩
  have hbad := hbad (by rw [kn2_bad]; decide)
  rw [kn2_bad] at hbad
  subst hbad
  have HX15 := Lib.hid (HX14.out.later hb15)
  have HB15 := Lib.hid (HB14.out.trans (hb15.mono HB14.out.size))
  have HR15 := Lib.hid ((hb15.block _ (heap_lt' HR14.out)).trans HR14.out)
  clear hb15 HBU
  unfold faultV
  go_wp2_with fail
  obtain ⟨W16, hW16⟩ : ∃ W, W = w15.alloc (Obj.cells #[.int .i64 190, .int .i64 1] 35) := ⟨_, rfl⟩
  obtain ⟨q16, hq16⟩ : ∃ q, q = w15.heap.size := ⟨_, rfl⟩
  rw [← hW16, ← hq16]
  have hb16 : Below w15.heap.size w15 W16 := by rw [hW16]; exact (Below.refl _ _).alloc (Nat.le_refl _) _
  have hr16 : W16.heap[q16]? = some (.cells #[.int .i64 190, .int .i64 1] 35 (0, 0)) := by rw [hW16, hq16]; exact alloc_new _ _
  have HX16 := Lib.hid (HX15.out.later hb16)
  have HB16 := Lib.hid (HB15.out.trans (hb16.mono HB15.out.size))
  have HR16 := Lib.hid (And.intro ((hb16.block _ (heap_lt' HR15.out)).trans HR15.out) hr16)
  have HQ16 := Lib.hid (show og < q16 ∧ sg < q16 by have h1 := HX15.out.lt; rw [hq16]; exact ⟨h1.1, h1.2.1⟩)
  clear hb16 hr16 hW16 hq16
  refine (atI_any 5 5 W16).mono ?_
  rintro e w17 ⟨rfl, hb17⟩
  have HX17 := Lib.hid (HX16.out.later hb17)
  have HB17 := Lib.hid (HB16.out.trans (hb17.mono HB16.out.size))
  have HR17 := Lib.hid (And.intro ((hb17.block _ (heap_lt' HR16.out.1)).trans HR16.out.1) ((hb17.block _ (heap_lt' HR16.out.2)).trans HR16.out.2))
  clear hb17
  go_wp2_with fail
  have ha := IAt_two _ g og sg smG ⟨5, 5⟩ w17 HX17.out HB17.out.size
  rw [kn_at] at ha
  refine ha.mono ?_
  rintro e w18 ⟨a18, c18, rfl, hi18, hx18, hb18, ht18⟩
  have HI18 := Lib.hid hi18
  have HX18 := Lib.hid hx18
  have HB18 := Lib.hid (HB17.out.trans hb18)
  have HR18 := Lib.hid (And.intro ((ht18.block _ (heap_lt' HR17.out.1) (by have := HQ9.out; omega) (by have := HQ9.out; omega)).trans HR17.out.1) ((ht18.block _ (heap_lt' HR17.out.2) (by have := HQ16.out; omega) (by have := HQ16.out; omega)).trans HR17.out.2))
  clear hi18 hx18 hb18 ha ht18
  go_wp2_with fail
  refine (SameInts_any a18 _ _ _ c18 1 [2] [2] _ (HI18.out.later ((Below.refl _ _).alloc (Nat.le_refl _) _) (Nat.le_refl _)) (one_int w18 2)).mono ?_
  rintro e w19 ⟨rfl, hg19⟩
  have hb19 : Below w18.heap.size w18 w19 := ((Below.refl _ _).alloc (Nat.le_refl _) _).trans (hg19.1.mono (by simp))
  have HX19 := Lib.hid (HX18.out.later hb19)
  have HB19 := Lib.hid (HB18.out.trans (hb19.mono HB18.out.size))
  have HR19 := Lib.hid (And.intro ((hb19.block _ (heap_lt' HR18.out.1)).trans HR18.out.1) ((hb19.block _ (heap_lt' HR18.out.2)).trans HR18.out.2))
  have q0 : (([2] : List Int) == [2]) = true := by decide
  clear hg19 hb19
  go_wp2_with fail
  refine (atI_any 8 8 w19).mono ?_
  rintro e w20 ⟨rfl, hb20⟩
  have HX20 := Lib.hid (HX19.out.later hb20)
  have HB20 := Lib.hid (HB19.out.trans (hb20.mono HB19.out.size))
  have HR20 := Lib.hid (And.intro ((hb20.block _ (heap_lt' HR19.out.1)).trans HR19.out.1) ((hb20.block _ (heap_lt' HR19.out.2)).trans HR19.out.2))
  clear hb20
  go_wp2_with fail
  have ha := INear_low _ g og sg smG ⟨8, 8⟩ w20 HX20.out
  rw [kn_near] at ha
  refine ha.mono ?_
  rintro e w21 ⟨a21, c21, rfl, hi21, hb21⟩
  have HI21 := Lib.hid hi21
  have HB21 := Lib.hid (HB20.out.trans (hb21.mono HB20.out.size))
  have HR21 := Lib.hid (And.intro ((hb21.block _ (heap_lt' HR20.out.1)).trans HR20.out.1) ((hb21.block _ (heap_lt' HR20.out.2)).trans HR20.out.2))
  clear hi21 hb21 ha
  go_wp2_with fail
  refine (SameInts_any a21 _ _ _ c21 1 [2] [2] _ (HI21.out.later ((Below.refl _ _).alloc (Nat.le_refl _) _) (Nat.le_refl _)) (one_int w21 2)).mono ?_
  rintro e w22 ⟨rfl, hg22⟩
  have hb22 : Below w21.heap.size w21 w22 := ((Below.refl _ _).alloc (Nat.le_refl _) _).trans (hg22.1.mono (by simp))
  have HB22 := Lib.hid (HB21.out.trans (hb22.mono HB21.out.size))
  have HR22 := Lib.hid (And.intro ((hb22.block _ (heap_lt' HR21.out.1)).trans HR21.out.1) ((hb22.block _ (heap_lt' HR21.out.2)).trans HR21.out.2))
  clear hg22 hb22
  go_wp2_with fail
  refine (awakeI_any w22).mono ?_
  rintro e w23 ⟨rfl, hb23⟩
  have HB23 := Lib.hid (HB22.out.trans (hb23.mono HB22.out.size))
  have r1 := (hb23.block _ (heap_lt' HR22.out.1)).trans HR22.out.1
  have r2 := (hb23.block _ (heap_lt' HR22.out.2)).trans HR22.out.2
  have c1 : w23.cell? ⟨q9, 0, none⟩ = some (.int .i64 3) := cell_of_row _ _ _ _ _ _ r1
  have c2 : w23.cell? ⟨q9, 1, none⟩ = some (.int .i64 0) := cell_of_row _ _ _ _ _ _ r1
  have c3 : w23.cell? ⟨q16, 0, none⟩ = some (.int .i64 190) := cell_of_row _ _ _ _ _ _ r2
  have c4 : w23.cell? ⟨q16, 1, none⟩ = some (.int .i64 1) := cell_of_row _ _ _ _ _ _ r2
  clear hb23 r1 r2
  go_wp2_with fail
  go_ret
  exact ⟨rfl, HB23.out⟩
end Go.Proofs.YtjiiikeniocmfaaGreat

/- IndexFinds: what its walk needs beside -/
import Derived.Test.YtjiiikeniocmfaaGreatMIKnown0
import Derived.Test.YtjiiikeniocmfaaGreatMIRef
import Derived.Test.YtjiiikeniocmfaaGreatMIOver
import Derived.Test.YtjiiikeniocmfaaGreatMIBig
import Derived.Test.YtjiiikeniocmfaaGreatMSEqF
import Derived.Test.YtjiiikeniocmfaaGreatMQConcat
set_option linter.unusedSimpArgs false
set_option linter.unusedVariables false
namespace Go.Proofs.YtjiiikeniocmfaaGreat
open Go.RowKit Go.Geo
attribute [local go_sem] Oper.semAt_some
/-- a step that turns nothing from B on but X's. -/
theorem IdxOn.stepB {X X' : Nat → Prop} {w w' : World} {B g og sg : Nat} {G : List Reg} (h : IdxOn X w B g og sg G) (hs : w.heap.size ≤ w'.heap.size) (hb : ∀ k, B ≤ k → k < w.heap.size → ¬ X k → w'.heap[k]? = w.heap[k]?) (hX : ∀ k, X' k → X k ∨ w.heap.size ≤ k) : IdxOn X' w' B g og sg G := by
  obtain ⟨⟨lv, tg, w0, e1, e2, e3, e4⟩, ⟨cs, o1, o2⟩, ⟨ss, s1, s2⟩, he, h1, h2, h3, h4, h5, h6, h7, h8⟩ := h
  have hx : ∀ k, k ≤ g → ¬ X k := fun k hk hx => by have := h8 k hx; omega
  have ho := hb og h1 (heap_lt' o1) (hx _ (by omega))
  have hsg := hb sg h2 (heap_lt' s1) (hx _ (by omega))
  have hg := heap_lt' e1
  have hBg : B ≤ g := by omega
  refine ⟨⟨lv, tg, w0, (hb g hBg hg (hx _ (Nat.le_refl _))).trans e1, e2, e3, e4.move hs (fun k hk => hb k (by omega)) hX⟩, ⟨cs, ho.trans o1, o2⟩, ⟨ss, hsg.trans s1, s2⟩, fun i hi => ?_, h1, h2, h3, h4, h5, h6, h7, fun k hk => ?_⟩
  · rcases he i hi with ⟨k1, k2⟩ | ⟨k1, gs, w1, k2, k3, k4, k5⟩
    · exact .inl ⟨(cell_of_same ho).trans k1, (cell_of_same ho).trans k2⟩
    · exact .inr ⟨(cell_of_same ho).trans k1, gs, w1, (cell_of_same hsg).trans k2, k3, k4, k5.move hs (fun k hk => hb k (by omega)) hX⟩
  · rcases hX k hk with h9 | h9
    · exact h8 k h9
    · omega
/-- is a number one of a region that has the point? -/
def inAt (p : Pt) (G : List Reg) (x : Int) : Bool := decide (0 ≤ x) && decide (x < (G.length : Int)) && inR p (regI G x)
theorem askG_any (p : Pt) (G : List Reg) (x : Int) : (askG (inR p) G).any (fun y => y == x) = inAt p G x := by
  rw [Bool.eq_iff_iff, List.any_eq_true]
  unfold askG inAt
  simp only [List.mem_filter, Bool.and_eq_true, decide_eq_true_eq, beq_iff_eq, allI_mem]
  constructor
  · rintro ⟨y, ⟨h1, h2⟩, rfl⟩
    exact ⟨h1, h2⟩
  · rintro ⟨h1, h2⟩
    exact ⟨x, ⟨h1, h2⟩, rfl⟩
theorem OwnI.froz {w : World} {B gi n c : Nat} {X : List Int} (h : OwnI w B (.slice (some ⟨gi, 0, none⟩) n c) X) (o : Nat) : w.frozen? ⟨gi, o, none⟩ = false := by
  rcases h.2 with ⟨h1, _⟩ | ⟨g, cap, cur, e, _, hg, _⟩
  · simp at h1
  · cases e; exact frozen_of_row _ _ _ _ _ hg
theorem OwnI.zero {w : World} {B n c : Nat} {ai : Option Addr} {X : List Int} (h : OwnI w B (.slice ai n c) X) (hn : 0 < X.length) : ∃ gi, ai = some ⟨gi, 0, none⟩ ∧ B ≤ gi ∧ gi < w.heap.size := by
  rcases h.2 with ⟨h1, h2⟩ | ⟨g, cap, cur, e, hb, hg, _⟩
  · omega
  · cases e; exact ⟨g, rfl, hb, heap_lt' hg⟩
theorem OwnI.put {w : World} {base g cap : Nat} {X : List Int} (h : OwnI w base (.slice (some ⟨g, 0, none⟩) X.length cap) X) (i : Nat) (e : Int) :
    OwnI (w.setCell ⟨g, i, none⟩ (.int .i64 e)) base (.slice (some ⟨g, 0, none⟩) X.length cap) (X.set i e) := by
  unfold OwnI at *
  have hf : flatI (X.set i e) = (flatI X).set i (.int .i64 e) := by simp [flatI, List.map_set]
  rw [List.length_set, hf]
  exact (World.ownsRow.stored h i (.int .i64 e)).1
/-- the stages of two asks, one behind the other. -/
def AskA (p : Pt) (B g og sg : Nat) (G : List Reg) (W : World) (a : Value) (w : World) : Prop := OwnI w W.heap.size a (askG (inR p) G) ∧ IdxOn (fun k => a.ownBlock = some k) w B g og sg G ∧ Two og sg W w
def AskN (p : Pt) (G : List Reg) (W : World) (b : Value) (w : World) : Prop := OwnI w W.heap.size b (askB (nearQ p) (boxesR G))
def StQ (p : Pt) (B g og sg : Nat) (G : List Reg) (W : World) : List Value → World → Prop
  | [], w => IdxOn (fun _ => False) w B g og sg G ∧ Two og sg W w
  | [a], w => AskA p B g og sg G W a w
  | [a, b], w => AskA p B g og sg G W a w ∧ AskN p G W b w
  | [a, b, c], w => c = a ∧ AskA p B g og sg G W a w ∧ AskN p G W b w
  | [a, b, c, d], w => d = b ∧ c = a ∧ AskA p B g og sg G W a w ∧ AskN p G W b w
  | _, _ => False
theorem StQ.two {p : Pt} {B g og sg : Nat} {G : List Reg} {W : World} {vs : List Value} {w : World} (h : StQ p B g og sg G W vs w) : Two og sg W w := by
  match vs, h with
  | [], h => exact h.2
  | [_], h => exact h.2.2
  | [_, _], h => exact h.1.2.2
  | [_, _, _], h => exact h.2.1.2.2
  | [_, _, _, _], h => exact h.2.2.1.2.2
end Go.Proofs.YtjiiikeniocmfaaGreat

/- 'for a, b := range seq { .. }' where the iterator keeps a point of its own in a box, and the body never leaves -/
import Derived.RangeFuncNested
import Derived.RangeFuncBound
import Derived.RangeFuncCalls
import Derived.RangeFuncLeaves
import Derived.RangeFuncWrites
import Derived.Shelf.Abstract
import Derived.Shelf.RegionOpen
import Derived.OwnWalkIn
import Derived.TacticsInMore
import Derived.LoopNIn
import Derived.LoopIn
import Derived.Test.YtgijaaklhdcgeaaQCounts
set_option linter.unusedSimpArgs false
set_option linter.unusedVariables false
namespace Go.Proofs.Ytgijaaklhdcgeaa
open Go.RowKit Go.Shelf Go.Geo
attribute [local go_sem] Oper.semAt_some
/-- what the iterator does on its own: new blocks, a store into a point that lies at B or beyond. -/
def OwnStep (B : Nat) (A A' : World) : Prop := ∃ row, A.grownBy A' row ∧ ∀ r, row = some r → B ≤ r ∧ ∃ c, A.heap[r]? = some (.cells c 27 (0, 0))
theorem OwnStep.alloc (B : Nat) (A : World) (o : Obj) : OwnStep B A (A.alloc o) := ⟨none, World.grownBy_alloc A o none, fun r e => by cases e⟩
theorem OwnStep.other {B : Nat} {A A' : World} (h : OwnStep B A A') {k : Nat} {o : Obj} (hk : A.heap[k]? = some o) (ho : o.isCells = false) : A'.heap[k]? = some o := by
  obtain ⟨row, hg, hr⟩ := h
  refine (hg.block k (Array.getElem?_eq_some_iff.1 hk).1 (fun e => ?_)).trans hk
  obtain ⟨_, c, hc⟩ := hr k e.symm
  rw [hk] at hc
  cases hc
  cases ho
/-- the iterator's contract: it goes through all of xs, if each round says 'on'. -/
def Gives {α : Type} (n : Nat) (gf : Nat) (lb : Array Value) (encs : α → Array Value) (Kp : World → World → Prop) (xs : List α) (w : World) : Prop :=
  ∀ (l : Nat) (J : List α → World → Prop) (W : World), Below w.heap.size w W → (∀ s A A', J s A → OwnStep W.heap.size A A' → J s A') →
    (∀ pre x W1, J pre W1 → pre.length < xs.length → YieldAt Fence.wide (n - 1) Try.prog l (encs x) W1 fun e W' => e = .returned (.bool true) ∧ J (pre ++ [x]) W' ∧ Kp W1 W') →
    J [] W → CallsIn Fence.wide n Try.prog gf (#[.func (.yield l) #[] #[]] ++ lb) W fun e W' => (∃ v, e = .returned v) ∧ J xs W'
theorem wp_gives {α : Type} {g : Operand} {ps : Array Tmp} {assign body : Code} {Q : Exit → Act → World → Prop} {a : Act} {w : World} {n : Nat} (h1 : 1 ≤ n) {gf : Nat} {lb : Array Value}
    (hg : a.eval g = .func (.func gf) #[] lb) (eg : ∀ args w, (callFunc gf args).run Try.prog w = .ok (.enter gf args) w) {encs : α → Array Value} {Kp : World → World → Prop} {xs : List α} (hseq : Gives (n - 1) gf lb encs Kp xs w)
    (hKt : ∀ {A B C : World}, Kp A B → Kp B C → Kp A C) (hKb : ∀ (W : World) (l : Nat) (o o' : Obj), w.heap.size ≤ l → W.heap[l]? = some o → o.isCells = false → Kp W (W.putObj l o')) (hps : ∀ x, (encs x).size = ps.size)
    (I : List α → World → Prop) (hI : OwnFrom w.heap.size I) (hIs : ∀ s A A', I s A → OwnStep w.heap.size A A' → I s A') (h0 : I [] w) (Ax : α → Act → World → Prop) (hAx : ∀ x a', OwnFrom w.heap.size (fun (_ : Unit) W => Ax x a' W))
    (hassign : ∀ (l : Nat) (pre : List α) (x : α) (W : World) (K : Act → World → Prop), I pre W → (∀ a' W', KeepsFrom w.heap.size W W' → Kp W W' → I pre W' → Ax x a' W' → K a' W') →
      assign.wpIn (Fence.wide.inRound l) (n - 1 - 1) Try.prog (Exit.then K (fun _ _ _ => False)) { tmps := (ps.zip (encs x)).foldl (fun t (p, v) => t.setIfInBounds p v) a.tmps, defers := [] } W)
    (hbody : ∀ (l : Nat) (pre : List α) (x : α) (a' : Act) (W : World), I pre W → Ax x a' W → pre.length < xs.length → body.wpIn (Fence.wide.inRound l) (n - 1 - 1) Try.prog (Exit.then (fun _ W' => KeepsFrom w.heap.size W W' ∧ Kp W W' ∧ I (pre ++ [x]) W') (fun _ _ _ => False)) a' W)
    (hdone : ∀ (D : Nat) (W : World), w.heap.size ≤ D → I xs W → W.heap[D]? = some (.deferred (some [])) → Q .normal { a with defers := { target := .collected D, args := #[] } :: a.defers } W) :
    (Code.rangeFunc g ps assign body).wpIn Fence.wide n Try.prog Q a w := by
  refine wpIn_rangeFunc ?_
  intro fn hfn
  have hro : Fence.wide.round = none := rfl
  rw [hro]
  -- the loop's record, in each of its states; the world behind the loop's two blocks
  let rec' : LoopState → Option Code → Loop := fun st pe => { state := st, pending := pe, fn, tmps := a.tmps, params := ps, assign, body, defers := w.heap.size }
  let W1 := (w.alloc (.deferred (some []))).alloc (.loop (rec' .ready none))
  have z1 : W1.heap.size = w.heap.size + 2 := by simp [W1]
  have bl : W1.heap[w.heap.size + 1]? = some (.loop (rec' .ready none)) := by
    have := World.alloc_heap_new (w.alloc (.deferred (some []))) (.loop (rec' .ready none)); rwa [World.size_alloc] at this
  have bd : W1.heap[w.heap.size]? = some (.deferred (some [])) := (Below.heap_alloc _ _ _ (by simp)).trans (World.alloc_heap_new w _)
  refine ⟨w.heap.size + 1, [{ target := .collected w.heap.size, args := #[] }], W1, { target := .fn (.func gf) lb, args := #[.func (.yield (w.heap.size + 1)) #[] #[]] }, W1, gf,
    #[.func (.yield (w.heap.size + 1)) #[] #[]] ++ lb, W1, run_enterLoop_outer _ _ _ _ _, ?_, fun f' hf' => trivial, ?_, fun _ => h1, ?_⟩
  · simp only [resolve, hg]
    simp [go_sem]
  · simp [invoke, go_sem, eg]
  · refine (hseq (w.heap.size + 1) (fun pre W => I pre W ∧ W.heap[w.heap.size + 1]? = some (.loop (rec' .ready none)) ∧ W.heap[w.heap.size]? = some (.deferred (some []))) W1
      (((Below.refl _ w).alloc (Nat.le_refl _) _).alloc (by simp) _)
      (fun s A A' h hs => ⟨hIs s A A' h.1 (by obtain ⟨row, k1, k2⟩ := hs; exact ⟨row, k1, fun r e => ⟨by have := (k2 r e).1; omega, (k2 r e).2⟩⟩), hs.other h.2.1 rfl, hs.other h.2.2 rfl⟩)
      ?_ ⟨hI.alloc _ (hI.alloc _ h0), bl, bd⟩).mono ?_
    · rintro pre x W ⟨hi, hl, hk⟩ hlen
      refine ⟨fn, _, assign, body, run_yield (P := Try.prog) (args := encs x) hl (hps x), roundIn_of_wpIn hfn (hassign _ pre x W _ hi ?_)⟩
      intro a' Wa kf kp ia ax
      have la := kf.same _ _ (Nat.le_succ _) hl rfl
      have ka := kf.same _ _ (Nat.le_refl _) hk rfl
      refine ⟨_, run_beginRound la rfl, ?_⟩
      have hp1 := Kp
      have lb2 : (Wa.putObj (w.heap.size + 1) (.loop { rec' .ready none with state := .busy })).heap[w.heap.size + 1]? = some (.loop { rec' .ready none with state := .busy }) := World.putObj_heap_same (Array.getElem?_eq_some_iff.1 la).1
      have kb2 : (Wa.putObj (w.heap.size + 1) (.loop { rec' .ready none with state := .busy })).heap[w.heap.size]? = some (.deferred (some [])) := (World.putObj_heap_other (by omega)).trans ka
      refine wpIn_mono (hbody _ pre x a' _ (hI.putObj _ ia (Nat.le_succ _) la rfl) ((hAx x a').putObj (s := ()) _ ax (Nat.le_succ _) la rfl) hlen) ?_
      rintro e a3 W3 hp
      cases e with
      | normal =>
        obtain ⟨k3, p3, i3⟩ := hp
        have l3 := k3.same _ _ (Nat.le_succ _) lb2 rfl
        have d3 := k3.same _ _ (Nat.le_refl _) kb2 rfl
        exact ⟨_, _, run_endRound (P := Try.prog) none l3, rfl, ⟨hI.putObj _ i3 (Nat.le_succ _) l3 rfl, World.putObj_heap_same (Array.getElem?_eq_some_iff.1 l3).1, (World.putObj_heap_other (by omega)).trans d3⟩,
          hKt kp (hKt (hKt (hKb _ _ _ _ (Nat.le_succ _) la rfl) p3) (hKb _ _ _ _ (Nat.le_succ _) l3 rfl))⟩
      | ret => exact hp.elim
      | exit id => exact hp.elim
      | goto t => exact hp.elim
      | panic ch => exact hp.elim
      | outgrown => exact hp.elim
    · rintro e W2 ⟨⟨v, rfl⟩, hi, hl, hk⟩
      exact ⟨none, _, run_endLoop (P := Try.prog) hl (by simp [rec']), hdone _ _ (Nat.le_refl _) (hI.putObj _ hi (Nat.le_succ _) hl rfl) ((World.putObj_heap_other (by omega)).trans hk)⟩
end Go.Proofs.Ytgijaaklhdcgeaa

/- a region in whatever order: values, and blocks that it makes and fills -/
import Derived.Test.YtbgihfjagfbfgaaDoorMRegJ
import Derived.Below
import Derived.Laws.Tables
import Derived.Laws.Rows
import Derived.Laws.NewBlocks
import Derived.Laws.CopyOwn
set_option linter.unusedSimpArgs false
set_option linter.unusedVariables false
namespace Go.Proofs.YtbgihfjagfbfgaaDoor
open Go Go.RowKit
/-- a block that operation i makes and operation st fills. -/
structure Alo where
  i : Nat
  st : Nat
  t : TypeId
  zero : Array Value
  full : Array Value
def aloOk (als : List Alo) : Bool := decide (als.map (·.i) ++ als.map (·.st)).Nodup
theorem nodup_inj {α β : Type} {f : α → β} : ∀ {l : List α}, (l.map f).Nodup → ∀ {a b : α}, a ∈ l → b ∈ l → f a = f b → a = b
  | [], _, _, _, h, _, _ => by cases h
  | x :: l, hn, a, b, ha, hb, e => by
    rw [List.map_cons, List.nodup_cons] at hn
    rcases List.mem_cons.1 ha with h1 | h1
    · rcases List.mem_cons.1 hb with h2 | h2
      · rw [h1, h2]
      · exact absurd (List.mem_map_of_mem (f := f) h2) (by rw [← e, h1]; exact hn.1)
    · rcases List.mem_cons.1 hb with h2 | h2
      · exact absurd (List.mem_map_of_mem (f := f) h1) (by rw [e, h2]; exact hn.1)
      · exact nodup_inj hn.2 h1 h2 e
theorem aloOk_spec {als : List Alo} (hok : aloOk als = true) : ∀ B ∈ als, ∀ C ∈ als, (B.i = C.i → B = C) ∧ (B.st = C.st → B = C) ∧ B.i ≠ C.st := fun B hB C hC => by
  have h := List.nodup_append.1 (of_decide_eq_true hok)
  exact ⟨fun e => nodup_inj h.1 hB hC e, fun e => nodup_inj h.2.1 hB hC e, h.2.2 _ (List.mem_map_of_mem hB) _ (List.mem_map_of_mem hC)⟩
def aloFree (als : List Alo) (i : Nat) : Bool := als.all fun A => A.i != i && A.st != i
structure StdJ (W : World) (val : Nat → Option Value) (als : List Alo) (L : Nat → Bool) (V : Nat → Value) (w : World) : Prop where
  below : Below W.heap.size W w
  vals : ∀ i v, val i = some v → L i = true → V i = v
  ord : ∀ A ∈ als, L A.st = true → L A.i = true
  made : ∃ β : Nat → Nat, (∀ A ∈ als, L A.i = true → V A.i = .pointer (some ⟨β A.i, 0, none⟩) ∧ W.heap.size ≤ β A.i ∧ w.heap[β A.i]? = some (.cells (if L A.st = true then A.full else A.zero) A.t (0, 0))) ∧
    (∀ A ∈ als, ∀ B ∈ als, L A.i = true → L B.i = true → A.i ≠ B.i → β A.i ≠ β B.i)
theorem StdJ.start {W w : World} {val : Nat → Option Value} {als : List Alo} {V : Nat → Value} (h : Below W.heap.size W w) : StdJ W val als (fun _ => false) V w :=
  ⟨h, fun _ _ _ h => (by cases h), fun _ _ h => (by cases h), fun _ => 0, fun _ _ h => (by cases h), fun _ _ _ _ h => (by cases h)⟩
theorem StdJ.val {W w w' : World} {val : Nat → Option Value} {als : List Alo} {L : Nat → Bool} {V : Nat → Value} (h : StdJ W val als L V w) (hb : Below w.heap.size w w') (i : Nat) (v : Value) (hf : aloFree als i = true) (hv : (match val i with | some u => u = v | none => True)) :
    StdJ W val als (upd L i true) (upd V i v) w' := by
  have hne : ∀ A ∈ als, A.i ≠ i ∧ A.st ≠ i := fun A hA => by simpa using List.all_eq_true.1 hf A hA
  obtain ⟨h1, h2, h5, β, h3, h4⟩ := h
  refine ⟨h1.trans (hb.mono h1.size), fun j u hj hl => ?_, fun A hA hl => ?_, β, fun A hA hl => ?_, fun A hA B hB ha hb' => ?_⟩
  · by_cases hji : j = i
    · subst hji
      rw [upd_at]
      rw [hj] at hv
      exact hv.symm
    · rw [upd_ne _ _ _ _ hji] at hl ⊢
      exact h2 j u hj hl
  · obtain ⟨n1, n2⟩ := hne A hA
    rw [upd_ne _ _ _ _ n2] at hl
    rw [upd_ne _ _ _ _ n1]
    exact h5 A hA hl
  · obtain ⟨n1, n2⟩ := hne A hA
    rw [upd_ne _ _ _ _ n1] at hl ⊢
    rw [upd_ne _ _ _ _ n2]
    obtain ⟨e1, e2, e3⟩ := h3 A hA hl
    exact ⟨e1, e2, (hb.block _ (Array.getElem?_eq_some_iff.1 e3).1).trans e3⟩
  · rw [upd_ne _ _ _ _ (hne A hA).1] at ha
    rw [upd_ne _ _ _ _ (hne B hB).1] at hb'
    exact h4 A hA B hB ha hb'
theorem StdJ.alloc {W w : World} {val : Nat → Option Value} {als : List Alo} {L : Nat → Bool} {V : Nat → Value} (h : StdJ W val als L V w) (hok : aloOk als = true) (A : Alo) (hA : A ∈ als) (hl : L A.i = false) (hv : val A.i = none) :
    StdJ W val als (upd L A.i true) (upd V A.i (.pointer (some ⟨w.heap.size, 0, none⟩))) (w.alloc (.cells A.zero A.t)) := by
  have hok' := aloOk_spec hok
  obtain ⟨h1, h2, h5, β, h3, h4⟩ := h
  have hb : Below w.heap.size w (w.alloc (.cells A.zero A.t)) := (Below.refl _ _).alloc (Nat.le_refl _) _
  have hs : L A.st = false := by
    cases e : L A.st with
    | false => rfl
    | true => rw [h5 A hA e] at hl; cases hl
  refine ⟨h1.alloc h1.size _, fun j u hj hl' => ?_, fun B hB hl' => ?_, upd β A.i w.heap.size, fun B hB hl' => ?_, fun B hB C hC hb' hc' hne => ?_⟩
  · have hji : j ≠ A.i := fun e => by subst e; rw [hv] at hj; cases hj
    rw [upd_ne _ _ _ _ hji] at hl' ⊢
    exact h2 j u hj hl'
  · by_cases hBA : B.i = A.i
    · rw [hBA, upd_at]
    · rw [upd_ne _ _ _ _ hBA]
      rw [upd_ne _ _ _ _ (fun e => (hok' A hA B hB).2.2 e.symm)] at hl'
      exact h5 B hB hl'
  · by_cases hBA : B.i = A.i
    · obtain rfl : B = A := (hok' B hB A hA).1 hBA
      rw [upd_at, upd_at]
      refine ⟨rfl, h1.size, ?_⟩
      rw [upd_ne _ _ _ _ (fun e => (hok' B hB B hB).2.2 e.symm), hs]
      have hnew : (w.alloc (.cells B.zero B.t)).heap[w.heap.size]? = some (.cells B.zero B.t (0, 0)) := by
        show (w.heap.push _)[w.heap.size]? = _
        simp
      rw [hnew]
      simp
    · rw [upd_ne _ _ _ _ hBA] at hl' ⊢
      rw [upd_ne _ _ _ _ hBA]
      rw [upd_ne _ _ _ _ (fun e => (hok' A hA B hB).2.2 e.symm)]
      obtain ⟨e1, e2, e3⟩ := h3 B hB hl'
      exact ⟨e1, e2, (hb.block _ (Array.getElem?_eq_some_iff.1 e3).1).trans e3⟩
  · have lt : ∀ D ∈ als, D.i ≠ A.i → L D.i = true → β D.i < w.heap.size := fun D hD hn hl' => by
      obtain ⟨_, _, e3⟩ := h3 D hD hl'
      exact (Array.getElem?_eq_some_iff.1 e3).1
    by_cases hBA : B.i = A.i
    · by_cases hCA : C.i = A.i
      · exact absurd (hBA.trans hCA.symm) hne
      · rw [hBA, upd_at, upd_ne _ _ _ _ hCA]
        rw [upd_ne _ _ _ _ hCA] at hc'
        have := lt C hC hCA hc'
        omega
    · by_cases hCA : C.i = A.i
      · rw [hCA, upd_at, upd_ne _ _ _ _ hBA]
        rw [upd_ne _ _ _ _ hBA] at hb'
        have := lt B hB hBA hb'
        omega
      · rw [upd_ne _ _ _ _ hBA, upd_ne _ _ _ _ hCA]
        rw [upd_ne _ _ _ _ hBA] at hb'
        rw [upd_ne _ _ _ _ hCA] at hc'
        exact h4 B hB C hC hb' hc' hne
theorem StdJ.ptr {W w : World} {val : Nat → Option Value} {als : List Alo} {L : Nat → Bool} {V : Nat → Value} (h : StdJ W val als L V w) (A : Alo) (hA : A ∈ als) (hl : L A.i = true) (hs : L A.st = false) :
    ∃ g, V A.i = .pointer (some ⟨g, 0, none⟩) ∧ w.heap[g]? = some (.cells A.zero A.t (0, 0)) := by
  obtain ⟨h1, h2, h5, β, h3, h4⟩ := h
  obtain ⟨e1, e2, e3⟩ := h3 A hA hl
  rw [hs] at e3
  exact ⟨_, e1, by simpa using e3⟩
theorem StdJ.got {W w : World} {val : Nat → Option Value} {als : List Alo} {L : Nat → Bool} {V : Nat → Value} (h : StdJ W val als L V w) (A : Alo) (hA : A ∈ als) (hl : L A.i = true) (hs : L A.st = true) :
    ∃ g, V A.i = .pointer (some ⟨g, 0, none⟩) ∧ W.heap.size ≤ g ∧ w.heap[g]? = some (.cells A.full A.t (0, 0)) := by
  obtain ⟨h1, h2, h5, β, h3, h4⟩ := h
  obtain ⟨e1, e2, e3⟩ := h3 A hA hl
  rw [hs] at e3
  exact ⟨_, e1, e2, by simpa using e3⟩
theorem StdJ.fill {W w : World} {val : Nat → Option Value} {als : List Alo} {L : Nat → Bool} {V : Nat → Value} (h : StdJ W val als L V w) (hok : aloOk als = true) (A : Alo) (hA : A ∈ als) (hl : L A.i = true) (hs : L A.st = false) (hv : val A.st = none) (g : Nat) (hg : V A.i = .pointer (some ⟨g, 0, none⟩)) (v : Value) :
    StdJ W val als (upd L A.st true) (upd V A.st v) (w.setRow g A.full) := by
  have hok' := aloOk_spec hok
  obtain ⟨h1, h2, h5, β, h3, h4⟩ := h
  obtain ⟨e1, e2, e3⟩ := h3 A hA hl
  rw [hs] at e3
  simp only [Bool.false_eq_true, if_false] at e3
  have hgb : g = β A.i := by
    rw [hg] at e1
    injection e1 with e1
    injection e1 with e1
    injection e1
  subst hgb
  have hlt : β A.i < w.heap.size := (Array.getElem?_eq_some_iff.1 e3).1
  have hoth : ∀ k, k ≠ β A.i → (w.setRow (β A.i) A.full).heap[k]? = w.heap[k]? := fun k hk => setRow_other w _ k _ hk
  refine ⟨below_setRow h1 e2 _, fun j u hj hl' => ?_, fun B hB hl' => ?_, β, fun B hB hl' => ?_, fun B hB C hC hb' hc' hne => ?_⟩
  · have hji : j ≠ A.st := fun e => by subst e; rw [hv] at hj; cases hj
    rw [upd_ne _ _ _ _ hji] at hl' ⊢
    exact h2 j u hj hl'
  · rw [upd_ne _ _ _ _ (hok' B hB A hA).2.2]
    by_cases hBA : B.st = A.st
    · obtain rfl : B = A := (hok' B hB A hA).2.1 hBA
      exact hl
    · rw [upd_ne _ _ _ _ hBA] at hl'
      exact h5 B hB hl'
  · have n1 : B.i ≠ A.st := (hok' B hB A hA).2.2
    rw [upd_ne _ _ _ _ n1] at hl' ⊢
    obtain ⟨f1, f2, f3⟩ := h3 B hB hl'
    refine ⟨f1, f2, ?_⟩
    by_cases hBA : B.st = A.st
    · obtain rfl : B = A := (hok' B hB A hA).2.1 hBA
      rw [upd_at, setRow_heap w _ _ B.full _ _ e3]
      simp
    · rw [upd_ne _ _ _ _ hBA]
      have hi : B.i ≠ A.i := fun e => hBA (congrArg Alo.st ((hok' B hB A hA).1 e))
      rw [hoth _ (h4 B hB A hA hl' hl hi)]
      exact f3
  · have n1 : B.i ≠ A.st := (hok' B hB A hA).2.2
    have n2 : C.i ≠ A.st := (hok' C hC A hA).2.2
    rw [upd_ne _ _ _ _ n1] at hb'
    rw [upd_ne _ _ _ _ n2] at hc'
    exact h4 B hB C hC hb' hc' hne
end Go.Proofs.YtbgihfjagfbfgaaDoor

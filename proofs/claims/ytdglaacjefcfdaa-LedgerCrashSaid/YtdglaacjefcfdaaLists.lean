/- lists of slices of bytes that the call itself made -/
import Derived.RangeFuncNested
import Derived.Test.YtdglaacjefcfdaaSlices
namespace Go.Proofs.Ytdglaacjefcfdaa
open Go.RowKit
theorem Try.infoSlice : (Try.prog.info? 24).map (fun i => (i.zero, i.size, i.bytes)) = some (some (.slice none 0 0), 1, 24) := by kernel_rfl
/-- the slice value v owns slices that own the bytes of L, one behind the other. -/
def Lists (w : World) (base : Nat) (v : Value) (L : List (List UInt8)) : Prop :=
  ∃ vs : List Value, vs.length = L.length ∧ (w.ownsRow base 24 1 v L.length vs ∧ AllCells w v (fun u => plainV u = true)) ∧
    ∀ i, i < L.length → ∃ u, vs[i]? = some u ∧ OwnB w base u (L.getD i [])
theorem Lists.nil (w : World) (base : Nat) : Lists w base (.slice none 0 0) [] := ⟨[], rfl, ⟨World.ownsRow_nil _ _ _ _, fun g c t f hg => by simp [Value.ownBlock] at hg⟩, fun i h => absurd h (by simp)⟩
theorem Lists.later {w w' : World} {base : Nat} {v : Value} {L : List (List UInt8)} (h : Lists w base v L) (hb : Below w.heap.size w w') : Lists w' base v L := by
  obtain ⟨vs, h1, ⟨h2, h2a⟩, h3⟩ := h
  refine ⟨vs, h1, ⟨ownsRow_later h2 hb, h2a.move (fun g hg => hb.block g (h2.lt g hg).2)⟩, fun i hi => ?_⟩
  obtain ⟨u, hu, ho⟩ := h3 i hi
  exact ⟨u, hu, ho.later hb⟩
theorem Lists.base {w : World} {base base' : Nat} {v : Value} {L : List (List UInt8)} (h : Lists w base v L) (hb : base' ≤ base) : Lists w base' v L := by
  obtain ⟨vs, h1, ⟨h2, h2a⟩, h3⟩ := h
  refine ⟨vs, h1, ⟨ownsRow_base h2 hb, h2a⟩, fun i hi => ?_⟩
  obtain ⟨x, hx, ho⟩ := h3 i hi
  exact ⟨x, hx, ho.base hb⟩
/-- a step that turns no block with cells of these two types. -/
theorem Lists.move {w w' : World} {base : Nat} {v : Value} {L : List (List UInt8)} (h : Lists w base v L)
    (hb : ∀ (g : Nat) (c : Array Value) (t : Nat), w.heap[g]? = some (Obj.cells c t (0, 0)) → t = 24 ∨ t = 5 → w'.heap[g]? = w.heap[g]?) : Lists w' base v L := by
  have key : ∀ {e s n : Nat} {u : Value} {xs : List Value}, w.ownsRow base e s u n xs → e = 24 ∨ e = 5 → ∀ g, u.ownBlock = some g → w'.heap[g]? = w.heap[g]? := by
    intro e s n u xs hu he g hg
    rcases hu.2 with ⟨rfl, _⟩ | ⟨g', cap, cur, rfl, _, hg', _⟩
    · simp [Value.ownBlock] at hg
    · simp only [Value.ownBlock, Option.some.injEq] at hg
      subst hg
      exact hb _ _ _ hg' he
  obtain ⟨vs, h1, ⟨h2, h2a⟩, h3⟩ := h
  refine ⟨vs, h1, ⟨ownsRow_move h2 (key h2 (.inl rfl)), h2a.move (key h2 (.inl rfl))⟩, fun i hi => ?_⟩
  obtain ⟨u, hu, ho⟩ := h3 i hi
  exact ⟨u, hu, ho.move (key ho.1 (.inr rfl))⟩
theorem Lists.setCell {w : World} {base b off t : Nat} {v u : Value} {L : List (List UInt8)} {c : Array Value} {f : Nat × Nat} (h : Lists w base v L) (hb : w.heap[b]? = some (.cells c t f)) (ht : t ≠ 24) (ht2 : t ≠ 5) :
    Lists (w.setCell ⟨b, off, none⟩ u) base v L :=
  Lists.move h fun g c' t' hg he => Below.heap_setCell _ _ _ _ (by
    intro e
    simp only at e
    subst e
    rw [hb] at hg
    injection hg with hg
    injection hg with _ h2
    subst h2
    rcases he with he | he
    · exact ht he
    · exact ht2 he)
theorem Lists.putObj {w : World} {base r : Nat} {v : Value} {L : List (List UInt8)} {o o' : Obj} (h : Lists w base v L) (hr : w.heap[r]? = some o) (ho : o.isCells = false) : Lists (w.putObj r o') base v L :=
  Lists.move h fun g c' t' hg _ => World.putObj_heap_other (by intro e; subst e; rw [hr] at hg; cases hg; simp [Obj.isCells] at ho)
theorem Lists.snoc {w w' : World} {base : Nat} {v v' u : Value} {L : List (List UInt8)} {r : List UInt8} {vs : List Value} (hL : vs.length = L.length)
    (hi : ∀ i, i < L.length → ∃ u, vs[i]? = some u ∧ OwnB w base u (L.getD i []))
    (hv : w.ownsRow base 24 1 v L.length vs) (hu : OwnB w base u r) (hown : w'.ownsRow base 24 1 v' (L.length + 1) (vs ++ [u]) ∧ AllCells w' v' (fun u => plainV u = true)) (hg : w.grownBy w' v.ownBlock) :
    Lists w' base v' (L ++ [r]) := by
  refine ⟨vs ++ [u], by simp [hL], ⟨by simpa using hown.1, hown.2⟩, fun i hi' => ?_⟩
  by_cases h : i < L.length
  · obtain ⟨x, hx, ho⟩ := hi i h
    have e : (L ++ [r]).getD i [] = L.getD i [] := by simp [List.getD_eq_getElem?_getD, List.getElem?_append_left h]
    refine ⟨x, by rw [List.getElem?_append_left (by omega)]; exact hx, ?_⟩
    rw [e]
    exact ho.kept hg (ownBlock_ne (by decide) hv ho.1)
  · obtain rfl : i = L.length := by simp at hi'; omega
    have e : (L ++ [r]).getD L.length [] = r := by simp [List.getD_eq_getElem?_getD]
    refine ⟨u, by rw [← hL]; simp, ?_⟩
    rw [e]
    exact hu.kept hg (ownBlock_ne (by decide) hv hu.1)
end Go.Proofs.Ytdglaacjefcfdaa

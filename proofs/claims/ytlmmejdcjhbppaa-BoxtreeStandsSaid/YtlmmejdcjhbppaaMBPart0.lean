/- boxtree: a tree that is being made, in memory -/
import Derived.Test.YtlmmejdcjhbppaaMBSort
import Derived.Test.YtlmmejdcjhbppaaMBAround
import Derived.Test.YtlmmejdcjhbppaaMRegC
set_option linter.unusedSimpArgs false
set_option linter.unusedVariables false
namespace Go.Proofs.Ytlmmejdcjhbppaa
open Go.RowKit Go.Geo
theorem own_ltB {w : World} {base e s n : Nat} {v : Value} {xs : List Value} (h : w.ownsRow base e s v n xs) {k : Nat} (hk : v.ownBlock = some k) : base ≤ k ∧ k < w.heap.size := h.lt k hk
theorem own_typed {w : World} {base e s n : Nat} {v : Value} {xs : List Value} (h : w.ownsRow base e s v n xs) {k t : Nat} {c : Array Value} (hk : w.heap[k]? = some (.cells c t (0, 0))) (ht : t ≠ e) : v.ownBlock ≠ some k := by
  intro hv
  rcases h.2 with ⟨rfl, _⟩ | ⟨g, cap, cur, rfl, _, hg, _⟩
  · simp [Value.ownBlock] at hv
  · simp only [Value.ownBlock, Option.some.injEq] at hv
    subst hv
    rw [hg] at hk
    injection hk with hk
    injection hk with _ h2
    exact ht h2.symm
theorem own_ne {w : World} {base b2 e e' s s' : Nat} {v u : Value} {n m : Nat} {xs ys : List Value} (he : e ≠ e') (hv : w.ownsRow base e s v n xs) (hu : w.ownsRow b2 e' s' u m ys) {k : Nat} (hk : v.ownBlock = some k) : u.ownBlock ≠ some k := by
  rcases hv.2 with ⟨rfl, _⟩ | ⟨g, cap, cur, rfl, _, hg, _⟩
  · simp [Value.ownBlock] at hk
  · simp only [Value.ownBlock, Option.some.injEq] at hk
    subst hk
    exact own_typed hu hg he
/-- the three rows of a tree. -/
structure TOwn (B : Nat) (w : World) (g : Nat) (lv ov nv : Value) (L : List Bx) (O : List Int) (N : List Nd) : Prop where
  l : OwnX w B lv L
  o : OwnI w B ov O
  n : OwnN w B nv N
  low : B ≤ g
structure TMem (B : Nat) (w : World) (g : Nat) (lv ov nv : Value) (L : List Bx) (O : List Int) (N : List Nd) : Prop where
  row : TreeRow w g lv ov nv
  own : TOwn B w g lv ov nv L O N
/-- what stays: all that was there but the struct and the rows of the order and of the parts. -/
structure Kp (g : Nat) (ov nv nv' : Value) (W w : World) : Prop where
  os : w.os = W.os
  tape : w.tape = W.tape
  output : w.output = W.output
  size : W.heap.size ≤ w.heap.size
  keep : ∀ k, k < W.heap.size → k ≠ g → ov.ownBlock ≠ some k → nv.ownBlock ≠ some k → w.heap[k]? = W.heap[k]?
  fresh : ∀ k, nv'.ownBlock = some k → W.heap.size ≤ k ∨ nv.ownBlock = some k
theorem Kp.refl (g : Nat) (ov nv : Value) (W : World) : Kp g ov nv nv W W := ⟨rfl, rfl, rfl, Nat.le_refl _, fun _ _ _ _ _ => rfl, fun _ h => .inr h⟩
theorem Kp.trans {g : Nat} {ov nv n1 n2 : Value} {W w1 w2 : World} (h : Kp g ov nv n1 W w1) (k : Kp g ov n1 n2 w1 w2) : Kp g ov nv n2 W w2 := by
  refine ⟨k.os.trans h.os, k.tape.trans h.tape, k.output.trans h.output, Nat.le_trans h.size k.size, fun j hj hg ho hn => ?_, fun j hj => ?_⟩
  · refine (k.keep j (Nat.lt_of_lt_of_le hj h.size) hg ho fun e => ?_).trans (h.keep j hj hg ho hn)
    rcases h.fresh j e with h1 | h1
    · omega
    · exact hn h1
  · rcases k.fresh j hj with h1 | h1
    · exact .inl (Nat.le_trans h.size h1)
    · exact h.fresh j h1
theorem Kp.grew {g : Nat} {ov nv n1 : Value} {W w1 w2 : World} (h : Kp g ov nv n1 W w1) (k : Below w1.heap.size w1 w2) : Kp g ov nv n1 W w2 :=
  ⟨k.os.trans h.os, k.tape.trans h.tape, k.output.trans h.output, Nat.le_trans h.size k.size, fun j hj hg ho hn => (k.block j (Nat.lt_of_lt_of_le hj h.size)).trans (h.keep j hj hg ho hn), h.fresh⟩
theorem Kp.typed {B g : Nat} {lv ov nv nv' : Value} {W w : World} {L : List Bx} {O : List Int} {N : List Nd} (h : Kp g ov nv nv' W w) (hm : TMem B W g lv ov nv L O N) {k t : Nat} {c : Array Value} (hk : W.heap[k]? = some (.cells c t (0, 0))) (h1 : t ≠ 55) (h2 : t ≠ 3) (h3 : t ≠ 72) : w.heap[k]? = some (.cells c t (0, 0)) := by
  refine (h.keep k (heap_lt2 hk) (fun e => ?_) (own_typed hm.own.o hk h2) (own_typed hm.own.n hk h3)).trans hk
  subst e
  rw [hm.row] at hk
  injection hk with hk
  injection hk with _ e
  exact h1 e.symm
theorem Kp.below {B g : Nat} {lv ov nv nv' : Value} {W w : World} {L : List Bx} {O : List Int} {N : List Nd} (h : Kp g ov nv nv' W w) (hm : TMem B W g lv ov nv L O N) : Below B W w :=
  ⟨h.os, h.tape, h.output, h.size, fun k hk => by
    have hg := heap_lt2 hm.row
    have hl := hm.own.low
    exact h.keep k (by omega) (by omega) (fun e => by have := (own_ltB hm.own.o e).1; omega) (fun e => by have := (own_ltB hm.own.n e).1; omega)⟩
theorem TOwn.later {B g : Nat} {w w' : World} {lv ov nv : Value} {L : List Bx} {O : List Int} {N : List Nd} (h : TOwn B w g lv ov nv L O N) (hb : Below w.heap.size w w') : TOwn B w' g lv ov nv L O N := ⟨h.l.later hb, h.o.later hb, h.n.later hb, h.low⟩
theorem TMem.later {B g : Nat} {w w' : World} {lv ov nv : Value} {L : List Bx} {O : List Int} {N : List Nd} (h : TMem B w g lv ov nv L O N) (hb : Below w.heap.size w w') : TMem B w' g lv ov nv L O N := ⟨h.row.later hb, h.own.later hb⟩
/-- a step that turns the struct's own block. -/
theorem TOwn.set {B g o t : Nat} {w : World} {lv ov nv u : Value} {L : List Bx} {O : List Int} {N : List Nd} {c : Array Value} (h : TOwn B w g lv ov nv L O N) (hg : w.heap[g]? = some (.cells c t (0, 0))) (ht : t = 55) : TOwn B (w.setCell ⟨g, o, none⟩ u) g lv ov nv L O N := by
  subst ht
  have hk : ∀ k, k ≠ g → (w.setCell ⟨g, o, none⟩ u).heap[k]? = w.heap[k]? := fun k hk => Below.heap_setCell _ _ _ _ hk
  refine ⟨ownsRow_move h.l fun k e => hk k fun e2 => ?_, ownsRow_move h.o fun k e => hk k fun e2 => ?_, ownsRow_move h.n fun k e => hk k fun e2 => ?_, h.low⟩
  · subst e2; exact own_typed h.l hg (by decide) e
  · subst e2; exact own_typed h.o hg (by decide) e
  · subst e2; exact own_typed h.n hg (by decide) e
theorem TreeRow.set3 {w : World} {g : Nat} {lv ov nv : Value} (h : TreeRow w g lv ov nv) (u : Value) : TreeRow (w.setCell ⟨g, 3, none⟩ u) g lv ov u := heap_setCell_same _ _ 3 _ _ u h
theorem TreeRow.frozen {w : World} {g : Nat} {lv ov nv : Value} (h : TreeRow w g lv ov nv) (o : Nat) : w.frozen? ⟨g, o, none⟩ = false := frozen_of_row _ _ _ _ _ h
theorem Kp.set {g o : Nat} {ov nv n1 u : Value} {W w : World} (h : Kp g ov nv n1 W w) : Kp g ov nv n1 W (w.setCell ⟨g, o, none⟩ u) := by
  have hs := ((Below.refl 0 w).setCell (p := ⟨g, o, none⟩) (Nat.zero_le _) u)
  exact ⟨hs.os.trans h.os, hs.tape.trans h.tape, hs.output.trans h.output, Nat.le_trans h.size hs.size, fun k hk hg ho hn => (Below.heap_setCell _ _ _ _ hg).trans (h.keep k hk hg ho hn), h.fresh⟩
/-- the row of the parts grows. -/
theorem TOwn.growN {B g : Nat} {w w' : World} {lv ov nv n1 : Value} {L : List Bx} {O : List Int} {N M : List Nd} (h : TOwn B w g lv ov nv L O N) (hn : OwnN w' B n1 M) (hg : w.grownBy w' nv.ownBlock) : TOwn B w' g lv ov n1 L O M := by
  refine ⟨World.ownsRow.kept h.l hg (own_apart (by decide) h.n h.l), World.ownsRow.kept h.o hg (own_apart (by decide) h.n h.o), hn, h.low⟩
theorem TreeRow.grown {B g : Nat} {w w' : World} {lv ov nv : Value} {L : List Bx} {O : List Int} {N : List Nd} (h : TreeRow w g lv ov nv) (ho : TOwn B w g lv ov nv L O N) (hg : w.grownBy w' nv.ownBlock) : TreeRow w' g lv ov nv :=
  (hg.block g (heap_lt2 h) (fun e => own_typed ho.n h (by decide) e.symm)).trans h
theorem Kp.grown {g : Nat} {ov nv n1 n2 : Value} {W w w' : World} (h : Kp g ov nv n1 W w) (hg : w.grownBy w' n1.ownBlock) (hf : ∀ k, n2.ownBlock = some k → w.heap.size ≤ k ∨ n1.ownBlock = some k) : Kp g ov nv n2 W w' := by
  refine ⟨hg.os.trans h.os, hg.tape.trans h.tape, hg.output.trans h.output, Nat.le_trans h.size hg.size, fun k hk hkg ho hn => ?_, fun k hk => ?_⟩
  · refine (hg.block k (Nat.lt_of_lt_of_le hk h.size) fun e => ?_).trans (h.keep k hk hkg ho hn)
    rcases h.fresh k e.symm with h1 | h1
    · omega
    · exact hn h1
  · rcases hf k hk with h1 | h1
    · exact .inl (Nat.le_trans h.size h1)
    · exact h.fresh k h1
/-- the stages of 't.nodes = append(t.nodes, node{})'. -/
def StN (W : World) (B g : Nat) (lv ov nv n0 : Value) (L : List Bx) (O : List Int) (N : List Nd) (C : World → Prop) : List Value → World → Prop
  | [], w => TMem B w g lv ov nv L O N ∧ Kp g ov n0 nv W w ∧ C w
  | [a], w => TMem B w g lv ov nv L O N ∧ Kp g ov n0 nv W w ∧ C w ∧ ∃ k, a = .slice (some ⟨k, 0, none⟩) 1 1 ∧ IsN w (some ⟨k, 0, none⟩) 1 1 [nd0]
  | [_, b], w => TreeRow w g lv ov nv ∧ TOwn B w g lv ov b L O (N ++ [nd0]) ∧ Kp g ov n0 b W w ∧ C w
  | [_, b, _], w => TMem B w g lv ov b L O (N ++ [nd0]) ∧ Kp g ov n0 b W w ∧ C w
  | _, _ => False
end Go.Proofs.Ytlmmejdcjhbppaa

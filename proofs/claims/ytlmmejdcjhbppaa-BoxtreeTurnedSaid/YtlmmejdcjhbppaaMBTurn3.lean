/- BoxtreeTurned: the stages of a swap -/
import Derived.Test.YtlmmejdcjhbppaaMBTurn2
import Derived.Test.YtlmmejdcjhbppaaMRegC
set_option linter.unusedSimpArgs false
set_option linter.unusedVariables false
namespace Go.Proofs.Ytlmmejdcjhbppaa
open Go.RowKit Go.Geo
theorem OwnX.cellAt {w : World} {B gm n c : Nat} {M : List Bx} (h : OwnX w B (.slice (some ⟨gm, 0, none⟩) n c) M) (hl : M.length = n) {i : Nat} (hi : i < n) : w.cell? ⟨gm, i * 4, none⟩ = some (.int .i64 (M.getD i bx0).1.x) ∧ w.cell? ⟨gm, i * 4 + 1, none⟩ = some (.int .i64 (M.getD i bx0).1.y) ∧ w.cell? ⟨gm, i * 4 + 2, none⟩ = some (.int .i64 (M.getD i bx0).2.x) ∧ w.cell? ⟨gm, i * 4 + 3, none⟩ = some (.int .i64 (M.getD i bx0).2.y) := by
  obtain ⟨a, c2, ev, hq⟩ := h.is
  rw [hl] at ev hq
  cases ev
  obtain ⟨b1, off1, e, d0, d1, d2, d3⟩ := hq.at (i := i) hi
  cases e
  rw [Nat.zero_add] at d0 d1 d2 d3
  exact ⟨d0, d1, d2, d3⟩
theorem OwnI.cellAt {w : World} {B ga n c : Nat} {A : List Int} (h : OwnI w B (.slice (some ⟨ga, 0, none⟩) n c) A) (hl : A.length = n) {i : Nat} (hi : i < n) : w.cell? ⟨ga, i, none⟩ = some (.int .i64 (A.getD i 0)) := by
  obtain ⟨a, c2, ev, hq⟩ := h.ints
  rw [hl] at ev hq
  cases ev
  obtain ⟨b1, off1, e, d0⟩ := hq.at (i := i) hi
  cases e
  rw [Nat.zero_add] at d0
  exact d0
/-- two rows of the call's own: boxes and places. -/
structure TwoR (W : World) (B gm n ci ga : Nat) (M : List Bx) (A : List Int) (w : World) : Prop where
  x : OwnX w B (.slice (some ⟨gm, 0, none⟩) n ci) M
  i : OwnI w B (.slice (some ⟨ga, 0, none⟩) n n) A
  ml : M.length = n
  al : A.length = n
  bel : Below B W w
  gmB : B ≤ gm
  gaB : B ≤ ga
theorem TwoR.later {W w w' : World} {B gm n ci ga : Nat} {M : List Bx} {A : List Int} (h : TwoR W B gm n ci ga M A w) (hb : Below w.heap.size w w') (hB : B ≤ w.heap.size) : TwoR W B gm n ci ga M A w' :=
  ⟨h.x.later hb, h.i.later hb, h.ml, h.al, h.bel.trans (hb.mono hB), h.gmB, h.gaB⟩
theorem TwoR.putX {W w : World} {B gm n ci ga : Nat} {M : List Bx} {A : List Int} (h : TwoR W B gm n ci ga M A w) {j : Nat} (hj : j < n) (e : Bx) :
    TwoR W B gm n ci ga (M.set j e) A ((((w.setCell ⟨gm, j * 4, none⟩ (.int .i64 e.1.x)).setCell ⟨gm, j * 4 + 1, none⟩ (.int .i64 e.1.y)).setCell ⟨gm, j * 4 + 2, none⟩ (.int .i64 e.2.x)).setCell ⟨gm, j * 4 + 3, none⟩ (.int .i64 e.2.y)) := by
  obtain ⟨h1, h2, h3, h4, h5, h6, h7⟩ := h
  have hx := h1
  rw [← h3] at hx
  have hput := hx.put (i := j) (by omega) e
  rw [h3] at hput
  have hkeep : ∀ k, k ≠ gm → ((((w.setCell ⟨gm, j * 4, none⟩ (.int .i64 e.1.x)).setCell ⟨gm, j * 4 + 1, none⟩ (.int .i64 e.1.y)).setCell ⟨gm, j * 4 + 2, none⟩ (.int .i64 e.2.x)).setCell ⟨gm, j * 4 + 3, none⟩ (.int .i64 e.2.y)).heap[k]? = w.heap[k]? := fun k hk => by
    rw [Below.heap_setCell _ _ _ _ hk, Below.heap_setCell _ _ _ _ hk, Below.heap_setCell _ _ _ _ hk, Below.heap_setCell _ _ _ _ hk]
  refine ⟨hput, ownsRow_move h2 fun k ek => hkeep k fun e2 => ?_, by rw [List.length_set, h3], h4, ((((h5.setCell (p := ⟨gm, _, none⟩) h6 _).setCell (p := ⟨gm, _, none⟩) h6 _).setCell (p := ⟨gm, _, none⟩) h6 _).setCell (p := ⟨gm, _, none⟩) h6 _), h6, h7⟩
  subst e2
  rcases h1.2 with ⟨h1', _⟩ | ⟨g', cap, cur, e3, _, hg, _⟩
  · simp at h1'
  · cases e3
    exact own_typed h2 hg (by decide) ek
theorem TwoR.putI {W w : World} {B gm n ci ga : Nat} {M : List Bx} {A : List Int} (h : TwoR W B gm n ci ga M A w) (j : Nat) (e : Int) :
    TwoR W B gm n ci ga M (A.set j e) (w.setCell ⟨ga, j, none⟩ (.int .i64 e)) := by
  obtain ⟨h1, h2, h3, h4, h5, h6, h7⟩ := h
  have hi := h2
  rw [← h4] at hi
  have hput := hi.put j e
  rw [h4] at hput
  exact ⟨h1.byI h2, hput, h3, by rw [List.length_set, h4], h5.setCell (p := ⟨ga, _, none⟩) h7 _, h6, h7⟩
/-- the stages of m[a], m[b] = m[b], m[a]. -/
def SwX (W : World) (B gm n ci ga : Nat) (M : List Bx) (A : List Int) (a b : Nat) : List Value → World → Prop
  | [], w => TwoR W B gm n ci ga M A w
  | [_], w => TwoR W B gm n ci ga (M.set a (M.getD b bx0)) A w
  | _, w => TwoR W B gm n ci ga ((M.set a (M.getD b bx0)).set b (M.getD a bx0)) A w
def SwI (W : World) (B gm n ci ga : Nat) (M : List Bx) (A : List Int) (a b : Nat) : List Value → World → Prop
  | [], w => TwoR W B gm n ci ga M A w
  | [_], w => TwoR W B gm n ci ga M (A.set a (A.getD b 0)) w
  | _, w => TwoR W B gm n ci ga M ((A.set a (A.getD b 0)).set b (A.getD a 0)) w
end Go.Proofs.Ytlmmejdcjhbppaa

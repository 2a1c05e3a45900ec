/- what an *Index holds -/
import Derived.Test.YtjiiikeniocmfaaGreatMSInts
import Derived.Test.YtjiiikeniocmfaaGreatMBox1
import Derived.Test.YtjiiikeniocmfaaGreatMBBuild
import Derived.Test.YtjiiikeniocmfaaGreatMSBuild0
set_option linter.unusedSimpArgs false
set_option linter.unusedVariables false
namespace Go.Proofs.YtjiiikeniocmfaaGreat
open Go.RowKit Go.Geo
/-- nothing has turned but two blocks, and new ones. -/
structure Two (a b : Nat) (w w' : World) : Prop where
  os : w'.os = w.os
  tape : w'.tape = w.tape
  output : w'.output = w.output
  size : w.heap.size ≤ w'.heap.size
  block : ∀ k, k < w.heap.size → k ≠ a → k ≠ b → w'.heap[k]? = w.heap[k]?
theorem Two.refl (a b : Nat) (w : World) : Two a b w w := ⟨rfl, rfl, rfl, Nat.le_refl _, fun _ _ _ _ => rfl⟩
theorem Two.trans {a b : Nat} {w w1 w2 : World} (h : Two a b w w1) (h2 : Two a b w1 w2) : Two a b w w2 :=
  ⟨h2.os.trans h.os, h2.tape.trans h.tape, h2.output.trans h.output, Nat.le_trans h.size h2.size, fun k hk ha hb => (h2.block k (Nat.lt_of_lt_of_le hk h.size) ha hb).trans (h.block k hk ha hb)⟩
theorem Two.of {a b : Nat} {w w' : World} (h : Below w.heap.size w w') : Two a b w w' := ⟨h.os, h.tape, h.output, h.size, fun k hk _ _ => h.block k hk⟩
theorem Two.below {a b B : Nat} {w w' : World} (h : Two a b w w') (ha : B ≤ a) (hb : B ≤ b) (hB : B ≤ w.heap.size) : Below B w w' :=
  ⟨h.os, h.tape, h.output, h.size, fun k hk => h.block k (by omega) (by omega) (by omega)⟩
theorem Two.setA {a b o : Nat} {w w' : World} {v : Value} (h : Two a b w w') : Two a b w (w'.setCell ⟨a, o, none⟩ v) := by
  have hs := ((Below.refl a w').setCell (p := ⟨a, o, none⟩) (Nat.le_refl _) v)
  exact ⟨hs.os.trans h.os, hs.tape.trans h.tape, hs.output.trans h.output, Nat.le_trans h.size hs.size, fun k hk h1 h2 => (Below.heap_setCell _ _ _ _ h1).trans (h.block k hk h1 h2)⟩
theorem Two.setB {a b o : Nat} {w w' : World} {v : Value} (h : Two a b w w') : Two a b w (w'.setCell ⟨b, o, none⟩ v) := by
  have hs := ((Below.refl b w').setCell (p := ⟨b, o, none⟩) (Nat.le_refl _) v)
  exact ⟨hs.os.trans h.os, hs.tape.trans h.tape, hs.output.trans h.output, Nat.le_trans h.size hs.size, fun k hk h1 h2 => (Below.heap_setCell _ _ _ _ h2).trans (h.block k hk h1 h2)⟩
theorem Two.drew {a b : Nat} {w w' : World} (h : Two a b w w') : Two a b w w'.drew := ⟨h.os, h.tape, h.output, h.size, h.block⟩
theorem Two.grown {a b : Nat} {w w1 w2 : World} {r : Option Nat} (h : Two a b w w1) (hg : w1.grownBy w2 r) (hr : ∀ k, r = some k → w.heap.size ≤ k) : Two a b w w2 :=
  ⟨hg.os.trans h.os, hg.tape.trans h.tape, hg.output.trans h.output, Nat.le_trans h.size hg.size, fun k hk ha hb => (hg.block k (Nat.lt_of_lt_of_le hk h.size) (fun e => by have := hr k e.symm; omega)).trans (h.block k hk ha hb)⟩
def boxesR (G : List Reg) : List Bx := G.map fun R => (boundsP R.flatten).getD (p0, p0)
/-- blocks from lo up to the size of a world that was, unturned, none of them in X. -/
def Since (X : Nat → Prop) (lo : Nat) (w0 w : World) : Prop := w0.heap.size ≤ w.heap.size ∧ ∀ k, lo ≤ k → k < w0.heap.size → w.heap[k]? = w0.heap[k]? ∧ ¬ X k
def OnceAt (X : Nat → Prop) (w : World) (g og sg i : Nat) (R : Reg) : Prop :=
  (w.cell? ⟨og, i * 3, none⟩ = some (.int .u32 0) ∧ w.cell? ⟨og, i * 3 + 1, none⟩ = some (.int .i32 0)) ∨ (w.cell? ⟨og, i * 3, none⟩ = some (.int .u32 1) ∧ ∃ gs w0, w.cell? ⟨sg, i, none⟩ = some (.pointer (some ⟨gs, 0, none⟩)) ∧ g < gs ∧ SlabOwn w0 gs (heightsP R) (slabsR R) ∧ Since X gs w0 w)
def idxRow (lv : Value) (tg og sg n : Nat) : Array Value := #[.bool true, lv, .pointer (some ⟨tg, 0, none⟩), .slice (some ⟨og, 0, none⟩) n n, .slice (some ⟨sg, 0, none⟩) n n]
/-- an index stands, of regions G; X: blocks that are none of its own. -/
structure IdxOn (X : Nat → Prop) (w : World) (B g og sg : Nat) (G : List Reg) : Prop where
  ex : ∃ lv tg w0, w.heap[g]? = some (.cells (idxRow lv tg og sg G.length) 57 (0, 0)) ∧ OwnG w0 (g + 1) lv G ∧ TreeOn w0 (g + 1) tg (boxesR G) ∧ Since X (g + 1) w0 w
  once : ∃ cs : Array Value, w.heap[og]? = some (.cells cs 101 (0, 0)) ∧ cs.size = G.length * 3
  slab : ∃ ss : Array Value, w.heap[sg]? = some (.cells ss 71 (0, 0)) ∧ ss.size = G.length
  each : ∀ i, i < G.length → OnceAt X w g og sg i (G.getD i [])
  lo : B ≤ og
  ls : B ≤ sg
  ne : og ≠ sg
  og_lt : og < g
  sg_lt : sg < g
  few : G.length ≤ 64
  ok : ∀ i, i < G.length → (regionCheckP (G.getD i [])).1 = 0
  off : ∀ k, X k → g < k
theorem cell_of_same {w w' : World} {b o : Nat} (h : w'.heap[b]? = w.heap[b]?) : w'.cell? ⟨b, o, none⟩ = w.cell? ⟨b, o, none⟩ := by
  unfold World.cell?
  simp only [h]
theorem Since.move {X X' : Nat → Prop} {lo : Nat} {w0 w w' : World} (h : Since X lo w0 w) (hs : w.heap.size ≤ w'.heap.size) (hb : ∀ k, lo ≤ k → k < w.heap.size → ¬ X k → w'.heap[k]? = w.heap[k]?) (hX : ∀ k, X' k → X k ∨ w.heap.size ≤ k) : Since X' lo w0 w' :=
  ⟨Nat.le_trans h.1 hs, fun k h1 h2 => ⟨(hb k h1 (Nat.lt_of_lt_of_le h2 h.1) (h.2 k h1 h2).2).trans (h.2 k h1 h2).1, fun hx => by
    rcases hX k hx with h3 | h3
    · exact (h.2 k h1 h2).2 h3
    · have := h.1; omega⟩⟩
theorem Since.start {X : Nat → Prop} {lo : Nat} {w : World} (h : ∀ k, X k → k < lo ∨ w.heap.size ≤ k) : Since X lo w w := ⟨Nat.le_refl _, fun k h1 h2 => ⟨rfl, fun hx => by have := h k hx; omega⟩⟩
theorem OwnG.since {X : Nat → Prop} {lo : Nat} {w0 w : World} {v : Value} {G : List Reg} (h : OwnG w0 lo v G) (hs : Since X lo w0 w) : OwnG w lo v G := h.moveB fun k h1 h2 => (hs.2 k h1 h2).1
theorem TreeOn.since {X : Nat → Prop} {lo tg : Nat} {w0 w : World} {L : List Bx} (h : TreeOn w0 lo tg L) (hs : Since X lo w0 w) : TreeOn w lo tg L := h.move fun k h1 h2 => (hs.2 k h1 h2).1
theorem SlabOwn.since {X : Nat → Prop} {gs : Nat} {w0 w : World} {H : List Int} {Es : List (List Edg)} (h : SlabOwn w0 gs H Es) (hs : Since X gs w0 w) : SlabOwn w gs H Es := h.move fun k h1 h2 => (hs.2 k h1 h2).1
/-- a step that turns nothing but X's. -/
theorem IdxOn.step {X X' : Nat → Prop} {w w' : World} {B g og sg : Nat} {G : List Reg} (h : IdxOn X w B g og sg G) (hs : w.heap.size ≤ w'.heap.size) (hb : ∀ k, k < w.heap.size → ¬ X k → w'.heap[k]? = w.heap[k]?) (hX : ∀ k, X' k → X k ∨ w.heap.size ≤ k) : IdxOn X' w' B g og sg G := by
  obtain ⟨⟨lv, tg, w0, e1, e2, e3, e4⟩, ⟨cs, o1, o2⟩, ⟨ss, s1, s2⟩, he, h1, h2, h3, h4, h5, h6, h7, h8⟩ := h
  have hx : ∀ k, k ≤ g → ¬ X k := fun k hk hx => by have := h8 k hx; omega
  have ho := hb og (heap_lt' o1) (hx _ (by omega))
  have hsg := hb sg (heap_lt' s1) (hx _ (by omega))
  have hg := heap_lt' e1
  refine ⟨⟨lv, tg, w0, (hb g hg (hx _ (Nat.le_refl _))).trans e1, e2, e3, e4.move hs (fun k _ => hb k) hX⟩, ⟨cs, ho.trans o1, o2⟩, ⟨ss, hsg.trans s1, s2⟩, fun i hi => ?_, h1, h2, h3, h4, h5, h6, h7, fun k hk => ?_⟩
  · rcases he i hi with ⟨k1, k2⟩ | ⟨k1, gs, w1, k2, k3, k4, k5⟩
    · exact .inl ⟨(cell_of_same ho).trans k1, (cell_of_same ho).trans k2⟩
    · exact .inr ⟨(cell_of_same ho).trans k1, gs, w1, (cell_of_same hsg).trans k2, k3, k4, k5.move hs (fun k _ => hb k) hX⟩
  · rcases hX k hk with h9 | h9
    · exact h8 k h9
    · omega
theorem IdxOn.later {X : Nat → Prop} {w w' : World} {B g og sg : Nat} {G : List Reg} (h : IdxOn X w B g og sg G) (hb : Below w.heap.size w w') : IdxOn X w' B g og sg G := h.step hb.size (fun k hk _ => hb.block k hk) (fun k hk => .inl hk)
theorem IdxOn.lt {X : Nat → Prop} {w : World} {B g og sg : Nat} {G : List Reg} (h : IdxOn X w B g og sg G) : og < w.heap.size ∧ sg < w.heap.size ∧ g < w.heap.size := by
  obtain ⟨⟨lv, tg, w0, e1, _⟩, ⟨cs, o1, _⟩, ⟨ss, s1, _⟩, _⟩ := h
  exact ⟨heap_lt' o1, heap_lt' s1, heap_lt' e1⟩
end Go.Proofs.YtjiiikeniocmfaaGreat

/- the makes of index.Build -/
set_option linter.unusedSimpArgs false
set_option linter.unusedVariables false
namespace Go.Proofs.YtjiiikeniocmfaaGreat
open Go.RowKit Go.Geo
theorem Tryz.infoOnce : (Tryz.prog.info? 101).map (fun i => (i.zero, i.size, i.bytes)) = some (some (.agg #[.int .u32 0, .int .i32 0, .int .u32 0]), 3, 12) := by kernel_rfl
theorem Tryz.infoSl : (Tryz.prog.info? 71).map (fun i => (i.zero, i.size, i.bytes)) = some (some (.pointer none), 1, 8) := by kernel_rfl
/-- n onces, none done. -/
def OnceRow (w : World) (b n : Nat) : Prop := ∃ cs : Array Value, w.heap[b]? = some (.cells cs 101 (0, 0)) ∧ cs.size = n * 3 ∧ ∀ i, i < n → cs[i * 3]? = some (.int .u32 0) ∧ cs[i * 3 + 1]? = some (.int .i32 0)
def PtrRow (w : World) (b n : Nat) : Prop := ∃ cs : Array Value, w.heap[b]? = some (.cells cs 71 (0, 0)) ∧ cs.size = n
theorem OnceRow.later {w w' : World} {b n : Nat} (h : OnceRow w b n) (hb : Below w.heap.size w w') : OnceRow w' b n := by
  obtain ⟨cs, h1, h2⟩ := h
  exact ⟨cs, (hb.block b (heap_lt' h1)).trans h1, h2⟩
theorem PtrRow.later {w w' : World} {b n : Nat} (h : PtrRow w b n) (hb : Below w.heap.size w w') : PtrRow w' b n := by
  obtain ⟨cs, h1, h2⟩ := h
  exact ⟨cs, (hb.block b (heap_lt' h1)).trans h1, h2⟩
theorem made_at (z : Array Value) (n k : Nat) (h : k < n) : (madeCells z n)[k]? = some (z[k % z.size]!) := by
  unfold madeCells
  rw [Array.getElem?_map, Array.getElem?_range, if_pos h]
  rfl
theorem make_onces (n : Nat) (hn : n ≤ 64) (w : World) : ∃ w', (Instr.makeSlice 54 (.int .i64 (n : Int)) (.int .i64 (n : Int))).run Tryz.prog w = .ok (.slice (some ⟨w.heap.size, 0, none⟩) n n) w' ∧ Below w.heap.size w w' ∧ OnceRow w' w.heap.size n ∧ w'.heap.size = w.heap.size + 1 := by
  obtain ⟨i0, hi, hz0, hz1, hz2⟩ := info_parts' Tryz.infoOnce
  have h := run_makeSlice (P := Tryz.prog) w 54 101 i0 _ Tryz.underlying54 hi hz0 .i64 .i64 (n : Int) (n : Int) (by omega) (by omega) (by rw [hz1]; omega) (by rw [hz2]; omega) (by omega)
  rw [hz1] at h
  refine ⟨_, h, (Below.refl _ _).alloc (Nat.le_refl _) _, ⟨_, alloc_new _ _, by rw [size_madeCells]; simp, fun i hi => ?_⟩, by simp⟩
  have e0 : (i * 3) % 3 = 0 := by omega
  have e1 : (i * 3 + 1) % 3 = 1 := by omega
  refine ⟨?_, ?_⟩
  · rw [made_at _ _ _ (by simp; omega)]
    show some ((#[Value.int .u32 0, .int .i32 0, .int .u32 0] : Array Value)[(i * 3) % 3]!) = _
    rw [e0]; rfl
  · rw [made_at _ _ _ (by simp; omega)]
    show some ((#[Value.int .u32 0, .int .i32 0, .int .u32 0] : Array Value)[(i * 3 + 1) % 3]!) = _
    rw [e1]; rfl
theorem make_ptrs (n : Nat) (hn : n ≤ 64) (w : World) : ∃ w', (Instr.makeSlice 55 (.int .i64 (n : Int)) (.int .i64 (n : Int))).run Tryz.prog w = .ok (.slice (some ⟨w.heap.size, 0, none⟩) n n) w' ∧ Below w.heap.size w w' ∧ PtrRow w' w.heap.size n ∧ w'.heap.size = w.heap.size + 1 := by
  obtain ⟨i0, hi, hz0, hz1, hz2⟩ := info_parts' Tryz.infoSl
  have h := run_makeSlice (P := Tryz.prog) w 55 71 i0 _ Tryz.underlying55 hi hz0 .i64 .i64 (n : Int) (n : Int) (by omega) (by omega) (by rw [hz1]; omega) (by rw [hz2]; omega) (by omega)
  rw [hz1] at h
  exact ⟨_, h, (Below.refl _ _).alloc (Nat.le_refl _) _, ⟨_, alloc_new _ _, by rw [size_madeCells]; simp⟩, by simp⟩
end Go.Proofs.YtjiiikeniocmfaaGreat

/- index.clone (printed by mkclone14.py) -/
set_option linter.unusedSimpArgs false
set_option linter.unusedVariables false
namespace Go.Proofs.YtjiiikeniocmfaaGreat
open Go.RowKit Go.Geo
attribute [local go_sem] Oper.semAt_some
theorem opwp_append_rings {w : World} {o : Oper} {a : Act} {K : Act → World → Prop} {Q : Exit → Act → World → Prop} (s x : Operand)
    (ho : o.op = .call { callee := .builtin .append, args := #[s, x], argTypes := #[28, 28] })
    (base : Nat) (v : Value) (L : List (List Pt)) (hs : a.eval s = v) (hown : OwnR w base v L)
    (g : Nat) (hx : a.eval x = .slice (some ⟨g, 0, none⟩) 1 1) (au : Option Addr) (cu : Nat) (r : List Pt) (hu : OwnP w base (.slice au r.length cu) r) (hg : w.heap[g]? = some (.cells #[.slice au r.length cu] 40 (0, 0)))
    (hn : L.length ≤ 4294967296) (hbase : base ≤ w.heap.size)
    (h : ∀ v' w', OwnR w' base v' (L ++ [r]) → w.grownBy w' v.ownBlock → K (a.put o.dst v') w') : o.wp Tryz.prog a w K Q := by
  obtain ⟨i0, hi, hz0, hz1, hz2⟩ := info_parts' Tryz.infoPts
  obtain ⟨vs, h1, h2, h3⟩ := hown
  obtain ⟨v', w', hr, hx2, hgr, _⟩ := run_append_own (P := Tryz.prog) w base 28 o.type 40 i0 (.slice none 0 0) 1 24 Tryz.underlying28 hi hz0 hz1 hz2 rfl (by decide) v L.length vs h2 ⟨g, 0, none⟩ 1 1 [.slice au r.length cu] rfl
    (by
      intro j u hu
      match j, hu with
      | 0, hu =>
        simp at hu; subst hu
        rw [show (⟨g, 0, none⟩ : Addr).add 0 = ⟨g, 0, none⟩ from rfl, cell_of_row _ _ _ _ _ _ hg]; rfl)
    (by intro u hu; simp at hu; subst hu; rfl) (by unfold maxLen; omega) (by omega) hbase
  unfold Oper.wp execOp
  simp only [ho, resolve, invoke, builtin, Sem.run_bind, Sem.run_pure, Result.andThen_ok, List.map_toArray, List.map_cons, List.map_nil, hs, hx, hr]
  exact h v' w' (OwnR.snoc h1 h3 h2 hu hx2 hgr) hgr
theorem _root_.Go.World.grownBy.toB {w w' : World} (h : w.grownBy w' none) : Below w.heap.size w w' := ⟨h.os, h.tape, h.output, h.size, fun k hk => h.block k hk (by simp)⟩
def ClO (W2 : World) (ob : Nat) (v : Value) (L : Reg) (w : World) : Prop := w.heap[ob]? = some (.cells #[v] 30 (0, 0)) ∧ OwnR w (ob + 1) v L ∧ Below ob W2 w
theorem ClO.later {W2 w w' : World} {ob : Nat} {v : Value} {L : Reg} (h : ClO W2 ob v L w) (hb : Below w.heap.size w w') : ClO W2 ob v L w' :=
  ⟨(hb.block ob (heap_lt' h.1)).trans h.1, h.2.1.later hb, h.2.2.trans (hb.mono (Nat.le_of_lt (heap_lt' h.1)))⟩
theorem ClO.obl {W2 w : World} {ob : Nat} {v : Value} {L : Reg} (h : ClO W2 ob v L w) : ob + 1 ≤ w.heap.size := heap_lt' h.1
theorem ClO.put {W2 w : World} {ob : Nat} {v u : Value} {L : Reg} (h1 : w.heap[ob]? = some (.cells #[v] 30 (0, 0))) (h2 : OwnR w (ob + 1) u L) (h3 : Below ob W2 w) : ClO W2 ob u L (w.setCell ⟨ob, 0, none⟩ u) :=
  ⟨heap_setCell_same _ _ 0 _ _ u h1, h2.moveB fun k hk _ => Below.heap_setCell _ _ _ _ (by simp only; omega), h3.setCell (p := ⟨ob, 0, none⟩) (Nat.le_refl _) _⟩
def StC (W2 : World) (ob : Nat) (rv : Value) (L : Reg) (P : List Pt) : List Value → World → Prop
  | [], w => ClO W2 ob rv L w
  | [a], w => ClO W2 ob rv L w ∧ OwnP w (ob + 1) a P
  | [a, b], w => ClO W2 ob rv L w ∧ OwnP w (ob + 1) a P ∧ ∃ q, b = .slice (some ⟨q, 0, none⟩) 1 1 ∧ w.heap[q]? = some (.cells #[a] 40 (0, 0))
  | [_, _, c], w => w.heap[ob]? = some (.cells #[rv] 30 (0, 0)) ∧ OwnR w (ob + 1) c (L ++ [P]) ∧ Below ob W2 w
  | [_, _, c, _], w => ClO W2 ob c (L ++ [P]) w
  | _, _ => False
theorem StC.cell {W2 w : World} {ob : Nat} {rv : Value} {L : Reg} {P : List Pt} {vs : List Value} (hl : vs.length ≤ 2) (h : StC W2 ob rv L P vs w) : w.cell? ⟨ob, 0, none⟩ = some rv := by
  match vs, h with
  | [], h => exact cell_of_row _ _ _ _ _ _ h.1
  | [_], h => exact cell_of_row _ _ _ _ _ _ h.1.1
  | [_, _], h => exact cell_of_row _ _ _ _ _ _ h.1.1
  | _ :: _ :: _ :: _, _ => simp at hl
set_option maxRecDepth 100000 in
set_option maxHeartbeats 4000000 in
theorem clone_any (ao : Option Addr) (n cap : Nat) (R : Reg) (w : World) (h : IsRings w ao n cap R) (hs : Small R) :
    Calls Tryz.prog 29 #[.agg #[.slice ao n cap]] w fun e w' => ∃ v, e = .returned (.agg #[v]) ∧ OwnR w' w.heap.size v R ∧ Below w.heap.size w w' := by
  obtain ⟨bx, hbx⟩ : ∃ b, b = w.heap.size := ⟨_, rfl⟩
  obtain ⟨b2, hb2⟩ : ∃ b, b = w.heap.size + 1 := ⟨_, rfl⟩
  obtain ⟨ob, hob⟩ : ∃ b, b = w.heap.size + 1 + 1 := ⟨_, rfl⟩
  obtain ⟨W2, hW2⟩ : ∃ W, W = (w.alloc (.cells #[.slice ao n cap] 30)).alloc (.cells #[.slice none 0 0] 30) := ⟨_, rfl⟩
  obtain ⟨W, hW⟩ : ∃ W, W = W2.alloc (.cells #[.slice none 0 0] 30) := ⟨_, rfl⟩
  have hs2 : W2.heap.size = w.heap.size + 2 := by rw [hW2]; simp
  have hb02 : Below w.heap.size w W2 := by rw [hW2]; exact ((Below.refl _ _).alloc (Nat.le_refl _) _).alloc (by simp) _
  have hcl0 : ClO W2 ob (.slice none 0 0) [] W := by
    have e : ob = W2.heap.size := by omega
    rw [hW, e]
    exact ⟨alloc_new _ _, OwnR.nil _ _, (Below.refl _ _).alloc (Nat.le_refl _) _⟩
  have hx0 : W2.heap[bx]? = some (.cells #[.slice ao n cap] 30 (0, 0)) := by rw [hW2, hbx]; exact (Below.heap_alloc _ _ _ (by simp)).trans (alloc_new _ _)
  have hx1 : W2.heap[b2]? = some (.cells #[.slice none 0 0] 30 (0, 0)) := by rw [hW2, hb2]; exact alloc_new2 _ _ _
  have hnc := h.2.1
  have hcm := h.2.2.1
  unfold maxLen at hcm
  have HI := Lib.hid (h.later hb02 (Nat.le_refl _))
  have HL : Hid (R.length = n) := h.1
  have HS := Lib.hid hs
  have hn : n ≤ 100000 := by rw [← h.1]; exact hs.1
  have HCL := Lib.hid hcl0
  have HX0 := Lib.hid hx0
  have HX1 := Lib.hid hx1
  have HB02 := Lib.hid hb02
  have HSZ := Lib.hid (And.intro hbx (And.intro hb2 (And.intro hob hs2)))
  have cx : W.cell? ⟨bx, 0, none⟩ = some (.slice ao n cap) := cell_of_row _ _ _ _ _ _ ((hcl0.2.2.block bx (by omega)).trans hx0)
  rw [hW, hW2, hbx] at cx
  clear h hs hb02 hcl0 hx0 hx1 hs2
  go_enter Tryz.func29, Tryz.ntmps29
  go_wp2_with fail
  rw [← hbx, ← hW2, ← hW]
  rw [show bx + 1 + 1 = ob by omega, show bx + 1 = b2 by omega]
  clear cx hW hW2 hbx hb2 hob
  go_loopw [9] (fun iv wr => ∃ k : Nat, k ≤ n ∧ iv = .int .i64 k ∧ ∃ rv, Hid (ClO W2 ob rv (R.take k) wr)) (fun iv _ => n - (intOf iv).toNat)
  case atStart => exact ⟨0, by omega, rfl, _, HCL⟩
  case round =>
    obtain ⟨k, hk, rfl, rv, hcl⟩ := hrel
    by_cases hlt : k < n
    · have hi0 : (0 : Int) ≤ (k : Int) := by omega
      have hi5 : (k : Int) < (n : Int) := by omega
      have hwk : IntKind.i64.wrap ((k : Int) + 1) = (k : Int) + 1 := IntWalk.i64_in _ (by omega)
      obtain ⟨b, off, x, y, z, hao, e0, hp⟩ := HI.out.2.2.2.2 k hlt
      subst hao
      obtain ⟨P, hP⟩ : ∃ P, P = R.getD k [] := ⟨_, rfl⟩
      rw [← hP] at hp
      have hpl : P.length ≤ 100000 := by rw [hP]; exact HS.out.2 k (by rw [HL.out]; exact hlt)
      have hyl : y = P.length := hp.1.symm
      have hob2 : ob = W2.heap.size := by have := HSZ.out; omega
      have HPT : Hid (∀ wX, Below ob W2 wX → IsPts wX x y z P) := Lib.hid (fun wX hb => hp.later hb (by omega))
      have HPL : Hid (([] : List Pt).length + y ≤ 1000000000) := Lib.hid (by simp; omega)
      have HT : Hid (R.take (k + 1) = R.take k ++ [P]) := by rw [hP]; exact Lib.hid (take_moreR (by rw [HL.out]; exact hlt))
      have HLL : Hid ((R.take k).length ≤ 4294967296) := Lib.hid (by rw [List.length_take]; omega)
      have c0 : wr.cell? ⟨b, off + k, none⟩ = some (.slice x y z) := (hcl.out.2.2.cell (p := ⟨b, off + k, none⟩) (by rw [hob2]; exact block_lt_of_cell e0)).trans e0
      obtain ⟨ra, rc, hrv, _⟩ := hcl.out.2.1.rings
      subst hrv
      obtain ⟨L, hL⟩ : ∃ L, L = R.take k := ⟨_, rfl⟩
      rw [← hL] at hcl HT HLL
      obtain ⟨m, hm⟩ : ∃ m, m = L.length := ⟨_, rfl⟩
      rw [← hm] at hcl
      clear hp hpl hyl hob2 e0 hP hL hm
      go_wp2_with fail
      refine wp_region_J (s := [(13, 0), (14, 1), (15, 2), (16, 3), (17, 4), (18, 5), (19, 6)]) (by kernel_rfl) (ChainJ (fun iX => match iX with | 0 => some (.pointer (some ⟨ob, 0, none⟩)) | 1 => some (.slice ra m rc) | 2 => some (.slice x y z) | 6 => some (.pointer (some ⟨ob, 0, none⟩)) | _ => none) [3, 4, 5, 7] (StC W2 ob (.slice ra m rc) L P)) (by kernel_rfl) (by kernel_rfl) (by kernel_rfl) (by kernel_rfl) (fun _ => undef) ?start5 ?step5 ?done5
      case start5 => exact ChainJ.start (hcl.out.later ((Below.refl _ _).drew))
      case step5 =>
        refine ⟨?o5_0, ?o5_1, ?o5_2, ?o5_3, ?o5_4, ?o5_5, ?o5_6, ?o5_7, trivial⟩
        case o5_0 =>
          intro LX V aX wX K hl hp hcl hf hJ hK
          have t3 : aX.tmps[3]? = some (.pointer (some ⟨ob, 0, none⟩)) := hf.old (by kernel_rfl) rfl
          rw [if_pos (by rfl)]
          go_simp
          exact hK _ _ (hJ.val 0 _ (by kernel_rfl) rfl (fun _ h => h))
        case o5_1 =>
          intro LX V aX wX K hl hp hcl hf hJ hK
          have t13 := hf.in (i := 0) (d := 13) (by kernel_rfl) (hp 0 (by kernel_rfl)) (hJ.vals 0 _ rfl (hp 0 (by kernel_rfl)))
          obtain ⟨vs, hlen, hS⟩ := hJ.upto 2 (by decide) (hcl.no 5 (by kernel_rfl) hl)
          have c1 := StC.cell hlen hS
          rw [if_pos (by rfl)]
          go_simp
          exact hK _ _ (hJ.val 1 _ (by kernel_rfl) rfl (fun _ h => h))
        case o5_2 =>
          intro LX V aX wX K hl hp hcl hf hJ hK
          have t5 : aX.tmps[5]? = some (.slice x y z) := hf.old (by kernel_rfl) rfl
          rw [if_pos (by rfl)]
          go_simp
          exact hK _ _ (hJ.val 2 _ (by kernel_rfl) rfl (fun _ h => h))
        case o5_3 =>
          intro LX V aX wX K hl hp hcl hf hJ hK
          have t15 := hf.in (i := 2) (d := 15) (by kernel_rfl) (hp 2 (by kernel_rfl)) (hJ.vals 2 _ rfl (hp 2 (by kernel_rfl)))
          rw [if_pos (by rfl)]
          obtain ⟨vs, hlen, hvs, hS, hn⟩ := hJ.next (by kernel_rfl) 0 (by kernel_rfl) hl (.inl rfl) rfl
          match vs, hlen, hvs, hS, hn with
          | [], _, hvs, hS, hn =>
            refine opwp_append_ptsF _ _ rfl (ob + 1) (.slice none 0 0) [] rfl (OwnP.nil _ _) _ _ _ P (eval_tmp t15) (HPT.out wX hS.2.2) HPL.out (hS.obl) ?_
            intro v' w' ho hg hf
            exact hK _ _ (hn _ _ ⟨hS.later hg.toB, ho⟩)
        case o5_4 =>
          intro LX V aX wX K hl hp hcl hf hJ hK
          have t16 := hf.in (i := 3) (d := 16) (by kernel_rfl) (hp 3 (by kernel_rfl)) rfl
          rw [if_pos (by rfl)]
          obtain ⟨vs, hlen, hvs, hS, hn⟩ := hJ.next (by kernel_rfl) 1 (by kernel_rfl) hl (.inr (hp 3 (by kernel_rfl))) rfl
          match vs, hlen, hvs, hS, hn with
          | [a0], _, hvs, hS, hn =>
            have e0 : V 3 = a0 := hvs 0 (by decide)
            obtain ⟨pa, pc, hpa, _⟩ := hS.2.pts
            have hpa2 := hpa
            generalize P.length = pl at hpa
            rw [e0, hpa] at t16
            rw [hpa] at hn hS
            go_simp
            exact hK _ _ (hn _ _ ⟨hS.1.later ((Below.refl _ _).alloc (Nat.le_refl _) _), hS.2.later ((Below.refl _ _).alloc (Nat.le_refl _) _), _, rfl, alloc_new _ _⟩)
        case o5_5 =>
          intro LX V aX wX K hl hp hcl hf hJ hK
          have t14 := hf.in (i := 1) (d := 14) (by kernel_rfl) (hp 1 (by kernel_rfl)) (hJ.vals 1 _ rfl (hp 1 (by kernel_rfl)))
          have t17 := hf.in (i := 4) (d := 17) (by kernel_rfl) (hp 4 (by kernel_rfl)) rfl
          rw [if_pos (by rfl)]
          obtain ⟨vs, hlen, hvs, hS, hn⟩ := hJ.next (by kernel_rfl) 2 (by kernel_rfl) hl (.inr (hp 4 (by kernel_rfl))) rfl
          match vs, hlen, hvs, hS, hn with
          | [a0, a1], _, hvs, hS, hn =>
            have e0 : V 3 = a0 := hvs 0 (by decide)
            have e1 : V 4 = a1 := hvs 1 (by decide)
            obtain ⟨h1, h2, q, hq, hh⟩ := hS
            obtain ⟨pa, pc, hpa, _⟩ := h2.pts
            rw [e1, hq] at t17
            refine opwp_append_rings _ _ rfl (ob + 1) _ L (eval_tmp t14) h1.2.1 q (eval_tmp t17) pa pc P (hpa ▸ h2) (hpa ▸ hh) HLL.out h1.obl ?_
            intro v' w' ho hg
            exact hK _ _ (hn _ _ ⟨(hg.block ob (heap_lt' h1.1) (fun e => by have := (h1.2.1.lt ob e.symm).1; omega)).trans h1.1, ho, h1.2.2.grown hg (Nat.le_of_lt (heap_lt' h1.1)) (fun k hk => by have := (h1.2.1.lt k hk).1; omega)⟩)
        case o5_6 =>
          intro LX V aX wX K hl hp hcl hf hJ hK
          have t3 : aX.tmps[3]? = some (.pointer (some ⟨ob, 0, none⟩)) := hf.old (by kernel_rfl) rfl
          rw [if_pos (by rfl)]
          go_simp
          exact hK _ _ (hJ.val 6 _ (by kernel_rfl) rfl (fun _ h => h))
        case o5_7 =>
          intro LX V aX wX K hl hp hcl hf hJ hK
          have t19 := hf.in (i := 6) (d := 19) (by kernel_rfl) (hp 6 (by kernel_rfl)) (hJ.vals 6 _ rfl (hp 6 (by kernel_rfl)))
          have t18 := hf.in (i := 5) (d := 18) (by kernel_rfl) (hp 5 (by kernel_rfl)) rfl
          rw [if_pos (by rfl)]
          obtain ⟨vs, hlen, hvs, hS, hn⟩ := hJ.next (by kernel_rfl) 3 (by kernel_rfl) hl (.inr (hp 5 (by kernel_rfl))) rfl
          match vs, hlen, hvs, hS, hn with
          | [a0, a1, a2], _, hvs, hS, hn =>
            have e0 : V 3 = a0 := hvs 0 (by decide)
            have e1 : V 4 = a1 := hvs 1 (by decide)
            have e2 : V 5 = a2 := hvs 2 (by decide)
            obtain ⟨h1, h2, h3⟩ := hS
            obtain ⟨na, nc, hna, _⟩ := h2.rings
            have f1 := frozen_of_row _ _ 0 _ _ h1
            have c1 : wX.cell? ⟨ob, 0, none⟩ = some (.slice ra m rc) := cell_of_row _ _ _ _ _ _ h1
            generalize hM : (L ++ [P]).length = M at hna
            rw [e2, hna] at t18
            go_simp
            refine hK undef _ (hn undef _ ?_)
            rw [hna] at h2 ⊢
            exact ClO.put h1 h2 h3
      intro V wZ hJ
      obtain ⟨vs, hlen, hvs, hS⟩ := hJ.all (by kernel_rfl)
      match vs, hlen, hvs, hS with
      | [a0, a1, a2, a3], _, hvs, hS =>
        have e0 : V 3 = a0 := hvs 0 (by decide)
        have e1 : V 4 = a1 := hvs 1 (by decide)
        have e2 : V 5 = a2 := hvs 2 (by decide)
        have e3 : V 7 = a3 := hvs 3 (by decide)
        have HS := Lib.hid hS
        simp only [puts, Act.put, List.setIfInBounds_toArray, List.set_cons_zero, List.set_cons_succ]
        clear hJ hvs e0 e1 e2 e3 hS
        go_wp2_with fail
        go_roundw
        case rel => exact ⟨k + 1, by omega, by go_num, a2, Lib.hid (by rw [HT.out]; exact HS.out)⟩
        case measure => simp [intOf]; omega
    · have hkn : k = n := by omega
      subst hkn
      obtain ⟨ra, rc, hrv, _⟩ := hcl.out.2.1.rings
      have hcl2 := hcl.out
      rw [List.take_of_length_le (by rw [HL.out]; exact Nat.le_refl _)] at hrv hcl2
      obtain ⟨m, hm⟩ : ∃ m, m = R.length := ⟨_, rfl⟩
      rw [← hm] at hrv
      subst hrv
      have c1 : wr.cell? ⟨ob, 0, none⟩ = some (.slice ra m rc) := cell_of_row _ _ _ _ _ _ hcl2.1
      have hw2 := (hcl2.2.2.block b2 (by have := HSZ.out; omega)).trans HX1.out
      have c2 : wr.cell? ⟨b2, 0, none⟩ = some (.slice none 0 0) := cell_of_row _ _ _ _ _ _ hw2
      have f2 : wr.frozen? ⟨b2, 0, none⟩ = false := frozen_of_row _ _ 0 _ _ hw2
      have HC2 := Lib.hid hcl2
      have HW2 := Lib.hid hw2
      clear hcl hcl2 hw2 hm
      go_wp2_with fail
      have hput := heap_setCell_same _ _ 0 _ _ (.slice ra m rc) HW2.out
      have hsz := HSZ.out
      refine bodyPost_ret (results_cell_row rfl _ _ _ _ _ _ _ rfl hput Tryz.underlying30 rfl (by kernel_rfl)) rfl ⟨_, rfl, ?_, ?_⟩
      · exact (HC2.out.2.1.base (by omega)).setCell HW2.out (by decide) (by decide)
      · exact (HB02.out.trans (HC2.out.2.2.mono (by omega))).setCell (p := ⟨b2, 0, none⟩) (by simp only; omega) _
end Go.Proofs.YtjiiikeniocmfaaGreat

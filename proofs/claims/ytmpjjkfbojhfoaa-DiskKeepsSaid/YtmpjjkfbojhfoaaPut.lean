/- frame.word, frame.Put, walked -/
import Derived.Test.YtmpjjkfbojhfoaaOwn
namespace Go.Proofs.Ytmpjjkfbojhfoaa
open Go.RowKit
theorem Try.infoByte : (Try.prog.info? 5).map (fun i => (i.zero, i.size, i.bytes)) = some (some (.int .u8 0), 1, 1) := by kernel_rfl
theorem u8s_length (l : List UInt8) : (u8s l).length = l.length := by simp [u8s]
theorem u8s_append (l m : List UInt8) : u8s (l ++ m) = u8s l ++ u8s m := by simp [u8s]
theorem u8s_get (l : List UInt8) (i : Nat) (h : i < l.length) : (u8s l)[i]? = some (.int .u8 ((l.getD i 0).toNat : Int)) := by
  simp [u8s, u8, List.getD_eq_getElem?_getD, h]
theorem u8s_one (l : List UInt8) : ∀ u ∈ u8s l, u.oneCell' = true := by
  intro u hu; simp only [u8s, List.mem_map] at hu; obtain ⟨c, _, rfl⟩ := hu; rfl
def isU8 (u : Value) : Prop := ∃ c : UInt8, u = .int .u8 (c.toNat : Int)
theorem isU8_u8s (l : List UInt8) : ∀ u, u ∈ u8s l → isU8 u := by
  intro u hu; simp only [u8s, List.mem_map] at hu; obtain ⟨c, _, rfl⟩ := hu; exact ⟨c, rfl⟩
/-- the slice v owns a row of the bytes l; whatever lies behind them in its block are bytes, too. -/
def OwnB (w : World) (base : Nat) (v : Value) (l : List UInt8) : Prop := w.ownsRow base 5 1 v l.length (u8s l) ∧ AllCells w v isU8
theorem OwnB.move {w w' : World} {base : Nat} {v : Value} {l : List UInt8} (h : OwnB w base v l) (hb : ∀ g, v.ownBlock = some g → w'.heap[g]? = w.heap[g]?) : OwnB w' base v l := ⟨ownsRow_move h.1 hb, h.2.move hb⟩
theorem OwnB.later {w w' : World} {base : Nat} {v : Value} {l : List UInt8} (h : OwnB w base v l) (hb : Below w.heap.size w w') : OwnB w' base v l := h.move fun g hg => hb.block g (h.1.lt g hg).2
theorem OwnB.kept {w w' : World} {base : Nat} {v : Value} {l : List UInt8} {row : Option Nat} (h : OwnB w base v l) (hg : w.grownBy w' row) (hne : ∀ g, v.ownBlock = some g → some g ≠ row) : OwnB w' base v l :=
  h.move fun g hv => hg.block g (h.1.lt g hv).2 (hne g hv)
theorem OwnB.base {w : World} {base base' : Nat} {v : Value} {l : List UInt8} (h : OwnB w base v l) (hb : base' ≤ base) : OwnB w base' v l := ⟨ownsRow_base h.1 hb, h.2⟩
theorem OwnB.nil (w : World) (base : Nat) : OwnB w base (.slice none 0 0) [] := ⟨World.ownsRow_nil _ _ _ _, fun g c t f hg => by simp [Value.ownBlock] at hg⟩
/-- an owned row of bytes reads as these bytes. -/
theorem OwnB.bytes {w : World} {base : Nat} {v : Value} {l : List UInt8} (h : OwnB w base v l) :
    ∃ ao cap, v = .slice ao l.length cap ∧ IsBytes w ao l.length cap l ∧ (∀ x, ao = some x → base ≤ x.block) := by
  rcases h.1.2 with ⟨rfl, h0⟩ | ⟨g, cap, cur, rfl, hb, hg, hn, hm, hs, ht⟩
  · have : l = [] := List.eq_nil_of_length_eq_zero h0
    subst this
    exact ⟨none, 0, rfl, IsBytes.nil w, fun x e => by cases e⟩
  · refine ⟨_, cap, rfl, ⟨rfl, hn, hm, fun _ => ⟨g, 0, rfl, fun i hi => ?_⟩, fun h => by cases h⟩, fun x e => by cases e; exact hb⟩
    have hc := h.1.cells (g := g) rfl i _ (u8s_get l i hi)
    have : (⟨g, 0, none⟩ : Addr).add i = ⟨g, 0 + i, none⟩ := by unfold Addr.add; split <;> simp_all
    rw [this] at hc; exact hc
theorem IsBytes.cells {w : World} {b off : Nat} {spot : Option Nat} {n cap : Nat} {l : List UInt8} (h : IsBytes w (some ⟨b, off, spot⟩) n cap l) :
    ∀ j u, (u8s l)[j]? = some u → w.cell? ((⟨b, off, spot⟩ : Addr).add j) = some u := by
  intro j u hu
  have hj : j < l.length := by
    have := (List.getElem?_eq_some_iff.1 hu).1; rwa [u8s_length] at this
  rw [u8s_get l j hj] at hu
  cases hu
  obtain ⟨b', off', e, hc⟩ := h.2.2.2.1 (by intro h0; rw [h0] at hj; simp at hj)
  cases e
  have : (⟨b, off, none⟩ : Addr).add j = ⟨b, off + j, none⟩ := by unfold Addr.add; split <;> simp_all
  rw [this]; exact hc j hj
/-- 'append(own, src...)', whatever bytes src is, as an equation on its run. -/
theorem run_append_bytes {w : World} (ty base : Nat) (v : Value) (l : List UInt8) (hown : OwnB w base v l)
    (ao : Option Addr) (m c : Nat) (l2 : List UInt8) (hsrc : IsBytes w ao m c l2) (hnm : l.length + m ≤ 140737488355328) (hbase : base ≤ w.heap.size) :
    ∃ v' w', (Builtin.append_ #[23, 23] ty #[v, .slice ao m c]).run Try.prog w = .ok v' w' ∧ OwnB w' base v' (l ++ l2) ∧ w.grownBy w' v.ownBlock ∧ (∀ g, v'.ownBlock = some g → v.ownBlock = some g ∨ g = w.heap.size) := by
  obtain ⟨i0, hi, hz0, hz1, hz2⟩ := info_parts Try.infoByte
  have hl := hsrc.1
  cases ao with
  | none =>
    obtain ⟨rfl, rfl⟩ := hsrc.2.2.2.2 rfl
    obtain rfl : l2 = [] := List.eq_nil_of_length_eq_zero hl
    exact ⟨v, w, run_append_owned_none (P := Try.prog) (w := w) base _ ty _ i0 1 Try.underlying23 hi v _ _ hown.1, by rw [List.append_nil]; exact hown, ⟨rfl, rfl, rfl, Nat.le_refl _, fun _ _ _ => rfl⟩, fun g hg => .inl hg⟩
  | some ad =>
    obtain ⟨b, off, spot⟩ := ad
    obtain ⟨v', w', hr, h2, h3, h4, _, h6⟩ := run_append_all (P := Try.prog) w base 23 ty _ i0 (.int .u8 0) 1 1 Try.underlying23 hi hz0 hz1 hz2 rfl (by decide) v _ _ hown.1 _ m c (u8s l2) (by rw [u8s_length]; omega) hsrc.cells (u8s_one _) (by unfold maxLen; omega) (by omega) hbase
      isU8 (fun u hu => ⟨0, by simpa [Value.cells] using hu⟩) (isU8_u8s l2) hown.2
    refine ⟨v', w', hr, ⟨?_, h4⟩, h3, h6⟩
    rw [u8s_append, List.length_append, hl]; exact h2
theorem wpList_append_bytes {w : World} {ops : Array Oper} {rest : List Oper} {o : Oper} {a : Act} {Q : Exit → Act → World → Prop} (hgd : o.guard = none) (s x : Operand)
    (ho : o.op = .call { callee := .builtin .append, args := #[s, x], argTypes := #[23, 23] })
    (base : Nat) (v : Value) (l : List UInt8) (hs : a.eval s = v) (hown : OwnB w base v l)
    (ao : Option Addr) (m c : Nat) (l2 : List UInt8) (hx : a.eval x = .slice ao m c) (hsrc : IsBytes w ao m c l2) (hnm : l.length + m ≤ 140737488355328) (hbase : base ≤ w.heap.size)
    (h : ∀ v' w', OwnB w' base v' (l ++ l2) → w.grownBy w' v.ownBlock → wpList Try.prog ops Q rest (a.put o.dst v') w') : wpList Try.prog ops Q (o :: rest) a w := by
  obtain ⟨v', w', hr, h2, h3, _⟩ := run_append_bytes o.type base v l hown ao m c l2 hsrc hnm hbase
  refine wpList_plain hgd fun K hK => ?_
  unfold Oper.wp execOp
  simp only [ho, resolve, invoke, builtin, Sem.run_bind, Sem.run_pure, Result.andThen_ok, List.map_toArray, List.map_cons, List.map_nil, hs, hx, hr]
  exact hK _ _ (h v' w' h2 h3)
end Go.Proofs.Ytmpjjkfbojhfoaa

/- cross.on, cross.gather -/
import Derived.Test.YtlmmejdcjhbppaaMQCont
import Derived.Maps.AppendAt
set_option linter.unusedSimpArgs false
set_option linter.unusedVariables false
namespace Go.Proofs.Ytlmmejdcjhbppaa
open Go.RowKit Go.Geo
theorem pt1 (w : World) (a : Pt) : IsPts (w.alloc (.cells #[.int .i64 a.x, .int .i64 a.y] 31)) (some ⟨w.heap.size, 0, none⟩) 1 1 [a] := by
  refine ⟨rfl, Nat.le_refl _, by unfold maxLen; omega, fun _ => ⟨_, _, rfl, fun i hi => ?_⟩, fun h => by cases h⟩
  have h := alloc_new w (.cells #[.int .i64 a.x, .int .i64 a.y] 31)
  match i, hi with
  | 0, _ => exact ⟨cell_of_row _ _ _ _ _ _ h, cell_of_row _ _ _ _ _ _ h⟩
theorem OwnP.nil (w : World) (base : Nat) : OwnP w base (.slice none 0 0) [] := World.ownsRow_nil _ _ _ _
theorem filter_take {α : Type} {f : α → Bool} {l : List α} {d : α} {k : Nat} (h : k < l.length) : (l.take (k + 1)).filter f = (l.take k).filter f ++ (if f (l.getD k d) then [l.getD k d] else []) := by
  rw [take_more (d := d) h, List.filter_append]
  congr 1
  generalize l.getD k d = x
  cases hq : f x <;> simp [List.filter, hq]
theorem gatherP_append : ∀ (l m out : List Pt), gatherP out (l ++ m) = gatherP (gatherP out l) m
  | [], m, out => rfl
  | p :: l, m, out => by rw [List.cons_append, gatherP, gatherP, gatherP_append l m]
theorem gatherP_take {L S : List Pt} {k : Nat} (h : k < S.length) : gatherP L (S.take (k + 1)) = if S.getD k p0 ∈ gatherP L (S.take k) then gatherP L (S.take k) else gatherP L (S.take k) ++ [S.getD k p0] := by
  rw [take_more (d := p0) h, gatherP_append]
  rfl
theorem IsPts.block {w w' : World} {b off n cap : Nat} {P : List Pt} (h : IsPts w (some ⟨b, off, none⟩) n cap P) (hb : w'.heap[b]? = w.heap[b]?) : IsPts w' (some ⟨b, off, none⟩) n cap P := by
  obtain ⟨h1, h2, h3, h4, h5⟩ := h
  refine ⟨h1, h2, h3, fun hn => ?_, h5⟩
  obtain ⟨b', off', e, hc⟩ := h4 hn
  cases e
  refine ⟨b, off, rfl, fun i hi => ?_⟩
  obtain ⟨e0, e1⟩ := hc i hi
  exact ⟨(World.cell?_of_block (a := ⟨b, off + i * 2, none⟩) hb).trans e0, (World.cell?_of_block (a := ⟨b, off + i * 2 + 1, none⟩) hb).trans e1⟩
theorem wpList_append_pts_at {w : World} {ops : Array Oper} {rest : List Oper} {o : Oper} {a : Act} {Q : Exit → Act → World → Prop} (hgd : o.guard = none) (s x : Operand)
    (ho : o.op = .call { callee := .builtin .append, args := #[s, x], argTypes := #[23, 23] })
    (base : Nat) (v : Value) (L : List Pt) (hs : a.eval s = v) (hown : OwnP w base v L)
    (ad : Addr) (m c : Nat) (L2 : List Pt) (hx : a.eval x = .slice (some ad) m c) (hsrc : IsPts w (some ad) m c L2) (hnm : L.length + m ≤ 1000000000) (hbase : base ≤ w.heap.size)
    (h : ∀ v' w', OwnP w' base v' (L ++ L2) → w.grownBy w' v.ownBlock → (v'.ownBlock = v.ownBlock ∨ v'.ownBlock = some w.heap.size) → wpList Try.prog ops Q rest (a.put o.dst v') w') : wpList Try.prog ops Q (o :: rest) a w := by
  obtain ⟨i0, hi, hz0, hz1, hz2⟩ := info_parts' Try.infoPt
  have hl := hsrc.1
  obtain ⟨b, off, spot⟩ := ad
  refine wpList_append_own_at (P := Try.prog) w hgd s x 23 ho base _ i0 (.agg #[.int .i64 0, .int .i64 0]) 2 16 Try.underlying23 hi hz0 hz1 hz2 rfl (by decide) v _ _ hs hown ⟨b, off, spot⟩ m c (flatP L2) hx (by rw [flatP_length, hl]) hsrc.cells (flatP_one _)
      (by unfold maxLen; omega) (by omega) hbase (fun v' w' h1 h2 _ h4 => h v' w' ?_ h2 h4)
  unfold OwnP
  rw [flatP_append, List.length_append, hl]
  exact h1
end Go.Proofs.Ytlmmejdcjhbppaa

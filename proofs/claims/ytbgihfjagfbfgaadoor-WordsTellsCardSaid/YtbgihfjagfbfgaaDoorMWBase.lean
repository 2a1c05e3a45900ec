/- layer 16: what every text stands on -/
import Derived.Test.YtbgihfjagfbfgaaDoorRows
import Derived.Test.YtbgihfjagfbfgaaDoorMW1
import Derived.Test.YtbgihfjagfbfgaaDoorMRegA
import Derived.WalkKit
import Derived.ProofKit
import Derived.Below
import Derived.Lib.Hide
import Derived.Sort.Grow
import Derived.Deep.RegionWith
import Derived.Deep.RegionHeld3
import Derived.Orders
import Derived.OrdersIn
import Derived.BigQuiet
import Derived.Shelf.Abstract
import Derived.StillTactics
import Derived.Laws.AppendOwnNone
import Derived.Lib.SliceRun
import Derived.WalkSpells
import Derived.Laws.Rows
import Derived.Laws.ResultCell
import Derived.Deep.Slices
import Derived.ChangeShapes
import Derived.SizedLaws
import Derived.Laws.StructEq
import Derived.Deep.QuietTactic
import Derived.MapKept
set_option linter.unusedSimpArgs false
set_option linter.unusedVariables false
namespace Go.Proofs.YtbgihfjagfbfgaaDoor
open Go.RowKit Go.Words
theorem alloc_new (w : World) (o : Obj) : (w.alloc o).heap[w.heap.size]? = some o := by
  show (w.heap.push o)[w.heap.size]? = _
  simp
theorem alloc_cell (w : World) (v : Value) (t : TypeId) : (w.alloc (.cells #[v] t)).cell? ⟨w.heap.size, 0, none⟩ = some v := cell_of_row _ _ _ _ _ _ (alloc_new w _)
theorem heap_lt2 {w : World} {j : Nat} {o : Obj} (h : w.heap[j]? = some o) : j < w.heap.size := (Array.getElem?_eq_some_iff.1 h).1
theorem below_drewN {w0 w : World} {B : Nat} (h : Below B w0 w) (q : Nat) : Below B w0 (w.drewN q) := ⟨h.os, h.tape, h.output, h.size, h.block⟩
theorem ownsRow_move {w w' : World} {base e s n : Nat} {v : Value} {xs : List Value} (h : w.ownsRow base e s v n xs) (hb : ∀ g, v.ownBlock = some g → w'.heap[g]? = w.heap[g]?) : w'.ownsRow base e s v n xs := by
  refine ⟨h.1, ?_⟩
  rcases h.2 with hn | ⟨g, cap, cur, rfl, hbg, hgg, rest⟩
  · exact .inl hn
  · exact .inr ⟨g, cap, cur, rfl, hbg, by rw [hb g rfl]; exact hgg, rest⟩
theorem ownsRow_base {w : World} {base base' e s n : Nat} {v : Value} {xs : List Value} (h : w.ownsRow base e s v n xs) (hb : base' ≤ base) : w.ownsRow base' e s v n xs := by
  refine ⟨h.1, ?_⟩
  rcases h.2 with hn | ⟨g, cap, cur, rfl, hbg, rest⟩
  · exact .inl hn
  · exact .inr ⟨g, cap, cur, rfl, by omega, rest⟩
theorem own_typed {w : World} {base e s n : Nat} {v : Value} {xs : List Value} (h : w.ownsRow base e s v n xs) {k t : Nat} {c : Array Value} (hk : w.heap[k]? = some (.cells c t (0, 0))) (ht : t ≠ e) : v.ownBlock ≠ some k := by
  intro hv
  rcases h.2 with ⟨rfl, _⟩ | ⟨g, cap, cur, rfl, _, hg, _⟩
  · simp [Value.ownBlock] at hv
  · simp only [Value.ownBlock, Option.some.injEq] at hv
    subst hv
    rw [hg] at hk
    injection hk with hk
    injection hk with _ h2
    exact ht h2.symm
theorem info_parts' {P : Program} {t : TypeId} {z : Value} {s b : Nat} (h : (P.info? t).map (fun i => (i.zero, i.size, i.bytes)) = some (some z, s, b)) : ∃ i, P.info? t = some i ∧ i.zero = some z ∧ i.size = s ∧ i.bytes = b := by
  cases hi : P.info? t with
  | none => rw [hi] at h; cases h
  | some i => rw [hi] at h; simp only [Option.map_some, Option.some.injEq, Prod.mk.injEq] at h; exact ⟨i, rfl, h.1, h.2.1, h.2.2⟩
theorem ret_bool {b c : Bool} (h : (b = true) ↔ (c = true)) : Ending.returned (Value.bool b) = Ending.returned (Value.bool c) := by rw [Bool.eq_iff_iff.2 h]
theorem eval_tmp {a : Act} {t : Nat} {v : Value} (h : a.tmps[t]? = some v) : a.eval (.tmp t) = v := by simp [Act.eval, h]
/-- a word's bytes. -/
def bs (l : Wd) : ByteArray := ⟨l.toArray⟩
theorem bs_data (s : ByteArray) : bs s.data.toList = s := by unfold bs; cases s; simp
theorem data_bs (l : Wd) : (bs l).data.toList = l := by unfold bs; simp
theorem bs_inj {a b : Wd} (h : bs a = bs b) : a = b := by rw [← data_bs a, ← data_bs b, h]
theorem bs_eq (a b : Wd) : ((bs a).toList == (bs b).toList) = decide (a = b) := by
  rw [Lib.toList_data, Lib.toList_data, data_bs, data_bs]
  by_cases h : a = b
  · subst h; simp
  · simp [h]
theorem bs_lit (a b : Wd) : ((bs a).toList == b) = decide (a = b) := by
  rw [Lib.toList_data, data_bs]
  by_cases h : a = b
  · subst h; simp
  · simp [h]
theorem bytes_same (nm : ByteArray) : (nm == nm) = true := by
  show ByteArray.beq nm nm = true
  unfold ByteArray.beq
  simp
theorem bytes_eq (nm x : ByteArray) (h : (nm == x) = true) : nm = x := by
  change ByteArray.beq nm x = true at h
  unfold ByteArray.beq at h
  simp at h
  cases nm; cases x; simp_all
theorem bs_beq (a b : Wd) : (bs a == bs b) = decide (a = b) := by
  by_cases h : a = b
  · subst h; rw [bytes_same]; simp
  · cases hx : (bs a == bs b) with
    | true => exact absurd (bs_inj (bytes_eq _ _ hx)) h
    | false => simp [h]
abbrev sV (l : Wd) : Value := .string (bs l)
/-- strings in slices. -/
def IsS (w : World) (ao : Option Addr) (n cap : Nat) (L : List Wd) : Prop :=
  L.length = n ∧ n ≤ cap ∧ cap ≤ maxLen ∧ (0 < n → ∃ b off, ao = some ⟨b, off, none⟩ ∧ ∀ i, i < n → w.cell? ⟨b, off + i, none⟩ = some (sV (L.getD i []))) ∧ (ao = none → n = 0 ∧ cap = 0)
theorem IsS.later {w w' : World} {B : Nat} {ao : Option Addr} {n cap : Nat} {L : List Wd} (h : IsS w ao n cap L) (hb : Below B w w') (hB : w.heap.size ≤ B) : IsS w' ao n cap L := by
  obtain ⟨h1, h2, h3, h4, h5⟩ := h
  refine ⟨h1, h2, h3, fun hn => ?_, h5⟩
  obtain ⟨b, off, rfl, hc⟩ := h4 hn
  exact ⟨b, off, rfl, fun i hi => (hb.cell (p := ⟨b, off + i, none⟩) (Nat.lt_of_lt_of_le (block_lt_of_cell (hc i hi)) hB)).trans (hc i hi)⟩
theorem IsS.at {w : World} {ao : Option Addr} {n cap : Nat} {L : List Wd} (h : IsS w ao n cap L) {i : Nat} (hi : i < n) : ∃ b off, ao = some ⟨b, off, none⟩ ∧ w.cell? ⟨b, off + i, none⟩ = some (sV (L.getD i [])) := by
  obtain ⟨b, off, e, hc⟩ := h.2.2.2.1 (by omega)
  exact ⟨b, off, e, hc i hi⟩
theorem Tryd.infoStrS : (Tryd.prog.info? 9).map (fun i => (i.zero, i.size, i.bytes)) = some (some (.string ByteArray.empty), 1, 16) := by kernel_rfl
def flatS (L : List Wd) : List Value := L.map sV
theorem flatS_length (L : List Wd) : (flatS L).length = L.length := by simp [flatS]
theorem flatS_append (L M : List Wd) : flatS (L ++ M) = flatS L ++ flatS M := by simp [flatS]
theorem flatS_get (L : List Wd) (i : Nat) (hi : i < L.length) : (flatS L)[i]? = some (sV (L.getD i [])) := by
  simp [flatS, List.getElem?_eq_getElem hi]
theorem flatS_one (L : List Wd) : ∀ u ∈ flatS L, u.oneCell' = true := by
  intro u hu
  obtain ⟨x, _, rfl⟩ := List.mem_map.1 hu
  rfl
/-- strings in a row of the call's own. -/
def OwnS (w : World) (base : Nat) (v : Value) (L : List Wd) : Prop := w.ownsRow base 9 1 v L.length (flatS L)
theorem OwnS.nil (w : World) (base : Nat) : OwnS w base (.slice none 0 0) [] := World.ownsRow_nil _ _ _ _
theorem OwnS.later {w w' : World} {base : Nat} {v : Value} {L : List Wd} (h : OwnS w base v L) (hb : Below w.heap.size w w') : OwnS w' base v L := ownsRow_move h fun g hg => hb.block g (h.lt g hg).2
theorem OwnS.base {w : World} {base base' : Nat} {v : Value} {L : List Wd} (h : OwnS w base v L) (hb : base' ≤ base) : OwnS w base' v L := ownsRow_base h hb
theorem OwnS.strs {w : World} {base : Nat} {v : Value} {L : List Wd} (h : OwnS w base v L) : ∃ ao cap, v = .slice ao L.length cap ∧ IsS w ao L.length cap L := by
  rcases h.2 with ⟨rfl, h0⟩ | ⟨g, cap, cur, rfl, hb, hg, hn, hm, hs, ht⟩
  · have : L = [] := List.eq_nil_of_length_eq_zero h0
    subst this
    exact ⟨none, 0, rfl, rfl, Nat.le_refl _, by unfold maxLen; omega, fun h => absurd h (by simp), fun _ => ⟨rfl, rfl⟩⟩
  · refine ⟨_, cap, rfl, rfl, hn, hm, fun _ => ⟨g, 0, rfl, fun i hi => ?_⟩, fun h => by cases h⟩
    have hc := h.cells (g := g) rfl i _ (flatS_get L i hi)
    have : (⟨g, 0, none⟩ : Addr).add i = ⟨g, 0 + i, none⟩ := by unfold Addr.add; split <;> simp_all
    rw [this] at hc; exact hc
theorem IsS.cells {w : World} {b off : Nat} {spot : Option Nat} {n cap : Nat} {L : List Wd} (h : IsS w (some ⟨b, off, spot⟩) n cap L) :
    ∀ j u, (flatS L)[j]? = some u → w.cell? ((⟨b, off, spot⟩ : Addr).add j) = some u := by
  intro j u hu
  have hj : j < L.length := by
    have := (List.getElem?_eq_some_iff.1 hu).1; rwa [flatS_length] at this
  have e := flatS_get L j hj
  rw [hu] at e
  cases e
  obtain ⟨b', off', e2, hc⟩ := h.2.2.2.1 (by rw [← h.1]; omega)
  cases e2
  have : (⟨b, off, none⟩ : Addr).add j = ⟨b, off + j, none⟩ := by unfold Addr.add; split <;> simp_all
  rw [this]
  exact hc _ (by rw [← h.1]; exact hj)
theorem run_append_strs {w : World} (ty base : Nat) (v : Value) (L : List Wd) (hown : OwnS w base v L)
    (ao : Option Addr) (m c : Nat) (L2 : List Wd) (hsrc : IsS w ao m c L2) (hnm : L.length + m ≤ 1000000000) (hbase : base ≤ w.heap.size) :
    ∃ v' w', (Builtin.append_ #[26, 26] ty #[v, .slice ao m c]).run Tryd.prog w = .ok v' w' ∧ OwnS w' base v' (L ++ L2) ∧ w.grownBy w' v.ownBlock := by
  obtain ⟨i0, hi, hz0, hz1, hz2⟩ := info_parts' Tryd.infoStrS
  have hl := hsrc.1
  cases ao with
  | none =>
    obtain ⟨rfl, rfl⟩ := hsrc.2.2.2.2 rfl
    obtain rfl : L2 = [] := List.eq_nil_of_length_eq_zero hl
    exact ⟨v, w, run_append_owned_none (P := Tryd.prog) (w := w) base _ ty _ i0 1 Tryd.underlying26 hi v _ _ hown, by rw [List.append_nil]; exact hown, ⟨rfl, rfl, rfl, Nat.le_refl _, fun _ _ _ => rfl⟩⟩
  | some ad =>
    obtain ⟨b, off, spot⟩ := ad
    obtain ⟨v', w', hr, h2, h3, _⟩ := run_append_own (P := Tryd.prog) w base 26 ty _ i0 (.string ByteArray.empty) 1 16 Tryd.underlying26 hi hz0 hz1 hz2 rfl (by decide) v _ _ hown ⟨b, off, spot⟩ m c (flatS L2) (by rw [flatS_length, hl]; omega) hsrc.cells (flatS_one _)
      (by unfold maxLen; omega) (by omega) hbase
    refine ⟨v', w', hr, ?_, h3⟩
    unfold OwnS
    rw [flatS_append, List.length_append, hl]; exact h2
theorem wpList_append_strs {w : World} {ops : Array Oper} {rest : List Oper} {o : Oper} {a : Act} {Q : Exit → Act → World → Prop} (hgd : o.guard = none) (s x : Operand)
    (ho : o.op = .call { callee := .builtin .append, args := #[s, x], argTypes := #[26, 26] })
    (base : Nat) (v : Value) (L : List Wd) (hs : a.eval s = v) (hown : OwnS w base v L)
    (ao : Option Addr) (m c : Nat) (L2 : List Wd) (hx : a.eval x = .slice ao m c) (hsrc : IsS w ao m c L2) (hnm : L.length + m ≤ 1000000000) (hbase : base ≤ w.heap.size)
    (h : ∀ v' w', OwnS w' base v' (L ++ L2) → w.grownBy w' v.ownBlock → wpList Tryd.prog ops Q rest (a.put o.dst v') w') : wpList Tryd.prog ops Q (o :: rest) a w := by
  obtain ⟨v', w', hr, h2, h3⟩ := run_append_strs o.type base v L hown ao m c L2 hsrc hnm hbase
  refine wpList_plain hgd fun K hK => ?_
  unfold Oper.wp execOp
  simp only [ho, resolve, invoke, builtin, Sem.run_bind, Sem.run_pure, Result.andThen_ok, List.map_toArray, List.map_cons, List.map_nil, hs, hx, hr]
  exact hK _ _ (h v' w' h2 h3)
theorem one_strs (w : World) (x : Wd) : IsS (w.alloc (Obj.cells #[sV x] 9)) (some ⟨w.heap.size, 0, none⟩) 1 1 [x] := by
  refine ⟨rfl, Nat.le_refl _, by unfold maxLen; omega, fun _ => ⟨_, _, rfl, fun i hi => ?_⟩, fun h => by cases h⟩
  obtain rfl : i = 0 := by omega
  exact alloc_cell w _ _
/-- whatever strings a laid block holds. -/
theorem lit_strs (w : World) (L : List Wd) (hn : L.length ≤ 1000000) : IsS (w.alloc (Obj.cells (flatS L).toArray 9)) (some ⟨w.heap.size, 0, none⟩) L.length L.length L := by
  refine ⟨rfl, Nat.le_refl _, by unfold maxLen; omega, fun _ => ⟨_, _, rfl, fun i hi => ?_⟩, fun h => by cases h⟩
  refine (cell_of_row _ _ _ _ _ _ (alloc_new w _)).trans ?_
  rw [Nat.zero_add]
  simpa using flatS_get L i hi
end Go.Proofs.YtbgihfjagfbfgaaDoor

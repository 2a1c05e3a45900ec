/- certificates in rows of the call's own; append -/
import Derived.Test.YtlmimocmllhbkaaCGrew
import Derived.Test.YtlmimocmllhbkaaCKnown
import Derived.Laws.AppendOwnNone
namespace Go.Proofs.Ytlmimocmllhbkaa
open Go.RowKit
theorem Try.infoCert : (Try.prog.info? 30).map (fun i => (i.zero, i.size, i.bytes)) = some (some (c0.val), 5, 40) := by kernel_rfl
def flatC (L : List Crt) : List Value := L.flatMap fun c => c.row.toList
theorem flatC_cons (c : Crt) (L : List Crt) : flatC (c :: L) = c.row.toList ++ flatC L := rfl
theorem flatC_append (L M : List Crt) : flatC (L ++ M) = flatC L ++ flatC M := by simp [flatC]
theorem row_len (c : Crt) : c.row.toList.length = 5 := rfl
theorem flatC_length (L : List Crt) : (flatC L).length = L.length * 5 := by
  induction L with
  | nil => rfl
  | cons c L ih => rw [flatC_cons, List.length_append, ih, row_len, List.length_cons]; omega
theorem flatC_get (L : List Crt) (i j : Nat) (hi : i < L.length) (hj : j < 5) : (flatC L)[i * 5 + j]? = some (.int .i64 ((L.getD i c0).get j)) := by
  induction L generalizing i with
  | nil => simp at hi
  | cons c L ih =>
    rw [flatC_cons]
    cases i with
    | zero =>
      rw [List.getElem?_append_left (by rw [row_len]; omega)]
      have := c.row_get j hj
      rw [← Array.getElem?_toList] at this
      simpa using this
    | succ i =>
      rw [List.getElem?_append_right (by rw [row_len]; omega), row_len, show (i + 1) * 5 + j - 5 = i * 5 + j by omega]
      have := ih i (by simpa using hi)
      simpa using this
theorem flatC_one (L : List Crt) : ∀ u ∈ flatC L, u.oneCell' = true := by
  intro u hu
  simp only [flatC, List.mem_flatMap] at hu
  obtain ⟨c, _, hc⟩ := hu
  simp [Crt.row] at hc
  rcases hc with rfl | rfl | rfl | rfl | rfl <;> rfl
theorem ownsRow_move {w w' : World} {base e s n : Nat} {v : Value} {xs : List Value} (h : w.ownsRow base e s v n xs) (hb : ∀ g, v.ownBlock = some g → w'.heap[g]? = w.heap[g]?) : w'.ownsRow base e s v n xs := by
  refine ⟨h.1, ?_⟩
  rcases h.2 with hn | ⟨g, cap, cur, rfl, hbg, hgg, rest⟩
  · exact .inl hn
  · exact .inr ⟨g, cap, cur, rfl, hbg, by rw [hb g rfl]; exact hgg, rest⟩
theorem ownsRow_base {w : World} {base base' e s n : Nat} {v : Value} {xs : List Value} (h : w.ownsRow base e s v n xs) (hb : base' ≤ base) : w.ownsRow base' e s v n xs := by
  refine ⟨h.1, ?_⟩
  rcases h.2 with hn | ⟨g, cap, cur, rfl, hbg, rest⟩
  · exact .inl hn
  · exact .inr ⟨g, cap, cur, rfl, by omega, rest⟩
def OwnC (w : World) (base : Nat) (v : Value) (L : List Crt) : Prop := w.ownsRow base 30 5 v L.length (flatC L)
theorem OwnC.nil (w : World) (base : Nat) : OwnC w base (.slice none 0 0) [] := World.ownsRow_nil _ _ _ _
theorem OwnC.later {w w' : World} {base : Nat} {v : Value} {L : List Crt} (h : OwnC w base v L) (hb : Below w.heap.size w w') : OwnC w' base v L := ownsRow_move h fun g hg => hb.block g (h.lt g hg).2
theorem OwnC.base {w : World} {base base' : Nat} {v : Value} {L : List Crt} (h : OwnC w base v L) (hb : base' ≤ base) : OwnC w base' v L := ownsRow_base h hb
theorem OwnC.certs {w : World} {base : Nat} {v : Value} {L : List Crt} (h : OwnC w base v L) : ∃ ao cap, v = .slice ao L.length cap ∧ IsCerts w ao L.length cap L := by
  rcases h.2 with ⟨rfl, h0⟩ | ⟨g, cap, cur, rfl, hb, hg, hn, hm, hs, ht⟩
  · have : L = [] := List.eq_nil_of_length_eq_zero h0
    subst this
    exact ⟨none, 0, rfl, rfl, Nat.le_refl _, by unfold maxLen; omega, fun h => absurd h (by simp), fun _ => ⟨rfl, rfl⟩⟩
  · refine ⟨_, cap, rfl, rfl, hn, hm, fun _ => ⟨g, 0, rfl, fun i hi j hj => ?_⟩, fun h => by cases h⟩
    have hc := h.cells (g := g) rfl (i * 5 + j) _ (flatC_get L i j hi hj)
    have : (⟨g, 0, none⟩ : Addr).add (i * 5 + j) = ⟨g, 0 + i * 5 + j, none⟩ := by unfold Addr.add; split <;> simp_all
    rw [this] at hc; exact hc
theorem IsCerts.cells {w : World} {b off : Nat} {spot : Option Nat} {n cap : Nat} {L : List Crt} (h : IsCerts w (some ⟨b, off, spot⟩) n cap L) :
    ∀ j u, (flatC L)[j]? = some u → w.cell? ((⟨b, off, spot⟩ : Addr).add j) = some u := by
  intro j u hu
  have hj : j < L.length * 5 := by
    have := (List.getElem?_eq_some_iff.1 hu).1; rwa [flatC_length] at this
  have hi : j / 5 < L.length := by omega
  have hr : j % 5 < 5 := by omega
  have e := flatC_get L (j / 5) (j % 5) hi hr
  rw [show j / 5 * 5 + j % 5 = j by omega, hu] at e
  cases e
  obtain ⟨b', off', e2, hc⟩ := h.2.2.2.1 (by rw [← h.1]; omega)
  cases e2
  have : (⟨b, off, none⟩ : Addr).add j = ⟨b, off + j / 5 * 5 + j % 5, none⟩ := by unfold Addr.add; split <;> simp_all; omega
  rw [this]
  exact hc _ (by rw [← h.1]; exact hi) _ hr
theorem info_parts {P : Program} {t : TypeId} {z : Value} {s b : Nat} (h : (P.info? t).map (fun i => (i.zero, i.size, i.bytes)) = some (some z, s, b)) : ∃ i, P.info? t = some i ∧ i.zero = some z ∧ i.size = s ∧ i.bytes = b := by
  cases hi : P.info? t with
  | none => rw [hi] at h; cases h
  | some i => rw [hi] at h; simp only [Option.map_some, Option.some.injEq, Prod.mk.injEq] at h; exact ⟨i, rfl, h.1, h.2.1, h.2.2⟩
theorem run_append_certs {w : World} (ty base : Nat) (v : Value) (L : List Crt) (hown : OwnC w base v L)
    (ao : Option Addr) (m c : Nat) (L2 : List Crt) (hsrc : IsCerts w ao m c L2) (hnm : L.length + m ≤ 1000000000) (hbase : base ≤ w.heap.size) :
    ∃ v' w', (Builtin.append_ #[24, 24] ty #[v, .slice ao m c]).run Try.prog w = .ok v' w' ∧ OwnC w' base v' (L ++ L2) ∧ w.grownBy w' v.ownBlock := by
  obtain ⟨i0, hi, hz0, hz1, hz2⟩ := info_parts Try.infoCert
  have hl := hsrc.1
  cases ao with
  | none =>
    obtain ⟨rfl, rfl⟩ := hsrc.2.2.2.2 rfl
    obtain rfl : L2 = [] := List.eq_nil_of_length_eq_zero hl
    exact ⟨v, w, run_append_owned_none (P := Try.prog) (w := w) base _ ty _ i0 5 Try.underlying24 hi v _ _ hown, by rw [List.append_nil]; exact hown, ⟨rfl, rfl, rfl, Nat.le_refl _, fun _ _ _ => rfl⟩⟩
  | some ad =>
    obtain ⟨b, off, spot⟩ := ad
    obtain ⟨v', w', hr, h2, h3, _⟩ := run_append_own (P := Try.prog) w base 24 ty _ i0 c0.val 5 40 Try.underlying24 hi hz0 hz1 hz2 rfl (by decide) v _ _ hown ⟨b, off, spot⟩ m c (flatC L2) (by rw [flatC_length, hl]) hsrc.cells (flatC_one _)
      (by unfold maxLen; omega) (by omega) hbase
    refine ⟨v', w', hr, ?_, h3⟩
    unfold OwnC
    rw [flatC_append, List.length_append, hl]; exact h2
theorem wpList_append_certs {w : World} {ops : Array Oper} {rest : List Oper} {o : Oper} {a : Act} {Q : Exit → Act → World → Prop} (hgd : o.guard = none) (s x : Operand)
    (ho : o.op = .call { callee := .builtin .append, args := #[s, x], argTypes := #[24, 24] })
    (base : Nat) (v : Value) (L : List Crt) (hs : a.eval s = v) (hown : OwnC w base v L)
    (ao : Option Addr) (m c : Nat) (L2 : List Crt) (hx : a.eval x = .slice ao m c) (hsrc : IsCerts w ao m c L2) (hnm : L.length + m ≤ 1000000000) (hbase : base ≤ w.heap.size)
    (h : ∀ v' w', OwnC w' base v' (L ++ L2) → w.grownBy w' v.ownBlock → wpList Try.prog ops Q rest (a.put o.dst v') w') : wpList Try.prog ops Q (o :: rest) a w := by
  obtain ⟨v', w', hr, h2, h3⟩ := run_append_certs o.type base v L hown ao m c L2 hsrc hnm hbase
  refine wpList_plain hgd fun K hK => ?_
  unfold Oper.wp execOp
  simp only [ho, resolve, invoke, builtin, Sem.run_bind, Sem.run_pure, Result.andThen_ok, List.map_toArray, List.map_cons, List.map_nil, hs, hx, hr]
  exact hK _ _ (h v' w' h2 h3)
end Go.Proofs.Ytlmimocmllhbkaa

/- boxes in slices: rows of the call's own, append -/
import Derived.Test.YtlmmejdcjhbppaaMQLay
import Derived.OwnWalk
import Derived.Laws.OwnMore
import Derived.Test.YtlmmejdcjhbppaaMBox1
set_option linter.unusedSimpArgs false
set_option linter.unusedVariables false
namespace Go.Proofs.Ytlmmejdcjhbppaa
open Go.RowKit Go.Geo
def rowX (e : Bx) : List Value := [.int .i64 e.1.x, .int .i64 e.1.y, .int .i64 e.2.x, .int .i64 e.2.y]
def valX (e : Bx) : Value := .agg #[.int .i64 e.1.x, .int .i64 e.1.y, .int .i64 e.2.x, .int .i64 e.2.y]
theorem Try.infoX : (Try.prog.info? 33).map (fun i => (i.zero, i.size, i.bytes)) = some (some (.agg #[.int .i64 0, .int .i64 0, .int .i64 0, .int .i64 0]), 4, 32) := by kernel_rfl
theorem Try.cellsX : Try.prog.cellsOf 33 = 4 := by kernel_rfl
def flatX (X : List Bx) : List Value := X.flatMap rowX
theorem flatX_cons (e : Bx) (X : List Bx) : flatX (e :: X) = rowX e ++ flatX X := rfl
theorem flatX_append (X Y : List Bx) : flatX (X ++ Y) = flatX X ++ flatX Y := by simp [flatX]
theorem rowX_length (e : Bx) : (rowX e).length = 4 := rfl
theorem flatX_length (X : List Bx) : (flatX X).length = X.length * 4 := by
  induction X with
  | nil => rfl
  | cons e m ih => rw [flatX_cons, List.length_append, ih, rowX_length, List.length_cons]; omega
theorem flatX_get (X : List Bx) (i : Nat) (hi : i < X.length) (k : Nat) (hk : k < 4) : (flatX X)[i * 4 + k]? = (rowX (X.getD i bx0))[k]? := by
  induction X generalizing i with
  | nil => simp at hi
  | cons e m ih =>
    cases i with
    | zero => rw [flatX_cons, List.getElem?_append_left (by rw [rowX_length]; omega), Nat.zero_mul, Nat.zero_add]; rfl
    | succ i =>
      have h := ih i (by simpa using hi)
      rw [flatX_cons, List.getElem?_append_right (by rw [rowX_length]; omega), rowX_length, show (i + 1) * 4 + k - 4 = i * 4 + k by omega, h]
      rfl
theorem flatX_one (X : List Bx) : ∀ u ∈ flatX X, u.oneCell' = true := by
  intro u hu
  obtain ⟨e, _, h⟩ := List.mem_flatMap.1 hu
  simp only [rowX, List.mem_cons, List.not_mem_nil, or_false] at h
  rcases h with rfl | rfl | rfl | rfl <;> rfl
/-- in a slice. -/
def IsX (w : World) (ao : Option Addr) (n cap : Nat) (X : List Bx) : Prop :=
  X.length = n ∧ n ≤ cap ∧ cap ≤ maxLen ∧ (ao = none → n = 0 ∧ cap = 0) ∧ (0 < n → ∃ b off, ao = some ⟨b, off, none⟩ ∧ ∀ i, i < n → ∀ k, k < 4 → w.cell? ⟨b, off + i * 4 + k, none⟩ = (rowX (X.getD i bx0))[k]?)
theorem IsX.later {w w' : World} {B : Nat} {ao : Option Addr} {n cap : Nat} {X : List Bx} (h : IsX w ao n cap X) (hb : Below B w w') (hB : w.heap.size ≤ B) : IsX w' ao n cap X := by
  obtain ⟨h1, h2, h3, h4, h5⟩ := h
  refine ⟨h1, h2, h3, h4, fun hn => ?_⟩
  obtain ⟨b, off, e, hc⟩ := h5 hn
  refine ⟨b, off, e, fun i hi k hk => ?_⟩
  have c0 := hc i hi 0 (by omega)
  have hlt := block_lt_of_cell c0
  exact (hb.cell (p := ⟨b, off + i * 4 + k, none⟩) (Nat.lt_of_lt_of_le hlt hB)).trans (hc i hi k hk)
theorem IsX.at {w : World} {ao : Option Addr} {n cap : Nat} {X : List Bx} (h : IsX w ao n cap X) {i : Nat} (hi : i < n) : ∃ b off, ao = some ⟨b, off, none⟩ ∧ w.cell? ⟨b, off + i * 4, none⟩ = some (.int .i64 (X.getD i bx0).1.x) ∧ w.cell? ⟨b, off + i * 4 + 1, none⟩ = some (.int .i64 (X.getD i bx0).1.y) ∧ w.cell? ⟨b, off + i * 4 + 2, none⟩ = some (.int .i64 (X.getD i bx0).2.x) ∧ w.cell? ⟨b, off + i * 4 + 3, none⟩ = some (.int .i64 (X.getD i bx0).2.y) := by
  obtain ⟨b, off, e, hc⟩ := h.2.2.2.2 (by omega)
  exact ⟨b, off, e, hc i hi 0 (by omega), hc i hi 1 (by omega), hc i hi 2 (by omega), hc i hi 3 (by omega)⟩
theorem IsX.cells {w : World} {b off : Nat} {spot : Option Nat} {n cap : Nat} {X : List Bx} (h : IsX w (some ⟨b, off, spot⟩) n cap X) :
    ∀ j u, (flatX X)[j]? = some u → w.cell? ((⟨b, off, spot⟩ : Addr).add j) = some u := by
  intro j u hu
  have hj : j < X.length * 4 := by
    have := (List.getElem?_eq_some_iff.1 hu).1; rwa [flatX_length] at this
  obtain ⟨b', off', e2, hc⟩ := h.2.2.2.2 (by rw [← h.1]; omega)
  cases e2
  have hq : j / 4 < X.length := by omega
  have h1 := hc (j / 4) (by rw [← h.1]; exact hq) (j % 4) (by omega)
  have h2 := flatX_get X (j / 4) hq (j % 4) (by omega)
  have e : j / 4 * 4 + j % 4 = j := by omega
  rw [e, hu] at h2
  have ha : (⟨b, off, none⟩ : Addr).add j = ⟨b, off + j, none⟩ := by unfold Addr.add; split <;> simp_all
  rw [ha]
  rw [show off + j / 4 * 4 + j % 4 = off + j by omega] at h1
  rw [h1, ← h2]
theorem IsX.part {w : World} {b off n cap : Nat} {X : List Bx} (h : IsX w (some ⟨b, off, none⟩) n cap X) {lo hi : Nat} (h1 : lo ≤ hi) (h2 : hi ≤ n) : IsX w (some ⟨b, off + lo * 4, none⟩) (hi - lo) (cap - lo) ((X.drop lo).take (hi - lo)) := by
  obtain ⟨a1, a2, a3, a4, a5⟩ := h
  refine ⟨by rw [List.length_take, List.length_drop]; omega, by omega, by omega, (fun e => by cases e), fun hn => ?_⟩
  obtain ⟨b', off', e, hc⟩ := a5 (by omega)
  cases e
  refine ⟨b, _, rfl, fun i hi' k hk => ?_⟩
  have e1 : ((X.drop lo).take (hi - lo)).getD i bx0 = X.getD (lo + i) bx0 := by
    rw [List.getD_eq_getElem?_getD, List.getD_eq_getElem?_getD, List.getElem?_take, if_pos hi', List.getElem?_drop]
  rw [e1]
  have := hc (lo + i) (by omega) k hk
  rw [show off + (lo + i) * 4 + k = off + lo * 4 + i * 4 + k by omega] at this
  exact this
/-- a row of the call's own. -/
def OwnX (w : World) (base : Nat) (v : Value) (X : List Bx) : Prop := w.ownsRow base 33 4 v X.length (flatX X)
theorem OwnX.nil (w : World) (base : Nat) : OwnX w base (.slice none 0 0) [] := World.ownsRow_nil _ _ _ _
theorem OwnX.later {w w' : World} {base : Nat} {v : Value} {X : List Bx} (h : OwnX w base v X) (hb : Below w.heap.size w w') : OwnX w' base v X := ownsRow_move h fun g hg => hb.block g (h.lt g hg).2
theorem OwnX.base {w : World} {base base' : Nat} {v : Value} {X : List Bx} (h : OwnX w base v X) (hb : base' ≤ base) : OwnX w base' v X := ownsRow_base h hb
theorem OwnX.is {w : World} {base : Nat} {v : Value} {X : List Bx} (h : OwnX w base v X) : ∃ ao cap, v = .slice ao X.length cap ∧ IsX w ao X.length cap X := by
  rcases h.2 with ⟨rfl, h0⟩ | ⟨g, cap, cur, rfl, hb, hg, hn, hm, hs, ht⟩
  · have : X = [] := List.eq_nil_of_length_eq_zero h0
    subst this
    exact ⟨none, 0, rfl, rfl, Nat.le_refl _, by unfold maxLen; omega, fun _ => ⟨rfl, rfl⟩, fun h => absurd h (by simp)⟩
  · refine ⟨_, cap, rfl, rfl, hn, hm, (fun h => by cases h), fun _ => ⟨g, 0, rfl, fun i hi k hk => ?_⟩⟩
    have hf := flatX_get X i hi k hk
    have hl : k < (rowX (X.getD i bx0)).length := by rw [rowX_length]; exact hk
    rw [List.getElem?_eq_getElem hl] at hf
    have hc := h.cells (g := g) rfl _ _ hf
    rw [add_cell] at hc
    rw [List.getElem?_eq_getElem hl, ← hc]
    congr 2
    omega
theorem run_append_X {w : World} (ty base : Nat) (v : Value) (L : List Bx) (hown : OwnX w base v L)
    (ao : Option Addr) (m c : Nat) (L2 : List Bx) (hsrc : IsX w ao m c L2) (hnm : L.length + m ≤ 1000000000) (hbase : base ≤ w.heap.size) :
    ∃ v' w', (Builtin.append_ #[22, 22] ty #[v, .slice ao m c]).run Try.prog w = .ok v' w' ∧ OwnX w' base v' (L ++ L2) ∧ w.grownBy w' v.ownBlock ∧ (∀ g, v'.ownBlock = some g → w.heap.size ≤ g ∨ v.ownBlock = some g) := by
  obtain ⟨i0, hi, hz0, hz1, hz2⟩ := info_parts' Try.infoX
  have hl := hsrc.1
  cases ao with
  | none =>
    obtain ⟨rfl, rfl⟩ := hsrc.2.2.2.1 rfl
    obtain rfl : L2 = [] := List.eq_nil_of_length_eq_zero hl
    exact ⟨v, w, run_append_owned_none (P := Try.prog) (w := w) base _ ty _ i0 4 Try.underlying22 hi v _ _ hown, by rw [List.append_nil]; exact hown, ⟨rfl, rfl, rfl, Nat.le_refl _, fun _ _ _ => rfl⟩, fun g hg => .inr hg⟩
  | some ad =>
    obtain ⟨b, off, spot⟩ := ad
    obtain ⟨v', w', hr, h2, h3, _⟩ := run_append_own (P := Try.prog) w base 22 ty _ i0 (.agg #[.int .i64 0, .int .i64 0, .int .i64 0, .int .i64 0]) 4 32 Try.underlying22 hi hz0 hz1 hz2 rfl (by decide) v _ _ hown ⟨b, off, spot⟩ m c (flatX L2) (by rw [flatX_length, hl]) hsrc.cells (flatX_one _)
      (by unfold maxLen; omega) (by omega) hbase
    refine ⟨v', w', hr, ?_, h3, append_own_fresh (P := Try.prog) w base 22 ty _ i0 (.agg #[.int .i64 0, .int .i64 0, .int .i64 0, .int .i64 0]) 4 32 Try.underlying22 hi hz0 hz1 hz2 rfl (by decide) v _ _ hown ⟨b, off, spot⟩ m c (flatX L2) (by rw [flatX_length, hl]) hsrc.cells (flatX_one _)
      (by unfold maxLen; omega) (by omega) hr⟩
    unfold OwnX
    rw [flatX_append, List.length_append, hl]; exact h2
theorem opwp_append_X {w : World} {o : Oper} {a : Act} {K : Act → World → Prop} {Q : Exit → Act → World → Prop} (s x : Operand)
    (ho : o.op = .call { callee := .builtin .append, args := #[s, x], argTypes := #[22, 22] })
    (base : Nat) (v : Value) (L : List Bx) (hs : a.eval s = v) (hown : OwnX w base v L)
    (ao : Option Addr) (m c : Nat) (L2 : List Bx) (hx : a.eval x = .slice ao m c) (hsrc : IsX w ao m c L2) (hnm : L.length + m ≤ 1000000000) (hbase : base ≤ w.heap.size)
    (h : ∀ v' w', OwnX w' base v' (L ++ L2) → w.grownBy w' v.ownBlock → (∀ g, v'.ownBlock = some g → w.heap.size ≤ g ∨ v.ownBlock = some g) → K (a.put o.dst v') w') : o.wp Try.prog a w K Q := by
  obtain ⟨v', w', hr, h2, h3, h4⟩ := run_append_X o.type base v L hown ao m c L2 hsrc hnm hbase
  unfold Oper.wp execOp
  simp only [ho, resolve, invoke, builtin, Sem.run_bind, Sem.run_pure, Result.andThen_ok, List.map_toArray, List.map_cons, List.map_nil, hs, hx, hr]
  exact h v' w' h2 h3 h4
theorem wpList_append_X {w : World} {ops : Array Oper} {rest : List Oper} {o : Oper} {a : Act} {Q : Exit → Act → World → Prop} (hgd : o.guard = none) (s x : Operand)
    (ho : o.op = .call { callee := .builtin .append, args := #[s, x], argTypes := #[22, 22] })
    (base : Nat) (v : Value) (L : List Bx) (hs : a.eval s = v) (hown : OwnX w base v L)
    (ao : Option Addr) (m c : Nat) (L2 : List Bx) (hx : a.eval x = .slice ao m c) (hsrc : IsX w ao m c L2) (hnm : L.length + m ≤ 1000000000) (hbase : base ≤ w.heap.size)
    (h : ∀ v' w', OwnX w' base v' (L ++ L2) → w.grownBy w' v.ownBlock → (∀ g, v'.ownBlock = some g → w.heap.size ≤ g ∨ v.ownBlock = some g) → wpList Try.prog ops Q rest (a.put o.dst v') w') : wpList Try.prog ops Q (o :: rest) a w := by
  obtain ⟨v', w', hr, h2, h3, h4⟩ := run_append_X o.type base v L hown ao m c L2 hsrc hnm hbase
  refine wpList_plain hgd fun K hK => ?_
  unfold Oper.wp execOp
  simp only [ho, resolve, invoke, builtin, Sem.run_bind, Sem.run_pure, Result.andThen_ok, List.map_toArray, List.map_cons, List.map_nil, hs, hx, hr]
  exact hK _ _ (h v' w' h2 h3 h4)
/-- what a new block holds. -/
theorem lit_X (w : World) (X : List Bx) (hn : X.length ≤ 1000000) : IsX (w.alloc (Obj.cells (flatX X).toArray 33)) (some ⟨w.heap.size, 0, none⟩) X.length X.length X := by
  refine ⟨rfl, Nat.le_refl _, by unfold maxLen; omega, (fun h => by cases h), fun _ => ⟨_, _, rfl, fun i hi k hk => ?_⟩⟩
  refine (cell_of_row _ _ _ _ _ _ (alloc_new w _)).trans ?_
  rw [Nat.zero_add, List.getElem?_toArray]
  exact flatX_get X i hi k hk
theorem one_X (w : World) (e : Bx) {B : Nat} (hB : B = w.heap.size) : IsX (w.alloc (Obj.cells #[.int .i64 e.1.x, .int .i64 e.1.y, .int .i64 e.2.x, .int .i64 e.2.y] 33)) (some ⟨B, 0, none⟩) 1 1 [e] := by
  subst hB; exact lit_X w [e] (by simp)
theorem lay_X (e : Bx) : ∀ (X : List Bx) (k : Nat), k < X.length → (flatX X).take (k * 4) ++ rowX e ++ (flatX X).drop (k * 4 + 4) = flatX (X.set k e)
  | [], k, h => by simp at h
  | x :: X, 0, _ => by simp [flatX_cons, rowX]
  | x :: X, k + 1, h => by
    have ih := lay_X e X k (by simpa using h)
    rw [List.set_cons_succ, flatX_cons, flatX_cons, ← ih, show (k + 1) * 4 = 4 + k * 4 by omega]
    have e1 : (rowX x ++ flatX X).take (4 + k * 4) = rowX x ++ (flatX X).take (k * 4) := by
      rw [List.take_append, rowX_length, List.take_of_length_le (by rw [rowX_length]; omega)]
      congr 2
      omega
    have e2 : (rowX x ++ flatX X).drop (4 + k * 4 + 4) = (flatX X).drop (k * 4 + 4) := by
      rw [List.drop_append, rowX_length, List.drop_eq_nil_of_le (by rw [rowX_length]; omega), List.nil_append]
      congr 1
      omega
    rw [e1, e2]
    simp
theorem sets_X (e : Bx) : ∀ (X : List Bx) (i : Nat), i < X.length → (((((flatX X).set (i * 4) (.int .i64 e.1.x)).set (i * 4 + 1) (.int .i64 e.1.y)).set (i * 4 + 2) (.int .i64 e.2.x)).set (i * 4 + 3) (.int .i64 e.2.y)) = flatX (X.set i e)
  | [], i, h => by simp at h
  | x :: X, 0, _ => by
    rw [List.set_cons_zero, flatX_cons, flatX_cons]
    simp [rowX]
  | x :: X, i + 1, h => by
    have ih := sets_X e X i (by simpa using h)
    have key : ∀ (l : List Value) (k : Nat) (v : Value), (rowX x ++ l).set ((i + 1) * 4 + k) v = rowX x ++ l.set (i * 4 + k) v := fun l k v => by
      rw [List.set_append, if_neg (by rw [rowX_length]; omega), rowX_length, show (i + 1) * 4 + k - 4 = i * 4 + k by omega]
    have key0 : ∀ (l : List Value) (v : Value), (rowX x ++ l).set ((i + 1) * 4) v = rowX x ++ l.set (i * 4) v := fun l v => key l 0 v
    rw [List.set_cons_succ, flatX_cons, flatX_cons, ← ih]
    simp only [key, key0]
theorem OwnX.put {w : World} {base g cap : Nat} {X : List Bx} (h : OwnX w base (.slice (some ⟨g, 0, none⟩) X.length cap) X) {i : Nat} (hi : i < X.length) (e : Bx) :
    OwnX (((((w.setCell ⟨g, i * 4, none⟩ (.int .i64 e.1.x)).setCell ⟨g, i * 4 + 1, none⟩ (.int .i64 e.1.y)).setCell ⟨g, i * 4 + 2, none⟩ (.int .i64 e.2.x)).setCell ⟨g, i * 4 + 3, none⟩ (.int .i64 e.2.y))) base (.slice (some ⟨g, 0, none⟩) X.length cap) (X.set i e) := by
  unfold OwnX at *
  have hf := sets_X e X i hi
  rw [List.length_set, ← hf]
  exact (World.ownsRow.stored (World.ownsRow.stored (World.ownsRow.stored (World.ownsRow.stored h (i * 4) (.int .i64 e.1.x)).1 (i * 4 + 1) (.int .i64 e.1.y)).1 (i * 4 + 2) (.int .i64 e.2.x)).1 (i * 4 + 3) (.int .i64 e.2.y)).1
end Go.Proofs.Ytlmmejdcjhbppaa

/- nodes in slices: rows of the call's own, append -/
set_option linter.unusedSimpArgs false
set_option linter.unusedVariables false
namespace Go.Proofs.Ytlmmejdcjhbppaa
open Go.RowKit Go.Geo
def rowN (e : Nd) : List Value := [.int .i64 (e.from_ : Int), .int .i64 (e.to_ : Int), .int .i64 e.all.1.x, .int .i64 e.all.1.y, .int .i64 e.all.2.x, .int .i64 e.all.2.y]
def valN (e : Nd) : Value := .agg #[.int .i64 (e.from_ : Int), .int .i64 (e.to_ : Int), .int .i64 e.all.1.x, .int .i64 e.all.1.y, .int .i64 e.all.2.x, .int .i64 e.all.2.y]
theorem Try.infoN : (Try.prog.info? 72).map (fun i => (i.zero, i.size, i.bytes)) = some (some (.agg #[.int .i64 0, .int .i64 0, .int .i64 0, .int .i64 0, .int .i64 0, .int .i64 0]), 6, 48) := by kernel_rfl
theorem Try.cellsN : Try.prog.cellsOf 72 = 6 := by kernel_rfl
def flatN (X : List Nd) : List Value := X.flatMap rowN
theorem flatN_cons (e : Nd) (X : List Nd) : flatN (e :: X) = rowN e ++ flatN X := rfl
theorem flatN_append (X Y : List Nd) : flatN (X ++ Y) = flatN X ++ flatN Y := by simp [flatN]
theorem rowN_length (e : Nd) : (rowN e).length = 6 := rfl
theorem flatN_length (X : List Nd) : (flatN X).length = X.length * 6 := by
  induction X with
  | nil => rfl
  | cons e m ih => rw [flatN_cons, List.length_append, ih, rowN_length, List.length_cons]; omega
theorem flatN_get (X : List Nd) (i : Nat) (hi : i < X.length) (k : Nat) (hk : k < 6) : (flatN X)[i * 6 + k]? = (rowN (X.getD i nd0))[k]? := by
  induction X generalizing i with
  | nil => simp at hi
  | cons e m ih =>
    cases i with
    | zero => rw [flatN_cons, List.getElem?_append_left (by rw [rowN_length]; omega), Nat.zero_mul, Nat.zero_add]; rfl
    | succ i =>
      have h := ih i (by simpa using hi)
      rw [flatN_cons, List.getElem?_append_right (by rw [rowN_length]; omega), rowN_length, show (i + 1) * 6 + k - 6 = i * 6 + k by omega, h]
      rfl
theorem flatN_one (X : List Nd) : ∀ u ∈ flatN X, u.oneCell' = true := by
  intro u hu
  obtain ⟨e, _, h⟩ := List.mem_flatMap.1 hu
  simp only [rowN, List.mem_cons, List.not_mem_nil, or_false] at h
  rcases h with rfl | rfl | rfl | rfl | rfl | rfl <;> rfl
/-- in a slice. -/
def IsN (w : World) (ao : Option Addr) (n cap : Nat) (X : List Nd) : Prop :=
  X.length = n ∧ n ≤ cap ∧ cap ≤ maxLen ∧ (ao = none → n = 0 ∧ cap = 0) ∧ (0 < n → ∃ b off, ao = some ⟨b, off, none⟩ ∧ ∀ i, i < n → ∀ k, k < 6 → w.cell? ⟨b, off + i * 6 + k, none⟩ = (rowN (X.getD i nd0))[k]?)
theorem IsN.later {w w' : World} {B : Nat} {ao : Option Addr} {n cap : Nat} {X : List Nd} (h : IsN w ao n cap X) (hb : Below B w w') (hB : w.heap.size ≤ B) : IsN w' ao n cap X := by
  obtain ⟨h1, h2, h3, h4, h5⟩ := h
  refine ⟨h1, h2, h3, h4, fun hn => ?_⟩
  obtain ⟨b, off, e, hc⟩ := h5 hn
  refine ⟨b, off, e, fun i hi k hk => ?_⟩
  have c0 := hc i hi 0 (by omega)
  have hlt := block_lt_of_cell c0
  exact (hb.cell (p := ⟨b, off + i * 6 + k, none⟩) (Nat.lt_of_lt_of_le hlt hB)).trans (hc i hi k hk)
theorem IsN.at {w : World} {ao : Option Addr} {n cap : Nat} {X : List Nd} (h : IsN w ao n cap X) {i : Nat} (hi : i < n) : ∃ b off, ao = some ⟨b, off, none⟩ ∧ w.cell? ⟨b, off + i * 6, none⟩ = some (.int .i64 ((X.getD i nd0).from_ : Int)) ∧ w.cell? ⟨b, off + i * 6 + 1, none⟩ = some (.int .i64 ((X.getD i nd0).to_ : Int)) ∧ w.cell? ⟨b, off + i * 6 + 2, none⟩ = some (.int .i64 (X.getD i nd0).all.1.x) ∧ w.cell? ⟨b, off + i * 6 + 3, none⟩ = some (.int .i64 (X.getD i nd0).all.1.y) ∧ w.cell? ⟨b, off + i * 6 + 4, none⟩ = some (.int .i64 (X.getD i nd0).all.2.x) ∧ w.cell? ⟨b, off + i * 6 + 5, none⟩ = some (.int .i64 (X.getD i nd0).all.2.y) := by
  obtain ⟨b, off, e, hc⟩ := h.2.2.2.2 (by omega)
  exact ⟨b, off, e, hc i hi 0 (by omega), hc i hi 1 (by omega), hc i hi 2 (by omega), hc i hi 3 (by omega), hc i hi 4 (by omega), hc i hi 5 (by omega)⟩
theorem IsN.cells {w : World} {b off : Nat} {spot : Option Nat} {n cap : Nat} {X : List Nd} (h : IsN w (some ⟨b, off, spot⟩) n cap X) :
    ∀ j u, (flatN X)[j]? = some u → w.cell? ((⟨b, off, spot⟩ : Addr).add j) = some u := by
  intro j u hu
  have hj : j < X.length * 6 := by
    have := (List.getElem?_eq_some_iff.1 hu).1; rwa [flatN_length] at this
  obtain ⟨b', off', e2, hc⟩ := h.2.2.2.2 (by rw [← h.1]; omega)
  cases e2
  have hq : j / 6 < X.length := by omega
  have h1 := hc (j / 6) (by rw [← h.1]; exact hq) (j % 6) (by omega)
  have h2 := flatN_get X (j / 6) hq (j % 6) (by omega)
  have e : j / 6 * 6 + j % 6 = j := by omega
  rw [e, hu] at h2
  have ha : (⟨b, off, none⟩ : Addr).add j = ⟨b, off + j, none⟩ := by unfold Addr.add; split <;> simp_all
  rw [ha]
  rw [show off + j / 6 * 6 + j % 6 = off + j by omega] at h1
  rw [h1, ← h2]
theorem IsN.part {w : World} {b off n cap : Nat} {X : List Nd} (h : IsN w (some ⟨b, off, none⟩) n cap X) {lo hi : Nat} (h1 : lo ≤ hi) (h2 : hi ≤ n) : IsN w (some ⟨b, off + lo * 6, none⟩) (hi - lo) (cap - lo) ((X.drop lo).take (hi - lo)) := by
  obtain ⟨a1, a2, a3, a4, a5⟩ := h
  refine ⟨by rw [List.length_take, List.length_drop]; omega, by omega, by omega, (fun e => by cases e), fun hn => ?_⟩
  obtain ⟨b', off', e, hc⟩ := a5 (by omega)
  cases e
  refine ⟨b, _, rfl, fun i hi' k hk => ?_⟩
  have e1 : ((X.drop lo).take (hi - lo)).getD i nd0 = X.getD (lo + i) nd0 := by
    rw [List.getD_eq_getElem?_getD, List.getD_eq_getElem?_getD, List.getElem?_take, if_pos hi', List.getElem?_drop]
  rw [e1]
  have := hc (lo + i) (by omega) k hk
  rw [show off + (lo + i) * 6 + k = off + lo * 6 + i * 6 + k by omega] at this
  exact this
/-- a row of the call's own. -/
def OwnN (w : World) (base : Nat) (v : Value) (X : List Nd) : Prop := w.ownsRow base 72 6 v X.length (flatN X)
theorem OwnN.nil (w : World) (base : Nat) : OwnN w base (.slice none 0 0) [] := World.ownsRow_nil _ _ _ _
theorem OwnN.later {w w' : World} {base : Nat} {v : Value} {X : List Nd} (h : OwnN w base v X) (hb : Below w.heap.size w w') : OwnN w' base v X := ownsRow_move h fun g hg => hb.block g (h.lt g hg).2
theorem OwnN.base {w : World} {base base' : Nat} {v : Value} {X : List Nd} (h : OwnN w base v X) (hb : base' ≤ base) : OwnN w base' v X := ownsRow_base h hb
theorem OwnN.is {w : World} {base : Nat} {v : Value} {X : List Nd} (h : OwnN w base v X) : ∃ ao cap, v = .slice ao X.length cap ∧ IsN w ao X.length cap X := by
  rcases h.2 with ⟨rfl, h0⟩ | ⟨g, cap, cur, rfl, hb, hg, hn, hm, hs, ht⟩
  · have : X = [] := List.eq_nil_of_length_eq_zero h0
    subst this
    exact ⟨none, 0, rfl, rfl, Nat.le_refl _, by unfold maxLen; omega, fun _ => ⟨rfl, rfl⟩, fun h => absurd h (by simp)⟩
  · refine ⟨_, cap, rfl, rfl, hn, hm, (fun h => by cases h), fun _ => ⟨g, 0, rfl, fun i hi k hk => ?_⟩⟩
    have hf := flatN_get X i hi k hk
    have hl : k < (rowN (X.getD i nd0)).length := by rw [rowN_length]; exact hk
    rw [List.getElem?_eq_getElem hl] at hf
    have hc := h.cells (g := g) rfl _ _ hf
    rw [add_cell] at hc
    rw [List.getElem?_eq_getElem hl, ← hc]
    congr 2
    omega
theorem run_append_N {w : World} (ty base : Nat) (v : Value) (L : List Nd) (hown : OwnN w base v L)
    (ao : Option Addr) (m c : Nat) (L2 : List Nd) (hsrc : IsN w ao m c L2) (hnm : L.length + m ≤ 1000000000) (hbase : base ≤ w.heap.size) :
    ∃ v' w', (Builtin.append_ #[53, 53] ty #[v, .slice ao m c]).run Try.prog w = .ok v' w' ∧ OwnN w' base v' (L ++ L2) ∧ w.grownBy w' v.ownBlock ∧ (∀ g, v'.ownBlock = some g → w.heap.size ≤ g ∨ v.ownBlock = some g) := by
  obtain ⟨i0, hi, hz0, hz1, hz2⟩ := info_parts' Try.infoN
  have hl := hsrc.1
  cases ao with
  | none =>
    obtain ⟨rfl, rfl⟩ := hsrc.2.2.2.1 rfl
    obtain rfl : L2 = [] := List.eq_nil_of_length_eq_zero hl
    exact ⟨v, w, run_append_owned_none (P := Try.prog) (w := w) base _ ty _ i0 6 Try.underlying53 hi v _ _ hown, by rw [List.append_nil]; exact hown, ⟨rfl, rfl, rfl, Nat.le_refl _, fun _ _ _ => rfl⟩, fun g hg => .inr hg⟩
  | some ad =>
    obtain ⟨b, off, spot⟩ := ad
    obtain ⟨v', w', hr, h2, h3, _⟩ := run_append_own (P := Try.prog) w base 53 ty _ i0 (.agg #[.int .i64 0, .int .i64 0, .int .i64 0, .int .i64 0, .int .i64 0, .int .i64 0]) 6 48 Try.underlying53 hi hz0 hz1 hz2 rfl (by decide) v _ _ hown ⟨b, off, spot⟩ m c (flatN L2) (by rw [flatN_length, hl]) hsrc.cells (flatN_one _)
      (by unfold maxLen; omega) (by omega) hbase
    refine ⟨v', w', hr, ?_, h3, append_own_fresh (P := Try.prog) w base 53 ty _ i0 (.agg #[.int .i64 0, .int .i64 0, .int .i64 0, .int .i64 0, .int .i64 0, .int .i64 0]) 6 48 Try.underlying53 hi hz0 hz1 hz2 rfl (by decide) v _ _ hown ⟨b, off, spot⟩ m c (flatN L2) (by rw [flatN_length, hl]) hsrc.cells (flatN_one _)
      (by unfold maxLen; omega) (by omega) hr⟩
    unfold OwnN
    rw [flatN_append, List.length_append, hl]; exact h2
theorem opwp_append_N {w : World} {o : Oper} {a : Act} {K : Act → World → Prop} {Q : Exit → Act → World → Prop} (s x : Operand)
    (ho : o.op = .call { callee := .builtin .append, args := #[s, x], argTypes := #[53, 53] })
    (base : Nat) (v : Value) (L : List Nd) (hs : a.eval s = v) (hown : OwnN w base v L)
    (ao : Option Addr) (m c : Nat) (L2 : List Nd) (hx : a.eval x = .slice ao m c) (hsrc : IsN w ao m c L2) (hnm : L.length + m ≤ 1000000000) (hbase : base ≤ w.heap.size)
    (h : ∀ v' w', OwnN w' base v' (L ++ L2) → w.grownBy w' v.ownBlock → (∀ g, v'.ownBlock = some g → w.heap.size ≤ g ∨ v.ownBlock = some g) → K (a.put o.dst v') w') : o.wp Try.prog a w K Q := by
  obtain ⟨v', w', hr, h2, h3, h4⟩ := run_append_N o.type base v L hown ao m c L2 hsrc hnm hbase
  unfold Oper.wp execOp
  simp only [ho, resolve, invoke, builtin, Sem.run_bind, Sem.run_pure, Result.andThen_ok, List.map_toArray, List.map_cons, List.map_nil, hs, hx, hr]
  exact h v' w' h2 h3 h4
theorem wpList_append_N {w : World} {ops : Array Oper} {rest : List Oper} {o : Oper} {a : Act} {Q : Exit → Act → World → Prop} (hgd : o.guard = none) (s x : Operand)
    (ho : o.op = .call { callee := .builtin .append, args := #[s, x], argTypes := #[53, 53] })
    (base : Nat) (v : Value) (L : List Nd) (hs : a.eval s = v) (hown : OwnN w base v L)
    (ao : Option Addr) (m c : Nat) (L2 : List Nd) (hx : a.eval x = .slice ao m c) (hsrc : IsN w ao m c L2) (hnm : L.length + m ≤ 1000000000) (hbase : base ≤ w.heap.size)
    (h : ∀ v' w', OwnN w' base v' (L ++ L2) → w.grownBy w' v.ownBlock → (∀ g, v'.ownBlock = some g → w.heap.size ≤ g ∨ v.ownBlock = some g) → wpList Try.prog ops Q rest (a.put o.dst v') w') : wpList Try.prog ops Q (o :: rest) a w := by
  obtain ⟨v', w', hr, h2, h3, h4⟩ := run_append_N o.type base v L hown ao m c L2 hsrc hnm hbase
  refine wpList_plain hgd fun K hK => ?_
  unfold Oper.wp execOp
  simp only [ho, resolve, invoke, builtin, Sem.run_bind, Sem.run_pure, Result.andThen_ok, List.map_toArray, List.map_cons, List.map_nil, hs, hx, hr]
  exact hK _ _ (h v' w' h2 h3 h4)
/-- what a new block holds. -/
theorem lit_N (w : World) (X : List Nd) (hn : X.length ≤ 1000000) : IsN (w.alloc (Obj.cells (flatN X).toArray 72)) (some ⟨w.heap.size, 0, none⟩) X.length X.length X := by
  refine ⟨rfl, Nat.le_refl _, by unfold maxLen; omega, (fun h => by cases h), fun _ => ⟨_, _, rfl, fun i hi k hk => ?_⟩⟩
  refine (cell_of_row _ _ _ _ _ _ (alloc_new w _)).trans ?_
  rw [Nat.zero_add, List.getElem?_toArray]
  exact flatN_get X i hi k hk
theorem one_N (w : World) (e : Nd) {B : Nat} (hB : B = w.heap.size) : IsN (w.alloc (Obj.cells #[.int .i64 (e.from_ : Int), .int .i64 (e.to_ : Int), .int .i64 e.all.1.x, .int .i64 e.all.1.y, .int .i64 e.all.2.x, .int .i64 e.all.2.y] 72)) (some ⟨B, 0, none⟩) 1 1 [e] := by
  subst hB; exact lit_N w [e] (by simp)
theorem lay_N (e : Nd) : ∀ (X : List Nd) (k : Nat), k < X.length → (flatN X).take (k * 6) ++ rowN e ++ (flatN X).drop (k * 6 + 6) = flatN (X.set k e)
  | [], k, h => by simp at h
  | x :: X, 0, _ => by simp [flatN_cons, rowN]
  | x :: X, k + 1, h => by
    have ih := lay_N e X k (by simpa using h)
    rw [List.set_cons_succ, flatN_cons, flatN_cons, ← ih, show (k + 1) * 6 = 6 + k * 6 by omega]
    have e1 : (rowN x ++ flatN X).take (6 + k * 6) = rowN x ++ (flatN X).take (k * 6) := by
      rw [List.take_append, rowN_length, List.take_of_length_le (by rw [rowN_length]; omega)]
      congr 2
      omega
    have e2 : (rowN x ++ flatN X).drop (6 + k * 6 + 6) = (flatN X).drop (k * 6 + 6) := by
      rw [List.drop_append, rowN_length, List.drop_eq_nil_of_le (by rw [rowN_length]; omega), List.nil_append]
      congr 1
      omega
    rw [e1, e2]
    simp
theorem sets_N (e : Nd) : ∀ (X : List Nd) (i : Nat), i < X.length → (((((((flatN X).set (i * 6) (.int .i64 (e.from_ : Int))).set (i * 6 + 1) (.int .i64 (e.to_ : Int))).set (i * 6 + 2) (.int .i64 e.all.1.x)).set (i * 6 + 3) (.int .i64 e.all.1.y)).set (i * 6 + 4) (.int .i64 e.all.2.x)).set (i * 6 + 5) (.int .i64 e.all.2.y)) = flatN (X.set i e)
  | [], i, h => by simp at h
  | x :: X, 0, _ => by
    rw [List.set_cons_zero, flatN_cons, flatN_cons]
    simp [rowN]
  | x :: X, i + 1, h => by
    have ih := sets_N e X i (by simpa using h)
    have key : ∀ (l : List Value) (k : Nat) (v : Value), (rowN x ++ l).set ((i + 1) * 6 + k) v = rowN x ++ l.set (i * 6 + k) v := fun l k v => by
      rw [List.set_append, if_neg (by rw [rowN_length]; omega), rowN_length, show (i + 1) * 6 + k - 6 = i * 6 + k by omega]
    have key0 : ∀ (l : List Value) (v : Value), (rowN x ++ l).set ((i + 1) * 6) v = rowN x ++ l.set (i * 6) v := fun l v => key l 0 v
    rw [List.set_cons_succ, flatN_cons, flatN_cons, ← ih]
    simp only [key, key0]
theorem OwnN.put {w : World} {base g cap : Nat} {X : List Nd} (h : OwnN w base (.slice (some ⟨g, 0, none⟩) X.length cap) X) {i : Nat} (hi : i < X.length) (e : Nd) :
    OwnN (((((((w.setCell ⟨g, i * 6, none⟩ (.int .i64 (e.from_ : Int))).setCell ⟨g, i * 6 + 1, none⟩ (.int .i64 (e.to_ : Int))).setCell ⟨g, i * 6 + 2, none⟩ (.int .i64 e.all.1.x)).setCell ⟨g, i * 6 + 3, none⟩ (.int .i64 e.all.1.y)).setCell ⟨g, i * 6 + 4, none⟩ (.int .i64 e.all.2.x)).setCell ⟨g, i * 6 + 5, none⟩ (.int .i64 e.all.2.y))) base (.slice (some ⟨g, 0, none⟩) X.length cap) (X.set i e) := by
  unfold OwnN at *
  have hf := sets_N e X i hi
  rw [List.length_set, ← hf]
  exact (World.ownsRow.stored (World.ownsRow.stored (World.ownsRow.stored (World.ownsRow.stored (World.ownsRow.stored (World.ownsRow.stored h (i * 6) (.int .i64 (e.from_ : Int))).1 (i * 6 + 1) (.int .i64 (e.to_ : Int))).1 (i * 6 + 2) (.int .i64 e.all.1.x)).1 (i * 6 + 3) (.int .i64 e.all.1.y)).1 (i * 6 + 4) (.int .i64 e.all.2.x)).1 (i * 6 + 5) (.int .i64 e.all.2.y)).1
end Go.Proofs.Ytlmmejdcjhbppaa

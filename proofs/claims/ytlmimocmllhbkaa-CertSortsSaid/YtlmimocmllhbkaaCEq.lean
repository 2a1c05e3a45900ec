/- certificates compared, stored, cleared: laws on the run -/
import Derived.Test.YtlmimocmllhbkaaCClone
import Derived.Laws.StructEq
import Derived.Lib.SliceRun
namespace Go.Proofs.Ytlmimocmllhbkaa
open Go.RowKit
def eqC (c d : Crt) : Bool := (c.cu == d.cu) && (c.ju == d.ju) && (c.ca == d.ca) && (c.fr == d.fr) && (c.to == d.to)
theorem eqC_iff (c d : Crt) : eqC c d = true ↔ c = d := by
  obtain ⟨a1, a2, a3, a4, a5⟩ := c
  obtain ⟨b1, b2, b3, b4, b5⟩ := d
  simp [eqC, and_assoc]
theorem eqC_false {c d : Crt} : eqC c d = false ↔ c ≠ d := by
  rw [← Bool.not_eq_true, eqC_iff]
theorem fieldsC : Try.prog.underlying 30 = some (.struct (Try.prog.fieldsOf 30)) := by kernel_rfl
theorem heldC : Try.prog.stoodInHeld 30 = false := by kernel_rfl
/-- the five fields, as the comparison meets them: their names are no blanks, their type is int, they lie one behind the other. -/
theorem fieldsI : (Try.prog.fieldsOf 30).toList.map (fun f => (decide (f.name ≠ "_"), f.type, f.offset)) = [(true, 3, 0), (true, 3, 1), (true, 3, 2), (true, 3, 3), (true, 3, 4)] := by kernel_rfl
theorem isAggI (w : World) : (isAgg 3).run Try.prog w = .ok false w := by
  simp [isAgg, run_underlying Try.underlying3]
theorem part_int (xs : Array Value) (o : Nat) (v : Value) (h : xs[o]? = some v) (w : World) : (part 3 xs o).run Try.prog w = .ok v w := by
  simp [part, h]
theorem eqFields_cons (d : Nat) (xs ys : Array Value) (f : Field) (fs : List Field) (o : Nat) (a b : Int) (w : World) (hn : decide (f.name ≠ "_") = true) (ht : f.type = 3) (ho : f.offset = o)
    (hx : xs[o]? = some (.int .i64 a)) (hy : ys[o]? = some (.int .i64 b)) :
    (Op.eqFields (d + 1) xs ys (f :: fs)).run Try.prog w = if (a == b) = true then (Op.eqFields (d + 1) xs ys fs).run Try.prog w else .ok false w := by
  have hn' : f.name ≠ "_" := of_decide_eq_true hn
  rw [Op.eqFields, if_pos hn', ht, ho]
  simp only [Sem.run_bind, part_int xs o _ hx, part_int ys o _ hy, Result.andThen_ok, run_equalIn_int w d 3 .i64 .i64 a b Try.underlying3]
  cases (a == b) <;> simp
theorem run_eql_cert (c d : Crt) (w : World) : (binOp .eql 30 c.val d.val).run Try.prog w = .ok (.bool (eqC c d)) w := by
  have hf := fieldsI
  unfold Crt.val
  rw [run_eql_struct, run_equalIn_agg _ _ _ _ _ fieldsC heldC]
  generalize (Try.prog.fieldsOf 30).toList = fs at hf
  obtain _ | ⟨f0, _ | ⟨f1, _ | ⟨f2, _ | ⟨f3, _ | ⟨f4, _ | ⟨f5, fs⟩⟩⟩⟩⟩⟩ := fs <;> simp only [List.map_cons, List.map_nil, List.cons.injEq, Prod.mk.injEq, and_false, and_true, List.cons_ne_nil, List.nil_eq] at hf
  obtain ⟨⟨n0, t0, o0⟩, ⟨n1, t1, o1⟩, ⟨n2, t2, o2⟩, ⟨n3, t3, o3⟩, ⟨n4, t4, o4⟩⟩ := hf
  rw [eqFields_cons 9998 _ _ f0 _ 0 _ _ w n0 t0 o0 rfl rfl, eqFields_cons 9998 _ _ f1 _ 1 _ _ w n1 t1 o1 rfl rfl, eqFields_cons 9998 _ _ f2 _ 2 _ _ w n2 t2 o2 rfl rfl, eqFields_cons 9998 _ _ f3 _ 3 _ _ w n3 t3 o3 rfl rfl, eqFields_cons 9998 _ _ f4 _ 4 _ _ w n4 t4 o4 rfl rfl]
  unfold eqC Op.eqFields
  cases (c.cu == d.cu) <;> cases (c.ju == d.ju) <;> cases (c.ca == d.ca) <;> cases (c.fr == d.fr) <;> cases (c.to == d.to) <;> simp
theorem run_neq_cert (c d : Crt) (w : World) : (binOp .neq 30 c.val d.val).run Try.prog w = .ok (.bool (!eqC c d)) w := by
  have h := run_eql_cert c d w
  unfold Crt.val at h ⊢
  rw [run_eql_struct] at h
  rw [run_neq_struct]
  cases hr : (Op.equalIn 10000 30 (.agg #[Value.int .i64 c.cu, .int .i64 c.ju, .int .i64 c.ca, .int .i64 c.fr, .int .i64 c.to]) (.agg #[Value.int .i64 d.cu, .int .i64 d.ju, .int .i64 d.ca, .int .i64 d.fr, .int .i64 d.to])).run Try.prog w with
  | ok b w2 =>
    rw [hr] at h
    simp only [Result.andThen_ok, Result.ok.injEq, Value.bool.injEq] at h ⊢
    exact ⟨by rw [h.1], h.2⟩
  | halt e w2 => rw [hr] at h; simp at h
/-- l, with vs laid from place o on. -/
def lay (l : List Value) (o : Nat) (vs : List Value) : List Value := l.take o ++ vs ++ l.drop (o + vs.length)
theorem lay_length (l : List Value) (o : Nat) (vs : List Value) (h : o + vs.length ≤ l.length) : (lay l o vs).length = l.length := by
  simp [lay]; omega
theorem lay_get (l : List Value) (o : Nat) (vs : List Value) (h : o + vs.length ≤ l.length) (i : Nat) : (lay l o vs)[i]? = if i < o then l[i]? else if i < o + vs.length then vs[i - o]? else l[i]? := by
  unfold lay
  by_cases h1 : i < o
  · rw [if_pos h1, List.append_assoc, List.getElem?_append_left (by simp; omega), List.getElem?_take, if_pos h1]
  · rw [if_neg h1]
    by_cases h2 : i < o + vs.length
    · rw [if_pos h2, List.getElem?_append_left (by simp; omega), List.getElem?_append_right (by simp; omega)]
      congr 1; simp; omega
    · rw [if_neg h2, List.getElem?_append_right (by simp; omega), List.getElem?_drop]
      congr 1; simp; omega
theorem lay_cons (l : List Value) (o : Nat) (v : Value) (r : List Value) (h : o + (r.length + 1) ≤ l.length) : lay (l.set o v) (o + 1) r = lay l o (v :: r) := by
  apply List.ext_getElem?
  intro i
  rw [lay_get (l.set o v) (o + 1) r (by rw [List.length_set]; omega), lay_get l o (v :: r) (by simpa using h), List.getElem?_set]
  by_cases h1 : i < o
  · rw [if_pos (by omega), if_pos h1, if_neg (by omega)]
  · rw [if_neg h1]
    by_cases h2 : i = o
    · subst h2
      rw [if_pos (by omega), if_pos rfl, if_pos (by omega), if_pos (by simp)]
      simp
    · rw [if_neg (by omega)]
      by_cases h3 : i < o + 1 + r.length
      · rw [if_pos h3, if_pos (by simp; omega), show i - o = (i - (o + 1)) + 1 by omega, List.getElem?_cons_succ]
      · rw [if_neg h3, if_neg (by omega), if_neg (by simp only [List.length_cons]; omega)]
theorem heap_setCells (g t : Nat) : ∀ (vs : List Value) (o : Nat) (w : World) (l : List Value), w.heap[g]? = some (.cells l.toArray t (0, 0)) → o + vs.length ≤ l.length → (w.setCells g o vs).heap[g]? = some (.cells (lay l o vs).toArray t (0, 0))
  | [], _, _, l, h, _ => by
    rw [World.setCells, h]
    simp [lay]
  | v :: r, o, w', l, h, hl => by
    rw [World.setCells]
    have h1 := heap_setCell_same w' g o _ _ v h
    rw [List.setIfInBounds_toArray] at h1
    simp only [List.length_cons] at hl
    rw [heap_setCells g t r (o + 1) _ (l.set o v) h1 (by simp; omega), lay_cons _ _ _ _ hl]
theorem below_setCells {B : Nat} {a : World} (g : Nat) (hg : B ≤ g) : ∀ (vs : List Value) (o : Nat) (u : World), Below B a u → Below B a (u.setCells g o vs)
  | [], _, _, h => h
  | v :: r, o, _, h => below_setCells g hg r (o + 1) _ (h.setCell (p := ⟨g, o, none⟩) hg v)
theorem lay_append (p l : List Value) (o : Nat) (vs : List Value) : lay (p ++ l) (p.length + o) vs = p ++ lay l o vs := by
  unfold lay
  have h1 : (p ++ l).take (p.length + o) = p ++ l.take o := by
    rw [List.take_append, List.take_of_length_le (by omega)]
    congr 2
    omega
  have h2 : (p ++ l).drop (p.length + o + vs.length) = l.drop (o + vs.length) := by
    rw [List.drop_append, List.drop_eq_nil_of_le (by omega)]
    simp only [List.nil_append]
    congr 1
    omega
  rw [h1, h2]
  simp
theorem flatC_set (c : Crt) : ∀ (S : List Crt) (k : Nat), k < S.length → flatC (S.set k c) = lay (flatC S) (k * 5) c.row.toList
  | [], k, h => by simp at h
  | d :: S, 0, _ => by
    rw [List.set_cons_zero, flatC_cons, flatC_cons]
    simp [lay, Crt.row]
  | d :: S, k + 1, h => by
    rw [List.set_cons_succ, flatC_cons, flatC_cons, flatC_set c S k (by simpa using h)]
    rw [show (k + 1) * 5 = d.row.toList.length + k * 5 by rw [row_len]; omega, lay_append]
theorem lay_take (l : List Value) (o n : Nat) (vs : List Value) (h : o + vs.length ≤ n) (hn : n ≤ l.length) : (lay l o vs).take n = lay (l.take n) o vs := by
  apply List.ext_getElem?
  intro i
  rw [List.getElem?_take, lay_get l o vs (by omega), lay_get (l.take n) o vs (by rw [List.length_take]; omega)]
  by_cases hi : i < n
  · rw [if_pos hi]; simp [hi]
  · rw [if_neg hi, if_neg (by omega), if_neg (by omega), List.getElem?_take, if_neg hi]
theorem lay_take_le (l : List Value) (o n : Nat) (vs : List Value) (h : o + vs.length ≤ l.length) (hn : n ≤ o) : (lay l o vs).take n = l.take n := by
  apply List.ext_getElem?
  intro i
  rw [List.getElem?_take, List.getElem?_take, lay_get _ _ _ h]
  by_cases hi : i < n
  · rw [if_pos hi, if_pos (by omega), if_pos hi]
  · rw [if_neg hi, if_neg hi]
theorem OwnC.put {w : World} {base g n cap : Nat} {S : List Crt} (h : OwnC w base (.slice (some ⟨g, 0, none⟩) n cap) S) (k : Nat) (c : Crt) (hk : k < S.length) : OwnC (w.setCells g (k * 5) c.row.toList) base (.slice (some ⟨g, 0, none⟩) n cap) (S.set k c) := by
  refine ⟨by rw [flatC_length], ?_⟩
  rcases h.2 with ⟨h1, _⟩ | ⟨g', cap', cur, he, hb, hg, hn, hm, hs, ht⟩
  · cases h1
  · cases he
    have hlen : S.length * 5 ≤ cur.toList.length := by rw [Array.length_toList (xs := cur), hs]; exact Nat.mul_le_mul_right 5 hn
    have hk5 : k * 5 + c.row.toList.length ≤ S.length * 5 := by rw [row_len]; omega
    refine .inr ⟨g, cap, (lay cur.toList (k * 5) c.row.toList).toArray, by simp, hb, heap_setCells _ _ _ _ _ _ hg (by omega), by simpa using hn, hm, ?_, ?_⟩
    · rw [List.size_toArray, lay_length _ _ _ (by omega), Array.length_toList (xs := cur), hs]
    · rw [List.length_set, lay_take _ _ _ _ hk5 hlen, ht, flatC_set c S k hk]
theorem OwnC.short {w : World} {base g n cap : Nat} {S : List Crt} (h : OwnC w base (.slice (some ⟨g, 0, none⟩) n cap) S) (k : Nat) (hk : k ≤ S.length) : OwnC w base (.slice (some ⟨g, 0, none⟩) k cap) (S.take k) := by
  refine ⟨by rw [flatC_length], ?_⟩
  rcases h.2 with ⟨h1, _⟩ | ⟨g', cap', cur, he, hb, hg, hn, hm, hs, ht⟩
  · cases h1
  · cases he
    refine .inr ⟨g, cap, cur, by rw [List.length_take, Nat.min_eq_left hk], hb, hg, by rw [List.length_take]; omega, hm, hs, ?_⟩
    rw [List.length_take, Nat.min_eq_left hk]
    have h2 : cur.toList.take (k * 5) = (flatC S).take (k * 5) := by rw [← ht, List.take_take, Nat.min_eq_left (by omega)]
    rw [h2]
    have h3 : flatC S = flatC (S.take k) ++ flatC (S.drop k) := by rw [← flatC_append, List.take_append_drop]
    rw [h3, List.take_append_of_le_length (by rw [flatC_length, List.length_take, Nat.min_eq_left hk]; exact Nat.le_refl _), List.take_of_length_le (by rw [flatC_length, List.length_take, Nat.min_eq_left hk]; exact Nat.le_refl _)]
theorem OwnC.shortened {w : World} {base g n cap : Nat} {S : List Crt} (h : OwnC w base (.slice (some ⟨g, 0, none⟩) n cap) S) (k : Nat) (hk : k ≤ S.length) (vs : List Value) (hv : k * 5 + vs.length ≤ S.length * 5) :
    OwnC (w.setCells g (k * 5) vs) base (.slice (some ⟨g, 0, none⟩) k cap) (S.take k) := by
  have h' := h.short k hk
  refine ⟨h'.1, ?_⟩
  rcases h'.2 with ⟨h1, _⟩ | ⟨g', cap', cur, he, hb, hg, hn, hm, hs, ht⟩
  · cases h1
  · simp only [Value.slice.injEq, Option.some.injEq, Addr.mk.injEq] at he
    obtain ⟨⟨rfl, _, _⟩, _, rfl⟩ := he
    have hlen : S.length * 5 ≤ cur.toList.length := by
      rcases h.2 with ⟨h1, _⟩ | ⟨g2, cap2, cur2, he2, _, hg2, hn2, _, hs2, _⟩
      · cases h1
      · cases he2
        rw [hg] at hg2
        cases hg2
        rw [Array.length_toList (xs := cur), hs]; exact Nat.mul_le_mul_right 5 hn2
    refine .inr ⟨g, cap, (lay cur.toList (k * 5) vs).toArray, by rw [List.length_take, Nat.min_eq_left hk], hb, heap_setCells _ _ _ _ _ _ hg (by omega), hn, hm, ?_, ?_⟩
    · rw [List.size_toArray, lay_length _ _ _ (by omega), Array.length_toList (xs := cur), hs]
    · rw [List.toList_toArray, lay_take_le _ _ _ _ (by omega) (by rw [List.length_take]; exact Nat.mul_le_mul_right 5 (Nat.min_le_left _ _)), ht]
end Go.Proofs.Ytlmimocmllhbkaa

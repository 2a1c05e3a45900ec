/- boxtree.sums: bits.Add64, the sums of two pairs compared -/
import Derived.Test.YtjiiikeniocmfaaGreatMQPoint
import Derived.Test.YtjiiikeniocmfaaGreatMBox1
import Derived.Laws.Externs
import Derived.IntWalk
import Derived.Test.YtjiiikeniocmfaaGreatMSInts
import Derived.OwnWalk
import Derived.Laws.OwnMore
import Derived.Test.YtjiiikeniocmfaaGreatMRegS
import Derived.Test.YtjiiikeniocmfaaGreatMQPts
set_option linter.unusedSimpArgs false
set_option linter.unusedVariables false
namespace Go.Proofs.YtjiiikeniocmfaaGreat
open Go.RowKit Go.Geo
attribute [local go_sem] Oper.semAt_some
theorem add64_law (x y c : Nat) (hc : c ≤ 1) (w : World) :
    (callFunc 108 #[.int .u64 x, .int .u64 y, .int .u64 c]).run Tryz.prog w =
      .ok (.value (.tuple #[.int .u64 (((x + y + c) % 18446744073709551616 : Nat) : Int), .int .u64 (((x + y + c) / 18446744073709551616 : Nat) : Int)])) w := by
  rw [run_callFunc_extern Tryz.func108 (by kernel_rfl) (by kernel_rfl) (by kernel_rfl) (e := add64Entry) (by kernel_rfl), run_add64 x y c (by omega) (by omega) (by omega) (by omega)]
  simp only [Result.andThen]
  congr 5 <;> omega
theorem add64_zero (x y X C : Nat) (hX : X = (x + y) % 18446744073709551616) (hC : C = (x + y) / 18446744073709551616) (w : World) :
    (callFunc 108 #[.int .u64 (x : Int), .int .u64 (y : Int), .int .u64 0]).run Tryz.prog w = .ok (.value (.tuple #[.int .u64 (X : Int), .int .u64 (C : Int)])) w := by
  rw [hX, hC]; exact add64_law x y 0 (by omega) w
theorem add64_one (x y c X C : Nat) (hc : c ≤ 1) (hX : X = (x + y + c) % 18446744073709551616) (hC : C = (x + y + c) / 18446744073709551616) (w : World) :
    (callFunc 108 #[.int .u64 (x : Int), .int .u64 (y : Int), .int .u64 (c : Int)]).run Tryz.prog w = .ok (.value (.tuple #[.int .u64 (X : Int), .int .u64 (C : Int)])) w := by
  rw [hX, hC]; exact add64_law x y c hc w
theorem wrap_u (x : Int) : IntKind.u64.wrap x = x % 18446744073709551616 := by simp [IntKind.wrap, IntKind.bits, IntKind.signed]
theorem wrap_i (x : Int) : IntKind.i64.wrap x = if x % 18446744073709551616 ≥ 9223372036854775808 then x % 18446744073709551616 - 18446744073709551616 else x % 18446744073709551616 := by
  simp [IntKind.wrap, IntKind.bits, IntKind.signed]
/-- a number that a cell may hold. -/
def InI (x : Int) : Prop := -9223372036854775808 ≤ x ∧ x ≤ 9223372036854775807
theorem one_word {a : Int} (ha : InI a) : ∃ A SA : Nat, IntKind.u64.wrap a = (A : Int) ∧ IntKind.u64.wrap (a / 9223372036854775808) = (SA : Int) ∧ ((a < 0 ∧ (A : Int) = a + 18446744073709551616 ∧ SA = 18446744073709551615) ∨ (0 ≤ a ∧ (A : Int) = a ∧ SA = 0)) := by
  unfold InI at ha
  by_cases h : a < 0
  · refine ⟨(a + 18446744073709551616).toNat, 18446744073709551615, by rw [wrap_u]; omega, ?_, .inl ⟨h, by omega, rfl⟩⟩
    rw [wrap_u, show a / 9223372036854775808 = -1 by omega]
    rfl
  · refine ⟨a.toNat, 0, by rw [wrap_u]; omega, ?_, .inr ⟨by omega, by omega, rfl⟩⟩
    rw [wrap_u, show a / 9223372036854775808 = 0 by omega]
    rfl
/-- the sum of two numbers, in two words: the higher one with a sign. -/
theorem sum_words {a b : Int} (ha : InI a) (hb : InI b) : ∃ A B X C SA SB Y E : Nat, IntKind.u64.wrap a = (A : Int) ∧ IntKind.u64.wrap b = (B : Int) ∧ X = (A + B) % 18446744073709551616 ∧ C = (A + B) / 18446744073709551616 ∧ C ≤ 1 ∧
    IntKind.u64.wrap (a / 9223372036854775808) = (SA : Int) ∧ IntKind.u64.wrap (b / 9223372036854775808) = (SB : Int) ∧ Y = (SA + SB + C) % 18446744073709551616 ∧ E = (SA + SB + C) / 18446744073709551616 ∧ a + b = IntKind.i64.wrap (Y : Int) * 18446744073709551616 + (X : Int) ∧ X < 18446744073709551616 := by
  obtain ⟨A, SA, h1, h2, h3⟩ := one_word ha
  obtain ⟨B, SB, k1, k2, k3⟩ := one_word hb
  unfold InI at ha hb
  obtain ⟨X, hX⟩ : ∃ X, X = (A + B) % 18446744073709551616 := ⟨_, rfl⟩
  obtain ⟨C, hC⟩ : ∃ X, X = (A + B) / 18446744073709551616 := ⟨_, rfl⟩
  have hC1 : C = 0 ∨ C = 1 := by omega
  have hXC : (A : Int) + B = C * 18446744073709551616 + X := by omega
  have hXm : X < 18446744073709551616 := by omega
  refine ⟨A, B, X, C, SA, SB, _, _, h1, k1, hX, hC, by omega, h2, k2, rfl, rfl, ?_, hXm⟩
  clear hX hC h1 h2 k1 k2
  rw [wrap_i]
  rcases hC1 with rfl | rfl <;> rcases h3 with ⟨p1, p2, rfl⟩ | ⟨p1, p2, rfl⟩ <;> rcases k3 with ⟨q1, q2, rfl⟩ | ⟨q1, q2, rfl⟩ <;> simp <;> omega
theorem cmp_words {p q : Int} {X Z : Nat} {y u : Int} (h1 : p = y * 18446744073709551616 + (X : Int)) (h2 : q = u * 18446744073709551616 + (Z : Int)) (hX : X < 18446744073709551616) (hZ : Z < 18446744073709551616) : (if cmpZ y u = 0 then cmpZ (X : Int) (Z : Int) else cmpZ y u) = cmpZ p q := by
  unfold cmpZ
  split <;> rename_i h <;> (repeat' split at h) <;> (repeat' split) <;> omega
set_option maxRecDepth 100000 in
set_option maxHeartbeats 4000000 in
theorem sums_any (a b c d : Int) (ha : InI a) (hb : InI b) (hc : InI c) (hd : InI d) (w : World) :
    Calls Tryz.prog 78 #[.int .i64 a, .int .i64 b, .int .i64 c, .int .i64 d] w fun e w' => e = .returned (.int .i64 (cmpZ (a + b) (c + d))) ∧ Grew w w' := by
  obtain ⟨A, B, X, C, SA, SB, Y, E, hA, hB, hX, hC, hC1, hSA, hSB, hY, hE, hab, hXm⟩ := sum_words ha hb
  obtain ⟨A', B', X', C', SA', SB', Y', E', hA', hB', hX', hC', hC1', hSA', hSB', hY', hE', hab', hXm'⟩ := sum_words hc hd
  have h1 := add64_zero A B X C hX hC
  have h2 := add64_one SA SB C Y E hC1 hY hE
  have h3 := add64_zero A' B' X' C' hX' hC'
  have h4 := add64_one SA' SB' C' Y' E' hC1' hY' hE'
  obtain ⟨y, hy⟩ : ∃ y, IntKind.i64.wrap (Y : Int) = y := ⟨_, rfl⟩
  obtain ⟨u, hu⟩ : ∃ y, IntKind.i64.wrap (Y' : Int) = y := ⟨_, rfl⟩
  rw [hy] at hab
  rw [hu] at hab'
  have HR := Lib.hid (cmp_words hab hab' hXm hXm')
  clear hX hC hC1 hY hE hX' hC' hC1' hY' hE' hab hab' hXm hXm' ha hb hc hd
  have HXC := Lib.hid (cmpInt_any y u)
  have HYC := Lib.hid (cmpU_any (X : Int) (X' : Int))
  obtain ⟨p, hp⟩ : ∃ p, p = cmpZ y u := ⟨_, rfl⟩
  obtain ⟨q, hq⟩ : ∃ q, q = cmpZ (X : Int) (X' : Int) := ⟨_, rfl⟩
  rw [← hp] at HXC HR
  rw [← hq] at HYC HR
  obtain ⟨r, hr⟩ : ∃ r, r = (if p = 0 then q else p) := ⟨_, rfl⟩
  have HO : Hid (∀ (g : Nat) (w : World), w.cell? ⟨g, 0, none⟩ = some (.int .i64 p) → w.cell? ⟨g, 1, none⟩ = some (.int .i64 q) → Calls Tryz.prog 77 #[.slice (some ⟨g, 0, none⟩) 2 2] w fun e w' => e = .returned (.int .i64 r) ∧ w = w') := Lib.hid (fun g w h1 h2 => by rw [hr]; exact or_any g p q w h1 h2)
  rw [← hr] at HR
  rw [← HR.out]
  clear hp hq hr HR
  go_enter Tryz.func78, Tryz.ntmps78
  go_wp2_with fail
  refine (HXC.out _).mono ?_
  rintro e w' ⟨rfl, rfl⟩
  go_wp2_with fail
  refine (HYC.out _).mono ?_
  rintro e w' ⟨rfl, rfl⟩
  go_wp2_with fail
  refine (HO.out _ _ (cell_of_row _ _ _ _ _ _ (alloc_new _ _)) (cell_of_row _ _ _ _ _ _ (alloc_new _ _))).mono ?_
  rintro e w' ⟨rfl, rfl⟩
  go_wp2_with fail
  go_ret
  exact ⟨rfl, (Grew.refl _).alloc _⟩
end Go.Proofs.YtjiiikeniocmfaaGreat

/- boxes in slices: rows of the call's own, append -/
set_option linter.unusedSimpArgs false
set_option linter.unusedVariables false
namespace Go.Proofs.YtjiiikeniocmfaaGreat
open Go.RowKit Go.Geo
def rowX (e : Bx) : List Value := [.int .i64 e.1.x, .int .i64 e.1.y, .int .i64 e.2.x, .int .i64 e.2.y]
theorem Tryz.infoX : (Tryz.prog.info? 66).map (fun i => (i.zero, i.size, i.bytes)) = some (some (.agg #[.int .i64 0, .int .i64 0, .int .i64 0, .int .i64 0]), 4, 32) := by kernel_rfl
def flatX (X : List Bx) : List Value := X.flatMap rowX
theorem flatX_cons (e : Bx) (X : List Bx) : flatX (e :: X) = rowX e ++ flatX X := rfl
theorem flatX_append (X Y : List Bx) : flatX (X ++ Y) = flatX X ++ flatX Y := by simp [flatX]
theorem rowX_length (e : Bx) : (rowX e).length = 4 := rfl
theorem flatX_length (X : List Bx) : (flatX X).length = X.length * 4 := by
  induction X with
  | nil => rfl
  | cons e m ih => rw [flatX_cons, List.length_append, ih, rowX_length, List.length_cons]; omega
theorem flatX_get (X : List Bx) (i : Nat) (hi : i < X.length) (k : Nat) (hk : k < 4) : (flatX X)[i * 4 + k]? = (rowX (X.getD i bx0))[k]? := by
  induction X generalizing i with
  | nil => simp at hi
  | cons e m ih =>
    cases i with
    | zero => rw [flatX_cons, List.getElem?_append_left (by rw [rowX_length]; omega), Nat.zero_mul, Nat.zero_add]; rfl
    | succ i =>
      have h := ih i (by simpa using hi)
      rw [flatX_cons, List.getElem?_append_right (by rw [rowX_length]; omega), rowX_length, show (i + 1) * 4 + k - 4 = i * 4 + k by omega, h]
      rfl
theorem flatX_one (X : List Bx) : ∀ u ∈ flatX X, u.oneCell' = true := by
  intro u hu
  obtain ⟨e, _, h⟩ := List.mem_flatMap.1 hu
  simp only [rowX, List.mem_cons, List.not_mem_nil, or_false] at h
  rcases h with rfl | rfl | rfl | rfl <;> rfl
/-- in a slice. -/
def IsX (w : World) (ao : Option Addr) (n cap : Nat) (X : List Bx) : Prop :=
  X.length = n ∧ n ≤ cap ∧ cap ≤ maxLen ∧ (ao = none → n = 0 ∧ cap = 0) ∧ (0 < n → ∃ b off, ao = some ⟨b, off, none⟩ ∧ ∀ i, i < n → ∀ k, k < 4 → w.cell? ⟨b, off + i * 4 + k, none⟩ = (rowX (X.getD i bx0))[k]?)
theorem IsX.later {w w' : World} {B : Nat} {ao : Option Addr} {n cap : Nat} {X : List Bx} (h : IsX w ao n cap X) (hb : Below B w w') (hB : w.heap.size ≤ B) : IsX w' ao n cap X := by
  obtain ⟨h1, h2, h3, h4, h5⟩ := h
  refine ⟨h1, h2, h3, h4, fun hn => ?_⟩
  obtain ⟨b, off, e, hc⟩ := h5 hn
  refine ⟨b, off, e, fun i hi k hk => ?_⟩
  have c0 := hc i hi 0 (by omega)
  have hlt := block_lt_of_cell c0
  exact (hb.cell (p := ⟨b, off + i * 4 + k, none⟩) (Nat.lt_of_lt_of_le hlt hB)).trans (hc i hi k hk)
theorem IsX.at {w : World} {ao : Option Addr} {n cap : Nat} {X : List Bx} (h : IsX w ao n cap X) {i : Nat} (hi : i < n) : ∃ b off, ao = some ⟨b, off, none⟩ ∧ w.cell? ⟨b, off + i * 4, none⟩ = some (.int .i64 (X.getD i bx0).1.x) ∧ w.cell? ⟨b, off + i * 4 + 1, none⟩ = some (.int .i64 (X.getD i bx0).1.y) ∧ w.cell? ⟨b, off + i * 4 + 2, none⟩ = some (.int .i64 (X.getD i bx0).2.x) ∧ w.cell? ⟨b, off + i * 4 + 3, none⟩ = some (.int .i64 (X.getD i bx0).2.y) := by
  obtain ⟨b, off, e, hc⟩ := h.2.2.2.2 (by omega)
  exact ⟨b, off, e, hc i hi 0 (by omega), hc i hi 1 (by omega), hc i hi 2 (by omega), hc i hi 3 (by omega)⟩
theorem IsX.cells {w : World} {b off : Nat} {spot : Option Nat} {n cap : Nat} {X : List Bx} (h : IsX w (some ⟨b, off, spot⟩) n cap X) :
    ∀ j u, (flatX X)[j]? = some u → w.cell? ((⟨b, off, spot⟩ : Addr).add j) = some u := by
  intro j u hu
  have hj : j < X.length * 4 := by
    have := (List.getElem?_eq_some_iff.1 hu).1; rwa [flatX_length] at this
  obtain ⟨b', off', e2, hc⟩ := h.2.2.2.2 (by rw [← h.1]; omega)
  cases e2
  have hq : j / 4 < X.length := by omega
  have h1 := hc (j / 4) (by rw [← h.1]; exact hq) (j % 4) (by omega)
  have h2 := flatX_get X (j / 4) hq (j % 4) (by omega)
  have e : j / 4 * 4 + j % 4 = j := by omega
  rw [e, hu] at h2
  have ha : (⟨b, off, none⟩ : Addr).add j = ⟨b, off + j, none⟩ := by unfold Addr.add; split <;> simp_all
  rw [ha]
  rw [show off + j / 4 * 4 + j % 4 = off + j by omega] at h1
  rw [h1, ← h2]
theorem IsX.part {w : World} {b off n cap : Nat} {X : List Bx} (h : IsX w (some ⟨b, off, none⟩) n cap X) {lo hi : Nat} (h1 : lo ≤ hi) (h2 : hi ≤ n) : IsX w (some ⟨b, off + lo * 4, none⟩) (hi - lo) (cap - lo) ((X.drop lo).take (hi - lo)) := by
  obtain ⟨a1, a2, a3, a4, a5⟩ := h
  refine ⟨by rw [List.length_take, List.length_drop]; omega, by omega, by omega, (fun e => by cases e), fun hn => ?_⟩
  obtain ⟨b', off', e, hc⟩ := a5 (by omega)
  cases e
  refine ⟨b, _, rfl, fun i hi' k hk => ?_⟩
  have e1 : ((X.drop lo).take (hi - lo)).getD i bx0 = X.getD (lo + i) bx0 := by
    rw [List.getD_eq_getElem?_getD, List.getD_eq_getElem?_getD, List.getElem?_take, if_pos hi', List.getElem?_drop]
  rw [e1]
  have := hc (lo + i) (by omega) k hk
  rw [show off + (lo + i) * 4 + k = off + lo * 4 + i * 4 + k by omega] at this
  exact this
/-- a row of the call's own. -/
def OwnX (w : World) (base : Nat) (v : Value) (X : List Bx) : Prop := w.ownsRow base 66 4 v X.length (flatX X)
theorem OwnX.nil (w : World) (base : Nat) : OwnX w base (.slice none 0 0) [] := World.ownsRow_nil _ _ _ _
theorem OwnX.later {w w' : World} {base : Nat} {v : Value} {X : List Bx} (h : OwnX w base v X) (hb : Below w.heap.size w w') : OwnX w' base v X := ownsRow_move h fun g hg => hb.block g (h.lt g hg).2
theorem OwnX.base {w : World} {base base' : Nat} {v : Value} {X : List Bx} (h : OwnX w base v X) (hb : base' ≤ base) : OwnX w base' v X := ownsRow_base h hb
theorem OwnX.is {w : World} {base : Nat} {v : Value} {X : List Bx} (h : OwnX w base v X) : ∃ ao cap, v = .slice ao X.length cap ∧ IsX w ao X.length cap X := by
  rcases h.2 with ⟨rfl, h0⟩ | ⟨g, cap, cur, rfl, hb, hg, hn, hm, hs, ht⟩
  · have : X = [] := List.eq_nil_of_length_eq_zero h0
    subst this
    exact ⟨none, 0, rfl, rfl, Nat.le_refl _, by unfold maxLen; omega, fun _ => ⟨rfl, rfl⟩, fun h => absurd h (by simp)⟩
  · refine ⟨_, cap, rfl, rfl, hn, hm, (fun h => by cases h), fun _ => ⟨g, 0, rfl, fun i hi k hk => ?_⟩⟩
    have hf := flatX_get X i hi k hk
    have hl : k < (rowX (X.getD i bx0)).length := by rw [rowX_length]; exact hk
    rw [List.getElem?_eq_getElem hl] at hf
    have hc := h.cells (g := g) rfl _ _ hf
    rw [add_cell] at hc
    rw [List.getElem?_eq_getElem hl, ← hc]
    congr 2
    omega
theorem run_append_X {w : World} (ty base : Nat) (v : Value) (L : List Bx) (hown : OwnX w base v L)
    (ao : Option Addr) (m c : Nat) (L2 : List Bx) (hsrc : IsX w ao m c L2) (hnm : L.length + m ≤ 1000000000) (hbase : base ≤ w.heap.size) :
    ∃ v' w', (Builtin.append_ #[63, 63] ty #[v, .slice ao m c]).run Tryz.prog w = .ok v' w' ∧ OwnX w' base v' (L ++ L2) ∧ w.grownBy w' v.ownBlock ∧ (∀ g, v'.ownBlock = some g → w.heap.size ≤ g ∨ v.ownBlock = some g) := by
  obtain ⟨i0, hi, hz0, hz1, hz2⟩ := info_parts' Tryz.infoX
  have hl := hsrc.1
  cases ao with
  | none =>
    obtain ⟨rfl, rfl⟩ := hsrc.2.2.2.1 rfl
    obtain rfl : L2 = [] := List.eq_nil_of_length_eq_zero hl
    exact ⟨v, w, run_append_owned_none (P := Tryz.prog) (w := w) base _ ty _ i0 4 Tryz.underlying63 hi v _ _ hown, by rw [List.append_nil]; exact hown, ⟨rfl, rfl, rfl, Nat.le_refl _, fun _ _ _ => rfl⟩, fun g hg => .inr hg⟩
  | some ad =>
    obtain ⟨b, off, spot⟩ := ad
    obtain ⟨v', w', hr, h2, h3, _⟩ := run_append_own (P := Tryz.prog) w base 63 ty _ i0 (.agg #[.int .i64 0, .int .i64 0, .int .i64 0, .int .i64 0]) 4 32 Tryz.underlying63 hi hz0 hz1 hz2 rfl (by decide) v _ _ hown ⟨b, off, spot⟩ m c (flatX L2) (by rw [flatX_length, hl]) hsrc.cells (flatX_one _)
      (by unfold maxLen; omega) (by omega) hbase
    refine ⟨v', w', hr, ?_, h3, append_own_fresh (P := Tryz.prog) w base 63 ty _ i0 (.agg #[.int .i64 0, .int .i64 0, .int .i64 0, .int .i64 0]) 4 32 Tryz.underlying63 hi hz0 hz1 hz2 rfl (by decide) v _ _ hown ⟨b, off, spot⟩ m c (flatX L2) (by rw [flatX_length, hl]) hsrc.cells (flatX_one _)
      (by unfold maxLen; omega) (by omega) hr⟩
    unfold OwnX
    rw [flatX_append, List.length_append, hl]; exact h2
theorem wpList_append_X {w : World} {ops : Array Oper} {rest : List Oper} {o : Oper} {a : Act} {Q : Exit → Act → World → Prop} (hgd : o.guard = none) (s x : Operand)
    (ho : o.op = .call { callee := .builtin .append, args := #[s, x], argTypes := #[63, 63] })
    (base : Nat) (v : Value) (L : List Bx) (hs : a.eval s = v) (hown : OwnX w base v L)
    (ao : Option Addr) (m c : Nat) (L2 : List Bx) (hx : a.eval x = .slice ao m c) (hsrc : IsX w ao m c L2) (hnm : L.length + m ≤ 1000000000) (hbase : base ≤ w.heap.size)
    (h : ∀ v' w', OwnX w' base v' (L ++ L2) → w.grownBy w' v.ownBlock → (∀ g, v'.ownBlock = some g → w.heap.size ≤ g ∨ v.ownBlock = some g) → wpList Tryz.prog ops Q rest (a.put o.dst v') w') : wpList Tryz.prog ops Q (o :: rest) a w := by
  obtain ⟨v', w', hr, h2, h3, h4⟩ := run_append_X o.type base v L hown ao m c L2 hsrc hnm hbase
  refine wpList_plain hgd fun K hK => ?_
  unfold Oper.wp execOp
  simp only [ho, resolve, invoke, builtin, Sem.run_bind, Sem.run_pure, Result.andThen_ok, List.map_toArray, List.map_cons, List.map_nil, hs, hx, hr]
  exact hK _ _ (h v' w' h2 h3 h4)
/-- what a new block holds. -/
theorem lit_X (w : World) (X : List Bx) (hn : X.length ≤ 1000000) : IsX (w.alloc (Obj.cells (flatX X).toArray 66)) (some ⟨w.heap.size, 0, none⟩) X.length X.length X := by
  refine ⟨rfl, Nat.le_refl _, by unfold maxLen; omega, (fun h => by cases h), fun _ => ⟨_, _, rfl, fun i hi k hk => ?_⟩⟩
  refine (cell_of_row _ _ _ _ _ _ (alloc_new w _)).trans ?_
  rw [Nat.zero_add, List.getElem?_toArray]
  exact flatX_get X i hi k hk
theorem one_X (w : World) (e : Bx) {B : Nat} (hB : B = w.heap.size) : IsX (w.alloc (Obj.cells #[.int .i64 e.1.x, .int .i64 e.1.y, .int .i64 e.2.x, .int .i64 e.2.y] 66)) (some ⟨B, 0, none⟩) 1 1 [e] := by
  subst hB; exact lit_X w [e] (by simp)
theorem sets_X (e : Bx) : ∀ (X : List Bx) (i : Nat), i < X.length → (((((flatX X).set (i * 4) (.int .i64 e.1.x)).set (i * 4 + 1) (.int .i64 e.1.y)).set (i * 4 + 2) (.int .i64 e.2.x)).set (i * 4 + 3) (.int .i64 e.2.y)) = flatX (X.set i e)
  | [], i, h => by simp at h
  | x :: X, 0, _ => by
    rw [List.set_cons_zero, flatX_cons, flatX_cons]
    simp [rowX]
  | x :: X, i + 1, h => by
    have ih := sets_X e X i (by simpa using h)
    have key : ∀ (l : List Value) (k : Nat) (v : Value), (rowX x ++ l).set ((i + 1) * 4 + k) v = rowX x ++ l.set (i * 4 + k) v := fun l k v => by
      rw [List.set_append, if_neg (by rw [rowX_length]; omega), rowX_length, show (i + 1) * 4 + k - 4 = i * 4 + k by omega]
    have key0 : ∀ (l : List Value) (v : Value), (rowX x ++ l).set ((i + 1) * 4) v = rowX x ++ l.set (i * 4) v := fun l v => key l 0 v
    rw [List.set_cons_succ, flatX_cons, flatX_cons, ← ih]
    simp only [key, key0]
theorem OwnX.put {w : World} {base g cap : Nat} {X : List Bx} (h : OwnX w base (.slice (some ⟨g, 0, none⟩) X.length cap) X) {i : Nat} (hi : i < X.length) (e : Bx) :
    OwnX (((((w.setCell ⟨g, i * 4, none⟩ (.int .i64 e.1.x)).setCell ⟨g, i * 4 + 1, none⟩ (.int .i64 e.1.y)).setCell ⟨g, i * 4 + 2, none⟩ (.int .i64 e.2.x)).setCell ⟨g, i * 4 + 3, none⟩ (.int .i64 e.2.y))) base (.slice (some ⟨g, 0, none⟩) X.length cap) (X.set i e) := by
  unfold OwnX at *
  have hf := sets_X e X i hi
  rw [List.length_set, ← hf]
  exact (World.ownsRow.stored (World.ownsRow.stored (World.ownsRow.stored (World.ownsRow.stored h (i * 4) (.int .i64 e.1.x)).1 (i * 4 + 1) (.int .i64 e.1.y)).1 (i * 4 + 2) (.int .i64 e.2.x)).1 (i * 4 + 3) (.int .i64 e.2.y)).1
end Go.Proofs.YtjiiikeniocmfaaGreat

/- nodes in slices: rows of the call's own, append -/
set_option linter.unusedSimpArgs false
set_option linter.unusedVariables false
namespace Go.Proofs.YtjiiikeniocmfaaGreat
open Go.RowKit Go.Geo
def rowN (e : Nd) : List Value := [.int .i64 (e.from_ : Int), .int .i64 (e.to_ : Int), .int .i64 e.all.1.x, .int .i64 e.all.1.y, .int .i64 e.all.2.x, .int .i64 e.all.2.y]
def valN (e : Nd) : Value := .agg #[.int .i64 (e.from_ : Int), .int .i64 (e.to_ : Int), .int .i64 e.all.1.x, .int .i64 e.all.1.y, .int .i64 e.all.2.x, .int .i64 e.all.2.y]
theorem Tryz.infoN : (Tryz.prog.info? 126).map (fun i => (i.zero, i.size, i.bytes)) = some (some (.agg #[.int .i64 0, .int .i64 0, .int .i64 0, .int .i64 0, .int .i64 0, .int .i64 0]), 6, 48) := by kernel_rfl
def flatN (X : List Nd) : List Value := X.flatMap rowN
theorem flatN_cons (e : Nd) (X : List Nd) : flatN (e :: X) = rowN e ++ flatN X := rfl
theorem flatN_append (X Y : List Nd) : flatN (X ++ Y) = flatN X ++ flatN Y := by simp [flatN]
theorem rowN_length (e : Nd) : (rowN e).length = 6 := rfl
theorem flatN_length (X : List Nd) : (flatN X).length = X.length * 6 := by
  induction X with
  | nil => rfl
  | cons e m ih => rw [flatN_cons, List.length_append, ih, rowN_length, List.length_cons]; omega
theorem flatN_get (X : List Nd) (i : Nat) (hi : i < X.length) (k : Nat) (hk : k < 6) : (flatN X)[i * 6 + k]? = (rowN (X.getD i nd0))[k]? := by
  induction X generalizing i with
  | nil => simp at hi
  | cons e m ih =>
    cases i with
    | zero => rw [flatN_cons, List.getElem?_append_left (by rw [rowN_length]; omega), Nat.zero_mul, Nat.zero_add]; rfl
    | succ i =>
      have h := ih i (by simpa using hi)
      rw [flatN_cons, List.getElem?_append_right (by rw [rowN_length]; omega), rowN_length, show (i + 1) * 6 + k - 6 = i * 6 + k by omega, h]
      rfl
theorem flatN_one (X : List Nd) : ∀ u ∈ flatN X, u.oneCell' = true := by
  intro u hu
  obtain ⟨e, _, h⟩ := List.mem_flatMap.1 hu
  simp only [rowN, List.mem_cons, List.not_mem_nil, or_false] at h
  rcases h with rfl | rfl | rfl | rfl | rfl | rfl <;> rfl
/-- in a slice. -/
def IsN (w : World) (ao : Option Addr) (n cap : Nat) (X : List Nd) : Prop :=
  X.length = n ∧ n ≤ cap ∧ cap ≤ maxLen ∧ (ao = none → n = 0 ∧ cap = 0) ∧ (0 < n → ∃ b off, ao = some ⟨b, off, none⟩ ∧ ∀ i, i < n → ∀ k, k < 6 → w.cell? ⟨b, off + i * 6 + k, none⟩ = (rowN (X.getD i nd0))[k]?)
theorem IsN.later {w w' : World} {B : Nat} {ao : Option Addr} {n cap : Nat} {X : List Nd} (h : IsN w ao n cap X) (hb : Below B w w') (hB : w.heap.size ≤ B) : IsN w' ao n cap X := by
  obtain ⟨h1, h2, h3, h4, h5⟩ := h
  refine ⟨h1, h2, h3, h4, fun hn => ?_⟩
  obtain ⟨b, off, e, hc⟩ := h5 hn
  refine ⟨b, off, e, fun i hi k hk => ?_⟩
  have c0 := hc i hi 0 (by omega)
  have hlt := block_lt_of_cell c0
  exact (hb.cell (p := ⟨b, off + i * 6 + k, none⟩) (Nat.lt_of_lt_of_le hlt hB)).trans (hc i hi k hk)
theorem IsN.at {w : World} {ao : Option Addr} {n cap : Nat} {X : List Nd} (h : IsN w ao n cap X) {i : Nat} (hi : i < n) : ∃ b off, ao = some ⟨b, off, none⟩ ∧ w.cell? ⟨b, off + i * 6, none⟩ = some (.int .i64 ((X.getD i nd0).from_ : Int)) ∧ w.cell? ⟨b, off + i * 6 + 1, none⟩ = some (.int .i64 ((X.getD i nd0).to_ : Int)) ∧ w.cell? ⟨b, off + i * 6 + 2, none⟩ = some (.int .i64 (X.getD i nd0).all.1.x) ∧ w.cell? ⟨b, off + i * 6 + 3, none⟩ = some (.int .i64 (X.getD i nd0).all.1.y) ∧ w.cell? ⟨b, off + i * 6 + 4, none⟩ = some (.int .i64 (X.getD i nd0).all.2.x) ∧ w.cell? ⟨b, off + i * 6 + 5, none⟩ = some (.int .i64 (X.getD i nd0).all.2.y) := by
  obtain ⟨b, off, e, hc⟩ := h.2.2.2.2 (by omega)
  exact ⟨b, off, e, hc i hi 0 (by omega), hc i hi 1 (by omega), hc i hi 2 (by omega), hc i hi 3 (by omega), hc i hi 4 (by omega), hc i hi 5 (by omega)⟩
theorem IsN.cells {w : World} {b off : Nat} {spot : Option Nat} {n cap : Nat} {X : List Nd} (h : IsN w (some ⟨b, off, spot⟩) n cap X) :
    ∀ j u, (flatN X)[j]? = some u → w.cell? ((⟨b, off, spot⟩ : Addr).add j) = some u := by
  intro j u hu
  have hj : j < X.length * 6 := by
    have := (List.getElem?_eq_some_iff.1 hu).1; rwa [flatN_length] at this
  obtain ⟨b', off', e2, hc⟩ := h.2.2.2.2 (by rw [← h.1]; omega)
  cases e2
  have hq : j / 6 < X.length := by omega
  have h1 := hc (j / 6) (by rw [← h.1]; exact hq) (j % 6) (by omega)
  have h2 := flatN_get X (j / 6) hq (j % 6) (by omega)
  have e : j / 6 * 6 + j % 6 = j := by omega
  rw [e, hu] at h2
  have ha : (⟨b, off, none⟩ : Addr).add j = ⟨b, off + j, none⟩ := by unfold Addr.add; split <;> simp_all
  rw [ha]
  rw [show off + j / 6 * 6 + j % 6 = off + j by omega] at h1
  rw [h1, ← h2]
theorem IsN.part {w : World} {b off n cap : Nat} {X : List Nd} (h : IsN w (some ⟨b, off, none⟩) n cap X) {lo hi : Nat} (h1 : lo ≤ hi) (h2 : hi ≤ n) : IsN w (some ⟨b, off + lo * 6, none⟩) (hi - lo) (cap - lo) ((X.drop lo).take (hi - lo)) := by
  obtain ⟨a1, a2, a3, a4, a5⟩ := h
  refine ⟨by rw [List.length_take, List.length_drop]; omega, by omega, by omega, (fun e => by cases e), fun hn => ?_⟩
  obtain ⟨b', off', e, hc⟩ := a5 (by omega)
  cases e
  refine ⟨b, _, rfl, fun i hi' k hk => ?_⟩
  have e1 : ((X.drop lo).take (hi - lo)).getD i nd0 = X.getD (lo + i) nd0 := by
    rw [List.getD_eq_getElem?_getD, List.getD_eq_getElem?_getD, List.getElem?_take, if_pos hi', List.getElem?_drop]
  rw [e1]
  have := hc (lo + i) (by omega) k hk
  rw [show off + (lo + i) * 6 + k = off + lo * 6 + i * 6 + k by omega] at this
  exact this
/-- a row of the call's own. -/
def OwnN (w : World) (base : Nat) (v : Value) (X : List Nd) : Prop := w.ownsRow base 126 6 v X.length (flatN X)
theorem OwnN.nil (w : World) (base : Nat) : OwnN w base (.slice none 0 0) [] := World.ownsRow_nil _ _ _ _
theorem OwnN.later {w w' : World} {base : Nat} {v : Value} {X : List Nd} (h : OwnN w base v X) (hb : Below w.heap.size w w') : OwnN w' base v X := ownsRow_move h fun g hg => hb.block g (h.lt g hg).2
theorem OwnN.base {w : World} {base base' : Nat} {v : Value} {X : List Nd} (h : OwnN w base v X) (hb : base' ≤ base) : OwnN w base' v X := ownsRow_base h hb
theorem OwnN.is {w : World} {base : Nat} {v : Value} {X : List Nd} (h : OwnN w base v X) : ∃ ao cap, v = .slice ao X.length cap ∧ IsN w ao X.length cap X := by
  rcases h.2 with ⟨rfl, h0⟩ | ⟨g, cap, cur, rfl, hb, hg, hn, hm, hs, ht⟩
  · have : X = [] := List.eq_nil_of_length_eq_zero h0
    subst this
    exact ⟨none, 0, rfl, rfl, Nat.le_refl _, by unfold maxLen; omega, fun _ => ⟨rfl, rfl⟩, fun h => absurd h (by simp)⟩
  · refine ⟨_, cap, rfl, rfl, hn, hm, (fun h => by cases h), fun _ => ⟨g, 0, rfl, fun i hi k hk => ?_⟩⟩
    have hf := flatN_get X i hi k hk
    have hl : k < (rowN (X.getD i nd0)).length := by rw [rowN_length]; exact hk
    rw [List.getElem?_eq_getElem hl] at hf
    have hc := h.cells (g := g) rfl _ _ hf
    rw [add_cell] at hc
    rw [List.getElem?_eq_getElem hl, ← hc]
    congr 2
    omega
theorem run_append_N {w : World} (ty base : Nat) (v : Value) (L : List Nd) (hown : OwnN w base v L)
    (ao : Option Addr) (m c : Nat) (L2 : List Nd) (hsrc : IsN w ao m c L2) (hnm : L.length + m ≤ 1000000000) (hbase : base ≤ w.heap.size) :
    ∃ v' w', (Builtin.append_ #[86, 86] ty #[v, .slice ao m c]).run Tryz.prog w = .ok v' w' ∧ OwnN w' base v' (L ++ L2) ∧ w.grownBy w' v.ownBlock ∧ (∀ g, v'.ownBlock = some g → w.heap.size ≤ g ∨ v.ownBlock = some g) := by
  obtain ⟨i0, hi, hz0, hz1, hz2⟩ := info_parts' Tryz.infoN
  have hl := hsrc.1
  cases ao with
  | none =>
    obtain ⟨rfl, rfl⟩ := hsrc.2.2.2.1 rfl
    obtain rfl : L2 = [] := List.eq_nil_of_length_eq_zero hl
    exact ⟨v, w, run_append_owned_none (P := Tryz.prog) (w := w) base _ ty _ i0 6 Tryz.underlying86 hi v _ _ hown, by rw [List.append_nil]; exact hown, ⟨rfl, rfl, rfl, Nat.le_refl _, fun _ _ _ => rfl⟩, fun g hg => .inr hg⟩
  | some ad =>
    obtain ⟨b, off, spot⟩ := ad
    obtain ⟨v', w', hr, h2, h3, _⟩ := run_append_own (P := Tryz.prog) w base 86 ty _ i0 (.agg #[.int .i64 0, .int .i64 0, .int .i64 0, .int .i64 0, .int .i64 0, .int .i64 0]) 6 48 Tryz.underlying86 hi hz0 hz1 hz2 rfl (by decide) v _ _ hown ⟨b, off, spot⟩ m c (flatN L2) (by rw [flatN_length, hl]) hsrc.cells (flatN_one _)
      (by unfold maxLen; omega) (by omega) hbase
    refine ⟨v', w', hr, ?_, h3, append_own_fresh (P := Tryz.prog) w base 86 ty _ i0 (.agg #[.int .i64 0, .int .i64 0, .int .i64 0, .int .i64 0, .int .i64 0, .int .i64 0]) 6 48 Tryz.underlying86 hi hz0 hz1 hz2 rfl (by decide) v _ _ hown ⟨b, off, spot⟩ m c (flatN L2) (by rw [flatN_length, hl]) hsrc.cells (flatN_one _)
      (by unfold maxLen; omega) (by omega) hr⟩
    unfold OwnN
    rw [flatN_append, List.length_append, hl]; exact h2
theorem opwp_append_N {w : World} {o : Oper} {a : Act} {K : Act → World → Prop} {Q : Exit → Act → World → Prop} (s x : Operand)
    (ho : o.op = .call { callee := .builtin .append, args := #[s, x], argTypes := #[86, 86] })
    (base : Nat) (v : Value) (L : List Nd) (hs : a.eval s = v) (hown : OwnN w base v L)
    (ao : Option Addr) (m c : Nat) (L2 : List Nd) (hx : a.eval x = .slice ao m c) (hsrc : IsN w ao m c L2) (hnm : L.length + m ≤ 1000000000) (hbase : base ≤ w.heap.size)
    (h : ∀ v' w', OwnN w' base v' (L ++ L2) → w.grownBy w' v.ownBlock → (∀ g, v'.ownBlock = some g → w.heap.size ≤ g ∨ v.ownBlock = some g) → K (a.put o.dst v') w') : o.wp Tryz.prog a w K Q := by
  obtain ⟨v', w', hr, h2, h3, h4⟩ := run_append_N o.type base v L hown ao m c L2 hsrc hnm hbase
  unfold Oper.wp execOp
  simp only [ho, resolve, invoke, builtin, Sem.run_bind, Sem.run_pure, Result.andThen_ok, List.map_toArray, List.map_cons, List.map_nil, hs, hx, hr]
  exact h v' w' h2 h3 h4
/-- what a new block holds. -/
theorem lit_N (w : World) (X : List Nd) (hn : X.length ≤ 1000000) : IsN (w.alloc (Obj.cells (flatN X).toArray 126)) (some ⟨w.heap.size, 0, none⟩) X.length X.length X := by
  refine ⟨rfl, Nat.le_refl _, by unfold maxLen; omega, (fun h => by cases h), fun _ => ⟨_, _, rfl, fun i hi k hk => ?_⟩⟩
  refine (cell_of_row _ _ _ _ _ _ (alloc_new w _)).trans ?_
  rw [Nat.zero_add, List.getElem?_toArray]
  exact flatN_get X i hi k hk
theorem one_N (w : World) (e : Nd) {B : Nat} (hB : B = w.heap.size) : IsN (w.alloc (Obj.cells #[.int .i64 (e.from_ : Int), .int .i64 (e.to_ : Int), .int .i64 e.all.1.x, .int .i64 e.all.1.y, .int .i64 e.all.2.x, .int .i64 e.all.2.y] 126)) (some ⟨B, 0, none⟩) 1 1 [e] := by
  subst hB; exact lit_N w [e] (by simp)
theorem sets_N (e : Nd) : ∀ (X : List Nd) (i : Nat), i < X.length → (((((((flatN X).set (i * 6) (.int .i64 (e.from_ : Int))).set (i * 6 + 1) (.int .i64 (e.to_ : Int))).set (i * 6 + 2) (.int .i64 e.all.1.x)).set (i * 6 + 3) (.int .i64 e.all.1.y)).set (i * 6 + 4) (.int .i64 e.all.2.x)).set (i * 6 + 5) (.int .i64 e.all.2.y)) = flatN (X.set i e)
  | [], i, h => by simp at h
  | x :: X, 0, _ => by
    rw [List.set_cons_zero, flatN_cons, flatN_cons]
    simp [rowN]
  | x :: X, i + 1, h => by
    have ih := sets_N e X i (by simpa using h)
    have key : ∀ (l : List Value) (k : Nat) (v : Value), (rowN x ++ l).set ((i + 1) * 6 + k) v = rowN x ++ l.set (i * 6 + k) v := fun l k v => by
      rw [List.set_append, if_neg (by rw [rowN_length]; omega), rowN_length, show (i + 1) * 6 + k - 6 = i * 6 + k by omega]
    have key0 : ∀ (l : List Value) (v : Value), (rowN x ++ l).set ((i + 1) * 6) v = rowN x ++ l.set (i * 6) v := fun l v => key l 0 v
    rw [List.set_cons_succ, flatN_cons, flatN_cons, ← ih]
    simp only [key, key0]
theorem OwnN.put {w : World} {base g cap : Nat} {X : List Nd} (h : OwnN w base (.slice (some ⟨g, 0, none⟩) X.length cap) X) {i : Nat} (hi : i < X.length) (e : Nd) :
    OwnN (((((((w.setCell ⟨g, i * 6, none⟩ (.int .i64 (e.from_ : Int))).setCell ⟨g, i * 6 + 1, none⟩ (.int .i64 (e.to_ : Int))).setCell ⟨g, i * 6 + 2, none⟩ (.int .i64 e.all.1.x)).setCell ⟨g, i * 6 + 3, none⟩ (.int .i64 e.all.1.y)).setCell ⟨g, i * 6 + 4, none⟩ (.int .i64 e.all.2.x)).setCell ⟨g, i * 6 + 5, none⟩ (.int .i64 e.all.2.y))) base (.slice (some ⟨g, 0, none⟩) X.length cap) (X.set i e) := by
  unfold OwnN at *
  have hf := sets_N e X i hi
  rw [List.length_set, ← hf]
  exact (World.ownsRow.stored (World.ownsRow.stored (World.ownsRow.stored (World.ownsRow.stored (World.ownsRow.stored (World.ownsRow.stored h (i * 6) (.int .i64 (e.from_ : Int))).1 (i * 6 + 1) (.int .i64 (e.to_ : Int))).1 (i * 6 + 2) (.int .i64 e.all.1.x)).1 (i * 6 + 3) (.int .i64 e.all.1.y)).1 (i * 6 + 4) (.int .i64 e.all.2.x)).1 (i * 6 + 5) (.int .i64 e.all.2.y)).1
end Go.Proofs.YtjiiikeniocmfaaGreat

/- a region in whatever order: as StdJ, and draws are not undone -/
set_option linter.unusedSimpArgs false
set_option linter.unusedVariables false
namespace Go.Proofs.YtjiiikeniocmfaaGreat
open Go Go.RowKit
structure StdT (W : World) (val : Nat → Option Value) (als : List Alo) (L : Nat → Bool) (V : Nat → Value) (w : World) : Prop where
  std : StdJ W val als L V w
  dr : W.drawn ≤ w.drawn
theorem StdT.grew {W w : World} {val : Nat → Option Value} {als : List Alo} {L : Nat → Bool} {V : Nat → Value} (h : StdT W val als L V w) : Grew W w := ⟨h.std.below, h.dr⟩
theorem StdT.vals {W w : World} {val : Nat → Option Value} {als : List Alo} {L : Nat → Bool} {V : Nat → Value} (h : StdT W val als L V w) : ∀ i v, val i = some v → L i = true → V i = v := h.std.vals
theorem StdT.start {W w : World} {val : Nat → Option Value} {als : List Alo} {V : Nat → Value} (h : Grew W w) : StdT W val als (fun _ => false) V w := ⟨StdJ.start h.1, h.2⟩
theorem StdT.val {W w w' : World} {val : Nat → Option Value} {als : List Alo} {L : Nat → Bool} {V : Nat → Value} (h : StdT W val als L V w) (hb : Grew w w') (i : Nat) (v : Value) (hf : aloFree als i = true) (hv : (match val i with | some u => u = v | none => True)) :
    StdT W val als (upd L i true) (upd V i v) w' := ⟨h.std.val hb.1 i v hf hv, Nat.le_trans h.dr hb.2⟩
theorem StdT.alloc {W w : World} {val : Nat → Option Value} {als : List Alo} {L : Nat → Bool} {V : Nat → Value} (h : StdT W val als L V w) (hok : aloOk als = true) (A : Alo) (hA : A ∈ als) (hl : L A.i = false) (hv : val A.i = none) :
    StdT W val als (upd L A.i true) (upd V A.i (.pointer (some ⟨w.heap.size, 0, none⟩))) (w.alloc (.cells A.zero A.t)) := ⟨h.std.alloc hok A hA hl hv, h.dr⟩
theorem StdT.ptr {W w : World} {val : Nat → Option Value} {als : List Alo} {L : Nat → Bool} {V : Nat → Value} (h : StdT W val als L V w) (A : Alo) (hA : A ∈ als) (hl : L A.i = true) (hs : L A.st = false) :
    ∃ g, V A.i = .pointer (some ⟨g, 0, none⟩) ∧ w.heap[g]? = some (.cells A.zero A.t (0, 0)) := h.std.ptr A hA hl hs
theorem StdT.got {W w : World} {val : Nat → Option Value} {als : List Alo} {L : Nat → Bool} {V : Nat → Value} (h : StdT W val als L V w) (A : Alo) (hA : A ∈ als) (hl : L A.i = true) (hs : L A.st = true) :
    ∃ g, V A.i = .pointer (some ⟨g, 0, none⟩) ∧ W.heap.size ≤ g ∧ w.heap[g]? = some (.cells A.full A.t (0, 0)) := h.std.got A hA hl hs
theorem StdT.fill {W w : World} {val : Nat → Option Value} {als : List Alo} {L : Nat → Bool} {V : Nat → Value} (h : StdT W val als L V w) (hok : aloOk als = true) (A : Alo) (hA : A ∈ als) (hl : L A.i = true) (hs : L A.st = false) (hv : val A.st = none) (g : Nat) (hg : V A.i = .pointer (some ⟨g, 0, none⟩)) (v : Value) :
    StdT W val als (upd L A.st true) (upd V A.st v) (w.setRow g A.full) := ⟨h.std.fill hok A hA hl hs hv g hg v, h.dr⟩
end Go.Proofs.YtjiiikeniocmfaaGreat

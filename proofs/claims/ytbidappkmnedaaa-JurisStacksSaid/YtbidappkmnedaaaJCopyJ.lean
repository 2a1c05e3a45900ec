/- jurisdictions in a row of the call's own; apportionkit.CopyJuris -/
import Derived.Test.YtbidappkmnedaaaJCopy
import Derived.Test.YtbidappkmnedaaaJSame
namespace Go.Proofs.Ytbidappkmnedaaa
open Go.RowKit
theorem Try.infoJur : (Try.prog.info? 33).map (fun i => (i.zero, i.size, i.bytes)) = some (some j0.val, 5, 56) := by kernel_rfl
theorem flatJ_cons (c : Jur) (L : List Jur) : flatJ (c :: L) = c.row.toList ++ flatJ L := rfl
theorem flatJ_append (L M : List Jur) : flatJ (L ++ M) = flatJ L ++ flatJ M := by simp [flatJ]
theorem rowJ_len (c : Jur) : c.row.toList.length = 5 := rfl
theorem flatJ_length (L : List Jur) : (flatJ L).length = L.length * 5 := by
  induction L with
  | nil => rfl
  | cons c L ih => rw [flatJ_cons, List.length_append, ih, rowJ_len, List.length_cons]; omega
theorem flatJ_get (L : List Jur) (i j : Nat) (hi : i < L.length) (hj : j < 5) : (flatJ L)[i * 5 + j]? = some ((L.getD i j0).get j) := by
  induction L generalizing i with
  | nil => simp at hi
  | cons c L ih =>
    rw [flatJ_cons]
    cases i with
    | zero =>
      rw [List.getElem?_append_left (by rw [rowJ_len]; omega)]
      have := c.row_get j hj
      rw [← Array.getElem?_toList] at this
      simpa using this
    | succ i =>
      rw [List.getElem?_append_right (by rw [rowJ_len]; omega), rowJ_len, show (i + 1) * 5 + j - 5 = i * 5 + j by omega]
      have := ih i (by simpa using hi)
      simpa using this
theorem flatJ_one (L : List Jur) : ∀ u ∈ flatJ L, u.oneCell' = true := by
  intro u hu
  simp only [flatJ, List.mem_flatMap] at hu
  obtain ⟨c, _, hc⟩ := hu
  simp [Jur.row] at hc
  rcases hc with rfl | rfl | rfl | rfl | rfl <;> rfl
/-- its region is another one. -/
def Jur.put (c : Jur) (x : Option Addr) (y z : Nat) : Jur := ⟨c.id, c.ki, c.pa, c.fi, x, y, z⟩
theorem flatJ_put (x : Option Addr) (y z : Nat) : ∀ (S : List Jur) (k : Nat), k < S.length → (flatJ S).set (k * 5 + 4) (.slice x y z) = flatJ (S.set k ((S.getD k j0).put x y z))
  | [], _, h => absurd h (by simp)
  | c :: S, 0, _ => rfl
  | c :: S, k + 1, h => by
    have ih := flatJ_put x y z S k (by simpa using h)
    rw [List.set_cons_succ, flatJ_cons, flatJ_cons, show (k + 1) * 5 + 4 = c.row.toList.length + (k * 5 + 4) by rw [rowJ_len]; omega]
    rw [List.set_append_right _ _ (by omega), show c.row.toList.length + (k * 5 + 4) - c.row.toList.length = k * 5 + 4 by omega, ih]
    rfl
def OwnJ (w : World) (base : Nat) (v : Value) (L : List Jur) : Prop := w.ownsRow base 33 5 v L.length (flatJ L)
theorem OwnJ.later {w w' : World} {base : Nat} {v : Value} {L : List Jur} (h : OwnJ w base v L) (hb : Below w.heap.size w w') : OwnJ w' base v L := ownsRow_move h fun g hg => hb.block g (h.lt g hg).2
theorem OwnJ.juris {w : World} {base : Nat} {v : Value} {L : List Jur} (h : OwnJ w base v L) : ∃ ao cap, v = .slice ao L.length cap ∧ IsJurs w ao L.length cap L := by
  rcases h.2 with ⟨rfl, h0⟩ | ⟨g, cap, cur, rfl, hb, hg, hn, hm, hs, ht⟩
  · have : L = [] := List.eq_nil_of_length_eq_zero h0
    subst this
    exact ⟨none, 0, rfl, rfl, Nat.le_refl _, by unfold maxLen; omega, fun h => absurd h (by simp), fun _ => ⟨rfl, rfl⟩⟩
  · refine ⟨_, cap, rfl, rfl, hn, hm, fun _ => ⟨g, 0, rfl, fun i hi j hj => ?_⟩, fun h => by cases h⟩
    have hc := h.cells (g := g) rfl (i * 5 + j) _ (flatJ_get L i j hi hj)
    rw [add_cell] at hc
    rw [show 0 + i * 5 + j = 0 + (i * 5 + j) by omega]
    exact hc
theorem IsJurs.cells {w : World} {b off : Nat} {spot : Option Nat} {n cap : Nat} {L : List Jur} (h : IsJurs w (some ⟨b, off, spot⟩) n cap L) :
    ∀ j u, (flatJ L)[j]? = some u → w.cell? ((⟨b, off, spot⟩ : Addr).add j) = some u := by
  intro j u hu
  have hj : j < L.length * 5 := by
    have := (List.getElem?_eq_some_iff.1 hu).1; rwa [flatJ_length] at this
  have hi : j / 5 < L.length := by omega
  have hr : j % 5 < 5 := by omega
  have e := flatJ_get L (j / 5) (j % 5) hi hr
  rw [show j / 5 * 5 + j % 5 = j by omega, hu] at e
  obtain ⟨b', off', e2, hc⟩ := h.2.2.2.1 (by rw [← h.1]; omega)
  cases e2
  have : (⟨b, off, none⟩ : Addr).add j = ⟨b, off + j / 5 * 5 + j % 5, none⟩ := by unfold Addr.add; split <;> simp_all; omega
  rw [this, e]
  exact hc _ (by rw [← h.1]; exact hi) _ hr
theorem OwnJ.none_new (w : World) (base : Nat) (hb : base ≤ w.heap.size) : OwnJ (w.alloc (Obj.cells #[] 33)) base (.slice (some ⟨w.heap.size, 0, none⟩) 0 0) [] :=
  ⟨rfl, .inr ⟨_, _, #[], rfl, hb, alloc_new w _, Nat.le_refl _, by unfold maxLen; omega, rfl, rfl⟩⟩
theorem OwnJ.form {w : World} {base n cap : Nat} {ao : Option Addr} {S : List Jur} (h : OwnJ w base (.slice ao n cap) S) (hn : 0 < n) : ∃ g cur, ao = some ⟨g, 0, none⟩ ∧ base ≤ g ∧ w.heap[g]? = some (.cells cur 33 (0, 0)) := by
  rcases h.2 with ⟨e, _⟩ | ⟨g, cap, cur, e, hb, hg, _⟩
  · injection e with _ e2 _; omega
  · injection e with e1 _ _; exact ⟨g, cur, e1, hb, hg⟩
theorem OwnJ.len {w : World} {base n cap : Nat} {ao : Option Addr} {S : List Jur} (h : OwnJ w base (.slice ao n cap) S) : S.length = n := by
  obtain ⟨a, c, e, _⟩ := h.juris
  cases e; rfl
theorem OwnJ.put {w : World} {base g n cap : Nat} {S : List Jur} (h : OwnJ w base (.slice (some ⟨g, 0, none⟩) n cap) S) (k : Nat) (x : Option Addr) (y z : Nat) (hk : k < S.length) : OwnJ (w.setCell ⟨g, k * 5 + 4, none⟩ (.slice x y z)) base (.slice (some ⟨g, 0, none⟩) n cap) (S.set k ((S.getD k j0).put x y z)) := by
  obtain rfl := h.len
  have := (World.ownsRow.stored h (k * 5 + 4) (.slice x y z)).1
  rw [flatJ_put x y z S k hk] at this
  unfold OwnJ
  rw [List.length_set]
  exact this
theorem run_append_juris {w : World} (ty base : Nat) (v : Value) (L : List Jur) (hown : OwnJ w base v L)
    (ao : Option Addr) (m c : Nat) (L2 : List Jur) (hsrc : IsJurs w ao m c L2) (hnm : L.length + m ≤ 1000000000) (hbase : base ≤ w.heap.size) :
    ∃ v' w', (Builtin.append_ #[22, 22] ty #[v, .slice ao m c]).run Try.prog w = .ok v' w' ∧ OwnJ w' base v' (L ++ L2) ∧ w.grownBy w' v.ownBlock := by
  obtain ⟨i0, hi, hz0, hz1, hz2⟩ := info_parts' Try.infoJur
  have hl := hsrc.1
  cases ao with
  | none =>
    obtain ⟨rfl, rfl⟩ := hsrc.2.2.2.2 rfl
    obtain rfl : L2 = [] := List.eq_nil_of_length_eq_zero hl
    exact ⟨v, w, run_append_owned_none (P := Try.prog) (w := w) base _ ty _ i0 5 Try.underlying22 hi v _ _ hown, by rw [List.append_nil]; exact hown, ⟨rfl, rfl, rfl, Nat.le_refl _, fun _ _ _ => rfl⟩⟩
  | some ad =>
    obtain ⟨b, off, spot⟩ := ad
    obtain ⟨v', w', hr, h2, h3, _⟩ := run_append_own (P := Try.prog) w base 22 ty _ i0 j0.val 5 56 Try.underlying22 hi hz0 hz1 hz2 rfl (by decide) v _ _ hown ⟨b, off, spot⟩ m c (flatJ L2) (by rw [flatJ_length, hl]) hsrc.cells (flatJ_one _)
      (by unfold maxLen; omega) (by omega) hbase
    refine ⟨v', w', hr, ?_, h3⟩
    unfold OwnJ
    rw [flatJ_append, List.length_append, hl]; exact h2
theorem wpList_append_juris {w : World} {ops : Array Oper} {rest : List Oper} {o : Oper} {a : Act} {Q : Exit → Act → World → Prop} (hgd : o.guard = none) (s x : Operand)
    (ho : o.op = .call { callee := .builtin .append, args := #[s, x], argTypes := #[22, 22] })
    (base : Nat) (v : Value) (L : List Jur) (hs : a.eval s = v) (hown : OwnJ w base v L)
    (ao : Option Addr) (m c : Nat) (L2 : List Jur) (hx : a.eval x = .slice ao m c) (hsrc : IsJurs w ao m c L2) (hnm : L.length + m ≤ 1000000000) (hbase : base ≤ w.heap.size)
    (h : ∀ v' w', OwnJ w' base v' (L ++ L2) → w.grownBy w' v.ownBlock → wpList Try.prog ops Q rest (a.put o.dst v') w') : wpList Try.prog ops Q (o :: rest) a w := by
  obtain ⟨v', w', hr, h2, h3⟩ := run_append_juris o.type base v L hown ao m c L2 hsrc hnm hbase
  refine wpList_plain hgd fun K hK => ?_
  unfold Oper.wp execOp
  simp only [ho, resolve, invoke, builtin, Sem.run_bind, Sem.run_pure, Result.andThen_ok, List.map_toArray, List.map_cons, List.map_nil, hs, hx, hr]
  exact hK _ _ (h v' w' h2 h3)
theorem getD_setJ {S : List Jur} {k i : Nat} {c : Jur} (hk : k < S.length) : (S.set k c).getD i j0 = if i = k then c else S.getD i j0 := by
  rw [List.getD_eq_getElem?_getD, List.getD_eq_getElem?_getD, List.getElem?_set]
  by_cases h : k = i
  · subst h; simp [hk]
  · rw [if_neg h, if_neg (fun e => h e.symm)]
/-- the copy, up to jurisdiction k. -/
structure Copied (W : World) (base : Nat) (a : Option Addr) (n c : Nat) (L S : List Jur) (RR : List (List (List (Int × Int)))) (k : Nat) : Prop where
  own : OwnJ W base (.slice a n c) S
  like : ∀ i, i < n → Alike (L.getD i j0) (S.getD i j0)
  rings : ∀ i, i < k → OwnR W base (.slice (S.getD i j0).ra (S.getD i j0).rn (S.getD i j0).rc) (RR.getD i [])
theorem Copied.step {W W2 : World} {base g n c k : Nat} {L S : List Jur} {RR : List (List (List (Int × Int)))} {x : Option Addr} {y z : Nat} (h : Copied W base (some ⟨g, 0, none⟩) n c L S RR k) (hb : Below W.heap.size W W2) (hk : k < n) (hr : OwnR W2 base (.slice x y z) (RR.getD k [])) :
    Copied (W2.setCell ⟨g, k * 5 + 4, none⟩ (.slice x y z)) base (some ⟨g, 0, none⟩) n c L (S.set k ((S.getD k j0).put x y z)) RR (k + 1) := by
  have hl := h.own.len
  have ho := h.own.later hb
  obtain ⟨g', cur, e, _, hg⟩ := ho.form (by omega)
  cases e
  refine ⟨ho.put k x y z (by omega), fun i hi => ?_, fun i hi => ?_⟩
  · rw [getD_setJ (by omega)]
    by_cases he : i = k
    · subst he; rw [if_pos rfl]; exact h.like i hi
    · rw [if_neg he]; exact h.like i hi
  · rw [getD_setJ (by omega)]
    by_cases he : i = k
    · subst he; rw [if_pos rfl]; exact hr.setCell hg (by decide) (by decide)
    · rw [if_neg he]; exact ((h.rings i (by omega)).later hb).setCell hg (by decide) (by decide)
set_option maxRecDepth 100000 in
set_option maxHeartbeats 2000000 in
theorem CopyJuris_any (ao : Option Addr) (n cap : Nat) (L : List Jur) (RR : List (List (List (Int × Int)))) (w : World) (h : IsJurs w ao n cap L) (hd : JursD w L RR) (hn : n ≤ 100000) (hs : ∀ i, i < n → Small (RR.getD i [])) :
    Calls Try.prog 10 #[.slice ao n cap] w fun e w' => ∃ a c S, e = .returned (.slice a n c) ∧ IsJurs w' a n c S ∧ JursD w' S RR ∧ (∀ i, i < n → Alike (L.getD i j0) (S.getD i j0)) ∧ OwnJ w' w.heap.size (.slice a n c) S ∧ Below w.heap.size w w' := by
  have HI := Lib.hid h
  have HL : Hid (L.length = n) := h.1
  have HD := Lib.hid hd
  have HS := Lib.hid hs
  have hcm := h.2.2.1
  have hnc := h.2.1
  unfold maxLen at hcm
  obtain ⟨base, hbase⟩ : ∃ b, b = w.heap.size := ⟨_, rfl⟩
  have HB := Lib.hid hbase
  have HBL : Hid (w.heap.size ≤ base) := by rw [hbase]; exact Nat.le_refl _
  rw [← hbase]
  have hal : Below w.heap.size w (w.alloc (Obj.cells #[] 33)) := (Below.refl _ _).alloc (Nat.le_refl _) _
  have HAL := Lib.hid hal
  clear h hd hs hbase hal
  go_enter Try.func10, Try.ntmps10
  go_wp2_with (at_builtin; refine wpList_append_juris rfl _ _ rfl w.heap.size (.slice (some ⟨w.heap.size, 0, none⟩) 0 0) [] rfl (OwnJ.none_new w _ (Nat.le_refl _)) _ _ _ L rfl (HI.out.later HAL.out (Nat.le_refl _)) (by simp; omega) HAL.out.size ?_
               intro v4 w4 hown4 hg4
               have hb4 : Below w.heap.size w w4 := HAL.out.grown hg4 HAL.out.size (fun k hk => by simp only [Value.ownBlock, Option.some.injEq] at hk; omega)
               have ho4 : OwnJ w4 w.heap.size v4 L := hown4
               obtain ⟨a4, c4, hv4, _⟩ := ho4.juris
               rw [HL.out] at hv4
               subst hv4
               have H4 := Lib.hid (And.intro hb4 ho4)
               clear hown4 hg4 hb4 ho4)
  go_loopw [4] (fun i wr => ∃ (k : Nat) (S : List Jur), k ≤ n ∧ i = .int .i64 k ∧ Hid (Copied wr base a4 n c4 L S RR k) ∧ Hid (Below base w wr)) (fun i _ => n - (intOf i).toNat)
  case atStart =>
    refine ⟨0, L, by omega, rfl, Lib.hid ⟨?_, fun i hi => ⟨rfl, rfl, rfl, rfl⟩, fun i hi => absurd hi (by omega)⟩, Lib.hid ?_⟩
    · rw [HB.out]; exact H4.out.2
    · rw [HB.out]; exact H4.out.1
  case round =>
    obtain ⟨k, S, hk, rfl, hcp, hbl⟩ := hrel
    by_cases hlt : k < n
    · have hi0 : (0 : Int) ≤ (k : Int) := by omega
      have hi5 : (k : Int) < (n : Int) := by omega
      obtain ⟨b, off, rfl, hcs⟩ := (HI.out.later hbl.out HBL.out).2.2.2.1 (by omega)
      obtain ⟨g, cur, rfl, hbg, _⟩ := hcp.out.own.form (by omega)
      have hr := (HD.out.later hbl.out HBL.out) k (by rw [HL.out]; exact hlt)
      have hk0 := hcs k hlt 4 (by omega)
      obtain ⟨c, hc⟩ : ∃ c, c = L.getD k j0 := ⟨_, rfl⟩
      rw [← hc] at hk0 hr
      obtain ⟨x0, x1, x2, x3, x4, x5, x6⟩ := c
      have e4 : wr.cell? ⟨b, off + k * 5 + 4, none⟩ = some (.slice x4 x5 x6) := hk0
      have HC := Lib.hid (CopyRings_any x4 x5 x6 _ wr hr (HS.out k hlt))
      have HBG := Lib.hid hbg
      have HBZ : Hid (base ≤ wr.heap.size) := by
        have := hbl.out.size
        rw [HB.out]; exact this
      clear hcs hr hk0 hc hbg
      go_wp2_with fail
      refine HC.out.mono ?_
      rintro e w5 ⟨v5, rfl, hown5, hb5⟩
      obtain ⟨a5, c5, hv5, _⟩ := hown5.rings
      subst hv5
      have hfz : w5.frozen? ⟨g, k * 5 + 4, none⟩ = false := by
        obtain ⟨g', cur, e, _, hg⟩ := (hcp.out.own.later hb5).form (by omega)
        cases e
        exact frozen_of_row _ _ _ _ _ hg
      have hold := (hcp.out.own.later hb5).cells (g := g) rfl (k * 5 + 4) _ (flatJ_get S k 4 (by rw [hcp.out.own.len]; exact hlt) (by omega))
      rw [add_cell, show 0 + (k * 5 + 4) = k * 5 + 4 by omega] at hold
      have HST := Lib.hid (hcp.out.step hb5 hlt (hown5.base HBZ.out))
      have HB5 := Lib.hid ((hbl.out.trans (hb5.mono HBZ.out)).setCell (p := ⟨g, k * 5 + 4, none⟩) HBG.out (.slice a5 (RR.getD k []).length c5))
      clear hown5 hb5
      go_wp2_with fail
      go_roundw
      case rel => exact ⟨k + 1, _, by omega, by go_num, HST, HB5⟩
      case measure => simp [intOf]; omega
    · obtain rfl : k = n := by omega
      have HFIN := hcp.out
      go_wp2
      go_ret
      obtain ⟨ja, jc, je, hj⟩ := HFIN.own.juris
      rw [HFIN.own.len] at je hj
      cases je
      refine ⟨_, _, S, rfl, hj, fun i hi => ?_, HFIN.like, HFIN.own, hbl.out⟩
      obtain ⟨ra, rc, re, hr⟩ := (HFIN.rings i (by rw [← HFIN.own.len]; exact hi)).rings
      injection re with r1 r2 r3
      rw [r1, r2, r3]
      exact hr
end Go.Proofs.Ytbidappkmnedaaa

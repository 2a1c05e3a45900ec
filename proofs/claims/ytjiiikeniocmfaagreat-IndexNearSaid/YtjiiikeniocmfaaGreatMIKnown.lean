/- IndexNear: rows of regions' headers and of places side by side; asks -/
import Derived.Test.YtjiiikeniocmfaaGreatMIFinds0
import Derived.Test.YtjiiikeniocmfaaGreatMQRegIn
import Derived.Test.YtjiiikeniocmfaaGreatMQPick
import Derived.Test.YtjiiikeniocmfaaGreatMBPart0
import Derived.Test.YtjiiikeniocmfaaGreatMIKnown0
set_option linter.unusedSimpArgs false
set_option linter.unusedVariables false
namespace Go.Proofs.YtjiiikeniocmfaaGreat
open Go.RowKit Go.Geo
attribute [local go_sem] Oper.semAt_some
/-- the headers of regions. -/
def HdrOk (w : World) (H : List Value) (G : List Reg) : Prop := H.length = G.length ∧ ∀ k, k < G.length → ∃ x y z, H.getD k undef = .slice x y z ∧ IsRings w x y z (G.getD k [])
theorem HdrOk.later {w w' : World} {B : Nat} {H : List Value} {G : List Reg} (h : HdrOk w H G) (hb : Below B w w') (hB : w.heap.size ≤ B) : HdrOk w' H G := ⟨h.1, fun k hk => by
  obtain ⟨x, y, z, e, hr⟩ := h.2 k hk
  exact ⟨x, y, z, e, hr.later hb hB⟩⟩
theorem headers_of {w : World} {b off : Nat} {sp : Option Nat} {n cap : Nat} {G : List Reg} (h : IsRegs w (some ⟨b, off, sp⟩) n cap G) :
    ∃ H : List Value, HdrOk w H G ∧ (∀ k u, H[k]? = some u → w.cell? ((⟨b, off, sp⟩ : Addr).add k) = some u) ∧ ∀ u ∈ H, u.oneCell' = true := by
  have hc : ∀ k, k < n → ∃ u, w.cell? ((⟨b, off, sp⟩ : Addr).add k) = some u ∧ ∃ x y z, u = .slice x y z ∧ IsRings w x y z (G.getD k []) := fun k hk => by
    obtain ⟨b2, off2, x, y, z, e, hcell, hr⟩ := h.2.2.2.2 k hk
    injection e with e
    injection e with e1 e2 e3
    subst e1 e2 e3
    refine ⟨_, ?_, x, y, z, rfl, hr⟩
    rw [show (⟨b, off, none⟩ : Addr).add k = ⟨b, off + k, none⟩ by unfold Addr.add; split <;> simp_all]
    exact hcell
  let f : Nat → Value := fun k => (w.cell? ((⟨b, off, sp⟩ : Addr).add k)).getD undef
  have hf : ∀ k, k < n → w.cell? ((⟨b, off, sp⟩ : Addr).add k) = some (f k) := fun k hk => by
    obtain ⟨u, hu, _⟩ := hc k hk
    show w.cell? _ = some ((w.cell? ((⟨b, off, sp⟩ : Addr).add k)).getD undef)
    rw [hu]; rfl
  refine ⟨(List.range n).map f, ⟨by simp [h.1], fun k hk => ?_⟩, fun k u hu => ?_, fun u hu => ?_⟩
  · rw [h.1] at hk
    obtain ⟨u, hu, x, y, z, e, hr⟩ := hc k hk
    have e2 : f k = u := by
      have := hf k hk
      rw [hu] at this
      injection this with this
      exact this.symm
    refine ⟨x, y, z, ?_, hr⟩
    rw [List.getD_eq_getElem?_getD, List.getElem?_map, List.getElem?_range hk]
    show f k = _
    rw [e2, e]
  · have hk : k < n := by
      have := (List.getElem?_eq_some_iff.1 hu).1
      simpa using this
    rw [List.getElem?_map, List.getElem?_range hk] at hu
    rw [hf k hk]
    exact hu
  · obtain ⟨k, hk, rfl⟩ := List.mem_map.1 hu
    have hk := List.mem_range.1 hk
    obtain ⟨u, hu, x, y, z, e, _⟩ := hc k hk
    have e2 : f k = u := by
      have := hf k hk
      rw [hu] at this
      injection this with this
      exact this.symm
    rw [e2, e]
    rfl
/-- regions' headers copied behind a new, empty list. -/
theorem run_append_hdrs {w w0 : World} (ty base : Nat) (v : Value) (hown : w.ownsRow base 30 1 v 0 [])
    (ao : Option Addr) (m c : Nat) (G : List Reg) (hsrc : IsRegs w0 ao m c G) (hw0 : Below w0.heap.size w0 w) (hm : m ≤ 1000000) (hbase : base ≤ w.heap.size) :
    ∃ v' w' H, (Builtin.append_ #[26, 26] ty #[v, .slice ao m c]).run Tryz.prog w = .ok v' w' ∧ HdrOk w0 H G ∧ w'.ownsRow base 30 1 v' m H ∧ w.grownBy w' v.ownBlock := by
  obtain ⟨i0, hi, hz0, hz1, hz2⟩ := info_parts' Tryz.infoRg
  cases ao with
  | none =>
    obtain ⟨rfl, rfl⟩ := hsrc.2.2.2.1 rfl
    have hG : G = [] := List.eq_nil_of_length_eq_zero hsrc.1
    subst hG
    exact ⟨v, w, [], run_append_owned_none (P := Tryz.prog) (w := w) base _ ty _ i0 1 Tryz.underlying26 hi v _ _ hown, ⟨rfl, fun k hk => absurd hk (by simp)⟩, hown, ⟨rfl, rfl, rfl, Nat.le_refl _, fun _ _ _ => rfl⟩⟩
  | some ad =>
    obtain ⟨b, off, sp⟩ := ad
    obtain ⟨H, hH, hcells, hone⟩ := headers_of hsrc
    obtain ⟨v', w', hr, h2, h3, _⟩ := run_append_own (P := Tryz.prog) w base 26 ty _ i0 (.agg #[.slice none 0 0]) 1 24 Tryz.underlying26 hi hz0 hz1 hz2 rfl (by decide) v _ _ hown ⟨b, off, sp⟩ m c H (by rw [hH.1, hsrc.1, Nat.mul_one]) (fun k u hu => by have hc := hcells k u hu; exact (hw0.cell (block_lt_of_cell hc)).trans hc) hone
      (by unfold maxLen; omega) (by omega) hbase
    exact ⟨v', w', H, hr, hH, by simpa using h2, h3⟩
theorem wpList_append_hdrs {w w0 : World} {ops : Array Oper} {rest : List Oper} {o : Oper} {a : Act} {Q : Exit → Act → World → Prop} (hgd : o.guard = none) (s x : Operand)
    (ho : o.op = .call { callee := .builtin .append, args := #[s, x], argTypes := #[26, 26] })
    (base : Nat) (v : Value) (hs : a.eval s = v) (hown : w.ownsRow base 30 1 v 0 [])
    (ao : Option Addr) (m c : Nat) (G : List Reg) (hx : a.eval x = .slice ao m c) (hsrc : IsRegs w0 ao m c G) (hw0 : Below w0.heap.size w0 w) (hm : m ≤ 1000000) (hbase : base ≤ w.heap.size)
    (h : ∀ v' w' H, HdrOk w0 H G → w'.ownsRow base 30 1 v' m H → w.grownBy w' v.ownBlock → wpList Tryz.prog ops Q rest (a.put o.dst v') w') : wpList Tryz.prog ops Q (o :: rest) a w := by
  obtain ⟨v', w', H, hr, hH, h2, h3⟩ := run_append_hdrs o.type base v hown ao m c G hsrc hw0 hm hbase
  refine wpList_plain hgd fun K hK => ?_
  unfold Oper.wp execOp
  simp only [ho, resolve, invoke, builtin, Sem.run_bind, Sem.run_pure, Result.andThen_ok, List.map_toArray, List.map_cons, List.map_nil, hs, hx, hr]
  exact hK _ _ (h v' w' H hH h2 h3)
theorem hdrs_none_new (w : World) (base : Nat) (hb : base ≤ w.heap.size) : (w.alloc (Obj.cells #[] 30)).ownsRow base 30 1 (.slice (some ⟨w.heap.size, 0, none⟩) 0 0) 0 [] :=
  ⟨rfl, .inr ⟨_, _, #[], rfl, hb, alloc_new w _, Nat.le_refl _, by unfold maxLen; omega, rfl, rfl⟩⟩
theorem make_I (n : Nat) (hn : n ≤ 100000) (w : World) : ∃ W, (Instr.makeSlice 22 (.int .i64 (n : Int)) (.int .i64 (n : Int))).run Tryz.prog w = .ok (.slice (some ⟨w.heap.size, 0, none⟩) n n) W ∧ OwnI W w.heap.size (.slice (some ⟨w.heap.size, 0, none⟩) n n) (List.replicate n 0) ∧ Below w.heap.size w W := by
  obtain ⟨i0, hi, hz0, hz1, hz2⟩ := info_parts' Tryz.infoIntS
  obtain ⟨W, hr, ho, hg⟩ := run_make_full (P := Tryz.prog) w w.heap.size 22 3 i0 _ 1 Tryz.underlying22 hi hz0 hz1 .i64 .i64 n (by rw [hz2]; omega) (by unfold maxLen; omega) (Nat.le_refl _)
  refine ⟨W, hr, ?_, (Below.refl _ _).grown hg (Nat.le_refl _) (fun g h => by cases h)⟩
  unfold OwnI
  rw [List.length_replicate]
  have e : (madeCells (Value.int .i64 0).cells (n * 1)).toList = flatI (List.replicate n 0) := by
    rw [show (Value.int .i64 0).cells = #[.int .i64 0] from rfl, toList_madeCells_one, Nat.mul_one]
    simp [flatI]
  rw [← e]
  exact ho
theorem OwnI.cellAt {w : World} {B ga n c : Nat} {A : List Int} (h : OwnI w B (.slice (some ⟨ga, 0, none⟩) n c) A) (hl : A.length = n) {i : Nat} (hi : i < n) : w.cell? ⟨ga, i, none⟩ = some (.int .i64 (A.getD i 0)) := by
  obtain ⟨a, c2, ev, hq⟩ := h.ints
  rw [hl] at ev hq
  cases ev
  obtain ⟨b1, off1, e, d0⟩ := hq.2.2.2.1 (by omega)
  cases e
  have := d0 i hi
  rwa [Nat.zero_add] at this
def OwnH (w : World) (B : Nat) (v : Value) (M : List Value) : Prop := w.ownsRow B 30 1 v M.length M
theorem OwnH.later {w w' : World} {B : Nat} {v : Value} {M : List Value} (h : OwnH w B v M) (hb : Below w.heap.size w w') : OwnH w' B v M := ownsRow_move h fun g hg => hb.block g (h.lt g hg).2
theorem OwnH.row {w : World} {B n c : Nat} {ai : Option Addr} {M : List Value} (h : OwnH w B (.slice ai n c) M) (hl : M.length = n) (hn : 0 < n) : ∃ g cs, ai = some ⟨g, 0, none⟩ ∧ B ≤ g ∧ w.heap[g]? = some (.cells cs 30 (0, 0)) ∧ (∀ k, k < n → cs[k]? = some (M.getD k undef)) ∧ n ≤ c ∧ c ≤ maxLen := by
  rcases h.2 with ⟨e, h0⟩ | ⟨g, cp, cur, e, hbg, hg, hnc, hm, hsz, ht⟩
  · omega
  · injection e with e1 e2 e3
    subst e1 e3
    refine ⟨g, cur, rfl, hbg, hg, fun k hk => ?_, by omega, hm⟩
    have hkl : k < M.length := by omega
    have : (cur.toList.take (M.length * 1))[k]? = M[k]? := by rw [ht]
    rw [List.getElem?_take, if_pos (by omega)] at this
    rw [List.getD_eq_getElem?_getD, List.getElem?_eq_getElem hkl]
    rw [List.getElem?_eq_getElem hkl] at this
    simpa using this
theorem OwnH.cellAt {w : World} {B gm n c : Nat} {M : List Value} (h : OwnH w B (.slice (some ⟨gm, 0, none⟩) n c) M) (hl : M.length = n) {i : Nat} (hi : i < n) : w.cell? ⟨gm, i, none⟩ = some (M.getD i undef) ∧ w.frozen? ⟨gm, i, none⟩ = false := by
  obtain ⟨g, cs, e, _, hg, hc, _⟩ := h.row hl (by omega)
  injection e with e
  injection e with e
  subst e
  exact ⟨(cell_of_row _ _ _ _ _ _ hg).trans (hc i hi), frozen_of_row _ _ _ _ _ hg⟩
theorem OwnH.byI {w : World} {B B2 g n c o : Nat} {v u : Value} {M : List Value} {A : List Int} (h : OwnH w B v M) (k : OwnI w B2 (.slice (some ⟨g, 0, none⟩) n c) A) : OwnH (w.setCell ⟨g, o, none⟩ u) B v M := by
  refine ownsRow_move h fun j e => Below.heap_setCell _ _ _ _ (by
    show j ≠ g
    intro e2
    subst e2
    rcases k.2 with ⟨h1, _⟩ | ⟨g', cap, cur, e3, _, hg, _⟩
    · simp at h1
    · cases e3
      exact own_typed h hg (by decide) e)
/-- two rows of the call's own: regions' headers and places. -/
structure TwoR (W : World) (B gm n ci ga : Nat) (M : List Value) (A : List Int) (w : World) : Prop where
  x : OwnH w B (.slice (some ⟨gm, 0, none⟩) n ci) M
  i : OwnI w B (.slice (some ⟨ga, 0, none⟩) n n) A
  ml : M.length = n
  al : A.length = n
  bel : Below B W w
  gmB : B ≤ gm
  gaB : B ≤ ga
theorem TwoR.later {W w w' : World} {B gm n ci ga : Nat} {M : List Value} {A : List Int} (h : TwoR W B gm n ci ga M A w) (hb : Below w.heap.size w w') (hB : B ≤ w.heap.size) : TwoR W B gm n ci ga M A w' :=
  ⟨h.x.later hb, h.i.later hb, h.ml, h.al, h.bel.trans (hb.mono hB), h.gmB, h.gaB⟩
theorem TwoR.ne {W w : World} {B gm n ci ga : Nat} {M : List Value} {A : List Int} (h : TwoR W B gm n ci ga M A w) : gm ≠ ga := by
  intro e
  subst e
  rcases h.i.2 with ⟨h1', _⟩ | ⟨g', cap, cur, e3, _, hg, _⟩
  · simp at h1'
  · cases e3
    exact own_typed h.x hg (by decide) rfl
theorem TwoR.putX {W w : World} {B gm n ci ga : Nat} {M : List Value} {A : List Int} (h : TwoR W B gm n ci ga M A w) (j : Nat) (e : Value) : TwoR W B gm n ci ga (M.set j e) A (w.setCell ⟨gm, j, none⟩ e) := by
  have hne := h.ne
  obtain ⟨h1, h2, h3, h4, h5, h6, h7⟩ := h
  have hx := h1
  unfold OwnH at hx
  rw [h3] at hx
  refine ⟨?_, ownsRow_move h2 fun k ek => Below.heap_setCell _ _ _ _ (by
    show k ≠ gm
    intro e2
    subst e2
    simp [Value.ownBlock] at ek
    exact hne ek.symm), by rw [List.length_set, h3], h4, h5.setCell (p := ⟨gm, _, none⟩) h6 _, h6, h7⟩
  unfold OwnH
  rw [List.length_set, h3]
  exact (World.ownsRow.stored hx j e).1
theorem TwoR.putI {W w : World} {B gm n ci ga : Nat} {M : List Value} {A : List Int} (h : TwoR W B gm n ci ga M A w) (j : Nat) (e : Int) :
    TwoR W B gm n ci ga M (A.set j e) (w.setCell ⟨ga, j, none⟩ (.int .i64 e)) := by
  have hne := h.ne
  obtain ⟨h1, h2, h3, h4, h5, h6, h7⟩ := h
  have hi := h2
  rw [← h4] at hi
  have hput := hi.put j e
  rw [h4] at hput
  exact ⟨ownsRow_move h1 fun k ek => Below.heap_setCell _ _ _ _ (by
    show k ≠ ga
    intro e2
    subst e2
    simp [Value.ownBlock] at ek
    exact hne ek), hput, h3, by rw [List.length_set, h4], h5.setCell (p := ⟨ga, _, none⟩) h7 _, h6, h7⟩
/-- the stages of m[a], m[b] = m[b], m[a]. -/
def SwX (W : World) (B gm n ci ga : Nat) (M : List Value) (A : List Int) (a b : Nat) : List Value → World → Prop
  | [], w => TwoR W B gm n ci ga M A w
  | [_], w => TwoR W B gm n ci ga (M.set a (M.getD b undef)) A w
  | _, w => TwoR W B gm n ci ga ((M.set a (M.getD b undef)).set b (M.getD a undef)) A w
def SwI (W : World) (B gm n ci ga : Nat) (M : List Value) (A : List Int) (a b : Nat) : List Value → World → Prop
  | [], w => TwoR W B gm n ci ga M A w
  | [_], w => TwoR W B gm n ci ga M (A.set a (A.getD b 0)) w
  | _, w => TwoR W B gm n ci ga M ((A.set a (A.getD b 0)).set b (A.getD a 0)) w
/-- the headers, turned. -/
structure TurnH (n : Nat) (H M : List Value) (A : List Int) : Prop where
  hl : H.length = n
  len : M.length = n
  alen : A.length = n
  inn : ∀ j, j < n → 0 ≤ A.getD j 0 ∧ A.getD j 0 < (n : Int)
  eq : ∀ j, j < n → M.getD j undef = H.getD (A.getD j 0).toNat undef
theorem getD_sw {α : Type} {X : List α} {a b : Nat} {d : α} (ha : a < X.length) (hb : b < X.length) (j : Nat) : ((X.set a (X.getD b d)).set b (X.getD a d)).getD j d = X.getD (if j = b then a else if j = a then b else j) d := by
  rw [List.getD_eq_getElem?_getD, List.getElem?_set]
  by_cases h1 : b = j
  · subst h1
    rw [if_pos rfl, if_pos (by simpa using hb), if_pos rfl]; rfl
  · rw [if_neg h1, List.getElem?_set, if_neg (show ¬ j = b from fun e => h1 e.symm)]
    by_cases h2 : a = j
    · subst h2
      rw [if_pos rfl, if_pos ha, if_pos rfl]; rfl
    · rw [if_neg h2, if_neg (show ¬ j = a from fun e => h2 e.symm)]; exact (List.getD_eq_getElem?_getD ..).symm
theorem TurnH.swap {n : Nat} {H M : List Value} {A : List Int} (h : TurnH n H M A) {a b : Nat} (ha : a < n) (hb : b < n) : TurnH n H ((M.set a (M.getD b undef)).set b (M.getD a undef)) ((A.set a (A.getD b 0)).set b (A.getD a 0)) := by
  have hx : ∀ j, j < n → (if j = b then a else if j = a then b else j) < n := fun j hj => by
    split
    · exact ha
    · split
      · exact hb
      · exact hj
  refine ⟨h.hl, by simp [h.len], by simp [h.alen], fun j hj => ?_, fun j hj => ?_⟩
  · rw [getD_sw (by rw [h.alen]; exact ha) (by rw [h.alen]; exact hb)]
    exact h.inn _ (hx j hj)
  · rw [getD_sw (by rw [h.len]; exact ha) (by rw [h.len]; exact hb), getD_sw (by rw [h.alen]; exact ha) (by rw [h.alen]; exact hb)]
    exact h.eq _ (hx j hj)
theorem TurnH.slice {n : Nat} {H M : List Value} {A : List Int} {w : World} {G : List Reg} (h : TurnH n H M A) (hH : HdrOk w H G) (hG : G.length = n) {j : Nat} (hj : j < n) : ∃ x y z, M.getD j undef = .slice x y z := by
  have hi := h.inn j hj
  obtain ⟨x, y, z, e, _⟩ := hH.2 (A.getD j 0).toNat (by omega)
  exact ⟨x, y, z, by rw [h.eq j hj, e]⟩
/-- the regions, turned. -/
def turnG (G : List Reg) (A : List Int) : List Reg := A.map (regI G)
theorem turnG_get {G : List Reg} {A : List Int} {j : Nat} (hj : j < A.length) : (turnG G A).getD j [] = regI G (A.getD j 0) := by
  unfold turnG
  rw [List.getD_eq_getElem?_getD, List.getElem?_map, List.getElem?_eq_getElem hj, List.getD_eq_getElem?_getD, List.getElem?_eq_getElem hj]
  rfl
theorem TurnH.regs {n : Nat} {H M : List Value} {A : List Int} {w : World} {B ci : Nat} {ai : Option Addr} {G : List Reg} (h : TurnH n H M A) (hH : HdrOk w H G) (hG : G.length = n) (ho : OwnH w B (.slice ai n ci) M) : IsRegs w ai n ci (turnG G A) := by
  refine ⟨by simp [turnG, h.alen], ?_⟩
  by_cases hn : n = 0
  · subst hn
    rcases ho.2 with ⟨e, h0⟩ | ⟨g, cp, cur, e, hbg, hg, hnc, hm, hsz, ht⟩
    · injection e with e1 e2 e3
      subst e1 e3
      exact ⟨Nat.le_refl _, by unfold maxLen; omega, fun _ => ⟨rfl, rfl⟩, fun k hk => absurd hk (by omega)⟩
    · injection e with e1 e2 e3
      subst e1 e3
      exact ⟨Nat.zero_le _, hm, (fun h => by cases h), fun k hk => absurd hk (by omega)⟩
  · obtain ⟨g, cs, rfl, _, hg, hc, hnc, hm⟩ := ho.row h.len (by omega)
    refine ⟨hnc, hm, (fun h => by cases h), fun k hk => ?_⟩
    have hi := h.inn k hk
    obtain ⟨x, y, z, e, hr⟩ := hH.2 (A.getD k 0).toNat (by omega)
    refine ⟨g, 0, x, y, z, rfl, ?_, ?_⟩
    · rw [Nat.zero_add, cell_of_row _ _ _ _ _ _ hg, hc k hk, h.eq k hk, e]
    · rw [turnG_get (by rw [h.alen]; exact hk)]
      exact hr
theorem allI_getD {n j : Nat} (h : j < n) : (allI n).getD j 0 = (j : Int) := by
  unfold allI
  rw [List.getD_eq_getElem?_getD, List.getElem?_map, List.getElem?_range h]; rfl
theorem TurnH.start {n : Nat} {H : List Value} (hl : H.length = n) : TurnH n H H (allI n) :=
  ⟨hl, hl, allI_len n, fun j hj => by rw [allI_getD hj]; omega, fun j hj => by rw [allI_getD hj, Int.toNat_natCast]⟩
theorem allI_of {A : List Int} {n : Nat} (hl : A.length = n) (h : ∀ j, j < n → A.getD j 0 = (j : Int)) : A = allI n :=
  eq_of_getDI (by rw [hl, allI_len]) fun i hi => by rw [h i (by omega), allI_getD (by omega)]
theorem turn_ok {n : Nat} {G : List Reg} {A : List Int} (hG : G.length = n) (hal : A.length = n) (hin : ∀ j, j < n → 0 ≤ A.getD j 0 ∧ A.getD j 0 < (n : Int)) (h : (idxCheckP G).1 = 0) : (idxCheckP (turnG G A)).1 = 0 := by
  have hl : (turnG G A).length = n := by simp [turnG, hal]
  have h64 : G.length ≤ 64 := by
    unfold idxCheckP at h
    by_cases h1 : 64 < G.length
    · rw [if_pos h1] at h; cases h
    · omega
  have hall : ∀ i, i < G.length → (regionCheckP (G.getD i [])).1 = 0 := fun i hi => by
    unfold idxCheckP at h
    rw [if_neg (by omega)] at h
    split at h
    · rename_i k hk
      exact absurd h (by
        have := (firstP_eq_some hk).2.1
        simpa using this)
    · rename_i hn
      have := firstP_eq_none hn i hi
      simpa using this
  rw [idxCheck_ok (by omega) (fun i hi => by
    rw [turnG_get (by omega)]
    have := hin i (by omega)
    exact hall _ (by omega))]
end Go.Proofs.YtjiiikeniocmfaaGreat

/- IndexNear: among; asks of an index beside another one -/
set_option linter.unusedSimpArgs false
set_option linter.unusedVariables false
namespace Go.Proofs.YtjiiikeniocmfaaGreat
open Go.RowKit Go.Geo
attribute [local go_sem] Oper.semAt_some
theorem any_take {L : List Int} {j : Nat} {x : Int} (h : j < L.length) : (L.take (j + 1)).any (fun y => y == x) = ((L.take j).any (fun y => y == x) || (L.getD j 0 == x)) := by
  rw [List.take_add_one, List.any_append, List.getElem?_eq_getElem h, List.getD_eq_getElem?_getD, List.getElem?_eq_getElem h]
  simp
set_option maxRecDepth 100000 in
set_option maxHeartbeats 2000000 in
theorem among_any (ao : Option Addr) (n cap : Nat) (L : List Int) (x : Int) (w : World) (h : IsInts w ao n cap L) (hn9 : n ≤ 1000000000) :
    Calls Tryz.prog 26 #[.slice ao n cap, .int .i64 x] w fun e w' => e = .returned (.bool (L.any (fun y => y == x))) ∧ Below w.heap.size w w' := by
  obtain ⟨r, hr⟩ : ∃ r, r = L.any (fun y => y == x) := ⟨_, rfl⟩
  rw [← hr]
  have HR := Lib.hid hr
  have HI := Lib.hid h
  have HL := Lib.hid h.1
  have hnc := h.2.1
  have hcm := h.2.2.1
  unfold maxLen at hcm
  clear h hr
  go_enter Tryz.func26, Tryz.ntmps26
  go_wp2_with fail
  go_loopw [5] (fun jv wr => ∃ j : Nat, j ≤ n ∧ jv = .int .i64 j ∧ Hid ((L.take j).any (fun y => y == x) = false) ∧ wr = w) (fun jv _ => n - (intOf jv).toNat)
  case atStart => exact ⟨0, by omega, rfl, Lib.hid (by simp), rfl⟩
  case round =>
    obtain ⟨j, hj, rfl, hno, rfl⟩ := hrel
    have hj0 : (0 : Int) ≤ (j : Int) := by omega
    by_cases hlt : j < n
    · have hj5 : (j : Int) < (n : Int) := by omega
      have hwj : IntKind.i64.wrap ((j : Int) + 1) = (j : Int) + 1 := IntWalk.i64_in _ (by omega)
      obtain ⟨b, off, rfl, hcl⟩ := HI.out.2.2.2.1 (by omega)
      have d0 := hcl j hlt
      obtain ⟨y, hy⟩ : ∃ y, y = L.getD j 0 := ⟨_, rfl⟩
      rw [← hy] at d0
      have HST := Lib.hid (any_take (L := L) (j := j) (x := x) (by rw [HL.out]; exact hlt))
      rw [← hy] at HST
      clear hcl hy
      by_cases hyx : y = x
      · have hyx2 : (y == x) = true := by simp [hyx]
        have hr : Hid (r = true) := Lib.hid (by
          rw [HR.out, List.any_eq_true]
          have h1 := HST.out
          rw [hyx2, Bool.or_true, List.any_eq_true] at h1
          obtain ⟨z, hz, hzx⟩ := h1
          exact ⟨z, List.mem_of_mem_take hz, hzx⟩)
        have hyi : (y : Int) = x := hyx
        clear hyx
        go_wp2_with fail
        go_ret
        exact ⟨by rw [hr.out]; rfl, Below.refl _ _⟩
      · have hyx2 : (y == x) = false := by simp [hyx]
        have HST2 : Hid ((L.take (j + 1)).any (fun y => y == x) = false) := Lib.hid (by rw [HST.out, hyx2, hno.out]; rfl)
        clear hyx
        go_wp2_with fail
        go_roundw
        case rel => exact ⟨j + 1, by omega, by go_num, HST2, by first | trivial | rfl⟩
        case measure => simp [intOf]; omega
    · have hjn : n = j := by omega
      subst hjn
      have hj5 : ¬ (n : Int) < (n : Int) := by omega
      have hr : Hid (r = false) := Lib.hid (by
        have h1 := hno.out
        rw [List.take_of_length_le (by rw [HL.out]; exact Nat.le_refl _)] at h1
        rw [HR.out, h1])
      go_wp2_with fail
      go_ret
      exact ⟨by rw [hr.out]; rfl, Below.refl _ _⟩
/-- two asks, one behind the other, of an index with blocks X beside it. -/
def AskAX (X : Nat → Prop) (p : Pt) (B g og sg : Nat) (G : List Reg) (W : World) (a : Value) (w : World) : Prop := OwnI w W.heap.size a (askG (inR p) G) ∧ IdxOn X w B g og sg G ∧ Two og sg W w
def StX (X : Nat → Prop) (p : Pt) (B g og sg : Nat) (G : List Reg) (W : World) : List Value → World → Prop
  | [], w => IdxOn X w B g og sg G ∧ Two og sg W w
  | [a], w => AskAX X p B g og sg G W a w
  | [a, b], w => AskAX X p B g og sg G W a w ∧ AskN p G W b w
  | [a, b, c], w => c = a ∧ AskAX X p B g og sg G W a w ∧ AskN p G W b w
  | [a, b, c, d], w => d = b ∧ c = a ∧ AskAX X p B g og sg G W a w ∧ AskN p G W b w
  | _, _ => False
theorem StX.two {X : Nat → Prop} {p : Pt} {B g og sg : Nat} {G : List Reg} {W : World} {vs : List Value} {w : World} (h : StX X p B g og sg G W vs w) : Two og sg W w := by
  match vs, h with
  | [], h => exact h.2
  | [_], h => exact h.2.2
  | [_, _], h => exact h.1.2.2
  | [_, _, _], h => exact h.2.1.2.2
  | [_, _, _, _], h => exact h.2.2.1.2.2
theorem ask_aX (X : Nat → Prop) (p : Pt) (B g og sg : Nat) (G : List Reg) (W w : World) (h : IdxOn X w B g og sg G ∧ Two og sg W w) (hX : ∀ k, X k → k < W.heap.size) :
    Calls Tryz.prog 12 #[.pointer (some ⟨g, 0, none⟩), ptV p] w fun e w' => ∃ a, e = .returned a ∧ AskAX X p B g og sg G W a w' := by
  refine (IAt_any X B g og sg G p w h.1 (fun k hk => Nat.lt_of_lt_of_le (hX k hk) h.2.size)).mono ?_
  rintro e w' ⟨v, rfl, ho, hi, ht⟩
  exact ⟨v, rfl, ho.base h.2.size, hi.step (Nat.le_refl _) (fun _ _ _ => rfl) (fun k hk => .inl (.inl hk)), h.2.trans ht⟩
theorem ask_nX (X : Nat → Prop) (p : Pt) (B g og sg : Nat) (G : List Reg) (W w : World) (a : Value) (h : AskAX X p B g og sg G W a w) :
    Calls Tryz.prog 17 #[.pointer (some ⟨g, 0, none⟩), ptV p] w fun e w' => ∃ b, e = .returned b ∧ AskAX X p B g og sg G W a w' ∧ AskN p G W b w' := by
  refine (Near_any _ B g og sg G p w h.2.1).mono ?_
  rintro e w' ⟨v, rfl, ho, hb⟩
  exact ⟨v, rfl, ⟨h.1.later hb, h.2.1.later hb, h.2.2.trans (Two.of hb)⟩, ho.base h.2.2.size⟩
/-- an ask, and two looks at lists. -/
def StM (p : Pt) (B g og sg : Nat) (G : List Reg) (r : Bool) (W : World) : List Value → World → Prop
  | [], w => IdxOn (fun _ => False) w B g og sg G ∧ Two og sg W w
  | [a], w => AskAX (fun _ => False) p B g og sg G W a w
  | [_, b], w => b = .bool r ∧ IdxOn (fun _ => False) w B g og sg G ∧ Two og sg W w
  | [_, b, c], w => c = .bool r ∧ b = .bool r ∧ IdxOn (fun _ => False) w B g og sg G ∧ Two og sg W w
  | [_, _, _, d], w => d = .bool false ∧ IdxOn (fun _ => False) w B g og sg G ∧ Two og sg W w
  | _, _ => False
theorem StM.two {p : Pt} {B g og sg : Nat} {G : List Reg} {r : Bool} {W : World} {vs : List Value} {w : World} (h : StM p B g og sg G r W vs w) : Two og sg W w := by
  match vs, h with
  | [], h => exact h.2
  | [_], h => exact h.2.2
  | [_, _], h => exact h.2.2
  | [_, _, _], h => exact h.2.2.2
  | [_, _, _, _], h => exact h.2.2
/-- who has a point is near it. -/
theorem near_any (p : Pt) (G : List Reg) (i : Nat) (hi : i < G.length) (hok : ∀ i, i < G.length → (regionCheckP (G.getD i [])).1 = 0) (hin : inR p (G.getD i []) = true) : (askB (nearQ p) (boxesR G)).any (fun y => y == (i : Int)) = true := by
  rw [List.any_eq_true]
  refine ⟨(i : Int), ?_, by simp⟩
  rw [askB_filter, List.mem_filter, allI_mem, boxesR_len, bxI_nat]
  exact ⟨by omega, in_near hi (hok i hi) hin⟩
theorem has_any (p : Pt) (G : List Reg) (i : Nat) (hi : i < G.length) : (askG (inR p) G).any (fun y => y == (i : Int)) = inR p (G.getD i []) := by
  rw [askG_any]
  unfold inAt
  rw [decide_eq_true (show (0 : Int) ≤ (i : Int) by omega), decide_eq_true (show (i : Int) < (G.length : Int) by omega)]
  simp [regI]
end Go.Proofs.YtjiiikeniocmfaaGreat

/- IndexKnown: the walk -/
set_option linter.unusedSimpArgs false
set_option linter.unusedVariables false
namespace Go.Proofs.YtjiiikeniocmfaaGreat
open Go.RowKit Go.Geo
attribute [local go_sem] Oper.semAt_some
set_option maxRecDepth 100000 in
set_option maxHeartbeats 4000000 in
theorem IndexKnown_any (w : World) : Calls Tryz.prog 4 #[] w fun e w' => e = .returned (.bool true) ∧ Below w.heap.size w w' := by
  go_enter Tryz.func4, Tryz.ntmps4
  go_wp2_with fail
  refine (sampleI_any w).mono ?_
  rintro e w1 ⟨g, og, sg, rfl, hx, hb⟩
  have HX1 := Lib.hid hx
  have HB1 := Lib.hid hb
  clear hx hb
  go_wp2_with fail
  refine (atI_any 4 1 w1).mono ?_
  rintro e w2 ⟨rfl, hb2⟩
  have HX2 := Lib.hid (HX1.out.later hb2)
  have HB2 := Lib.hid (HB1.out.trans (hb2.mono HB1.out.size))
  clear hb2
  go_wp2_with fail
  have ha := IIn_low _ g og sg 1 smG ⟨4, 1⟩ w2 HX2.out (by decide) HB2.out.size
  rw [kn_in1] at ha
  refine ha.mono ?_
  rintro e w3 ⟨rfl, hx3, hb3⟩
  have HX3 := Lib.hid hx3
  have HB3 := Lib.hid (HB2.out.trans hb3)
  clear hx3 hb3 ha
  go_wp2_with fail
  refine (atI_any 4 1 w3).mono ?_
  rintro e w4 ⟨rfl, hb4⟩
  have HX4 := Lib.hid (HX3.out.later hb4)
  have HB4 := Lib.hid (HB3.out.trans (hb4.mono HB3.out.size))
  clear hb4
  go_wp2_with fail
  have ha := IIn_low _ g og sg 0 smG ⟨4, 1⟩ w4 HX4.out (by decide) HB4.out.size
  rw [kn_in0] at ha
  refine ha.mono ?_
  rintro e w5 ⟨rfl, hx5, hb5⟩
  have HX5 := Lib.hid hx5
  have HB5 := Lib.hid (HB4.out.trans hb5)
  clear hx5 hb5 ha
  go_wp2_with fail
  refine (atI_any 1 1 w5).mono ?_
  rintro e w6 ⟨rfl, hb6⟩
  have HX6 := Lib.hid (HX5.out.later hb6)
  have HB6 := Lib.hid (HB5.out.trans (hb6.mono HB5.out.size))
  clear hb6
  go_wp2_with fail
  refine (IIn_out (fun _ => False) _ g og sg 3 smG ⟨1, 1⟩ w6 HX6.out (.inr (by decide))).mono ?_
  rintro e w7 ⟨rfl, hb7⟩
  have HX7 := Lib.hid (HX6.out.later hb7)
  have HB7 := Lib.hid (HB6.out.trans (hb7.mono HB6.out.size))
  clear hb7
  go_wp2_with fail
  obtain ⟨w8, hmk, hb8, hri⟩ := make_regs65 w7
  have HX8 := Lib.hid (HX7.out.later hb8)
  have HB8 := Lib.hid (HB7.out.trans (hb8.mono HB7.out.size))
  have HBU := Lib.hid (IBuild_any _ 65 65 (List.replicate 65 []) w8 hri (fun i hi => by
    rw [List.getD_eq_getElem?_getD, List.getElem?_replicate, if_pos hi]; decide))
  rw [hmk]
  clear hmk hb8 hri
  go_wp2_with fail
  refine HBU.out.mono ?_
  rintro e w9 ⟨hb9, _, hbad⟩
  have hbad := hbad (by rw [kn1_bad]; decide)
  rw [kn1_bad] at hbad
  subst hbad
  have HX9 := Lib.hid (HX8.out.later hb9)
  have HB9 := Lib.hid (HB8.out.trans (hb9.mono HB8.out.size))
  clear hb9 HBU
  unfold faultV
  go_wp2_with fail
  obtain ⟨W9, hW9⟩ : ∃ W, W = w9.alloc (Obj.cells #[.int .i64 3, .int .i64 0] 35) := ⟨_, rfl⟩
  obtain ⟨q9, hq9⟩ : ∃ q, q = w9.heap.size := ⟨_, rfl⟩
  rw [← hW9, ← hq9]
  have hb9 : Below w9.heap.size w9 W9 := by rw [hW9]; exact (Below.refl _ _).alloc (Nat.le_refl _) _
  have hr9 : W9.heap[q9]? = some (.cells #[.int .i64 3, .int .i64 0] 35 (0, 0)) := by rw [hW9, hq9]; exact alloc_new _ _
  have HX10 := Lib.hid (HX9.out.later hb9)
  have HB10 := Lib.hid (HB9.out.trans (hb9.mono HB9.out.size))
  have HR10 := Lib.hid hr9
  have HQ9 := Lib.hid (show og < q9 ∧ sg < q9 by have h1 := HX9.out.lt; rw [hq9]; exact ⟨h1.1, h1.2.1⟩)
  clear hb9 hr9 hW9 hq9
  refine (boxI_any 0 0 4 4 W9).mono ?_
  rintro e w11 ⟨qb, rfl, hri, hb11⟩
  have HX11 := Lib.hid (HX10.out.later hb11)
  have HB11 := Lib.hid (HB10.out.trans (hb11.mono HB10.out.size))
  have HR11 := Lib.hid ((hb11.block _ (heap_lt' HR10.out)).trans HR10.out)
  have HG11 := Lib.hid hri
  clear hb11 hri
  go_wp2_with fail
  refine (atI_any 0 0 w11).mono ?_
  rintro e w12 ⟨rfl, hb12⟩
  have HX12 := Lib.hid (HX11.out.later hb12)
  have HB12 := Lib.hid (HB11.out.trans (hb12.mono HB11.out.size))
  have HR12 := Lib.hid ((hb12.block _ (heap_lt' HR11.out)).trans HR11.out)
  have HG12 := Lib.hid (HG11.out.later hb12 (Nat.le_refl _))
  clear hb12
  go_wp2_with fail
  refine (atI_any 1 1 w12).mono ?_
  rintro e w13 ⟨rfl, hb13⟩
  have HX13 := Lib.hid (HX12.out.later hb13)
  have HB13 := Lib.hid (HB12.out.trans (hb13.mono HB12.out.size))
  have HR13 := Lib.hid ((hb13.block _ (heap_lt' HR12.out)).trans HR12.out)
  have HG13 := Lib.hid (HG12.out.later hb13 (Nat.le_refl _))
  clear hb13
  go_wp2_with fail
  have hkn := kn2_regs w13 qb HG13.out
  obtain ⟨W14, hW14⟩ : ∃ W, W = ((w13.alloc (Obj.cells #[.int .i64 0, .int .i64 0, .int .i64 1, .int .i64 1] 24)).alloc (Obj.cells #[.slice (some ⟨w13.heap.size, 0, none⟩) 2 2] 40)).alloc (Obj.cells #[.slice (some ⟨qb, 0, none⟩) 1 1, .slice (some ⟨w13.heap.size + 1, 0, none⟩) 1 1] 30) := ⟨_, rfl⟩
  rw [← hW14] at hkn ⊢
  have hb14 := hkn.2
  have HX14 := Lib.hid (HX13.out.later hb14)
  have HB14 := Lib.hid (HB13.out.trans (hb14.mono HB13.out.size))
  have HR14 := Lib.hid ((hb14.block _ (heap_lt' HR13.out)).trans HR13.out)
  have HBU := Lib.hid (IBuild_any _ 2 2 kn2 W14 hkn.1 (fun i hi => by
    match i, hi with
    | 0, _ => decide
    | 1, _ => decide))
  clear hkn hb14 hW14
  refine HBU.out.mono ?_
  rintro e w15 ⟨hb15, _, hbad⟩
  have hbad := hbad (by rw [kn2_bad]; decide)
  rw [kn2_bad] at hbad
  subst hbad
  have HX15 := Lib.hid (HX14.out.later hb15)
  have HB15 := Lib.hid (HB14.out.trans (hb15.mono HB14.out.size))
  have HR15 := Lib.hid ((hb15.block _ (heap_lt' HR14.out)).trans HR14.out)
  clear hb15 HBU
  unfold faultV
  go_wp2_with fail
  obtain ⟨W16, hW16⟩ : ∃ W, W = w15.alloc (Obj.cells #[.int .i64 190, .int .i64 1] 35) := ⟨_, rfl⟩
  obtain ⟨q16, hq16⟩ : ∃ q, q = w15.heap.size := ⟨_, rfl⟩
  rw [← hW16, ← hq16]
  have hb16 : Below w15.heap.size w15 W16 := by rw [hW16]; exact (Below.refl _ _).alloc (Nat.le_refl _) _
  have hr16 : W16.heap[q16]? = some (.cells #[.int .i64 190, .int .i64 1] 35 (0, 0)) := by rw [hW16, hq16]; exact alloc_new _ _
  have HX16 := Lib.hid (HX15.out.later hb16)
  have HB16 := Lib.hid (HB15.out.trans (hb16.mono HB15.out.size))
  have HR16 := Lib.hid (And.intro ((hb16.block _ (heap_lt' HR15.out)).trans HR15.out) hr16)
  have HQ16 := Lib.hid (show og < q16 ∧ sg < q16 by have h1 := HX15.out.lt; rw [hq16]; exact ⟨h1.1, h1.2.1⟩)
  clear hb16 hr16 hW16 hq16
  refine (atI_any 5 5 W16).mono ?_
  rintro e w17 ⟨rfl, hb17⟩
  have HX17 := Lib.hid (HX16.out.later hb17)
  have HB17 := Lib.hid (HB16.out.trans (hb17.mono HB16.out.size))
  have HR17 := Lib.hid (And.intro ((hb17.block _ (heap_lt' HR16.out.1)).trans HR16.out.1) ((hb17.block _ (heap_lt' HR16.out.2)).trans HR16.out.2))
  clear hb17
  go_wp2_with fail
  have ha := IAt_two _ g og sg smG ⟨5, 5⟩ w17 HX17.out HB17.out.size
  rw [kn_at] at ha
  refine ha.mono ?_
  rintro e w18 ⟨a18, c18, rfl, hi18, hx18, hb18, ht18⟩
  have HI18 := Lib.hid hi18
  have HX18 := Lib.hid hx18
  have HB18 := Lib.hid (HB17.out.trans hb18)
  have HR18 := Lib.hid (And.intro ((ht18.block _ (heap_lt' HR17.out.1) (by have := HQ9.out; omega) (by have := HQ9.out; omega)).trans HR17.out.1) ((ht18.block _ (heap_lt' HR17.out.2) (by have := HQ16.out; omega) (by have := HQ16.out; omega)).trans HR17.out.2))
  clear hi18 hx18 hb18 ha ht18
  go_wp2_with fail
  refine (SameInts_any a18 _ _ _ c18 1 [2] [2] _ (HI18.out.later ((Below.refl _ _).alloc (Nat.le_refl _) _) (Nat.le_refl _)) (one_int w18 2)).mono ?_
  rintro e w19 ⟨rfl, hg19⟩
  have hb19 : Below w18.heap.size w18 w19 := ((Below.refl _ _).alloc (Nat.le_refl _) _).trans (hg19.1.mono (by simp))
  have HX19 := Lib.hid (HX18.out.later hb19)
  have HB19 := Lib.hid (HB18.out.trans (hb19.mono HB18.out.size))
  have HR19 := Lib.hid (And.intro ((hb19.block _ (heap_lt' HR18.out.1)).trans HR18.out.1) ((hb19.block _ (heap_lt' HR18.out.2)).trans HR18.out.2))
  have q0 : (([2] : List Int) == [2]) = true := by decide
  clear hg19 hb19
  go_wp2_with fail
  refine (atI_any 8 8 w19).mono ?_
  rintro e w20 ⟨rfl, hb20⟩
  have HX20 := Lib.hid (HX19.out.later hb20)
  have HB20 := Lib.hid (HB19.out.trans (hb20.mono HB19.out.size))
  have HR20 := Lib.hid (And.intro ((hb20.block _ (heap_lt' HR19.out.1)).trans HR19.out.1) ((hb20.block _ (heap_lt' HR19.out.2)).trans HR19.out.2))
  clear hb20
  go_wp2_with fail
  have ha := INear_low _ g og sg smG ⟨8, 8⟩ w20 HX20.out
  rw [kn_near] at ha
  refine ha.mono ?_
  rintro e w21 ⟨a21, c21, rfl, hi21, hb21⟩
  have HI21 := Lib.hid hi21
  have HB21 := Lib.hid (HB20.out.trans (hb21.mono HB20.out.size))
  have HR21 := Lib.hid (And.intro ((hb21.block _ (heap_lt' HR20.out.1)).trans HR20.out.1) ((hb21.block _ (heap_lt' HR20.out.2)).trans HR20.out.2))
  clear hi21 hb21 ha
  go_wp2_with fail
  refine (SameInts_any a21 _ _ _ c21 1 [2] [2] _ (HI21.out.later ((Below.refl _ _).alloc (Nat.le_refl _) _) (Nat.le_refl _)) (one_int w21 2)).mono ?_
  rintro e w22 ⟨rfl, hg22⟩
  have hb22 : Below w21.heap.size w21 w22 := ((Below.refl _ _).alloc (Nat.le_refl _) _).trans (hg22.1.mono (by simp))
  have HB22 := Lib.hid (HB21.out.trans (hb22.mono HB21.out.size))
  have HR22 := Lib.hid (And.intro ((hb22.block _ (heap_lt' HR21.out.1)).trans HR21.out.1) ((hb22.block _ (heap_lt' HR21.out.2)).trans HR21.out.2))
  clear hg22 hb22
  go_wp2_with fail
  refine (awakeI_any w22).mono ?_
  rintro e w23 ⟨rfl, hb23⟩
  have HB23 := Lib.hid (HB22.out.trans (hb23.mono HB22.out.size))
  have r1 := (hb23.block _ (heap_lt' HR22.out.1)).trans HR22.out.1
  have r2 := (hb23.block _ (heap_lt' HR22.out.2)).trans HR22.out.2
  have c1 : w23.cell? ⟨q9, 0, none⟩ = some (.int .i64 3) := cell_of_row _ _ _ _ _ _ r1
  have c2 : w23.cell? ⟨q9, 1, none⟩ = some (.int .i64 0) := cell_of_row _ _ _ _ _ _ r1
  have c3 : w23.cell? ⟨q16, 0, none⟩ = some (.int .i64 190) := cell_of_row _ _ _ _ _ _ r2
  have c4 : w23.cell? ⟨q16, 1, none⟩ = some (.int .i64 1) := cell_of_row _ _ _ _ _ _ r2
  clear hb23 r1 r2
  go_wp2_with fail
  go_ret
  exact ⟨rfl, HB23.out⟩
end Go.Proofs.YtjiiikeniocmfaaGreat

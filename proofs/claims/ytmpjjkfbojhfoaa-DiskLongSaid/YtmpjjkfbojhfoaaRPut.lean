/- rows of structs of three cells: slices of them, rows of one's own, append, stores -/
import Derived.Test.YtmpjjkfbojhfoaaDMore
import Derived.Laws.OwnMore
namespace Go.Proofs.Ytmpjjkfbojhfoaa
open Go.RowKit
/-- three cells. -/
abbrev V3 := Value × Value × Value
def v30 : V3 := (.nilIface, .nilIface, .nilIface)
def flat3 (T : List V3) : List Value := T.flatMap fun t => [t.1, t.2.1, t.2.2]
theorem flat3_cons (t : V3) (T : List V3) : flat3 (t :: T) = t.1 :: t.2.1 :: t.2.2 :: flat3 T := rfl
theorem flat3_append (T U : List V3) : flat3 (T ++ U) = flat3 T ++ flat3 U := by simp [flat3]
theorem flat3_length : ∀ T : List V3, (flat3 T).length = T.length * 3
  | [] => rfl
  | t :: T => by rw [flat3_cons]; simp only [List.length_cons, flat3_length T]; omega
theorem flat3_get : ∀ (T : List V3) (i : Nat), i < T.length → (flat3 T)[i * 3]? = some (T.getD i v30).1 ∧ (flat3 T)[i * 3 + 1]? = some (T.getD i v30).2.1 ∧ (flat3 T)[i * 3 + 2]? = some (T.getD i v30).2.2
  | t :: T, 0, _ => ⟨rfl, rfl, rfl⟩
  | t :: T, i + 1, h => by
    have ih := flat3_get T i (by simpa using h)
    rw [flat3_cons, show (i + 1) * 3 = i * 3 + 1 + 1 + 1 by omega, show i * 3 + 1 + 1 + 1 + 1 = (i * 3 + 1) + 1 + 1 + 1 by omega, show i * 3 + 1 + 1 + 1 + 2 = (i * 3 + 2) + 1 + 1 + 1 by omega]
    simp only [List.getElem?_cons_succ, List.getD_cons_succ]
    exact ih
/-- neither a byte nor a deed. -/
def PlainV (u : Value) : Prop := plainV u = true
/-- each is one cell, and no byte. -/
def Ok3 (T : List V3) : Prop := ∀ u ∈ flat3 T, u.oneCell' = true ∧ PlainV u
theorem Ok3.nil : Ok3 [] := fun _ h => by cases h
theorem Ok3.append {T U : List V3} (h : Ok3 T) (k : Ok3 U) : Ok3 (T ++ U) := by
  intro u hu
  rw [flat3_append] at hu
  rcases List.mem_append.1 hu with r | r
  · exact h u r
  · exact k u r
/-- a slice of such structs. -/
def Is3 (w : World) (ty : TypeId) (ao : Option Addr) (n cap : Nat) (T : List V3) : Prop :=
  T.length = n ∧ n ≤ cap ∧ cap ≤ maxLen ∧ (ao = none → n = 0 ∧ cap = 0) ∧ Ok3 T ∧ (0 < n → ∃ (b off : Nat) (c : Array Value) (fr : Nat × Nat), ao = some ⟨b, off, none⟩ ∧ w.heap[b]? = some (Obj.cells c ty fr) ∧ ∀ j u, (flat3 T)[j]? = some u → c[off + j]? = some u)
theorem Is3.nil (w : World) (ty : TypeId) : Is3 w ty none 0 0 [] := ⟨rfl, Nat.le_refl _, by unfold maxLen; omega, fun _ => ⟨rfl, rfl⟩, Ok3.nil, fun h => absurd h (by omega)⟩
theorem Is3.move {w w' : World} {ty : TypeId} {ao : Option Addr} {n cap : Nat} {T : List V3} (h : Is3 w ty ao n cap T) (hm : ∀ (j : Nat) (c : Array Value) (fr : Nat × Nat), w.heap[j]? = some (Obj.cells c ty fr) → w'.heap[j]? = w.heap[j]?) : Is3 w' ty ao n cap T := by
  obtain ⟨h1, h2, h3, h4, h5, h6⟩ := h
  refine ⟨h1, h2, h3, h4, h5, fun hn => ?_⟩
  obtain ⟨b, off, c, fr, e, hb, hc⟩ := h6 hn
  exact ⟨b, off, c, fr, e, (hm b c fr hb).trans hb, hc⟩
theorem Is3.later {w w' : World} {ty : TypeId} {ao : Option Addr} {n cap : Nat} {T : List V3} (h : Is3 w ty ao n cap T) (hb : Below w.heap.size w w') : Is3 w' ty ao n cap T := h.move fun j _ _ hj => hb.block j (heap_lt hj)
theorem Is3.cells {w : World} {ty : TypeId} {ao : Option Addr} {n cap : Nat} {T : List V3} (h : Is3 w ty ao n cap T) {i : Nat} (hi : i < n) : ∃ b off, ao = some ⟨b, off, none⟩ ∧ w.cell? ⟨b, off + i * 3, none⟩ = some (T.getD i v30).1 ∧ w.cell? ⟨b, off + i * 3 + 1, none⟩ = some (T.getD i v30).2.1 ∧ w.cell? ⟨b, off + i * 3 + 2, none⟩ = some (T.getD i v30).2.2 := by
  obtain ⟨b, off, c, fr, e, hb, hc⟩ := h.2.2.2.2.2 (by omega)
  obtain ⟨g0, g1, g2⟩ := flat3_get T i (by rw [h.1]; exact hi)
  refine ⟨b, off, e, ?_, ?_, ?_⟩
  · simp only [World.cell?, hb]; exact hc _ _ g0
  · simp only [World.cell?, hb]; exact hc (i * 3 + 1) _ g1
  · simp only [World.cell?, hb]; exact hc (i * 3 + 2) _ g2
theorem flat3_take (T : List V3) (k : Nat) : flat3 (T.take k) = (flat3 T).take (k * 3) := by
  induction T generalizing k with
  | nil => simp [flat3]
  | cons t T ih =>
    cases k with
    | zero => simp [flat3]
    | succ k =>
      rw [List.take_succ_cons, flat3_cons, flat3_cons, ih, show (k + 1) * 3 = k * 3 + 1 + 1 + 1 by omega]
      simp
theorem flat3_drop (T : List V3) (k : Nat) : flat3 (T.drop k) = (flat3 T).drop (k * 3) := by
  induction T generalizing k with
  | nil => simp [flat3]
  | cons t T ih =>
    cases k with
    | zero => simp
    | succ k =>
      rw [List.drop_succ_cons, flat3_cons, ih, show (k + 1) * 3 = k * 3 + 1 + 1 + 1 by omega]
      simp
/-- a row of one's own. -/
def Own3 (w : World) (base : Nat) (ty : TypeId) (v : Value) (T : List V3) : Prop := w.ownsRow base ty 3 v T.length (flat3 T) ∧ AllCells w v PlainV ∧ Ok3 T
theorem Own3.nil (w : World) (base : Nat) (ty : TypeId) : Own3 w base ty (.slice none 0 0) [] := ⟨World.ownsRow_nil _ _ _ _, fun g c t f hg => by simp [Value.ownBlock] at hg, Ok3.nil⟩
theorem Own3.move {w w' : World} {base : Nat} {ty : TypeId} {v : Value} {T : List V3} (h : Own3 w base ty v T) (hb : ∀ g, v.ownBlock = some g → w'.heap[g]? = w.heap[g]?) : Own3 w' base ty v T := ⟨ownsRow_move h.1 hb, h.2.1.move hb, h.2.2⟩
theorem Own3.later {w w' : World} {base : Nat} {ty : TypeId} {v : Value} {T : List V3} (h : Own3 w base ty v T) (hb : Below w.heap.size w w') : Own3 w' base ty v T := h.move fun g hg => hb.block g (h.1.lt g hg).2
theorem Own3.base {w : World} {base base' : Nat} {ty : TypeId} {v : Value} {T : List V3} (h : Own3 w base ty v T) (hb : base' ≤ base) : Own3 w base' ty v T := ⟨ownsRow_base h.1 hb, h.2⟩
theorem Own3.is3 {w : World} {base : Nat} {ty : TypeId} {v : Value} {T : List V3} (h : Own3 w base ty v T) : ∃ ao cap, v = .slice ao T.length cap ∧ Is3 w ty ao T.length cap T := by
  rcases h.1.2 with ⟨rfl, h0⟩ | ⟨g, cap, cur, rfl, hb, hg, hn, hm, hs, ht⟩
  · have : T = [] := List.eq_nil_of_length_eq_zero h0
    subst this
    exact ⟨none, 0, rfl, Is3.nil w ty⟩
  · refine ⟨_, cap, rfl, rfl, hn, hm, (fun h => by cases h), h.2.2, fun _ => ⟨g, 0, cur, _, rfl, hg, fun j u hu => ?_⟩⟩
    have hc := h.1.cells (g := g) rfl j u hu
    have : (⟨g, 0, none⟩ : Addr).add j = ⟨g, 0 + j, none⟩ := by unfold Addr.add; split <;> simp_all
    rw [this] at hc
    simp only [World.cell?, hg] at hc
    exact hc
/-- what the program says of such a type, and of slices of it. -/
structure Ty3 (ty sl : TypeId) : Prop where
  under : Try.prog.underlying sl = some (.slice ty)
  info : ∃ z b, (Try.prog.info? ty).map (fun i => (i.zero, i.size, i.bytes)) = some (some z, 3, b) ∧ b ≤ 1000 ∧ z.cells.size = 3 ∧ ∀ u, u ∈ z.cells → PlainV u
set_option maxRecDepth 100000 in
theorem run_append3 {w : World} {et sl : TypeId} (hT : Ty3 et sl) (ty base : Nat) (v : Value) (T : List V3) (hown : Own3 w base et v T) (ao : Option Addr) (m c : Nat) (U : List V3) (hsrc : Is3 w et ao m c U) (hnm : T.length + m ≤ 100000000) (hbase : base ≤ w.heap.size) :
    ∃ v' w', (Builtin.append_ #[sl, sl] ty #[v, .slice ao m c]).run Try.prog w = .ok v' w' ∧ Own3 w' base et v' (T ++ U) ∧ w.grownBy w' v.ownBlock ∧ (∀ g, v'.ownBlock = some g → v.ownBlock = some g ∨ w.heap.size ≤ g) := by
  obtain ⟨z, b, hinf, hb, hzs, hzu⟩ := hT.info
  obtain ⟨i0, hi, hz0, hz1, hz2⟩ := info_parts hinf
  have hl := hsrc.1
  cases ao with
  | none =>
    obtain ⟨rfl, rfl⟩ := hsrc.2.2.2.1 rfl
    obtain rfl : U = [] := List.eq_nil_of_length_eq_zero hl
    exact ⟨v, w, run_append_owned_none (P := Try.prog) (w := w) base _ ty _ i0 3 hT.under hi v _ _ hown.1, by rw [List.append_nil]; exact hown, ⟨rfl, rfl, rfl, Nat.le_refl _, fun _ _ _ => rfl⟩, fun g hg => .inl hg⟩
  | some ad =>
    have hcells : ∀ j u, (flat3 U)[j]? = some u → w.cell? (ad.add j) = some u := by
      intro j u hu
      have hj : 0 < m := by
        rcases Nat.eq_zero_or_pos m with h0 | h0
        · rw [h0] at hl
          rw [List.eq_nil_of_length_eq_zero hl] at hu
          simp [flat3] at hu
        · exact h0
      obtain ⟨b', off, c', fr, e, hb', hc⟩ := hsrc.2.2.2.2.2 hj
      injection e with e
      subst e
      have : (⟨b', off, none⟩ : Addr).add j = ⟨b', off + j, none⟩ := by unfold Addr.add; split <;> simp_all
      rw [this]
      simp only [World.cell?, hb']
      exact hc j u hu
    obtain ⟨v', w', hr, h2, h3, h4, _, h6⟩ := run_append_all (P := Try.prog) w base sl ty et i0 z 3 b hT.under hi hz0 hz1 hz2 hzs (by omega) v _ _ hown.1 ad m c (flat3 U) (by rw [flat3_length, hl]) hcells (fun u hu => (hsrc.2.2.2.2.1 u hu).1)
      (Nat.le_trans hnm (by unfold maxLen; omega)) (by
        have : (T.length + m) * b ≤ 100000000 * 1000 := Nat.mul_le_mul hnm hb
        omega) hbase PlainV hzu (fun u hu => (hsrc.2.2.2.2.1 u hu).2) hown.2.1
    refine ⟨v', w', hr, ⟨?_, h4, hown.2.2.append hsrc.2.2.2.2.1⟩, h3, fun g hg => (h6 g hg).imp id (fun e => Nat.le_of_eq e.symm)⟩
    rw [flat3_append, List.length_append, hl]; exact h2
theorem wpList_append3 {w : World} {et sl : TypeId} (hT : Ty3 et sl) {ops : Array Oper} {rest : List Oper} {o : Oper} {a : Act} {Q : Exit → Act → World → Prop} (hgd : o.guard = none) (s x : Operand)
    (ho : o.op = .call { callee := .builtin .append, args := #[s, x], argTypes := #[sl, sl] })
    (base : Nat) (v : Value) (T : List V3) (hs : a.eval s = v) (hown : Own3 w base et v T)
    (ao : Option Addr) (m c : Nat) (U : List V3) (hx : a.eval x = .slice ao m c) (hsrc : Is3 w et ao m c U) (hnm : T.length + m ≤ 100000000) (hbase : base ≤ w.heap.size)
    (h : ∀ v' w', Own3 w' base et v' (T ++ U) → w.grownBy w' v.ownBlock → (∀ g, v'.ownBlock = some g → v.ownBlock = some g ∨ w.heap.size ≤ g) → wpList Try.prog ops Q rest (a.put o.dst v') w') : wpList Try.prog ops Q (o :: rest) a w := by
  obtain ⟨v', w', hr, h2, h3, h4⟩ := run_append3 hT o.type base v T hown ao m c U hsrc hnm hbase
  refine wpList_plain hgd fun K hK => ?_
  unfold Oper.wp execOp
  simp only [ho, resolve, invoke, builtin, Sem.run_bind, Sem.run_pure, Result.andThen_ok, List.map_toArray, List.map_cons, List.map_nil, hs, hx, hr]
  exact hK _ _ (h v' w' h2 h3 h4)
theorem ty3_act : Ty3 92 88 := by
  refine ⟨Try.underlying88, .agg #[.bool false, .int .i64 0, .slice none 0 0], 40, by kernel_rfl, by omega, rfl, fun u hu => ?_⟩
  have hu' : u ∈ #[Value.bool false, .int .i64 0, .slice none 0 0] := hu
  simp at hu'
  rcases hu' with rfl | rfl | rfl <;> rfl
theorem ty3_file : Ty3 90 41 := by
  refine ⟨Try.underlying41, .agg #[.string ⟨#[]⟩, .slice none 0 0, .slice none 0 0], 64, by kernel_rfl, by omega, rfl, fun u hu => ?_⟩
  have hu' : u ∈ #[Value.string ⟨#[]⟩, .slice none 0 0, .slice none 0 0] := hu
  simp at hu'
  rcases hu' with rfl | rfl <;> rfl
end Go.Proofs.Ytmpjjkfbojhfoaa

/- the reference's disk (apportionref27): its memory; bytes, Bytes, units -/
namespace Go.Proofs.Ytmpjjkfbojhfoaa
open Go.RowKit
set_option linter.unusedSectionVars false
variable [Zone]
/-- an act's three cells. -/
def IsRAct (w : World) (c0 c1 c2 : Value) : Deed → Prop
  | .more x => c0 = .bool false ∧ c1 = .int .i64 0 ∧ ∃ a n c, c2 = .slice a n c ∧ IsBytesZ w a n c x
  | .cut z => c0 = .bool true ∧ c1 = .int .i64 (z : Int) ∧ c2 = .slice none 0 0
theorem IsRAct.moved {w w' : World} {c0 c1 c2 : Value} {d : Deed} (h : IsRAct w c0 c1 c2 d) (hm : ∀ j off v, w.cell? ⟨j, off, none⟩ = some (.int .u8 v) → w'.heap[j]? = w.heap[j]?) : IsRAct w' c0 c1 c2 d := by
  cases d with
  | more x => obtain ⟨h0, h1, a, n, c, e, hb⟩ := h; exact ⟨h0, h1, a, n, c, e, hb.moved hm⟩
  | cut z => exact h
/-- the cells of acts. -/
def Acts3 (w : World) (T : List V3) (D : List Deed) : Prop := T.length = D.length ∧ ∀ i, i < D.length → IsRAct w (T.getD i v30).1 (T.getD i v30).2.1 (T.getD i v30).2.2 (D.getD i (.cut 0))
theorem Acts3.nil (w : World) : Acts3 w [] [] := ⟨rfl, fun i h => absurd h (by simp)⟩
theorem Acts3.moved {w w' : World} {T : List V3} {D : List Deed} (h : Acts3 w T D) (hm : ∀ j off v, w.cell? ⟨j, off, none⟩ = some (.int .u8 v) → w'.heap[j]? = w.heap[j]?) : Acts3 w' T D := ⟨h.1, fun i hi => (h.2 i hi).moved hm⟩
theorem Acts3.later {w w' : World} {T : List V3} {D : List Deed} (h : Acts3 w T D) (hb : Below w.heap.size w w') : Acts3 w' T D := h.moved fun j _ _ hc => hb.block j (block_lt_of_cell hc)
theorem Acts3.push {w : World} {T : List V3} {D : List Deed} {t : V3} {d : Deed} (h : Acts3 w T D) (ht : IsRAct w t.1 t.2.1 t.2.2 d) : Acts3 w (T ++ [t]) (D ++ [d]) := by
  refine ⟨by simp [h.1], fun i hi => ?_⟩
  simp only [List.length_append, List.length_cons, List.length_nil] at hi
  by_cases hl : i < D.length
  · have e1 : (T ++ [t]).getD i v30 = T.getD i v30 := by simp [List.getD_eq_getElem?_getD, List.getElem?_append_left (show i < T.length by rw [h.1]; exact hl)]
    have e2 : (D ++ [d]).getD i (.cut 0) = D.getD i (.cut 0) := by simp [List.getD_eq_getElem?_getD, List.getElem?_append_left hl]
    rw [e1, e2]
    exact h.2 i hl
  · obtain rfl : i = D.length := by omega
    have e1 : (T ++ [t]).getD D.length v30 = t := by rw [← h.1]; simp [List.getD_eq_getElem?_getD]
    have e2 : (D ++ [d]).getD D.length (.cut 0) = d := by simp [List.getD_eq_getElem?_getD]
    rw [e1, e2]
    exact ht
/-- a slice of acts. -/
def IsRActs (w : World) (ao : Option Addr) (n cap : Nat) (D : List Deed) : Prop := ∃ T, Is3 w 92 ao n cap T ∧ Acts3 w T D
theorem IsRActs.nil (w : World) : IsRActs w none 0 0 [] := ⟨[], Is3.nil _ _, Acts3.nil w⟩
theorem IsRActs.len {w : World} {ao : Option Addr} {n cap : Nat} {D : List Deed} (h : IsRActs w ao n cap D) : D.length = n ∧ n ≤ cap ∧ cap ≤ maxLen := by
  obtain ⟨T, h1, h2⟩ := h
  exact ⟨h2.1.symm.trans h1.1, h1.2.1, h1.2.2.1⟩
theorem IsRActs.cells {w : World} {ao : Option Addr} {n cap : Nat} {D : List Deed} (h : IsRActs w ao n cap D) {i : Nat} (hi : i < n) : ∃ b off c0 c1 c2, ao = some ⟨b, off, none⟩ ∧ w.cell? ⟨b, off + i * 3, none⟩ = some c0 ∧ w.cell? ⟨b, off + i * 3 + 1, none⟩ = some c1 ∧ w.cell? ⟨b, off + i * 3 + 2, none⟩ = some c2 ∧ IsRAct w c0 c1 c2 (D.getD i (.cut 0)) := by
  have hl := h.len.1
  obtain ⟨T, h1, h2⟩ := h
  obtain ⟨b, off, e, g0, g1, g2⟩ := h1.cells hi
  exact ⟨b, off, _, _, _, e, g0, g1, g2, h2.2 i (by omega)⟩
theorem IsRActs.moved {w w' : World} {ao : Option Addr} {n cap : Nat} {D : List Deed} (h : IsRActs w ao n cap D) (hm : ∀ j off v, w.cell? ⟨j, off, none⟩ = some (.int .u8 v) → w'.heap[j]? = w.heap[j]?)
    (ha : ∀ (j : Nat) (c : Array Value) (fr : Nat × Nat), w.heap[j]? = some (Obj.cells c 92 fr) → w'.heap[j]? = w.heap[j]?) : IsRActs w' ao n cap D := by
  obtain ⟨T, h1, h2⟩ := h
  exact ⟨T, h1.move ha, h2.moved hm⟩
theorem IsRActs.later {w w' : World} {ao : Option Addr} {n cap : Nat} {D : List Deed} (h : IsRActs w ao n cap D) (hb : Below w.heap.size w w') : IsRActs w' ao n cap D :=
  h.moved (fun j _ _ hc => hb.block j (block_lt_of_cell hc)) (fun j _ _ hj => hb.block j (heap_lt hj))
set_option maxRecDepth 100000 in
theorem rbytes_any (ao : Option Addr) (n cap : Nat) (S : List UInt8) (al : Option Addr) (m capl : Nat) (D : List Deed) (w : World) (hs : IsBytes w ao n cap S) (hd : IsRActs w al m capl D) (hf : fitsD S D) (hsm : S.length + unitsD D ≤ 4294967296) :
    Calls Try.prog 74 #[.slice ao n cap, .slice al m capl] w fun e w' => ∃ v, e = .returned v ∧ OwnB w' w.heap.size v (runD S D) ∧ Below w.heap.size w w' := by
  have hm := hd.len.2.1
  have hcm := hd.len.2.2
  unfold maxLen at hcm
  have HS := Lib.hid hs
  have HD := Lib.hid hd
  have HF := Lib.hid hf
  have HSM := Lib.hid hsm
  have HSL : Hid (S.length = n) := Lib.hid hs.1
  clear hs hd hf hsm
  go_enter Try.func74, Try.ntmps74
  go_wp2_with (at_builtin; refine wpList_append_bytes rfl _ _ rfl w.heap.size (.slice (some ⟨w.heap.size, 0, none⟩) 0 0) [] rfl (OwnB.none_new w _ (Nat.le_refl _)) ao n cap S rfl (HS.out.later ((Below.refl _ _).alloc (Nat.le_refl _) _)) (by have := HSL.out; have := HSM.out; simp; omega) (by simp) ?_; intro v1 w1 hown1 hg1; have H1 := Lib.hid (And.intro (show OwnB w1 w.heap.size v1 S from hown1) (((Below.refl _ _).alloc (Nat.le_refl _) _).grown hg1 (by simp) (fun k hk => ((OwnB.none_new w _ (Nat.le_refl _)).1.lt k hk).1))); clear hown1 hg1)
  go_loopw [5, 6] (fun b5 i wr => ∃ k b, k ≤ m ∧ i = .int .i64 ((k : Nat) : Int) ∧ Hid (OwnB wr w.heap.size b5 b) ∧ Hid (runD S D = runD b (D.drop k) ∧ b.length ≤ S.length + ((D.take k).map Deed.units).sum ∧ fitsD b (D.drop k)) ∧ Hid (Below w.heap.size w wr)) (fun _ i _ => m - (intOf i).toNat)
  case atStart => exact ⟨0, S, by omega, rfl, Lib.hid H1.out.1, Lib.hid ⟨rfl, by simp, HF.out⟩, Lib.hid H1.out.2⟩
  case round =>
    obtain ⟨k, b, hk, rfl, hown, heq, hbl⟩ := hrel
    by_cases hlt : k < m
    · have hi0 : (0 : Int) ≤ (k : Int) := by omega
      have hi5 : (k : Int) < (m : Int) := by omega
      obtain ⟨g, off, c0, c1, c2, rfl, g0, g1, g2, hv⟩ := (HD.out.later hbl.out).cells hlt
      have hkl : k < D.length := by rw [HD.out.len.1]; exact hlt
      obtain ⟨x, hx⟩ : ∃ x, x = D.getD k (.cut 0) := ⟨_, rfl⟩
      have hdk : D.drop k = x :: D.drop (k + 1) := by
        rw [List.drop_eq_getElem_cons hkl, hx, List.getD_eq_getElem?_getD, List.getElem?_eq_getElem hkl]; rfl
      have hun := take_units HD.out.len.1 hlt
      rw [← hx] at hun hv
      have hle := take_units_le D (k + 1)
      have HX := Lib.hid (And.intro hdk (And.intro hun hle))
      obtain ⟨a5, cap5, e5, hb5, _⟩ := hown.out.bytes
      subst e5
      clear hdk hun hle hx
      cases x with
      | more bs =>
        obtain ⟨rfl, rfl, a, q, cq, rfl, hbs, _⟩ := hv
        have HBS := Lib.hid hbs
        have hnm : b.length + q ≤ 140737488355328 := by
          obtain ⟨r1, r2, r3⟩ := HX.out
          have := heq.out.2.1
          have := HSM.out
          have := hbs.1
          simp only [Deed.units] at r2
          unfold unitsD at *
          omega
        clear hbs hb5
        go_wp2_with (at_builtin; refine wpList_append_bytes rfl _ _ rfl w.heap.size _ b rfl hown.out a q cq bs rfl HBS.out hnm hbl.out.size ?_; intro v2 w2 hown2 hg2; have H2 := Lib.hid (And.intro hown2 (hbl.out.grown hg2 hbl.out.size (fun j hj => (hown.out.1.lt j hj).1))); clear hown2 hg2)
        go_roundw
        case rel =>
          obtain ⟨r1, r2, r3⟩ := HX.out
          obtain ⟨s1, s2, s3⟩ := heq.out
          refine ⟨k + 1, b ++ bs, by omega, by go_num, Lib.hid H2.out.1, Lib.hid ⟨?_, ?_, ?_⟩, Lib.hid H2.out.2⟩
          · rw [s1, r1]; rfl
          · simp only [Deed.units] at r2
            rw [List.length_append]
            omega
          · rw [r1] at s3; exact s3
        case measure => simp [intOf]; omega
      | cut y =>
        obtain ⟨rfl, rfl, rfl⟩ := hv
        have hyb : y ≤ b.length ∧ fitsD (b.take y) (D.drop (k + 1)) := by
          have := heq.out.2.2
          rw [HX.out.1] at this
          exact this
        have hst := slice_to hb5 y hyb.1
        have hsl := hst.1
        have HY := Lib.hid hyb
        clear hst hyb hb5
        go_wp2_with fail
        go_roundw
        case rel =>
          obtain ⟨r1, r2, r3⟩ := HX.out
          obtain ⟨s1, s2, s3⟩ := heq.out
          refine ⟨k + 1, b.take y, by omega, by go_num, Lib.hid (hown.out.short y HY.out.1), Lib.hid ⟨?_, ?_, HY.out.2⟩, hbl⟩
          · rw [s1, r1]; rfl
          · simp only [Deed.units] at r2
            rw [List.length_take]
            omega
        case measure => simp [intOf]; omega
    · obtain rfl : k = m := by omega
      go_wp2_with fail
      go_ret
      have h1 := heq.out.1
      rw [List.drop_of_length_le (by rw [HD.out.len.1]; exact Nat.le_refl _)] at h1
      rw [h1]
      exact ⟨_, rfl, hown.out, hbl.out⟩
theorem take_units_all (D : List Deed) (n : Nat) (h : D.length = n) : ((D.take n).map Deed.units).sum = unitsD D := by
  rw [List.take_of_length_le (by omega)]
  rfl
set_option maxRecDepth 100000 in
theorem Bytes_any (nm : ByteArray) (ao : Option Addr) (n cap : Nat) (S : List UInt8) (al : Option Addr) (m capl : Nat) (D : List Deed) (w : World) (hs : IsBytes w ao n cap S) (hd : IsRActs w al m capl D) (hf : fitsD S D) (hsm : S.length + unitsD D ≤ 4294967296) :
    Calls Try.prog 51 #[.agg #[.string nm, .slice ao n cap, .slice al m capl]] w fun e w' => ∃ v, e = .returned v ∧ OwnB w' w.heap.size v (runD S D) ∧ Below w.heap.size w w' := by
  have HS := Lib.hid (And.intro hs (And.intro hd (And.intro hf hsm)))
  clear hs hd hf hsm
  go_enter Try.func51, Try.ntmps51
  go_wp2_with fail
  have hb1 : Below w.heap.size w (w.alloc (.cells #[.string nm, .slice ao n cap, .slice al m capl] 90)) := (Below.refl _ _).alloc (Nat.le_refl _) _
  have HB1 := Lib.hid hb1
  refine (rbytes_any ao n cap S al m capl D _ (HS.out.1.later hb1) (HS.out.2.1.later hb1) HS.out.2.2.1 HS.out.2.2.2).mono ?_
  clear hb1
  rintro e w2 ⟨v, rfl, hown, hb⟩
  have H2 : Hid (OwnB w2 w.heap.size v (runD S D) ∧ Below w.heap.size w w2) := Lib.hid ⟨⟨ownsRow_base hown.1 HB1.out.size, hown.2⟩, HB1.out.trans (hb.mono HB1.out.size)⟩
  clear hown hb
  go_wp2_with fail
  go_ret
  exact ⟨_, rfl, H2.out⟩
set_option maxRecDepth 100000 in
theorem units_any (nm : ByteArray) (sv : Value) (al : Option Addr) (m capl : Nat) (D : List Deed) (w : World) (hd : IsRActs w al m capl D) (hsm : unitsD D ≤ 4294967296) :
    Calls Try.prog 53 #[.agg #[.string nm, sv, .slice al m capl]] w fun e w' => e = .returned (.int .i64 (unitsD D : Nat)) ∧ Below w.heap.size w w' := by
  have hm := hd.len.2.1
  have hcm := hd.len.2.2
  unfold maxLen at hcm
  have HD := Lib.hid hd
  have HSM := Lib.hid hsm
  clear hd hsm
  go_enter Try.func53, Try.ntmps53
  go_wp2_with fail
  have hb1 : Below w.heap.size w (w.alloc (.cells #[.string nm, sv, .slice al m capl] 90)) := (Below.refl _ _).alloc (Nat.le_refl _) _
  have hx := heap_alloc_new w (.cells #[.string nm, sv, .slice al m capl] 90)
  obtain ⟨N, hN⟩ : ∃ N, N = w.heap.size := ⟨_, rfl⟩
  rw [← hN] at hx ⊢
  generalize w.alloc (.cells #[.string nm, sv, .slice al m capl] 90) = w1 at hb1 hx ⊢
  have HB1 := Lib.hid (And.intro hb1 hN)
  have c2 : w1.cell? ⟨N, 2, none⟩ = some (.slice al m capl) := cell_of_row _ _ _ _ _ _ hx
  clear hb1 hx hN
  go_wp2_with fail
  go_loopw [3, 4] (fun s i wr => ∃ k : Nat, k ≤ m ∧ i = .int .i64 ((k : Nat) : Int) ∧ s = .int .i64 (((D.take k).map Deed.units).sum : Nat) ∧ w1 = wr) (fun _ i _ => m - (intOf i).toNat)
  case atStart => exact ⟨0, by omega, rfl, rfl, rfl⟩
  case round =>
    obtain ⟨k, hk, rfl, rfl, rfl⟩ := hrel
    by_cases hlt : k < m
    · have hi0 : (0 : Int) ≤ (k : Int) := by omega
      have hi5 : (k : Int) < (m : Int) := by omega
      obtain ⟨g, off, q0, q1, q2, rfl, g0, g1, g2, hv⟩ := (HD.out.later HB1.out.1).cells hlt
      obtain ⟨x, hx⟩ : ∃ x, x = D.getD k (.cut 0) := ⟨_, rfl⟩
      have hun := take_units HD.out.len.1 hlt
      rw [← hx] at hun hv
      have hle := Nat.le_trans (take_units_le D (k + 1)) HSM.out
      obtain ⟨t, ht⟩ : ∃ t, t = ((D.take k).map Deed.units).sum := ⟨_, rfl⟩
      rw [← ht] at hun ⊢
      have HU := Lib.hid (And.intro hun hle)
      clear hx ht
      cases x with
      | more bs =>
        obtain ⟨rfl, rfl, a, q, cq, rfl, hbs, _⟩ := hv
        have hql := hbs.1
        have hw : IntKind.i64.wrap ((t : Int) + (q : Int)) = (t : Int) + (q : Int) := IntWalk.i64_in _ (by simp only [Deed.units] at hun; omega)
        have HQ := Lib.hid hql
        clear hbs hun hle hql
        go_wp2_with fail
        go_roundw
        case rel => exact ⟨k + 1, by omega, by go_num, by have h1 := HU.out.1; simp only [Deed.units] at h1; rw [h1, HQ.out]; push_cast; rfl, trivial⟩
        case measure => simp [intOf]; omega
      | cut y =>
        obtain ⟨rfl, rfl, rfl⟩ := hv
        have hw : IntKind.i64.wrap ((t : Int) + 1) = (t : Int) + 1 := IntWalk.i64_in _ (by simp only [Deed.units] at hun; omega)
        clear hun hle
        go_wp2_with fail
        go_roundw
        case rel => exact ⟨k + 1, by omega, by go_num, by have h1 := HU.out.1; simp only [Deed.units] at h1; rw [h1]; push_cast; rfl, trivial⟩
        case measure => simp [intOf]; omega
    · obtain rfl : k = m := by omega
      rw [take_units_all D k HD.out.len.1]
      go_wp2_with fail
      go_ret
      exact ⟨rfl, HB1.out.2 ▸ HB1.out.1⟩
end Go.Proofs.Ytmpjjkfbojhfoaa

/- the reference's disk: At, step, Fuse, Loose, Read -/
namespace Go.Proofs.Ytmpjjkfbojhfoaa
open Go.RowKit
set_option linter.unusedSectionVars false
variable [Zone]
/-- a file: its name, its safe bytes, what is under way. -/
abbrev FileV := ByteArray × List UInt8 × List Deed
def f0 : FileV := (ByteArray.empty, [], [])
/-- a file's three cells. -/
def IsRFile (w : World) (t : V3) (x : FileV) : Prop := t.1 = .string x.1 ∧ (∃ a n c, t.2.1 = .slice a n c ∧ IsBytesZ w a n c x.2.1) ∧ (∃ a n c, t.2.2 = .slice a n c ∧ IsRActs w a n c x.2.2)
def Files3 (w : World) (T : List V3) (R : List FileV) : Prop := T.length = R.length ∧ ∀ i, i < R.length → IsRFile w (T.getD i v30) (R.getD i f0)
theorem IsRFile.moved {w w' : World} {t : V3} {x : FileV} (h : IsRFile w t x) (hm : ∀ j off v, w.cell? ⟨j, off, none⟩ = some (.int .u8 v) → w'.heap[j]? = w.heap[j]?)
    (ha : ∀ (j : Nat) (c : Array Value) (fr : Nat × Nat), w.heap[j]? = some (Obj.cells c 92 fr) → w'.heap[j]? = w.heap[j]?) : IsRFile w' t x := by
  obtain ⟨h0, ⟨a, n, c, e, hb⟩, ⟨a2, n2, c2, e2, hd⟩⟩ := h
  exact ⟨h0, ⟨a, n, c, e, hb.moved hm⟩, ⟨a2, n2, c2, e2, hd.moved hm ha⟩⟩
theorem Files3.moved {w w' : World} {T : List V3} {R : List FileV} (h : Files3 w T R) (hm : ∀ j off v, w.cell? ⟨j, off, none⟩ = some (.int .u8 v) → w'.heap[j]? = w.heap[j]?)
    (ha : ∀ (j : Nat) (c : Array Value) (fr : Nat × Nat), w.heap[j]? = some (Obj.cells c 92 fr) → w'.heap[j]? = w.heap[j]?) : Files3 w' T R := ⟨h.1, fun i hi => (h.2 i hi).moved hm ha⟩
theorem Files3.later {w w' : World} {T : List V3} {R : List FileV} (h : Files3 w T R) (hb : Below w.heap.size w w') : Files3 w' T R := h.moved (fun j _ _ hc => hb.block j (block_lt_of_cell hc)) (fun j _ _ hj => hb.block j (heap_lt hj))
/-- a disk's own five cells. -/
def RefRow (w : World) (r : Nat) (v : Value) (N : Int) (fz : Bool) (lf : Int) (out : Bool) : Prop := w.heap[r]? = some (.cells #[v, .int .i64 N, .bool fz, .int .i64 lf, .bool out] 43 (0, 0))
/-- the reference's disk. -/
def RefAt (w : World) (r base : Nat) (R : List FileV) (N : Int) (fz : Bool) (lf : Int) (out : Bool) : Prop := base ≤ r ∧ ∃ v T, RefRow w r v N fz lf out ∧ Own3 w base 90 v T ∧ Files3 w T R
theorem RefRow.lt {w : World} {r : Nat} {v : Value} {N lf : Int} {fz out : Bool} (h : RefRow w r v N fz lf out) : r < w.heap.size := heap_lt h
theorem RefAt.later {w w' : World} {r base : Nat} {R : List FileV} {N lf : Int} {fz out : Bool} (h : RefAt w r base R N fz lf out) (hb : Below w.heap.size w w') : RefAt w' r base R N fz lf out := by
  obtain ⟨h0, v, T, h1, h2, h3⟩ := h
  exact ⟨h0, v, T, (hb.block r h1.lt).trans h1, h2.later hb, h3.later hb⟩
/-- the block in which a disk's files lie. -/
def listOf (w : World) (r : Nat) : Option Nat := match w.cell? ⟨r, 0, none⟩ with
  | some v => v.ownBlock
  | none => none
theorem listOf_row {w : World} {r : Nat} {v : Value} {N lf : Int} {fz out : Bool} (h : RefRow w r v N fz lf out) : listOf w r = v.ownBlock := by
  unfold listOf
  rw [cell_of_row _ _ _ _ _ _ h]
  rfl
theorem listOf_same {w w' : World} {r : Nat} (h : w'.heap[r]? = w.heap[r]?) : listOf w' r = listOf w r := by
  unfold listOf
  rw [World.cell?_of_block (w := w) h]
/-- of the old blocks only r, and that in which its files lie, may have changed. -/
structure MovedR (r base : Nat) (w w' : World) : Prop where
  below : Below base w w'
  block : ∀ j, j < w.heap.size → j ≠ r → listOf w r ≠ some j → w'.heap[j]? = w.heap[j]?
  row : ∀ k, listOf w' r = some k → listOf w r = some k ∨ w.heap.size ≤ k
theorem MovedR.refl (r base : Nat) (w : World) : MovedR r base w w := ⟨Below.refl _ _, fun _ _ _ _ => rfl, fun _ h => .inl h⟩
theorem MovedR.trans {r base : Nat} {a b c : World} (h : MovedR r base a b) (k : MovedR r base b c) : MovedR r base a c := by
  refine ⟨h.below.trans k.below, fun j hj h1 h2 => ?_, fun x hx => ?_⟩
  · refine (k.block j (Nat.lt_of_lt_of_le hj h.below.size) h1 (fun hr => ?_)).trans (h.block j hj h1 h2)
    rcases h.row j hr with q | q
    · exact h2 q
    · omega
  · rcases k.row x hx with q | q
    · exact h.row x q
    · exact .inr (Nat.le_trans h.below.size q)
theorem MovedR.of_below {r base : Nat} {w w' : World} (h : Below w.heap.size w w') (hr : r < w.heap.size) (hb : base ≤ w.heap.size) : MovedR r base w w' :=
  ⟨h.mono hb, fun j hj _ _ => h.block j hj, fun k hk => .inl (by rwa [listOf_same (h.block r hr)] at hk)⟩
/-- where a name stands. -/
def AtR (s : ByteArray) (R : List FileV) (z : Int) : Prop := (∃ k : Nat, z = (k : Int) ∧ k < R.length ∧ (R.getD k f0).1 = s ∧ ∀ j, j < k → (R.getD j f0).1 ≠ s) ∨ (z = -1 ∧ ∀ j, j < R.length → (R.getD j f0).1 ≠ s)
set_option maxRecDepth 100000 in
theorem At_any (s : ByteArray) (r base : Nat) (R : List FileV) (N : Int) (fz : Bool) (lf : Int) (out : Bool) (w : World) (h : RefAt w r base R N fz lf out) :
    Calls Try.prog 49 #[.pointer (some ⟨r, 0, none⟩), .string s] w fun e w' => ∃ z, e = .returned (.int .i64 z) ∧ AtR s R z ∧ w = w' := by
  obtain ⟨hbr, v, T, hr, hown, hf⟩ := h
  obtain ⟨ao, cap, hv, h3⟩ := hown.is3
  subst hv
  have hTl := hf.1
  have hcap := h3.2.1
  have hcm := h3.2.2.1
  unfold maxLen at hcm
  obtain ⟨n, hn⟩ : ∃ n, n = T.length := ⟨_, rfl⟩
  rw [← hn] at hr h3 hcap
  have r0 : w.cell? ⟨r, 0, none⟩ = some (.slice ao n cap) := cell_of_row _ _ _ _ _ _ hr
  have H3 := Lib.hid (And.intro h3 (And.intro hf (show R.length = n by omega)))
  clear hr hown h3 hf hn hTl
  go_enter Try.func49, Try.ntmps49
  go_wp2_with fail
  go_loopw [5] (fun i wr => ∃ k : Nat, k ≤ n ∧ i = .int .i64 k ∧ Hid (∀ j, j < k → (R.getD j f0).1 ≠ s) ∧ w = wr) (fun i _ => n - (intOf i).toNat)
  case atStart => exact ⟨0, by omega, rfl, Lib.hid (fun j hj => absurd hj (by omega)), rfl⟩
  case round =>
    obtain ⟨k, hk, rfl, hall, rfl⟩ := hrel
    by_cases hlt : k < n
    · have hi0 : (0 : Int) ≤ (k : Int) := by omega
      have hi1 : (k : Int) < (n : Int) := by omega
      obtain ⟨b, off, rfl, g0, _, _⟩ := H3.out.1.cells hlt
      have hfk := H3.out.2.1.2 k (by rw [H3.out.2.2]; exact hlt)
      rw [hfk.1] at g0
      obtain ⟨x, hx⟩ : ∃ x, x = (R.getD k f0).1 := ⟨_, rfl⟩
      rw [← hx] at g0
      have HX := Lib.hid hx
      clear hfk hx
      by_cases hxs : x = s
      · have hbx : (x.toList == s.toList) = true := by rw [hxs]; simp
        go_wp2_with fail
        go_ret
        exact ⟨k, rfl, .inl ⟨k, rfl, by rw [H3.out.2.2]; exact hlt, by rw [← HX.out, hxs], hall.out⟩, rfl⟩
      · have hbx : (x.toList == s.toList) = false := by
          rw [Lib.toList_data, Lib.toList_data]
          exact beq_false_of_ne (fun e => hxs (bytes_inj e))
        go_wp2_with fail
        go_roundw
        case rel =>
          refine ⟨k + 1, by omega, by go_num, Lib.hid (fun j hj => ?_), trivial⟩
          rcases Nat.lt_succ_iff_lt_or_eq.1 hj with hj | rfl
          · exact hall.out j hj
          · rw [← HX.out]; exact hxs
        case measure => simp [intOf]; omega
    · obtain rfl : k = n := by omega
      have hi1 : ¬ (k : Int) < (k : Int) := by omega
      go_wp2_with fail
      go_ret
      exact ⟨-1, rfl, .inr ⟨rfl, by rw [H3.out.2.2]; exact hall.out⟩, rfl⟩
/-- r's own cells change: its files stay. -/
theorem RefAt.cell {w : World} {r base : Nat} {R : List FileV} {N lf N' lf' : Int} {fz out fz' out' : Bool} {off : Nat} {u : Value} (h : RefAt w r base R N fz lf out) (hnew : ∀ v, RefRow w r v N fz lf out → RefRow (w.setCell ⟨r, off, none⟩ u) r v N' fz' lf' out'):
    RefAt (w.setCell ⟨r, off, none⟩ u) r base R N' fz' lf' out' ∧ MovedR r base w (w.setCell ⟨r, off, none⟩ u) := by
  obtain ⟨hbr, v, T, hr, hown, hf⟩ := h
  have hne : v.ownBlock ≠ some r := by
    intro e
    rcases hown.1.2 with ⟨rfl, _⟩ | ⟨g, cap, cur, rfl, _, hg, _⟩
    · simp [Value.ownBlock] at e
    · simp only [Value.ownBlock, Option.some.injEq] at e
      subst e
      unfold RefRow at hr
      rw [hr] at hg
      injection hg with hg
      injection hg with _ hg
      exact absurd hg (by decide)
  have hpl : ∀ j o x, w.cell? ⟨j, o, none⟩ = some (.int .u8 x) → (w.setCell ⟨r, off, none⟩ u).heap[j]? = w.heap[j]? := by
    intro j o x hc
    refine Below.heap_setCell _ _ _ _ (fun e => ?_)
    obtain ⟨ao, cap, rfl, _⟩ := hown.is3
    have hp : Plain w r := plain_of_cells hr (by simp [plainV])
    have e' : j = r := e
    rw [e'] at hc
    have := hp _ _ hc
    simp [plainV] at this
  refine ⟨⟨hbr, v, T, hnew v hr, hown.move (fun g hg => Below.heap_setCell _ _ _ _ (fun e => hne (hg.trans (congrArg some e)))), hf.moved hpl (fun j c fr hj => Below.heap_setCell _ _ _ _ ?_)⟩, ⟨⟨rfl, rfl, rfl, by simp, fun j hj => Below.heap_setCell _ _ _ _ (by dsimp only; omega)⟩, fun j _ hj _ => Below.heap_setCell _ _ _ _ hj, fun k hk => .inl ?_⟩⟩
  · rintro rfl
    unfold RefRow at hr
    rw [hr] at hj
    injection hj with hj
    injection hj with _ hj
    exact absurd hj (by decide)
  · rw [listOf_row (hnew v hr)] at hk
    rw [listOf_row hr]
    exact hk
theorem RefRow.cells {w : World} {r : Nat} {v : Value} {N lf : Int} {fz out : Bool} (h : RefRow w r v N fz lf out) :
    w.cell? ⟨r, 0, none⟩ = some v ∧ w.cell? ⟨r, 1, none⟩ = some (.int .i64 N) ∧ w.cell? ⟨r, 2, none⟩ = some (.bool fz) ∧ w.cell? ⟨r, 3, none⟩ = some (.int .i64 lf) ∧ w.cell? ⟨r, 4, none⟩ = some (.bool out) :=
  ⟨cell_of_row _ _ _ _ _ _ h, cell_of_row _ _ _ _ _ _ h, cell_of_row _ _ _ _ _ _ h, cell_of_row _ _ _ _ _ _ h, cell_of_row _ _ _ _ _ _ h⟩
theorem RefAt.row {w : World} {r base : Nat} {R : List FileV} {N lf : Int} {fz out : Bool} (h : RefAt w r base R N fz lf out) : ∃ v, RefRow w r v N fz lf out := by
  obtain ⟨_, v, T, hr, _⟩ := h
  exact ⟨v, hr⟩
end Go.Proofs.Ytmpjjkfbojhfoaa

/- the reference's disk: step, Fuse, Loose, Read, name -/
namespace Go.Proofs.Ytmpjjkfbojhfoaa
open Go.RowKit
set_option linter.unusedSectionVars false
variable [Zone]
/-- what it tells. -/
def RStepR (r base : Nat) (R : List FileV) (N : Int) (fz : Bool) (lf : Int) (out : Bool) (w : World) (e : Ending) (w' : World) : Prop := MovedR r base w w' ∧ (((fz = true ∧ lf = 0) ∧ e = .returned (.bool false) ∧ RefAt w' r base R N fz lf true) ∨ (¬ (fz = true ∧ lf = 0) ∧ e = .returned (.bool true) ∧ RefAt w' r base R (N + 1) fz (if fz = true then lf - 1 else lf) out))
set_option maxRecDepth 100000 in
/-- a step of the reference's disk. -/
theorem rstep_any (r base : Nat) (R : List FileV) (N : Int) (fz : Bool) (lf : Int) (out : Bool) (w : World) (hN0 : 0 ≤ N) (hN1 : N ≤ 1000000) (hl0 : 0 ≤ lf) (hl1 : lf ≤ 9223372036854775807) (h : RefAt w r base R N fz lf out) :
    Calls Try.prog 52 #[.pointer (some ⟨r, 0, none⟩)] w fun e w' => RStepR r base R N fz lf out w e w' := by
  obtain ⟨v, hr⟩ := h.row
  obtain ⟨r0, r1, r2, r3, r4⟩ := hr.cells
  have H := Lib.hid h
  have z1 : w.frozen? ⟨r, 1, none⟩ = false := frozen_of_row _ _ _ _ _ hr
  have z3 : w.frozen? ⟨r, 3, none⟩ = false := frozen_of_row _ _ _ _ _ hr
  have z4 : w.frozen? ⟨r, 4, none⟩ = false := frozen_of_row _ _ _ _ _ hr
  have hwN : IntKind.i64.wrap (N + 1) = N + 1 := IntWalk.i64_in _ (by omega)
  cases fz with
  | true =>
    by_cases h0 : lf = 0
    · have h0b : (lf == 0) = true := by simp [h0]
      have HRES := Lib.hid (h.cell (off := 4) (u := .bool true) (N' := N) (fz' := true) (lf' := lf) (out' := true) (fun v hr => heap_setCell_same w r 4 _ _ (.bool true) hr))
      subst h0
      clear h hr r0 r1
      go_enter Try.func52, Try.ntmps52
      go_wp2_with fail
      go_ret
      unfold RStepR
      exact ⟨HRES.out.2, .inl ⟨⟨rfl, rfl⟩, rfl, HRES.out.1⟩⟩
    · have h0b : (lf == 0) = false := by simp [h0]
      have hw3 : IntKind.i64.wrap (lf - 1) = lf - 1 := IntWalk.i64_in _ (by omega)
      have HA := Lib.hid (h.cell (off := 3) (u := .int .i64 (lf - 1)) (N' := N) (fz' := true) (lf' := lf - 1) (out' := out) (fun v hr => heap_setCell_same w r 3 _ _ (.int .i64 (lf - 1)) hr))
      have HB := Lib.hid (HA.out.1.cell (off := 1) (u := .int .i64 (N + 1)) (N' := N + 1) (fz' := true) (lf' := lf - 1) (out' := out) (fun v hr => heap_setCell_same _ r 1 _ _ (.int .i64 (N + 1)) hr))
      clear h hr r0
      go_enter Try.func52, Try.ntmps52
      go_wp2_with fail
      go_ret
      unfold RStepR
      exact ⟨HA.out.2.trans HB.out.2, .inr ⟨fun q => h0 q.2, rfl, by rw [if_pos rfl]; exact HB.out.1⟩⟩
  | false =>
    have HB := Lib.hid (h.cell (off := 1) (u := .int .i64 (N + 1)) (N' := N + 1) (fz' := false) (lf' := lf) (out' := out) (fun v hr => heap_setCell_same _ r 1 _ _ (.int .i64 (N + 1)) hr))
    clear h hr r0
    go_enter Try.func52, Try.ntmps52
    go_wp2_with fail
    go_ret
    unfold RStepR
    exact ⟨HB.out.2, .inr ⟨(fun q => by cases q.1), rfl, by rw [if_neg (by simp)]; exact HB.out.1⟩⟩
/-- what it tells. -/
def RFuseR (r base : Nat) (R : List FileV) (N : Int) (fz : Bool) (lf z : Int) (out : Bool) (w : World) (e : Ending) (w' : World) : Prop := MovedR r base w w' ∧ ((z < 0 ∧ e = .returned (.int .i64 2) ∧ RefAt w' r base R N fz lf out) ∨ (0 ≤ z ∧ e = .returned (.int .i64 0) ∧ RefAt w' r base R N true z out))
set_option maxRecDepth 100000 in
theorem rFuse_any (r base : Nat) (R : List FileV) (N : Int) (fz : Bool) (lf z : Int) (out : Bool) (w : World) (h : RefAt w r base R N fz lf out) :
    Calls Try.prog 64 #[.pointer (some ⟨r, 0, none⟩), .int .i64 z] w fun e w' => RFuseR r base R N fz lf z out w e w' := by
  obtain ⟨v, hr⟩ := h.row
  have z2 : w.frozen? ⟨r, 2, none⟩ = false := frozen_of_row _ _ _ _ _ hr
  have hr2 := heap_setCell_same w r 2 _ _ (.bool true) hr
  have z3 : (w.setCell ⟨r, 2, none⟩ (.bool true)).frozen? ⟨r, 3, none⟩ = false := frozen_of_row _ _ _ _ _ hr2
  obtain ⟨r0, r1, r2, r3, r4⟩ := hr.cells
  have H := Lib.hid h
  have HA := Lib.hid (h.cell (off := 2) (u := .bool true) (N' := N) (fz' := true) (lf' := lf) (out' := out) (fun v hr => heap_setCell_same w r 2 _ _ (.bool true) hr))
  have HB := Lib.hid (HA.out.1.cell (off := 3) (u := .int .i64 z) (N' := N) (fz' := true) (lf' := z) (out' := out) (fun v hr => heap_setCell_same _ r 3 _ _ (.int .i64 z) hr))
  have z3b : w.frozen? ⟨r, 3, none⟩ = false := frozen_of_row _ _ _ _ _ hr
  clear h hr hr2 r0 r1 r4
  by_cases hz : z < 0
  · go_enter Try.func64, Try.ntmps64
    go_wp2_with fail
    go_ret
    unfold RFuseR
    exact ⟨MovedR.refl _ _ _, .inl ⟨hz, rfl, H.out⟩⟩
  · go_enter Try.func64, Try.ntmps64
    go_wp2_with fail
    go_ret
    unfold RFuseR
    exact ⟨HA.out.2.trans HB.out.2, .inr ⟨by omega, rfl, HB.out.1⟩⟩
/-- a file of the reference's disk, where it stands. -/
theorem RefAt.file {w : World} {r base : Nat} {R : List FileV} {N lf : Int} {fz out : Bool} (h : RefAt w r base R N fz lf out) : ∃ ao cap, RefRow w r (.slice ao R.length cap) N fz lf out ∧ R.length ≤ cap ∧ cap ≤ maxLen ∧ ∀ k, k < R.length → ∃ b off sa sn sc al m capl, ao = some ⟨b, off, none⟩ ∧
    w.cell? ⟨b, off + k * 3, none⟩ = some (.string (R.getD k f0).1) ∧ w.cell? ⟨b, off + k * 3 + 1, none⟩ = some (.slice sa sn sc) ∧ w.cell? ⟨b, off + k * 3 + 2, none⟩ = some (.slice al m capl) ∧ IsBytes w sa sn sc (R.getD k f0).2.1 ∧ IsRActs w al m capl (R.getD k f0).2.2 := by
  obtain ⟨_, v, T, hr, hown, hf⟩ := h
  obtain ⟨ao, cap, rfl, h3⟩ := hown.is3
  rw [hf.1] at hr h3
  refine ⟨ao, cap, hr, h3.2.1, h3.2.2.1, fun k hk => ?_⟩
  obtain ⟨b, off, e, g0, g1, g2⟩ := h3.cells hk
  obtain ⟨q0, ⟨a, n, c, e1, hb⟩, ⟨a2, n2, c2, e2, hd⟩⟩ := hf.2 k hk
  rw [q0] at g0
  rw [e1] at g1
  rw [e2] at g2
  exact ⟨b, off, a, n, c, a2, n2, c2, e, g0, g1, g2, hb.1, hd⟩
/-- what may be of a file of the reference's. -/
def FitF (x : FileV) : Prop := fitsD x.2.1 x.2.2 ∧ x.2.1.length + unitsD x.2.2 ≤ 4294967296
/-- what it tells. -/
def RLooseR (s : ByteArray) (R : List FileV) (w : World) (e : Ending) (w' : World) : Prop := ∃ z, AtR s R z ∧ e = .returned (.int .i64 (if 0 ≤ z then ((unitsD (R.getD z.toNat f0).2.2 : Nat) : Int) else 0)) ∧ Below w.heap.size w w'
set_option maxRecDepth 100000 in
theorem rLoose_any (s : ByteArray) (r base : Nat) (R : List FileV) (N : Int) (fz : Bool) (lf : Int) (out : Bool) (w : World) (h : RefAt w r base R N fz lf out) (hfit : ∀ k, k < R.length → FitF (R.getD k f0)) :
    Calls Try.prog 22 #[.pointer (some ⟨r, 0, none⟩), .string s] w fun e w' => RLooseR s R w e w' := by
  have HAt := Lib.hid (At_any s r base R N fz lf out w h)
  have HF := Lib.hid (And.intro h.file hfit)
  clear h hfit
  go_enter Try.func22, Try.ntmps22
  go_wp2_with fail
  refine HAt.out.mono ?_
  rintro e w' ⟨z, rfl, hz, rfl⟩
  have HZ := Lib.hid hz
  rcases hz with ⟨k, rfl, hk, _, _⟩ | ⟨rfl, _⟩
  · obtain ⟨⟨ao, cap, hr, hcap, hcm, hcell⟩, hfit⟩ := HF.out
    obtain ⟨b, off, sa, sn, sc, al, m, capl, rfl, g0, g1, g2, hb, hd⟩ := hcell k hk
    have hu := (hfit k hk).2
    obtain ⟨n, hn⟩ : ∃ n, n = R.length := ⟨_, rfl⟩
    rw [← hn] at hr hcap
    obtain ⟨x, hx⟩ : ∃ x, x = R.getD k f0 := ⟨_, rfl⟩
    rw [← hx] at g0 hb hd hu
    have r0 := hr.cells.1
    have hk0 : ¬ (k : Int) < 0 := by omega
    have hk1 : (0 : Int) ≤ (k : Int) := by omega
    have hk2 : (k : Int) < (n : Int) := by omega
    unfold maxLen at hcm
    obtain ⟨nm, hnm⟩ : ∃ nm, nm = x.1 := ⟨_, rfl⟩
    rw [← hnm] at g0
    have HU := Lib.hid (And.intro hd (And.intro hu hx))
    clear hr hcell hfit hb hd hu hn hx hnm
    go_wp2_with fail
    refine (units_any nm _ al m capl x.2.2 _ HU.out.1 (by have := HU.out.2.1; omega)).mono ?_
    rintro e w' ⟨rfl, hbl⟩
    have HB := Lib.hid hbl
    clear hbl
    go_wp2_with fail
    go_ret
    unfold RLooseR
    exact ⟨_, HZ.out, by rw [if_pos (by omega), HU.out.2.2]; rfl, HB.out⟩
  · go_wp2_with fail
    go_ret
    unfold RLooseR
    exact ⟨-1, HZ.out, rfl, Below.refl _ _⟩
/-- what it tells. -/
def RReadR (s : ByteArray) (R : List FileV) (out : Bool) (w : World) (e : Ending) (w' : World) : Prop := ∃ z, AtR s R z ∧ (∃ v c, e = .returned (.tuple #[v, .int .i64 c]) ∧ ((out = true ∧ v = .slice none 0 0 ∧ c = 10) ∨ (out = false ∧ z < 0 ∧ v = .slice none 0 0 ∧ c = 6) ∨ (out = false ∧ 0 ≤ z ∧ c = 0 ∧ OwnB w' w.heap.size v (runD (R.getD z.toNat f0).2.1 (R.getD z.toNat f0).2.2)))) ∧ Below w.heap.size w w'
set_option maxRecDepth 100000 in
theorem rRead_any (s : ByteArray) (r base : Nat) (R : List FileV) (N : Int) (fz : Bool) (lf : Int) (out : Bool) (w : World) (h : RefAt w r base R N fz lf out) (hfit : ∀ k, k < R.length → FitF (R.getD k f0)) :
    Calls Try.prog 68 #[.pointer (some ⟨r, 0, none⟩), .string s] w fun e w' => RReadR s R out w e w' := by
  have HAt := Lib.hid (At_any s r base R N fz lf out w h)
  obtain ⟨v, hrow⟩ := h.row
  have r4 := hrow.cells.2.2.2.2
  have HF := Lib.hid (And.intro h.file hfit)
  clear h hfit hrow
  go_enter Try.func68, Try.ntmps68
  go_wp2_with fail
  refine HAt.out.mono ?_
  rintro e w' ⟨z, rfl, hz, rfl⟩
  have HZ := Lib.hid hz
  cases out with
  | true =>
    go_wp2_with fail
    go_ret2
    unfold RReadR
    exact ⟨z, HZ.out, ⟨_, _, rfl, .inl ⟨rfl, rfl, rfl⟩⟩, Below.refl _ _⟩
  | false =>
    rcases hz with ⟨k, rfl, hk, _, _⟩ | ⟨rfl, _⟩
    · obtain ⟨⟨ao, cap, hr, hcap, hcm, hcell⟩, hfit⟩ := HF.out
      obtain ⟨b, off, sa, sn, sc, al, m, capl, rfl, g0, g1, g2, hb, hd⟩ := hcell k hk
      have hu := hfit k hk
      obtain ⟨n, hn⟩ : ∃ n, n = R.length := ⟨_, rfl⟩
      rw [← hn] at hr hcap
      obtain ⟨x, hx⟩ : ∃ x, x = R.getD k f0 := ⟨_, rfl⟩
      rw [← hx] at g0 hb hd hu
      have r0 := hr.cells.1
      have hk0 : ¬ (k : Int) < 0 := by omega
      have hk1 : (0 : Int) ≤ (k : Int) := by omega
      have hk2 : (k : Int) < (n : Int) := by omega
      unfold maxLen at hcm
      obtain ⟨nm, hnm⟩ : ∃ nm, nm = x.1 := ⟨_, rfl⟩
      rw [← hnm] at g0
      have HU := Lib.hid (And.intro hd (And.intro hu (And.intro hx hb)))
      clear hr hcell hfit hb hd hu hn hx hnm
      go_wp2_with fail
      refine (Bytes_any nm sa sn sc x.2.1 al m capl x.2.2 _ HU.out.2.2.2 HU.out.1 HU.out.2.1.1 HU.out.2.1.2).mono ?_
      rintro e w2 ⟨v2, rfl, hown, hbl⟩
      have HB := Lib.hid (And.intro hown hbl)
      clear hown hbl
      go_wp2_with fail
      go_ret2
      unfold RReadR
      refine ⟨_, HZ.out, ⟨_, _, rfl, .inr (.inr ⟨rfl, by omega, rfl, ?_⟩)⟩, HB.out.2⟩
      have := HB.out.1
      rw [HU.out.2.2.1] at this
      exact this
    · go_wp2_with fail
      go_ret2
      unfold RReadR
      exact ⟨-1, HZ.out, ⟨_, _, rfl, .inr (.inl ⟨rfl, by omega, rfl, rfl⟩)⟩, Below.refl _ _⟩
end Go.Proofs.Ytmpjjkfbojhfoaa

/- the reference's disk: a file's parts are stored -/
namespace Go.Proofs.Ytmpjjkfbojhfoaa
open Go.RowKit
set_option linter.unusedSectionVars false
variable [Zone]
theorem flat3_set : ∀ (T : List V3) (k : Nat) (t : V3), k < T.length → flat3 (T.set k t) = (((flat3 T).set (k * 3) t.1).set (k * 3 + 1) t.2.1).set (k * 3 + 2) t.2.2
  | x :: T, 0, t, _ => by simp [flat3]
  | x :: T, k + 1, t, h => by
    rw [List.set_cons_succ, flat3_cons, flat3_cons, flat3_set T k t (by simpa using h)]
    rw [show (k + 1) * 3 = k * 3 + 1 + 1 + 1 by omega, show k * 3 + 1 + 1 + 1 + 1 = (k * 3 + 1) + 1 + 1 + 1 by omega, show k * 3 + 1 + 1 + 1 + 2 = (k * 3 + 2) + 1 + 1 + 1 by omega]
    simp only [List.set_cons_succ]
theorem set_same {l : List Value} {j : Nat} {u : Value} (h : l[j]? = some u) : l.set j u = l := by
  apply List.ext_getElem?
  intro i
  rw [List.getElem?_set]
  split
  · rename_i e
    subst e
    split
    · exact h.symm
    · rename_i hn
      rw [List.getElem?_eq_none (by omega)] at h
      cases h
  · rfl
theorem flat3_set2 (T : List V3) (k : Nat) (u : Value) (h : k < T.length) : flat3 (T.set k ((T.getD k v30).1, (T.getD k v30).2.1, u)) = (flat3 T).set (k * 3 + 2) u := by
  obtain ⟨g0, g1, g2⟩ := flat3_get T k h
  rw [flat3_set T k _ h]
  dsimp only
  rw [set_same g0, set_same g1]
theorem flat3_set1 (T : List V3) (k : Nat) (u : Value) (h : k < T.length) : flat3 (T.set k ((T.getD k v30).1, u, (T.getD k v30).2.2)) = (flat3 T).set (k * 3 + 1) u := by
  obtain ⟨g0, g1, g2⟩ := flat3_get T k h
  rw [flat3_set T k _ h]
  dsimp only
  rw [set_same g0]
  refine set_same ?_
  rw [List.getElem?_set, if_neg (by omega)]
  exact g2
theorem AllCells.set {w : World} {g j n cap : Nat} {cs : Array Value} {e : TypeId} {u : Value} {P : Value → Prop} (h : AllCells w (.slice (some ⟨g, 0, none⟩) n cap) P) (ho : w.heap[g]? = some (.cells cs e (0, 0))) (hu : P u) : AllCells (w.setCell ⟨g, j, none⟩ u) (.slice (some ⟨g, 0, none⟩) n cap) P := by
  intro g' c t f hg hc x hx
  simp only [Value.ownBlock, Option.some.injEq] at hg
  subst hg
  rw [heap_setCell_same w g j cs e u ho] at hc
  injection hc with hc
  injection hc with hc _
  subst hc
  rcases Array.mem_or_eq_of_mem_setIfInBounds hx with q | q
  · exact h g cs e (0, 0) rfl ho x q
  · rw [q]; exact hu
theorem Own3.put {w : World} {base g n cap j : Nat} {ty : TypeId} {T T' : List V3} {u : Value} (h : Own3 w base ty (.slice (some ⟨g, 0, none⟩) n cap) T) (hT : flat3 T' = (flat3 T).set j u) (hl : T'.length = T.length) (hu : u.oneCell' = true ∧ PlainV u) : Own3 (w.setCell ⟨g, j, none⟩ u) base ty (.slice (some ⟨g, 0, none⟩) n cap) T' := by
  obtain ⟨ao, cap', e, _⟩ := h.is3
  injection e with e1 e2 e3
  subst e2
  have hrow : ∃ cs, w.heap[g]? = some (.cells cs ty (0, 0)) := by
    rcases h.1.2 with ⟨e, _⟩ | ⟨g', cap', cur, e, _, hg, _⟩
    · cases e
    · injection e with e _
      injection e with e
      injection e with e
      subst e
      exact ⟨_, hg⟩
  obtain ⟨cs, hcs⟩ := hrow
  refine ⟨?_, h.2.1.set hcs hu.2, fun x hx => ?_⟩
  · have := (World.ownsRow.stored h.1 j u).1
    rw [hT, hl]
    exact this
  · rw [hT] at hx
    rcases List.mem_or_eq_of_mem_set hx with q | q
    · exact h.2.2 x q
    · rw [q]; exact hu
theorem getD_set_ne {α : Type} {l : List α} {k i : Nat} {x d : α} (h : i ≠ k) : (l.set k x).getD i d = l.getD i d := by
  rw [List.getD_eq_getElem?_getD, List.getD_eq_getElem?_getD, List.getElem?_set, if_neg (Ne.symm h)]
theorem getD_set_at {α : Type} {l : List α} {k : Nat} {x d : α} (h : k < l.length) : (l.set k x).getD k d = x := by
  rw [List.getD_eq_getElem?_getD, List.getElem?_set, if_pos rfl, if_pos h]
  rfl
theorem Files3.set {w : World} {T : List V3} {R : List FileV} {k : Nat} {t : V3} {x : FileV} (h : Files3 w T R) (hk : k < R.length) (hx : IsRFile w t x) : Files3 w (T.set k t) (R.set k x) := by
  refine ⟨by simp [h.1], fun i hi => ?_⟩
  rw [List.length_set] at hi
  by_cases e : i = k
  · subst e
    rw [getD_set_at hk, getD_set_at (by rw [h.1]; exact hk)]
    exact hx
  · rw [getD_set_ne e, getD_set_ne e]
    exact h.2 i hi
/-- where the k-th file lies, and what a store into it does. -/
theorem RefAt.put {w : World} {r base k : Nat} {R : List FileV} {N lf : Int} {fz out : Bool} (h : RefAt w r base R N fz lf out) (hk : k < R.length) : ∃ g cap, RefRow w r (.slice (some ⟨g, 0, none⟩) R.length cap) N fz lf out ∧ g < w.heap.size ∧ base ≤ g ∧ g ≠ r ∧ ((∀ j, w.frozen? ⟨g, j, none⟩ = false) ∧ ∀ i u j, (w.setCell ⟨g, i, none⟩ u).frozen? ⟨g, j, none⟩ = false) ∧ R.length ≤ cap ∧ cap ≤ maxLen ∧
    (∀ al m capl D', IsRActs w al m capl D' → RefAt (w.setCell ⟨g, k * 3 + 2, none⟩ (.slice al m capl)) r base (R.set k ((R.getD k f0).1, (R.getD k f0).2.1, D')) N fz lf out ∧ MovedR r base w (w.setCell ⟨g, k * 3 + 2, none⟩ (.slice al m capl))) ∧
    (∀ sa sn sc S', IsBytesZ w sa sn sc S' → RefAt (w.setCell ⟨g, k * 3 + 1, none⟩ (.slice sa sn sc)) r base (R.set k ((R.getD k f0).1, S', (R.getD k f0).2.2)) N fz lf out ∧ MovedR r base w (w.setCell ⟨g, k * 3 + 1, none⟩ (.slice sa sn sc))) := by
  obtain ⟨hbr, v, T, hr, hown, hf⟩ := h
  have hTl := hf.1
  have hkT : k < T.length := by rw [hTl]; exact hk
  have hrow : ∃ g cap cs, v = .slice (some ⟨g, 0, none⟩) T.length cap ∧ base ≤ g ∧ w.heap[g]? = some (.cells cs 90 (0, 0)) ∧ T.length ≤ cap ∧ cap ≤ maxLen := by
    rcases hown.1.2 with ⟨_, h0⟩ | ⟨g, cap, cur, e, hb, hg, hn, hm, _⟩
    · omega
    · exact ⟨g, cap, cur, e, hb, hg, hn, hm⟩
  obtain ⟨g, cap, cs, rfl, hbg, hg, hn, hm⟩ := hrow
  have hgr : g ≠ r := by
    rintro rfl
    unfold RefRow at hr
    rw [hr] at hg
    injection hg with hg
    injection hg with _ hg
    exact absurd hg (by decide)
  have hmv : ∀ j u, MovedR r base w (w.setCell ⟨g, j, none⟩ u) := fun j u => by
    refine ⟨⟨rfl, rfl, rfl, by simp, fun i hi => Below.heap_setCell _ _ _ _ (by dsimp only; omega)⟩, fun i _ _ hne => Below.heap_setCell _ _ _ _ (fun e => hne ?_), fun i hi => .inl ?_⟩
    · rw [listOf_row hr]
      exact congrArg some (show g = i from e.symm)
    · rwa [listOf_same (Below.heap_setCell _ _ _ _ (Ne.symm hgr))] at hi
  have hfm : ∀ j u, Files3 (w.setCell ⟨g, j, none⟩ u) T R := fun j u => by
    refine hf.moved (fun i o x hc => Below.heap_setCell _ _ _ _ (fun e => ?_)) (fun i c fr hi => Below.heap_setCell _ _ _ _ (fun e => ?_))
    · have e' : i = g := e
      rw [e'] at hc
      simp only [World.cell?, hg] at hc
      have := hown.2.1 g cs _ _ rfl hg _ (Array.mem_of_getElem? hc)
      simp [PlainV, plainV] at this
    · have e' : i = g := e
      rw [e', hg] at hi
      injection hi with hi
      injection hi with _ hi
      exact absurd hi (by decide)
  have hbm : ∀ {j u sa sn sc S'}, IsBytesZ w sa sn sc S' → IsBytesZ (w.setCell ⟨g, j, none⟩ u) sa sn sc S' := fun {j u sa sn sc S'} hb => hb.moved (fun i o x hc => Below.heap_setCell _ _ _ _ (fun e => by
    have e' : i = g := e
    rw [e'] at hc
    simp only [World.cell?, hg] at hc
    have := hown.2.1 g cs _ _ rfl hg _ (Array.mem_of_getElem? hc)
    simp [PlainV, plainV] at this))
  have ham : ∀ {j u al m capl D'}, IsRActs w al m capl D' → IsRActs (w.setCell ⟨g, j, none⟩ u) al m capl D' := fun {j u al m capl D'} hb => hb.moved (fun i o x hc => Below.heap_setCell _ _ _ _ (fun e => by
    have e' : i = g := e
    rw [e'] at hc
    simp only [World.cell?, hg] at hc
    have := hown.2.1 g cs _ _ rfl hg _ (Array.mem_of_getElem? hc)
    simp [PlainV, plainV] at this)) (fun i c fr hi => Below.heap_setCell _ _ _ _ (fun e => by
    have e' : i = g := e
    rw [e', hg] at hi
    injection hi with hi
    injection hi with _ hi
    exact absurd hi (by decide)))
  have hrr : ∀ j u, RefRow (w.setCell ⟨g, j, none⟩ u) r (.slice (some ⟨g, 0, none⟩) T.length cap) N fz lf out := fun j u => (Below.heap_setCell _ _ _ _ (Ne.symm hgr)).trans hr
  refine ⟨g, cap, hTl ▸ hr, heap_lt hg, hbg, hgr, ⟨fun j => frozen_of_row _ _ _ _ _ hg, fun i u j => frozen_of_row _ _ _ _ _ (heap_setCell_same w g i _ _ u hg)⟩, hTl ▸ hn, hm, fun al m capl D' hD => ⟨⟨hbr, .slice (some ⟨g, 0, none⟩) T.length cap, T.set k ((T.getD k v30).1, (T.getD k v30).2.1, .slice al m capl), ?_, ?_, ?_⟩, hmv _ _⟩, fun sa sn sc S' hS => ⟨⟨hbr, .slice (some ⟨g, 0, none⟩) T.length cap, T.set k ((T.getD k v30).1, .slice sa sn sc, (T.getD k v30).2.2), ?_, ?_, ?_⟩, hmv _ _⟩⟩
  · exact hrr _ _
  · exact hown.put (flat3_set2 T k _ hkT) (by simp) ⟨rfl, rfl⟩
  · have hx := (hfm (k * 3 + 2) (.slice al m capl)).2 k hk
    exact (hfm _ _).set hk ⟨hx.1, hx.2.1, ⟨_, _, _, rfl, ham hD⟩⟩
  · exact hrr _ _
  · exact hown.put (flat3_set1 T k _ hkT) (by simp) ⟨rfl, rfl⟩
  · have hx := (hfm (k * 3 + 1) (.slice sa sn sc)).2 k hk
    exact (hfm _ _).set hk ⟨hx.1, ⟨_, _, _, rfl, hbm hS⟩, hx.2.2⟩
/-- the k-th file's cells, and the stores into it, in this world and later ones. -/
theorem RefAt.at {w : World} {r base k : Nat} {R : List FileV} {N lf : Int} {fz out : Bool} (h : RefAt w r base R N fz lf out) (hk : k < R.length) : ∃ g cap sa sn sc al m capl, RefRow w r (.slice (some ⟨g, 0, none⟩) R.length cap) N fz lf out ∧ (g < w.heap.size ∧ g ≠ r ∧ R.length ≤ cap ∧ cap ≤ maxLen) ∧
    w.cell? ⟨g, k * 3, none⟩ = some (.string (R.getD k f0).1) ∧ w.cell? ⟨g, k * 3 + 1, none⟩ = some (.slice sa sn sc) ∧ w.cell? ⟨g, k * 3 + 2, none⟩ = some (.slice al m capl) ∧ IsBytes w sa sn sc (R.getD k f0).2.1 ∧ IsRActs w al m capl (R.getD k f0).2.2 ∧
    ∀ w' : World, Below w.heap.size w w' → ((∀ j, w'.frozen? ⟨g, j, none⟩ = false) ∧ ∀ i u j, (w'.setCell ⟨g, i, none⟩ u).frozen? ⟨g, j, none⟩ = false) ∧
      (∀ al m capl D', IsRActs w' al m capl D' → RefAt (w'.setCell ⟨g, k * 3 + 2, none⟩ (.slice al m capl)) r base (R.set k ((R.getD k f0).1, (R.getD k f0).2.1, D')) N fz lf out ∧ MovedR r base w' (w'.setCell ⟨g, k * 3 + 2, none⟩ (.slice al m capl))) ∧
      (∀ sa sn sc S', IsBytesZ w' sa sn sc S' → RefAt (w'.setCell ⟨g, k * 3 + 1, none⟩ (.slice sa sn sc)) r base (R.set k ((R.getD k f0).1, S', (R.getD k f0).2.2)) N fz lf out ∧ MovedR r base w' (w'.setCell ⟨g, k * 3 + 1, none⟩ (.slice sa sn sc))) := by
  obtain ⟨g, cap, hr, hg1, hg2, hg3, hg4, hg5, hg6, hg7, hg8⟩ := h.put hk
  obtain ⟨ao, cap', hr', _, _, hcell⟩ := h.file
  obtain ⟨b, off, sa, sn, sc, al, m, capl, e, q0, q1, q2, hb, hd⟩ := hcell k hk
  have hrr := hr
  unfold RefRow at hrr hr'
  rw [hr'] at hrr
  injection hrr with hrr
  injection hrr with hrr _
  have e2 : ao = some ⟨g, 0, none⟩ ∧ cap' = cap := by
    have := congrArg (fun a : Array Value => a[0]?) hrr
    simp at this
    exact ⟨this.1, this.2⟩
  rw [e2.1] at e
  injection e with e
  injection e with e3 e4
  subst e3
  subst e4
  rw [Nat.zero_add] at q0 q1 q2
  refine ⟨g, cap, sa, sn, sc, al, m, capl, hr, ⟨hg1, hg3, hg5, hg6⟩, q0, q1, q2, hb, hd, fun w' hbl => ?_⟩
  obtain ⟨g', cap2, hr2, _, _, _, f4, _, _, f7, f8⟩ := (h.later hbl).put hk
  have hr3 := (hbl.block r hr.lt).trans hr
  unfold RefRow at hr2
  rw [hr2] at hr3
  injection hr3 with hr3
  injection hr3 with hr3 _
  have e5 : g' = g := by
    have := congrArg (fun a : Array Value => a[0]?) hr3
    simp at this
    exact this.1
  subst e5
  exact ⟨f4, f7, f8⟩
end Go.Proofs.Ytmpjjkfbojhfoaa

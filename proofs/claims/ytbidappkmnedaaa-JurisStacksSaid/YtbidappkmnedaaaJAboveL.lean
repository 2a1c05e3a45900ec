/- law 20: JurisAbove, walked -/
import Derived.Test.YtbidappkmnedaaaJKnown
import Derived.Test.YtbidappkmnedaaaJBig
import Derived.Deep.QuietTactic
namespace Go.Proofs.Ytbidappkmnedaaa
open Go.RowKit
theorem chain_whole {L : List Jur} (h : (checkP L).1 = 0) {x : Int} {ys : List Int} (hc : Chain L x ys) : atJ L x ≠ none → ∀ ids : List Int, (∀ z ∈ x :: ys, z ∈ ids) → ∀ z ∈ x :: ys, wholeAt L ids z = true := by
  induction hc with
  | none ha => intro hn; exact absurd ha hn
  | @top x i ha hp =>
    intro _ ids _ z hz
    rw [List.mem_singleton] at hz
    subst hz
    unfold wholeAt
    rw [ha]
    dsimp only
    rw [decide_eq_true hp]
    rfl
  | @on x i ys ha hp _ ih =>
    intro _ ids hm z hz
    obtain ⟨k, hk, _, _⟩ := parent_ok h (atJ_lt ha).1 hp
    rcases List.mem_cons.1 hz with rfl | hz
    · have hin := hm (L.getD i j0).pa (by simp)
      unfold wholeAt
      rw [ha]
      dsimp only
      rw [Bool.or_eq_true]
      right
      simpa using hin
    · exact ih (by rw [hk]; simp) ids (fun z hz => hm z (List.mem_cons_of_mem _ hz)) z hz
theorem whole_above {L : List Jur} (h : (checkP L).1 = 0) {x : Int} {ys : List Int} (hc : Chain L x ys) (hn : atJ L x ≠ none) : wholeP L ([x] ++ ys) = true :=
  wholeP_good h (fun j hj => chain_whole h hc hn ([x] ++ ys) (fun z hz => by simpa using hz) _ (by
    have := getD_memI (M := [x] ++ ys) hj
    simpa using this))
theorem OwnI.one (w : World) (base : Nat) (hb : base ≤ w.heap.size) (x : Int) : OwnI (w.alloc (Obj.cells #[.int .i64 x] 3)) base (.slice (some ⟨w.heap.size, 0, none⟩) 1 1) [x] :=
  ⟨rfl, .inr ⟨_, _, _, rfl, hb, alloc_new w _, Nat.le_refl _, by unfold maxLen; omega, rfl, rfl⟩⟩
/-- 'append(own, ints...)', guarded. -/
theorem wpList_append_intsW {w : World} {ops : Array Oper} {rest : List Oper} {o : Oper} {a : Act} {Q : Exit → Act → World → Prop} (hw : Region.wanted o (yielded ops a.tmps) = true) (s x : Operand)
    (ho : o.op = .call { callee := .builtin .append, args := #[s, x], argTypes := #[38, 38] })
    (base : Nat) (v : Value) (L : List Int) (hs : a.eval s = v) (hown : OwnI w base v L)
    (ao : Option Addr) (m c : Nat) (L2 : List Int) (hx : a.eval x = .slice ao m c) (hsrc : IsInts w ao m c L2) (hnm : L.length + m ≤ 1000000000) (hbase : base ≤ w.heap.size)
    (h : ∀ v' w', OwnI w' base v' (L ++ L2) → w.grownBy w' v.ownBlock → wpList Try.prog ops Q rest (a.put o.dst v') w') : wpList Try.prog ops Q (o :: rest) a w := by
  obtain ⟨v', w', hr, h2, h3⟩ := run_append_ints o.type base v L hown ao m c L2 hsrc hnm hbase
  unfold wpList
  rw [if_pos hw]
  refine .inl ?_
  unfold Oper.wp execOp
  simp only [ho, resolve, invoke, builtin, Sem.run_bind, Sem.run_pure, Result.andThen_ok, List.map_toArray, List.map_cons, List.map_nil, hs, hx, hr]
  exact h v' w' h2 h3
/-- what the law's loop keeps. -/
structure UpSt (w : World) (base xb : Nat) (L : List Jur) (v : Value) (ys : List Int) (k : Nat) (c : Jur) (x : Int) (zs : List Int) (W : World) : Prop where
  box : W.heap[xb]? = some (.cells c.row 33 (0, 0))
  own : OwnI W base v ys
  low : Below base w W
  big : base ≤ W.heap.size
  drop : ys.drop k = zs
  chain : Chain L x zs
  here : ∃ i, atJ L x = some i ∧ c = L.getD i j0
theorem chain_cons {L : List Jur} {z p : Int} {zs : List Int} (h : Chain L z (p :: zs)) : ∃ i, atJ L z = some i ∧ (L.getD i j0).pa = p ∧ p ≠ 0 ∧ Chain L p zs := by
  cases h with
  | on ha hp hc => exact ⟨_, ha, rfl, hp, hc⟩
theorem chain_nil {L : List Jur} {z : Int} {i : Nat} (h : Chain L z []) (ha : atJ L z = some i) : (L.getD i j0).pa = 0 := by
  cases h with
  | none hn => rw [ha] at hn; cases hn
  | top hb hp => rw [ha] at hb; cases hb; exact hp
theorem own_ne {W : World} {base xb : Nat} {v : Value} {ys : List Int} {c : Array Value} {t : TypeId} {fr : Nat × Nat} (h : OwnI W base v ys) (hx : W.heap[xb]? = some (.cells c t fr)) (ht : t ≠ 3) : ∀ g, v.ownBlock = some g → g ≠ xb := by
  intro g hg e
  rcases h.2 with ⟨rfl, _⟩ | ⟨g', cap, cur, rfl, _, hgg, _⟩
  · simp [Value.ownBlock] at hg
  · simp only [Value.ownBlock, Option.some.injEq] at hg
    subst hg
    subst e
    rw [hx] at hgg
    injection hgg with hgg
    injection hgg with _ h2
    exact ht h2
theorem setCells_other {xb : Nat} : ∀ (vs : List Value) (o : Nat) (W : World) (j : Nat), j ≠ xb → (W.setCells xb o vs).heap[j]? = W.heap[j]?
  | [], _, _, _, _ => rfl
  | v :: r, o, W, j, h => (setCells_other r (o + 1) (W.setCell ⟨xb, o, none⟩ v) j h).trans (Below.heap_setCell _ _ _ _ h)
theorem below_setCells {xb base : Nat} (hb : base ≤ xb) : ∀ (vs : List Value) (o : Nat) (w W : World), Below base w W → Below base w (W.setCells xb o vs)
  | [], _, _, _, h => h
  | v :: r, o, w, W, h => below_setCells hb r (o + 1) w (W.setCell ⟨xb, o, none⟩ v) (h.setCell (p := ⟨xb, o, none⟩) hb v)
theorem setCells_size {xb : Nat} : ∀ (vs : List Value) (o : Nat) (W : World), (W.setCells xb o vs).heap.size = W.heap.size
  | [], _, _ => rfl
  | v :: r, o, W => (setCells_size r (o + 1) (W.setCell ⟨xb, o, none⟩ v)).trans (by simp)
/-- the next one is looked at. -/
theorem UpSt.next {w : World} {base xb : Nat} {L : List Jur} {v : Value} {ys : List Int} {k : Nat} {c c' : Jur} {x p : Int} {zs : List Int} {W W2 : World} (h : UpSt w base xb L v ys k c x (p :: zs) W) (hg : Grew W W2) (hxb : base ≤ xb) (hc : Chain L p zs) (hh : ∃ i, atJ L p = some i ∧ c' = L.getD i j0) :
    UpSt w base xb L v ys (k + 1) c' p zs (W2.setCells xb 0 c'.row.toList) := by
  have hb2 : W2.heap[xb]? = some (.cells c.row 33 (0, 0)) := (hg.1.block xb (Array.getElem?_eq_some_iff.1 h.box).1).trans h.box
  have ho2 := h.own.later hg.1
  refine ⟨heap_put hb2 c', ownsRow_move ho2 fun g hgg => setCells_other _ _ _ _ (own_ne ho2 hb2 (by decide) g hgg), below_setCells hxb _ _ _ _ (h.low.trans (hg.1.mono h.big)), by rw [setCells_size]; exact Nat.le_trans h.big hg.size, ?_, hc, hh⟩
  have hd := h.drop
  have : ys.drop (k + 1) = (ys.drop k).drop 1 := by rw [List.drop_drop]
  rw [this, hd]
  rfl
theorem UpSt.grew {w : World} {base xb : Nat} {L : List Jur} {v : Value} {ys : List Int} {k : Nat} {c : Jur} {x : Int} {zs : List Int} {W W2 : World} (h : UpSt w base xb L v ys k c x zs W) (hg : Grew W W2) : UpSt w base xb L v ys k c x zs W2 :=
  ⟨(hg.1.block xb (Array.getElem?_eq_some_iff.1 h.box).1).trans h.box, h.own.later hg.1, h.low.trans (hg.1.mono h.big), Nat.le_trans h.big hg.size, h.drop, h.chain, h.here⟩
set_option maxRecDepth 100000 in
set_option maxHeartbeats 4000000 in
theorem JurisAbove_any (ao : Option Addr) (n cap : Nat) (L : List Jur) (x : Int) (w : World) (h : IsJurs w ao n cap L) (hr : JursR w L) :
    Calls Try.prog 7 #[.slice ao n cap, .int .i64 x] w fun e w' => e = .returned (.bool true) ∧ Below w.heap.size w w' := by
  have HJ := Lib.hid h
  have HR := Lib.hid hr
  obtain ⟨ce, hce⟩ : ∃ c, c = (checkP L).1 := ⟨_, rfl⟩
  obtain ⟨ci, hci⟩ : ∃ c, c = (checkP L).2 := ⟨_, rfl⟩
  have HCE := Lib.hid hce
  have HCI := Lib.hid hci
  obtain ⟨base, hbase⟩ : ∃ b, b = w.heap.size := ⟨_, rfl⟩
  have HBASE := Lib.hid hbase
  clear h hr hce hci hbase
  have hck : ∀ W, Below base w W → Calls Try.prog 11 #[.slice ao n cap] W fun e w' => e = .returned (.tuple #[.int .i64 ce, .int .i64 ci]) ∧ Grew W w' := fun W hW => by
    rw [HCE.out, HCI.out]; exact Check_any ao n cap L W (HJ.out.later hW (by rw [HBASE.out]; exact Nat.le_refl _))
  have HCK := Lib.hid hck
  clear hck
  by_cases hc0 : ce = 0
  · subst hc0
    go_enter Try.func7, Try.ntmps7
    go_wp2_with fail
    refine (JurisKnown_any w).mono ?_
    rintro e w1 ⟨rfl, hb1⟩
    rw [← HBASE.out] at hb1
    have HB1 := Lib.hid hb1
    have HBZ1 : Hid (base ≤ w1.heap.size) := by rw [HBASE.out]; rw [HBASE.out] at hb1; exact hb1.size
    clear hb1
    go_wp2_with fail
    refine (HCK.out _ HB1.out).mono ?_
    rintro e w2 ⟨rfl, hg2⟩
    have HB2 := Lib.hid (HB1.out.trans (hg2.1.mono HBZ1.out))
    have HBZ2 := Lib.hid (Nat.le_trans HBZ1.out hg2.size)
    have HJ2 := Lib.hid (HJ.out.later HB2.out (by rw [HBASE.out]; exact Nat.le_refl _))
    have hr2 : JursR w2 L := fun i hi => by
      obtain ⟨q1, q2⟩ := HR.out i hi
      refine ⟨q1, fun k hk => ?_⟩
      obtain ⟨b, off, y1, y2, y3, e, hc⟩ := q2 k hk
      exact ⟨b, off, y1, y2, y3, e, (HB2.out.cell (p := ⟨b, off + k, none⟩) (by rw [HBASE.out]; exact block_lt_of_cell hc)).trans hc⟩
    have HR2 := Lib.hid hr2
    clear hg2 hr2
    go_wp2_with fail
    refine (BigJuris_any ao n cap L 64 w2 HJ2.out HR2.out).mono ?_
    rintro e w3 ⟨⟨b, rfl, _⟩, rfl⟩
    cases b with
    | true =>
      go_wp2_with fail
      go_ret
      exact ⟨rfl, by rw [← HBASE.out]; exact HB2.out⟩
    | false =>
      have HAB := Lib.hid (Above_any ao n cap L x w2 HJ2.out)
      go_wp2_with fail
      refine HAB.out.mono ?_
      rintro e w3 ⟨v, ys, rfl, hab, hown3, hb3⟩
      obtain ⟨zs, hz1, hz2⟩ := chain_ex HCE.out.symm x
      have hch := hab.2 HCE.out.symm
      have heq := hch.unique hz1
      subst heq
      have HCH := Lib.hid hch
      have HB3 := Lib.hid (HB2.out.trans (hb3.mono HBZ2.out))
      have HBZ3 := Lib.hid (Nat.le_trans HBZ2.out hb3.size)
      have HO3 := Lib.hid (hown3.base HBZ2.out)
      have HJ3 := Lib.hid (HJ.out.later HB3.out (by rw [HBASE.out]; exact Nat.le_refl _))
      obtain ⟨a3, c3, hv3, _⟩ := hown3.ints
      subst hv3
      have hfa := Find_any ao n cap L x w3 HJ3.out
      clear hab hz1 hch hown3 hb3
      cases ha : atJ L x with
      | none =>
        have hf : findP L x = (j0, false) := by unfold findP; rw [ha]
        rw [hf] at hfa
        unfold j0 Jur.val Jur.row at hfa
        dsimp only at hfa
        have HF := Lib.hid hfa
        have hy0 : ys = [] := (HCH.out.unique (.none ha))
        subst hy0
        clear hf hfa ha
        go_wp2_with fail
        refine HF.out.mono ?_
        rintro e w4 ⟨rfl, hg4⟩
        have HB4 := Lib.hid (HB3.out.trans ((hg4.alloc (Obj.cells #[.int .i64 0, .int .i64 0, .int .i64 0, .int .i64 0, .slice none 0 0] 33)).1.mono HBZ3.out))
        clear hg4
        go_wp2_with fail
        go_ret
        exact ⟨rfl, by rw [← HBASE.out]; exact HB4.out⟩
      | some i =>
        obtain ⟨c, hc⟩ : ∃ c, c = L.getD i j0 := ⟨_, rfl⟩
        have hf : findP L x = (c, true) := by unfold findP; rw [ha, hc]
        rw [hf] at hfa
        have HF := Lib.hid hfa
        have HH := Lib.hid (show ∃ i, atJ L x = some i ∧ c = L.getD i j0 from ⟨i, ha, hc⟩)
        clear hf hfa ha hc
        obtain ⟨d1, d2, d3, d4, d5, d6, d7⟩ := c
        unfold Jur.val Jur.row at HF
        dsimp only at HF
        go_wp2_with fail
        refine HF.out.mono ?_
        rintro e w4 ⟨rfl, hg4⟩
        have hst : UpSt w base w4.heap.size L (.slice a3 ys.length c3) ys 0 ⟨d1, d2, d3, d4, d5, d6, d7⟩ x ys (w4.alloc (Obj.cells #[.int .i64 d1, .int .i64 d2, .int .i64 d3, .int .i64 d4, .slice d5 d6 d7] 33)) :=
          ⟨alloc_new _ _, HO3.out.later (hg4.alloc _).1, HB3.out.trans ((hg4.alloc _).1.mono HBZ3.out), Nat.le_trans HBZ3.out (hg4.alloc _).size, rfl, HCH.out, HH.out⟩
        have HST := Lib.hid hst
        have hxb : base ≤ w4.heap.size := Nat.le_trans HBZ3.out hg4.size
        clear hst hg4
        go_wp2_with fail
        generalize hw5 : w4.alloc (Obj.cells #[.int .i64 d1, .int .i64 d2, .int .i64 d3, .int .i64 d4, .slice d5 d6 d7] 33) = w5 at HST ⊢
        clear hw5
        generalize w4.heap.size = xb at HST hxb ⊢
        go_loopw [11] (fun i wr => ∃ (k : Nat) (c : Jur) (z : Int) (zs : List Int), k ≤ ys.length ∧ i = .int .i64 k ∧ Hid (UpSt w base xb L (.slice a3 ys.length c3) ys k c z zs wr)) (fun i _ => ys.length - (intOf i).toNat)
        case atStart => exact ⟨0, _, x, ys, by omega, rfl, HST.out⟩
        case round =>
          obtain ⟨k, c, z, zs, hk, rfl, hU⟩ := hrel
          by_cases hlt : k < ys.length
          · have hk0 : (0 : Int) ≤ (k : Int) := by omega
            have hk1 : (k : Int) < (ys.length : Int) := by omega
            obtain ⟨p, zs', hzs⟩ : ∃ p zs', zs = p :: zs' := by
              rw [← hU.out.drop, List.drop_eq_getElem_cons hlt]
              exact ⟨_, _, rfl⟩
            subst hzs
            have hpk : ys.getD k 0 = p := by
              have := hU.out.drop
              rw [List.drop_eq_getElem_cons hlt] at this
              injection this with h1 _
              rw [List.getD_eq_getElem?_getD, List.getElem?_eq_getElem hlt]
              exact h1
            obtain ⟨i, hai, hpa, hp0, hch2⟩ := chain_cons hU.out.chain
            obtain ⟨i2, hai2, hci⟩ := hU.out.here
            rw [hai] at hai2
            cases hai2
            have hpa2 : c.pa = p := by rw [hci]; exact hpa
            obtain ⟨kk, hkk, _, hkl⟩ := parent_ok HCE.out.symm (atJ_lt hai).1 (by rw [hpa]; exact hp0)
            rw [hpa] at hkk
            rw [← hci] at hkl
            obtain ⟨c', hc'⟩ : ∃ c', c' = L.getD kk j0 := ⟨_, rfl⟩
            rw [← hc'] at hkl
            have hf : findP L p = (c', true) := by unfold findP; rw [hkk, hc']
            have hfa := Find_any ao n cap L p wr (HJ.out.later hU.out.low (by rw [HBASE.out]; exact Nat.le_refl _))
            rw [hf] at hfa
            obtain ⟨ai, ci2, hvi, hii⟩ := hU.out.own.ints
            injection hvi with hv1 _ hv2
            subst hv1 hv2
            obtain ⟨gb, goff, rfl, hcs⟩ := hii.2.2.2.1 (by omega)
            have hcu := hcs k hlt
            rw [hpk] at hcu
            have HN := Lib.hid (And.intro hch2 (show ∃ i, atJ L p = some i ∧ c' = L.getD i j0 from ⟨kk, hkk, hc'⟩))
            obtain ⟨f1, f2, f3, f4, f5, f6, f7⟩ := c
            obtain ⟨g1, g2, g3, g4, g5, g6, g7⟩ := c'
            dsimp only at hpa2 hkl
            subst hpa2
            have hkb : ¬ f2 ≤ g2 := by omega
            have hkb1 : decide (f2 ≤ g2) = false := by simpa using hkl
            have HF2 := Lib.hid hfa
            unfold Jur.val Jur.row at HF2
            dsimp only at HF2
            have HCU := Lib.hid hcu
            clear hpk hai hpa hp0 hch2 hci hkk hc' hf hfa hii hcs
            go_wp2_with fail
            refine HF2.out.mono ?_
            rintro e w6 ⟨rfl, hg6⟩
            have hgw : Grew wr (w6.alloc (Obj.cells #[.int .i64 g1, .int .i64 g2, .int .i64 g3, .int .i64 g4, .slice g5 g6 g7] 33)) := hg6.alloc _
            have HU6 := Lib.hid (hU.out.grew hgw)
            have hx6 : (w6.alloc (Obj.cells #[.int .i64 g1, .int .i64 g2, .int .i64 g3, .int .i64 g4, .slice g5 g6 g7] 33)).heap[w6.heap.size]? = some (.cells #[.int .i64 g1, .int .i64 g2, .int .i64 g3, .int .i64 g4, .slice g5 g6 g7] 33 (0, 0)) := alloc_new _ _
            have HX6 := Lib.hid hx6
            have hu6 := hgw.cell HCU.out
            have HGW := Lib.hid hgw
            have hcu2 := HCU.out
            clear hg6 hx6 hgw hcu hcu2
            go_upto_region 15 with (fail)
            generalize w6.alloc (Obj.cells #[.int .i64 g1, .int .i64 g2, .int .i64 g3, .int .i64 g4, .slice g5 g6 g7] 33) = w7 at HU6 HX6 hu6 HGW ⊢
            generalize w6.heap.size = xb2 at HX6 ⊢
            obtain ⟨q0, q1, q2, q3, q4, zf0, zf1, zf2, zf3, zf4⟩ := jur_box ⟨f1, f2, f3, f4, f5, f6, f7⟩ HU6.out.box
            obtain ⟨y0, y1, y2, y3, y4, _, _, _, _, _⟩ := jur_box ⟨g1, g2, g3, g4, g5, g6, g7⟩ HX6.out
            dsimp only at q0 q1 q2 q3 q4 y0 y1 y2 y3 y4
            go_quiet (fail)
            go_wp2_with fail
            go_roundw
            case rel => exact ⟨k + 1, ⟨g1, g2, g3, g4, g5, g6, g7⟩, f3, zs', by omega, by go_num, HU6.out.next ((Grew.refl _).drewN _) hxb HN.out.1 HN.out.2⟩
            case measure => simp [intOf]; omega
          · obtain rfl : k = ys.length := by omega
            obtain rfl : zs = [] := by rw [← hU.out.drop]; simp
            obtain ⟨i2, hai2, hci⟩ := hU.out.here
            have hpa : c.pa = 0 := by rw [hci]; exact chain_nil hU.out.chain hai2
            obtain ⟨f1, f2, f3, f4, f5, f6, f7⟩ := c
            dsimp only at hpa
            subst hpa
            have q2 : wr.cell? ⟨xb, 2, none⟩ = some (.int .i64 0) := cell_of_row _ _ _ _ _ _ hU.out.box
            have hnx : atJ L x ≠ none := by obtain ⟨i, hi, _⟩ := HH.out; rw [hi]; simp
            have HWH := Lib.hid (whole_above HCE.out.symm HCH.out hnx)
            obtain ⟨ai, ci2, hvi, hii⟩ := hU.out.own.ints
            injection hvi with hv1 _ hv2
            subst hv1 hv2
            have HII := Lib.hid hii
            have hal : Below wr.heap.size wr (wr.alloc (Obj.cells #[.int .i64 x] 3)) := (Below.refl _ _).alloc (Nat.le_refl _) _
            have HAL := Lib.hid hal
            clear hci hnx hii hal hai2
            go_wp2_with (at_builtin; refine wpList_append_intsW rfl _ _ rfl wr.heap.size (.slice (some ⟨wr.heap.size, 0, none⟩) 1 1) [x] rfl (OwnI.one wr _ (Nat.le_refl _) x) _ _ _ ys rfl (HII.out.later HAL.out (Nat.le_refl _)) (by simp; omega) HAL.out.size ?_; intro v6 w6 hown6 hg6; have HG6 := Lib.hid (And.intro hown6 (HAL.out.grown hg6 HAL.out.size (fun k hk => by simp only [Value.ownBlock, Option.some.injEq] at hk; omega))); clear hown6 hg6)
            obtain ⟨a6, c6, hv6, hi6⟩ := HG6.out.1.ints
            subst hv6
            have hl6 := hU.out.low.trans (HG6.out.2.mono hU.out.big)
            have hw6 := Whole_any ao n cap L a6 _ c6 ([x] ++ ys) w6 (HJ.out.later hl6 (by rw [HBASE.out]; exact Nat.le_refl _)) hi6
            rw [HWH.out] at hw6
            refine hw6.mono ?_
            rintro e w7 ⟨rfl, hg7⟩
            have HFN := Lib.hid (hl6.trans (hg7.1.mono (Nat.le_trans hU.out.big HG6.out.2.size)))
            clear hw6 hi6 hl6 hg7
            go_wp2_with fail
            go_ret
            exact ⟨rfl, by rw [← HBASE.out]; exact HFN.out⟩
  · have hcb : (ce == 0) = false := by simpa using hc0
    have hcn : (ce != 0) = true := by simpa using hc0
    clear hc0
    go_enter Try.func7, Try.ntmps7
    go_wp2_with fail
    refine (JurisKnown_any w).mono ?_
    rintro e w1 ⟨rfl, hb1⟩
    rw [← HBASE.out] at hb1
    have HB1 := Lib.hid hb1
    have HBZ1 : Hid (base ≤ w1.heap.size) := by rw [HBASE.out]; rw [HBASE.out] at hb1; exact hb1.size
    clear hb1
    go_wp2_with fail
    refine (HCK.out _ HB1.out).mono ?_
    rintro e w2 ⟨rfl, hg2⟩
    go_wp2_with fail
    go_ret
    exact ⟨rfl, by rw [← HBASE.out]; exact HB1.out.trans (hg2.1.mono HBZ1.out)⟩
end Go.Proofs.Ytbidappkmnedaaa

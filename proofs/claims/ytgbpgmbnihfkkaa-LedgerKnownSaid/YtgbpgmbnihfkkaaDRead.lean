/- disk: what is under way of a file; units, loose -/
import Derived.Test.YtgbpgmbnihfkkaaDOpen
namespace Go.Proofs.Ytgbpgmbnihfkkaa
open Go.RowKit
set_option linter.unusedSectionVars false
/-- something under way: more bytes, or a cut. -/
inductive Deed where
  | more (b : List UInt8)
  | cut (n : Nat)
def Deed.units : Deed → Nat
  | .more b => b.length
  | .cut _ => 1
/-- a cell holds a deed. -/
def IsDeed (w : World) (v : Value) : Deed → Prop
  | .more b => ∃ a n c, v = .iface 64 (.slice a n c) ∧ IsBytes w a n c b
  | .cut n => v = .iface 88 (.int .i64 (n : Int))
theorem units_more (ao : Option Addr) (n cap : Nat) (w : World) : Calls Try.prog 92 #[.slice ao n cap] w fun e w' => e = .returned (.int .i64 (n : Int)) ∧ w = w' := by
  go_enter Try.func92, Try.ntmps92
  go_wp2
  go_ret
  exact ⟨rfl, rfl⟩
theorem units_cut (n : Int) (w : World) : Calls Try.prog 93 #[.int .i64 n] w fun e w' => e = .returned (.int .i64 1) ∧ w = w' := by
  go_enter Try.func93, Try.ntmps93
  go_wp2
  go_ret
  exact ⟨rfl, rfl⟩
/-- a file's two cells. -/
def FileRow (w : World) (f : Nat) (sv lv : Value) : Prop := w.heap[f]? = some (.cells #[sv, lv] 61 (0, 0))
/-- a slice of deeds. -/
def IsDeeds (w : World) (ao : Option Addr) (n cap : Nat) (D : List Deed) : Prop :=
  D.length = n ∧ n ≤ cap ∧ cap ≤ maxLen ∧ (ao = none → n = 0 ∧ cap = 0) ∧ ∀ i, i < n → ∃ b off v, ao = some ⟨b, off, none⟩ ∧ w.cell? ⟨b, off + i, none⟩ = some v ∧ IsDeed w v (D.getD i (.cut 0))
theorem take_units {D : List Deed} {k n : Nat} (hl : D.length = n) (hk : k < n) : ((D.take (k + 1)).map Deed.units).sum = ((D.take k).map Deed.units).sum + (D.getD k (.cut 0)).units := by
  rw [List.take_succ_eq_append_getElem (by omega), List.map_append, List.sum_append, List.getD_eq_getElem?_getD, List.getElem?_eq_getElem (by omega)]
  simp
theorem take_units_le (D : List Deed) (k : Nat) : ((D.take k).map Deed.units).sum ≤ (D.map Deed.units).sum := by
  conv => rhs; rw [← List.take_append_drop k D, List.map_append, List.sum_append]
  omega
theorem meth_more (v : Value) (w : World) : (method 251 64 v "apportion/disk.units").run Try.prog w = .ok (92, v) w := by kernel_rfl
theorem meth_cut (v : Value) (w : World) : (method 251 88 v "apportion/disk.units").run Try.prog w = .ok (93, v) w := by kernel_rfl
set_option maxRecDepth 100000 in
theorem loose_any (f : Nat) (sv : Value) (ao : Option Addr) (n cap : Nat) (D : List Deed) (w : World) (h : FileRow w f sv (.slice ao n cap)) (hd : IsDeeds w ao n cap D) (hu : (D.map Deed.units).sum ≤ 1099511627776) :
    Calls Try.prog 21 #[.pointer (some ⟨f, 0, none⟩)] w fun e w' => e = .returned (.int .i64 ((D.map Deed.units).sum : Nat)) ∧ w = w' := by
  have f1 : w.cell? ⟨f, 1, none⟩ = some (.slice ao n cap) := cell_of_row _ _ _ _ _ _ h
  have hn := hd.2.1
  have hcm := hd.2.2.1
  have HD := Lib.hid hd
  unfold maxLen at hcm
  clear h hd
  go_enter Try.func21, Try.ntmps21
  go_wp2
  go_loopw [3, 11] (fun s i wr => ∃ k : Nat, k ≤ n ∧ i = .int .i64 k ∧ s = .int .i64 (((D.take k).map Deed.units).sum : Nat) ∧ w = wr) (fun _ i _ => n - (intOf i).toNat)
  case atStart => exact ⟨0, by omega, rfl, rfl, rfl⟩
  case round =>
    obtain ⟨k, hk, rfl, rfl, rfl⟩ := hrel
    by_cases hlt : k < n
    · have hi0 : (0 : Int) ≤ (k : Int) := by omega
      have hi5 : (k : Int) < (n : Int) := by omega
      obtain ⟨b, off, v, rfl, hc, hv⟩ := HD.out.2.2.2.2 k hlt
      obtain ⟨x, hx⟩ : ∃ x, x = D.getD k (.cut 0) := ⟨_, rfl⟩
      rw [← hx] at hv
      have hstep := take_units HD.out.1 hlt
      rw [← hx] at hstep
      have hle := take_units_le D (k + 1)
      obtain ⟨t, ht⟩ : ∃ t, t = ((D.take k).map Deed.units).sum := ⟨_, rfl⟩
      rw [← ht] at hstep ⊢
      have HST := Lib.hid hstep
      have hle2 : (D.take (k + 1)).map Deed.units |>.sum |> (· ≤ 1099511627776) := Nat.le_trans hle hu
      have HLE := Lib.hid hle2
      clear hle hle2 hx
      cases x with
      | more bs =>
        obtain ⟨a, m, c, rfl, hbs⟩ := hv
        have hm := fun w' => meth_more (.slice a m c) w'
        have hbl : bs.length = m := hbs.1
        have hw : IntKind.i64.wrap ((t : Int) + (m : Int)) = (t : Int) + (m : Int) := IntWalk.i64_in _ (by
          have h1 := HST.out; have h2 := HLE.out
          simp only [Deed.units] at h1
          omega)
        have HB := Lib.hid hbl
        clear hbs hstep hbl ht
        go_wp2_with fail
        refine (units_more a m c _).mono ?_
        rintro e w' ⟨rfl, rfl⟩
        go_wp2_with fail
        go_roundw
        case rel => exact ⟨k + 1, by omega, by go_num, by have h1 := HST.out; simp only [Deed.units] at h1; rw [h1, HB.out]; push_cast; rfl, trivial⟩
        case measure => simp [intOf]; omega
      | cut z =>
        obtain rfl := hv
        have hm := fun w' => meth_cut (.int .i64 (z : Int)) w'
        have hw : IntKind.i64.wrap ((t : Int) + 1) = (t : Int) + 1 := IntWalk.i64_in _ (by
          have h1 := HST.out; have h2 := HLE.out
          simp only [Deed.units] at h1
          omega)
        clear hstep ht
        go_wp2_with fail
        refine (units_cut _ _).mono ?_
        rintro e w' ⟨rfl, rfl⟩
        go_wp2_with fail
        go_roundw
        case rel => exact ⟨k + 1, by omega, by go_num, by have h1 := HST.out; simp only [Deed.units] at h1; rw [h1]; push_cast; rfl, trivial⟩
        case measure => simp [intOf]; omega
    · obtain rfl : k = n := by omega
      go_wp2
      go_ret
      refine ⟨?_, rfl⟩
      have := HD.out.1
      rw [show D.take k = D from List.take_of_length_le (by omega)]
      rfl
end Go.Proofs.Ytgbpgmbnihfkkaa

/- disk: append of a part of what is under way, cuts of own rows of bytes -/
namespace Go.Proofs.Ytgbpgmbnihfkkaa
open Go.RowKit
set_option linter.unusedSectionVars false
/-- 'append(own, more...)'. -/
theorem run_append_more {w : World} (ty base : Nat) (v : Value) (l : List UInt8) (hown : OwnB w base v l)
    (ao : Option Addr) (m c : Nat) (l2 : List UInt8) (hsrc : IsBytes w ao m c l2) (hnm : l.length + m ≤ 140737488355328) (hbase : base ≤ w.heap.size) :
    ∃ v' w', (Builtin.append_ #[30, 64] ty #[v, .slice ao m c]).run Try.prog w = .ok v' w' ∧ OwnB w' base v' (l ++ l2) ∧ w.grownBy w' v.ownBlock := by
  obtain ⟨v', w', hr, h2, h3, _⟩ := run_append_bytes ty base v l hown ao m c l2 hsrc hnm hbase
  refine ⟨v', w', ?_, h2, h3⟩
  rw [← hr]
  obtain ⟨a, cap, rfl⟩ := ownsRow_shape hown.1
  simp [Builtin.append_, run_underlying Try.underlying30, run_underlying Try.underlying64]
theorem slice_to_more {w : World} {ao : Option Addr} {n cap : Nat} {l : List UInt8} (h : IsBytes w ao n cap l) (hi : Nat) (hhi : hi ≤ n) :
    (∀ w', (Instr.slice 64 (.slice ao n cap) none (some (.int .i64 (hi : Int))) none).run Try.prog w' = .ok (.slice ao hi cap) w') ∧ IsBytes w ao hi cap (l.take hi) := by
  obtain ⟨i0, hi0, hz0, hz1, hz2⟩ := info_parts Try.infoByte
  have h2 := h.2.1
  have hle : hi ≤ cap := by omega
  refine ⟨fun w' => ?_, h.cut hi hhi⟩
  have e1 : (Instr.sliceBounds true n cap none (some (.int .i64 (hi : Int))) none).run Try.prog w' = .ok (0, hi, cap) w' := by
    simp [Instr.sliceBounds, Instr.sliceBound, asIntOf, hle]
  simp [Instr.slice, run_underlying Try.underlying64, e1, sizeOf, typeInfo, hi0, Result.andThen]
  cases ao with
  | none => simp
  | some a => simp [Addr.add]
theorem OwnB.short {w : World} {base : Nat} {ao : Option Addr} {n cap : Nat} {l : List UInt8} (h : OwnB w base (.slice ao n cap) l) (k : Nat) (hk : k ≤ l.length) : OwnB w base (.slice ao k cap) (l.take k) := by
  refine ⟨⟨by rw [u8s_length, Nat.mul_one], ?_⟩, fun g c t f hg hc => h.2 g c t f (by cases ao with | none => (simp [Value.ownBlock] at hg) | some a => exact hg) hc⟩
  rcases h.1.2 with ⟨h1, h0⟩ | ⟨g, cap', cur, he, hb, hg, hn, hm, hs, ht⟩
  · cases h1
    have : k = 0 := by omega
    subst this
    exact .inl ⟨rfl, by simp⟩
  · simp only [Value.slice.injEq] at he
    obtain ⟨rfl, rfl, rfl⟩ := he
    refine .inr ⟨g, cap, cur, by rw [List.length_take, Nat.min_eq_left hk], hb, hg, by rw [List.length_take]; omega, hm, hs, ?_⟩
    rw [List.length_take, Nat.min_eq_left hk]
    have h2 : cur.toList.take (k * 1) = (u8s l).take k := by rw [← ht, List.take_take, Nat.mul_one, Nat.mul_one, Nat.min_eq_left hk]
    rw [h2]
    simp [u8s, List.map_take]
theorem wpList_append_more {w : World} {ops : Array Oper} {rest : List Oper} {o : Oper} {a : Act} {Q : Exit → Act → World → Prop} (hgd : o.guard = none) (s x : Operand)
    (ho : o.op = .call { callee := .builtin .append, args := #[s, x], argTypes := #[30, 64] })
    (base : Nat) (v : Value) (l : List UInt8) (hs : a.eval s = v) (hown : OwnB w base v l)
    (ao : Option Addr) (m c : Nat) (l2 : List UInt8) (hx : a.eval x = .slice ao m c) (hsrc : IsBytes w ao m c l2) (hnm : l.length + m ≤ 140737488355328) (hbase : base ≤ w.heap.size)
    (h : ∀ v' w', OwnB w' base v' (l ++ l2) → w.grownBy w' v.ownBlock → wpList Try.prog ops Q rest (a.put o.dst v') w') : wpList Try.prog ops Q (o :: rest) a w := by
  obtain ⟨v', w', hr, h2, h3⟩ := run_append_more o.type base v l hown ao m c l2 hsrc hnm hbase
  refine wpList_plain hgd fun K hK => ?_
  unfold Oper.wp execOp
  simp only [ho, resolve, invoke, builtin, Sem.run_bind, Sem.run_pure, Result.andThen_ok, List.map_toArray, List.map_cons, List.map_nil, hs, hx, hr]
  exact hK _ _ (h v' w' h2 h3)
end Go.Proofs.Ytgbpgmbnihfkkaa

/- disk: a file's bytes behind some units of what is under way -/
namespace Go.Proofs.Ytgbpgmbnihfkkaa
open Go.RowKit
set_option linter.unusedSectionVars false
def afterZ : List UInt8 → List Deed → Int → List UInt8
  | b, [], _ => b
  | b, d :: D, z => if z ≤ 0 then b else match d with
    | .more x => afterZ (b ++ x.take (min z (x.length : Int)).toNat) D (z - x.length)
    | .cut n => afterZ (b.take n) D (z - 1)
theorem afterZ_stop (b : List UInt8) (d : Deed) (D : List Deed) {z : Int} (h : z ≤ 0) : afterZ b (d :: D) z = b := by cases d <;> simp [afterZ, h]
theorem afterZ_more (b x : List UInt8) (D : List Deed) {z : Int} (h : ¬ z ≤ 0) : afterZ b (.more x :: D) z = afterZ (b ++ x.take (min z (x.length : Int)).toNat) D (z - x.length) := by rw [afterZ, if_neg h]
theorem afterZ_cut (b : List UInt8) (n : Nat) (D : List Deed) {z : Int} (h : ¬ z ≤ 0) : afterZ b (.cut n :: D) z = afterZ (b.take n) D (z - 1) := by rw [afterZ, if_neg h]
/-- every cut lies within what there is then. -/
def fitsD : List UInt8 → List Deed → Prop
  | _, [] => True
  | b, .more x :: D => fitsD (b ++ x) D
  | b, .cut n :: D => n ≤ b.length ∧ fitsD (b.take n) D
theorem IsDeed.later {w w' : World} {v : Value} {d : Deed} (h : IsDeed w v d) (hb : Below w.heap.size w w') : IsDeed w' v d := by
  cases d with
  | more b => obtain ⟨a, n, c, e, hs⟩ := h; exact ⟨a, n, c, e, hs.later hb⟩
  | cut n => exact h
theorem IsDeeds.later {w w' : World} {ao : Option Addr} {n cap : Nat} {D : List Deed} (h : IsDeeds w ao n cap D) (hb : Below w.heap.size w w') : IsDeeds w' ao n cap D := by
  obtain ⟨h1, h2, h3, h4, h5⟩ := h
  refine ⟨h1, h2, h3, h4, fun i hi => ?_⟩
  obtain ⟨b, off, v, e, hc, hv⟩ := h5 i hi
  exact ⟨b, off, v, e, (hb.cell (block_lt_of_cell hc)).trans hc, hv.later hb⟩
theorem assert_more (v : Value) (w : World) : (Instr.typeAssert (.iface 64 v) 81 64 true).run Try.prog w = .ok (.tuple #[v, .bool true]) w := by kernel_rfl
theorem assert_cut_more (v : Value) (w : World) : (Instr.typeAssert (.iface 88 v) 81 64 true).run Try.prog w = .ok (.tuple #[.slice none 0 0, .bool false]) w := by kernel_rfl
theorem assert_cut (v : Value) (w : World) : (Instr.typeAssert (.iface 88 v) 81 88 true).run Try.prog w = .ok (.tuple #[v, .bool true]) w := by kernel_rfl
set_option maxRecDepth 100000 in
set_option maxHeartbeats 2000000 in
theorem after_any (f : Nat) (ao : Option Addr) (n cap : Nat) (S : List UInt8) (al : Option Addr) (m capl : Nat) (D : List Deed) (z : Int) (w : World) (h : FileRow w f (.slice ao n cap) (.slice al m capl))
    (hs : IsBytes w ao n cap S) (hd : IsDeeds w al m capl D) (hf : fitsD S D) (hn : n ≤ 4294967296) (hz0 : -1099511627776 ≤ z) (hz1 : z ≤ 1099511627776) (hu : (D.map Deed.units).sum ≤ 1099511627776) :
    Calls Try.prog 42 #[.pointer (some ⟨f, 0, none⟩), .int .i64 z] w fun e w' => ∃ v, e = .returned v ∧ OwnB w' w.heap.size v (afterZ S D z) ∧ Below w.heap.size w w' := by
  have f0 : w.cell? ⟨f, 0, none⟩ = some (.slice ao n cap) := cell_of_row _ _ _ _ _ _ h
  have HR := Lib.hid h
  have HS := Lib.hid hs
  have HD := Lib.hid hd
  have HF := Lib.hid hf
  have hm := hd.2.1
  have hcm := hd.2.2.1
  unfold maxLen at hcm
  have hfb : f < w.heap.size := block_lt_of_cell f0
  have HFB := Lib.hid hfb
  clear h hs hd hf hfb
  go_enter Try.func42, Try.ntmps42
  go_wp2_with fail
  refine (CloneB_any _ _ _ S _ HS.out hn).mono ?_
  rintro e w1 ⟨v, rfl, hown, hb1⟩
  have f1 : w1.cell? ⟨f, 1, none⟩ = some (.slice al m capl) := (hb1.cell (by dsimp only; exact HFB.out)).trans (cell_of_row _ _ _ _ _ _ HR.out)
  have HO := Lib.hid hown
  have HB1 := Lib.hid hb1
  clear hown hb1 f0
  go_wp2_with fail
  go_loopw [1, 5, 20] (fun t1 b5 i wr => ∃ k b zz, k ≤ m ∧ i = .int .i64 ((k : Nat) : Int) ∧ t1 = .int .i64 zz ∧ -1099511627776 ≤ zz ∧ zz ≤ 1099511627776 ∧ Hid (OwnB wr w.heap.size b5 b) ∧ Hid (afterZ S D z = afterZ b (D.drop k) zz) ∧ Hid (b.length ≤ n + ((D.take k).map Deed.units).sum) ∧ Hid (0 < zz → fitsD b (D.drop k)) ∧ Hid (Below w.heap.size w wr)) (fun _ _ i _ => m - (intOf i).toNat)
  case atStart => exact ⟨0, S, z, by omega, rfl, rfl, hz0, hz1, HO, Lib.hid rfl, Lib.hid (by rw [HS.out.1]; simp), Lib.hid (fun _ => HF.out), HB1⟩
  case round =>
    obtain ⟨k, b, zz, hk, rfl, rfl, hzz0, hzz1, hown, heq, hlen, hfit, hbl⟩ := hrel
    by_cases hlt : k < m
    · have hi0 : (0 : Int) ≤ (k : Int) := by omega
      have hi5 : (k : Int) < (m : Int) := by omega
      obtain ⟨g, off, v, rfl, hc, hv⟩ := (HD.out.later hbl.out).2.2.2.2 k hlt
      obtain ⟨x, hx⟩ : ∃ x, x = D.getD k (.cut 0) := ⟨_, rfl⟩
      rw [← hx] at hv
      have hdk : D.drop k = x :: D.drop (k + 1) := by
        have hkl : k < D.length := by rw [HD.out.1]; exact hlt
        rw [List.drop_eq_getElem_cons hkl, hx, List.getD_eq_getElem?_getD, List.getElem?_eq_getElem hkl]; rfl
      have hun := take_units HD.out.1 hlt
      rw [← hx] at hun
      have hle := Nat.le_trans (take_units_le D (k + 1)) hu
      have HDK := Lib.hid hdk
      have HUN := Lib.hid hun
      have HLE := Lib.hid hle
      have HX := Lib.hid hx
      clear hdk hun hle hx
      by_cases hzp : zz ≤ 0
      · have hout : afterZ b (x :: D.drop (k + 1)) zz = b := afterZ_stop _ _ _ hzp
        have HOUT := Lib.hid hout
        clear hout hv
        go_wp2_with fail
        go_ret
        refine ⟨_, rfl, ?_, hbl.out⟩
        rw [heq.out, HDK.out, HOUT.out]
        exact hown.out
      · cases x with
        | more bs =>
          obtain ⟨a, q, cq, rfl, hbs⟩ := hv
          obtain ⟨zn, rfl⟩ : ∃ zn : Nat, zz = (zn : Int) := ⟨zz.toNat, by omega⟩
          have hta := fun w' => assert_more (.slice a q cq) w'
          have hm' := fun w' => meth_more (.slice a q cq) w'
          have hql : bs.length = q := hbs.1
          have HQL := Lib.hid hql
          have HBS := Lib.hid hbs
          have hq40 : q ≤ 1099511627776 := by have h1 := HUN.out; have h2 := HLE.out; simp only [Deed.units] at h1; omega
          have hw : IntKind.i64.wrap ((zn : Int) - (q : Int)) = (zn : Int) - (q : Int) := IntWalk.i64_in _ (by omega)
          clear hql hbs
          by_cases hzq : zn ≤ q
          · have hzqi : (zn : Int) ≤ (q : Int) := by omega
            have hst := slice_to_more HBS.out zn hzq
            have hsl := hst.1
            have HSB := Lib.hid hst.2
            clear hst
            have hnm : b.length + zn ≤ 140737488355328 := by
              have h1 := hlen.out
              have h2 := take_units_le D k
              omega
            go_wp2_with (at_builtin; refine wpList_append_more rfl _ _ rfl w.heap.size u5 b rfl hown.out a zn cq (bs.take zn) rfl HSB.out hnm (by have := hbl.out.size; omega) ?_; intro v2 w2 hown2 hgr2)
            refine (units_more a q cq _).mono ?_
            rintro e w' ⟨rfl, rfl⟩
            go_wp2_with fail
            go_roundw
            case rel =>
              refine ⟨k + 1, b ++ bs.take zn, (zn : Int) - (q : Int), by omega, by go_num, rfl, by omega, by omega, Lib.hid hown2, Lib.hid ?_, Lib.hid ?_, Lib.hid ?_, Lib.hid (hbl.out.grown hgr2 hbl.out.size (fun j hj => (hown.out.1.lt j hj).1))⟩
              · rw [heq.out, HDK.out, afterZ_more _ _ _ (by omega), HQL.out]
                congr 3
                omega
              · have h1 := hlen.out
                have h2 := HUN.out
                have h3 := HQL.out
                simp only [Deed.units] at h2
                simp only [List.length_append, List.length_take]
                omega
              · intro hp
                have h1 := hfit.out (by omega)
                rw [HDK.out] at h1
                have h3 := HQL.out
                rw [List.take_of_length_le (by omega)]
                exact h1
            case measure => simp [intOf]; omega
          · have hzqi : ¬ (zn : Int) ≤ (q : Int) := by omega
            have hst := slice_to_more HBS.out q (Nat.le_refl _)
            have hsl := hst.1
            have HSB := Lib.hid hst.2
            clear hst
            have hnm : b.length + q ≤ 140737488355328 := by
              have h1 := hlen.out
              have h2 := take_units_le D k
              omega
            go_wp2_with (at_builtin; refine wpList_append_more rfl _ _ rfl w.heap.size u5 b rfl hown.out a q cq (bs.take q) rfl HSB.out hnm (by have := hbl.out.size; omega) ?_; intro v2 w2 hown2 hgr2)
            refine (units_more a q cq _).mono ?_
            rintro e w' ⟨rfl, rfl⟩
            go_wp2_with fail
            go_roundw
            case rel =>
              refine ⟨k + 1, b ++ bs.take q, (zn : Int) - (q : Int), by omega, by go_num, rfl, by omega, by omega, Lib.hid hown2, Lib.hid ?_, Lib.hid ?_, Lib.hid ?_, Lib.hid (hbl.out.grown hgr2 hbl.out.size (fun j hj => (hown.out.1.lt j hj).1))⟩
              · rw [heq.out, HDK.out, afterZ_more _ _ _ (by omega), HQL.out]
                congr 3
                omega
              · have h1 := hlen.out
                have h2 := HUN.out
                have h3 := HQL.out
                simp only [Deed.units] at h2
                simp only [List.length_append, List.length_take]
                omega
              · intro hp
                have h1 := hfit.out (by omega)
                rw [HDK.out] at h1
                have h3 := HQL.out
                rw [List.take_of_length_le (by omega)]
                exact h1
            case measure => simp [intOf]; omega
        | cut y =>
          obtain rfl := hv
          have hta := fun w' => assert_cut_more (.int .i64 (y : Int)) w'
          have htb := fun w' => assert_cut (.int .i64 (y : Int)) w'
          have hm' := fun w' => meth_cut (.int .i64 (y : Int)) w'
          have hw : IntKind.i64.wrap (zz - 1) = zz - 1 := IntWalk.i64_in _ (by omega)
          have hyb := hfit.out (by omega)
          rw [HDK.out] at hyb
          obtain ⟨hy1, hy2⟩ := hyb
          obtain ⟨a5, c5, e5, hb5, _⟩ := hown.out.bytes
          subst e5
          have hst := slice_to hb5 y hy1
          have hsl := hst.1
          have HY2 := Lib.hid hy2
          have HY1 := Lib.hid hy1
          clear hst hy1 hy2 hb5
          go_wp2_with fail
          refine (units_cut _ _).mono ?_
          rintro e w' ⟨rfl, rfl⟩
          go_wp2_with fail
          go_roundw
          case rel =>
            refine ⟨k + 1, b.take y, zz - 1, by omega, by go_num, rfl, by omega, by omega, Lib.hid (hown.out.short y HY1.out), Lib.hid ?_, Lib.hid ?_, Lib.hid (fun _ => HY2.out), hbl.out⟩
            · rw [heq.out, HDK.out, afterZ_cut _ _ _ (by omega)]
            · have h1 := hlen.out
              have h2 := HUN.out
              simp only [Deed.units] at h2
              rw [List.length_take]
              omega
          case measure => simp [intOf]; omega
    · obtain rfl : k = m := by omega
      go_wp2
      go_ret
      refine ⟨_, rfl, ?_, hbl.out⟩
      have h1 := heq.out
      have h2 := HD.out.1
      rw [List.drop_of_length_le (by omega)] at h1
      rw [h1, afterZ]
      exact hown.out
end Go.Proofs.Ytgbpgmbnihfkkaa

/- disk: a file's bytes; Read -/
namespace Go.Proofs.Ytgbpgmbnihfkkaa
open Go.RowKit
variable {nm : ByteArray}
/-- a file: its safe bytes, what is under way. -/
structure FileAt (w : World) (f : Nat) (S : List UInt8) (D : List Deed) : Prop where
  row : ∃ ao n cap al m capl, FileRow w f (.slice ao n cap) (.slice al m capl) ∧ IsBytes w ao n cap S ∧ IsDeeds w al m capl D
  fit : fitsD S D
  small : S.length + (D.map Deed.units).sum ≤ 4294967296
def unitsD (D : List Deed) : Nat := (D.map Deed.units).sum
/-- all of a file's bytes. -/
def allB (S : List UInt8) (D : List Deed) : List UInt8 := afterZ S D (unitsD D : Nat)
set_option maxRecDepth 100000 in
theorem bytes_any (f : Nat) (S : List UInt8) (D : List Deed) (w : World) (h : FileAt w f S D) :
    Calls Try.prog 25 #[.pointer (some ⟨f, 0, none⟩)] w fun e w' => ∃ v, e = .returned v ∧ OwnB w' w.heap.size v (allB S D) ∧ Below w.heap.size w w' := by
  obtain ⟨⟨ao, n, cap, al, m, capl, hr, hs, hd⟩, hf, hsm⟩ := h
  have hn := hs.1
  have HR := Lib.hid hr
  have HS := Lib.hid hs
  have HD := Lib.hid hd
  have HF := Lib.hid hf
  have HM : Hid (n + (D.map Deed.units).sum ≤ 4294967296) := Lib.hid (by rw [← hn]; exact hsm)
  have hl := loose_any f _ al m capl D w hr hd (by omega)
  have HL := Lib.hid hl
  clear hr hs hd hf hsm hn hl
  obtain ⟨z, hz⟩ : ∃ z : Nat, z = (D.map Deed.units).sum := ⟨_, rfl⟩
  have HZ := Lib.hid hz
  clear hz
  go_enter Try.func25, Try.ntmps25
  go_wp2_with fail
  refine HL.out.mono ?_
  rintro e w' ⟨rfl, rfl⟩
  go_wp2_with fail
  refine (after_any f ao n cap S al m capl D _ _ HR.out HS.out HD.out HF.out (by have := HM.out; omega) (by omega) (by have := HM.out; omega) (by have := HM.out; omega)).mono ?_
  rintro e w1 ⟨v, rfl, hown, hb⟩
  go_wp2_with fail
  go_ret
  exact ⟨v, rfl, hown, hb⟩
set_option maxRecDepth 100000 in
theorem Read_log (d mb c f : Nat) (M : List Ent) (st fu : Int) (S : List UInt8) (D : List Deed) (w : World) (h : DiskRow w d mb st fu false) (hm : w.heap[mb]? = some (.map (ents M) c)) (hfo : fileOf nm M = some f) (hf : FileAt w f S D) :
    Calls Try.prog 12 #[.pointer (some ⟨d, 0, none⟩), .string nm] w fun e w' => ∃ v, e = .returned (.tuple #[v, .int .i64 0]) ∧ OwnB w' w.heap.size v (allB S D) ∧ Below w.heap.size w w' := by
  have ho := open_log d mb c f M st fu w h hm hfo
  have HO := Lib.hid ho
  have HB := Lib.hid (bytes_any f S D w hf)
  clear ho h hm hf hfo
  go_enter Try.func12, Try.ntmps12
  go_wp2_with fail
  refine HO.out.mono ?_
  rintro e w' ⟨rfl, rfl⟩
  go_wp2_with fail
  refine HB.out.mono ?_
  rintro e w1 ⟨v, rfl, hown, hb⟩
  go_wp2_with fail
  go_ret2
  exact ⟨v, rfl, hown, hb⟩
set_option maxRecDepth 100000 in
theorem Read_none (d mb c : Nat) (M : List Ent) (st fu : Int) (w : World) (h : DiskRow w d mb st fu false) (hm : w.heap[mb]? = some (.map (ents M) c)) (hfo : fileOf nm M = none) :
    Calls Try.prog 12 #[.pointer (some ⟨d, 0, none⟩), .string nm] w fun e w' => e = .returned (.tuple #[.slice none 0 0, .int .i64 6]) ∧ w = w' := by
  have ho := open_none d mb c M st fu w h hm hfo
  have HO := Lib.hid ho
  clear ho h hm hfo
  go_enter Try.func12, Try.ntmps12
  go_wp2_with fail
  refine HO.out.mono ?_
  rintro e w' ⟨rfl, rfl⟩
  go_wp2_with fail
  go_ret2
  exact ⟨rfl, rfl⟩
set_option maxRecDepth 100000 in
theorem Read_nil (nv : Value) (w : World) : Calls Try.prog 12 #[.pointer none, nv] w fun e w' => e = .returned (.tuple #[.slice none 0 0, .int .i64 1]) ∧ w = w' := by
  go_enter Try.func12, Try.ntmps12
  go_wp2_with fail
  refine (open_nil nv _).mono ?_
  rintro e w' ⟨rfl, rfl⟩
  go_wp2_with fail
  go_ret2
  exact ⟨rfl, rfl⟩
end Go.Proofs.Ytgbpgmbnihfkkaa

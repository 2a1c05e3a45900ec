/- disk: a file's bytes behind some units of what is under way -/
import Derived.Test.YtjkkfjmloleedaaGreatDPart
import Derived.Deep.RegionHeld3
namespace Go.Proofs.YtjkkfjmloleedaaGreat
open Go.RowKit
set_option linter.unusedSectionVars false
def afterZ : List UInt8 → List Deed → Int → List UInt8
  | b, [], _ => b
  | b, d :: D, z => if z ≤ 0 then b else match d with
    | .more x => afterZ (b ++ x.take (min z (x.length : Int)).toNat) D (z - x.length)
    | .cut n => afterZ (b.take n) D (z - 1)
theorem afterZ_stop (b : List UInt8) (d : Deed) (D : List Deed) {z : Int} (h : z ≤ 0) : afterZ b (d :: D) z = b := by cases d <;> simp [afterZ, h]
theorem afterZ_more (b x : List UInt8) (D : List Deed) {z : Int} (h : ¬ z ≤ 0) : afterZ b (.more x :: D) z = afterZ (b ++ x.take (min z (x.length : Int)).toNat) D (z - x.length) := by rw [afterZ, if_neg h]
theorem afterZ_cut (b : List UInt8) (n : Nat) (D : List Deed) {z : Int} (h : ¬ z ≤ 0) : afterZ b (.cut n :: D) z = afterZ (b.take n) D (z - 1) := by rw [afterZ, if_neg h]
/-- every cut lies within what there is then. -/
def fitsD : List UInt8 → List Deed → Prop
  | _, [] => True
  | b, .more x :: D => fitsD (b ++ x) D
  | b, .cut n :: D => n ≤ b.length ∧ fitsD (b.take n) D
theorem IsDeed.later {w w' : World} {v : Value} {d : Deed} (h : IsDeed w v d) (hb : Below w.heap.size w w') : IsDeed w' v d := by
  cases d with
  | more b => obtain ⟨a, n, c, e, hs⟩ := h; exact ⟨a, n, c, e, hs.later hb⟩
  | cut n => exact h
theorem IsDeeds.later {w w' : World} {ao : Option Addr} {n cap : Nat} {D : List Deed} (h : IsDeeds w ao n cap D) (hb : Below w.heap.size w w') : IsDeeds w' ao n cap D := by
  obtain ⟨h1, h2, h3, h4, h5⟩ := h
  refine ⟨h1, h2, h3, h4, fun i hi => ?_⟩
  obtain ⟨b, off, v, e, hc, hv⟩ := h5 i hi
  exact ⟨b, off, v, e, (hb.cell (block_lt_of_cell hc)).trans hc, hv.later hb⟩
theorem assert_more (v : Value) (w : World) : (Instr.typeAssert (.iface 95 v) 114 95 true).run Tryz.prog w = .ok (.tuple #[v, .bool true]) w := by kernel_rfl
theorem assert_cut_more (v : Value) (w : World) : (Instr.typeAssert (.iface 100 v) 114 95 true).run Tryz.prog w = .ok (.tuple #[.slice none 0 0, .bool false]) w := by kernel_rfl
theorem assert_cut (v : Value) (w : World) : (Instr.typeAssert (.iface 100 v) 114 100 true).run Tryz.prog w = .ok (.tuple #[v, .bool true]) w := by kernel_rfl
set_option maxRecDepth 100000 in
set_option maxHeartbeats 2000000 in
theorem after_any (f : Nat) (ao : Option Addr) (n cap : Nat) (S : List UInt8) (al : Option Addr) (m capl : Nat) (D : List Deed) (z : Int) (w : World) (h : FileRow w f (.slice ao n cap) (.slice al m capl))
    (hs : IsBytes w ao n cap S) (hd : IsDeeds w al m capl D) (hf : fitsD S D) (hn : n ≤ 4294967296) (hz0 : -1099511627776 ≤ z) (hz1 : z ≤ 1099511627776) (hu : (D.map Deed.units).sum ≤ 1099511627776) :
    Calls Tryz.prog 84 #[.pointer (some ⟨f, 0, none⟩), .int .i64 z] w fun e w' => ∃ v, e = .returned v ∧ OwnB w' w.heap.size v (afterZ S D z) ∧ Below w.heap.size w w' := by
  have f0 : w.cell? ⟨f, 0, none⟩ = some (.slice ao n cap) := cell_of_row _ _ _ _ _ _ h
  have HR := Lib.hid h
  have HS := Lib.hid hs
  have HD := Lib.hid hd
  have HF := Lib.hid hf
  have hm := hd.2.1
  have hcm := hd.2.2.1
  unfold maxLen at hcm
  have hfb : f < w.heap.size := block_lt_of_cell f0
  have HFB := Lib.hid hfb
  clear h hs hd hf hfb
  go_enter Tryz.func84, Tryz.ntmps84
  go_wp2_with fail
  refine (CloneB_any _ _ _ S _ HS.out hn).mono ?_
  rintro e w1 ⟨v, rfl, hown, hb1⟩
  have f1 : w1.cell? ⟨f, 1, none⟩ = some (.slice al m capl) := (hb1.cell (by dsimp only; exact HFB.out)).trans (cell_of_row _ _ _ _ _ _ HR.out)
  have HO := Lib.hid hown
  have HB1 := Lib.hid hb1
  clear hown hb1 f0
  go_wp2_with fail
  go_loopw [1, 5, 20] (fun t1 b5 i wr => ∃ k b zz, k ≤ m ∧ i = .int .i64 ((k : Nat) : Int) ∧ t1 = .int .i64 zz ∧ -1099511627776 ≤ zz ∧ zz ≤ 1099511627776 ∧ Hid (OwnB wr w.heap.size b5 b) ∧ Hid (afterZ S D z = afterZ b (D.drop k) zz) ∧ Hid (b.length ≤ n + ((D.take k).map Deed.units).sum) ∧ Hid (0 < zz → fitsD b (D.drop k)) ∧ Hid (Below w.heap.size w wr)) (fun _ _ i _ => m - (intOf i).toNat)
  case atStart => exact ⟨0, S, z, by omega, rfl, rfl, hz0, hz1, HO, Lib.hid rfl, Lib.hid (by rw [HS.out.1]; simp), Lib.hid (fun _ => HF.out), HB1⟩
  case round =>
    obtain ⟨k, b, zz, hk, rfl, rfl, hzz0, hzz1, hown, heq, hlen, hfit, hbl⟩ := hrel
    by_cases hlt : k < m
    · have hi0 : (0 : Int) ≤ (k : Int) := by omega
      have hi5 : (k : Int) < (m : Int) := by omega
      obtain ⟨g, off, v, rfl, hc, hv⟩ := (HD.out.later hbl.out).2.2.2.2 k hlt
      obtain ⟨x, hx⟩ : ∃ x, x = D.getD k (.cut 0) := ⟨_, rfl⟩
      rw [← hx] at hv
      have hdk : D.drop k = x :: D.drop (k + 1) := by
        have hkl : k < D.length := by rw [HD.out.1]; exact hlt
        rw [List.drop_eq_getElem_cons hkl, hx, List.getD_eq_getElem?_getD, List.getElem?_eq_getElem hkl]; rfl
      have hun := take_units HD.out.1 hlt
      rw [← hx] at hun
      have hle := Nat.le_trans (take_units_le D (k + 1)) hu
      have HDK := Lib.hid hdk
      have HUN := Lib.hid hun
      have HLE := Lib.hid hle
      have HX := Lib.hid hx
      clear hdk hun hle hx
      by_cases hzp : zz ≤ 0
      · have hout : afterZ b (x :: D.drop (k + 1)) zz = b := afterZ_stop _ _ _ hzp
        have HOUT := Lib.hid hout
        clear hout hv
        go_wp2_with fail
        go_ret
        refine ⟨_, rfl, ?_, hbl.out⟩
        rw [heq.out, HDK.out, HOUT.out]
        exact hown.out
      · cases x with
        | more bs =>
          obtain ⟨a, q, cq, rfl, hbs⟩ := hv
          obtain ⟨zn, rfl⟩ : ∃ zn : Nat, zz = (zn : Int) := ⟨zz.toNat, by omega⟩
          have hta := fun w' => assert_more (.slice a q cq) w'
          have hm' := fun w' => meth_more (.slice a q cq) w'
          have hql : bs.length = q := hbs.1
          have HQL := Lib.hid hql
          have HBS := Lib.hid hbs
          have hq40 : q ≤ 1099511627776 := by have h1 := HUN.out; have h2 := HLE.out; simp only [Deed.units] at h1; omega
          have hw : IntKind.i64.wrap ((zn : Int) - (q : Int)) = (zn : Int) - (q : Int) := IntWalk.i64_in _ (by omega)
          clear hql hbs
          by_cases hzq : zn ≤ q
          · have hzqi : (zn : Int) ≤ (q : Int) := by omega
            have hst := slice_to_more HBS.out zn hzq
            have hsl := hst.1
            have HSB := Lib.hid hst.2
            clear hst
            have hnm : b.length + zn ≤ 140737488355328 := by
              have h1 := hlen.out
              have h2 := take_units_le D k
              omega
            go_wp2_with (at_builtin; refine wpList_append_more rfl _ _ rfl w.heap.size u5 b rfl hown.out a zn cq (bs.take zn) rfl HSB.out hnm (by have := hbl.out.size; omega) ?_; intro v2 w2 hown2 hgr2)
            refine (units_more a q cq _).mono ?_
            rintro e w' ⟨rfl, rfl⟩
            go_wp2_with fail
            go_roundw
            case rel =>
              refine ⟨k + 1, b ++ bs.take zn, (zn : Int) - (q : Int), by omega, by go_num, rfl, by omega, by omega, Lib.hid hown2, Lib.hid ?_, Lib.hid ?_, Lib.hid ?_, Lib.hid (hbl.out.grown hgr2 hbl.out.size (fun j hj => (hown.out.1.lt j hj).1))⟩
              · rw [heq.out, HDK.out, afterZ_more _ _ _ (by omega), HQL.out]
                congr 3
                omega
              · have h1 := hlen.out
                have h2 := HUN.out
                have h3 := HQL.out
                simp only [Deed.units] at h2
                simp only [List.length_append, List.length_take]
                omega
              · intro hp
                have h1 := hfit.out (by omega)
                rw [HDK.out] at h1
                have h3 := HQL.out
                rw [List.take_of_length_le (by omega)]
                exact h1
            case measure => simp [intOf]; omega
          · have hzqi : ¬ (zn : Int) ≤ (q : Int) := by omega
            have hst := slice_to_more HBS.out q (Nat.le_refl _)
            have hsl := hst.1
            have HSB := Lib.hid hst.2
            clear hst
            have hnm : b.length + q ≤ 140737488355328 := by
              have h1 := hlen.out
              have h2 := take_units_le D k
              omega
            go_wp2_with (at_builtin; refine wpList_append_more rfl _ _ rfl w.heap.size u5 b rfl hown.out a q cq (bs.take q) rfl HSB.out hnm (by have := hbl.out.size; omega) ?_; intro v2 w2 hown2 hgr2)
            refine (units_more a q cq _).mono ?_
            rintro e w' ⟨rfl, rfl⟩
            go_wp2_with fail
            go_roundw
            case rel =>
              refine ⟨k + 1, b ++ bs.take q, (zn : Int) - (q : Int), by omega, by go_num, rfl, by omega, by omega, Lib.hid hown2, Lib.hid ?_, Lib.hid ?_, Lib.hid ?_, Lib.hid (hbl.out.grown hgr2 hbl.out.size (fun j hj => (hown.out.1.lt j hj).1))⟩
              · rw [heq.out, HDK.out, afterZ_more _ _ _ (by omega), HQL.out]
                congr 3
                omega
              · have h1 := hlen.out
                have h2 := HUN.out
                have h3 := HQL.out
                simp only [Deed.units] at h2
                simp only [List.length_append, List.length_take]
                omega
              · intro hp
                have h1 := hfit.out (by omega)
                rw [HDK.out] at h1
                have h3 := HQL.out
                rw [List.take_of_length_le (by omega)]
                exact h1
            case measure => simp [intOf]; omega
        | cut y =>
          obtain rfl := hv
          have hta := fun w' => assert_cut_more (.int .i64 (y : Int)) w'
          have htb := fun w' => assert_cut (.int .i64 (y : Int)) w'
          have hm' := fun w' => meth_cut (.int .i64 (y : Int)) w'
          have hw : IntKind.i64.wrap (zz - 1) = zz - 1 := IntWalk.i64_in _ (by omega)
          have hyb := hfit.out (by omega)
          rw [HDK.out] at hyb
          obtain ⟨hy1, hy2⟩ := hyb
          obtain ⟨a5, c5, e5, hb5, _⟩ := hown.out.bytes
          subst e5
          have hst := slice_to hb5 y hy1
          have hsl := hst.1
          have HY2 := Lib.hid hy2
          have HY1 := Lib.hid hy1
          clear hst hy1 hy2 hb5
          go_wp2_with fail
          refine (units_cut _ _).mono ?_
          rintro e w' ⟨rfl, rfl⟩
          go_wp2_with fail
          go_roundw
          case rel =>
            refine ⟨k + 1, b.take y, zz - 1, by omega, by go_num, rfl, by omega, by omega, Lib.hid (hown.out.short y HY1.out), Lib.hid ?_, Lib.hid ?_, Lib.hid (fun _ => HY2.out), hbl.out⟩
            · rw [heq.out, HDK.out, afterZ_cut _ _ _ (by omega)]
            · have h1 := hlen.out
              have h2 := HUN.out
              simp only [Deed.units] at h2
              rw [List.length_take]
              omega
          case measure => simp [intOf]; omega
    · obtain rfl : k = m := by omega
      go_wp2
      go_ret
      refine ⟨_, rfl, ?_, hbl.out⟩
      have h1 := heq.out
      have h2 := HD.out.1
      rw [List.drop_of_length_le (by omega)] at h1
      rw [h1, afterZ]
      exact hown.out
end Go.Proofs.YtjkkfjmloleedaaGreat

/- disk: a file's bytes; Read -/
namespace Go.Proofs.YtjkkfjmloleedaaGreat
open Go.RowKit
variable {nm : ByteArray}
/-- a file: its safe bytes, what is under way. -/
structure FileAt (w : World) (f : Nat) (S : List UInt8) (D : List Deed) : Prop where
  row : ∃ ao n cap al m capl, FileRow w f (.slice ao n cap) (.slice al m capl) ∧ IsBytes w ao n cap S ∧ IsDeeds w al m capl D
  fit : fitsD S D
  small : S.length + (D.map Deed.units).sum ≤ 4294967296
def unitsD (D : List Deed) : Nat := (D.map Deed.units).sum
/-- all of a file's bytes. -/
def allB (S : List UInt8) (D : List Deed) : List UInt8 := afterZ S D (unitsD D : Nat)
set_option maxRecDepth 100000 in
theorem bytes_any (f : Nat) (S : List UInt8) (D : List Deed) (w : World) (h : FileAt w f S D) :
    Calls Tryz.prog 58 #[.pointer (some ⟨f, 0, none⟩)] w fun e w' => ∃ v, e = .returned v ∧ OwnB w' w.heap.size v (allB S D) ∧ Below w.heap.size w w' := by
  obtain ⟨⟨ao, n, cap, al, m, capl, hr, hs, hd⟩, hf, hsm⟩ := h
  have hn := hs.1
  have HR := Lib.hid hr
  have HS := Lib.hid hs
  have HD := Lib.hid hd
  have HF := Lib.hid hf
  have HM : Hid (n + (D.map Deed.units).sum ≤ 4294967296) := Lib.hid (by rw [← hn]; exact hsm)
  have hl := loose_any f _ al m capl D w hr hd (by omega)
  have HL := Lib.hid hl
  clear hr hs hd hf hsm hn hl
  obtain ⟨z, hz⟩ : ∃ z : Nat, z = (D.map Deed.units).sum := ⟨_, rfl⟩
  have HZ := Lib.hid hz
  clear hz
  go_enter Tryz.func58, Tryz.ntmps58
  go_wp2_with fail
  refine HL.out.mono ?_
  rintro e w' ⟨rfl, rfl⟩
  go_wp2_with fail
  refine (after_any f ao n cap S al m capl D _ _ HR.out HS.out HD.out HF.out (by have := HM.out; omega) (by omega) (by have := HM.out; omega) (by have := HM.out; omega)).mono ?_
  rintro e w1 ⟨v, rfl, hown, hb⟩
  go_wp2_with fail
  go_ret
  exact ⟨v, rfl, hown, hb⟩
set_option maxRecDepth 100000 in
theorem Read_log (d mb c f : Nat) (M : List Ent) (st fu : Int) (S : List UInt8) (D : List Deed) (w : World) (h : DiskRow w d mb st fu false) (hm : w.heap[mb]? = some (.map (ents M) c)) (hfo : fileOf nm M = some f) (hf : FileAt w f S D) :
    Calls Tryz.prog 33 #[.pointer (some ⟨d, 0, none⟩), .string nm] w fun e w' => ∃ v, e = .returned (.tuple #[v, .int .i64 0]) ∧ OwnB w' w.heap.size v (allB S D) ∧ Below w.heap.size w w' := by
  have ho := open_log d mb c f M st fu w h hm hfo
  have HO := Lib.hid ho
  have HB := Lib.hid (bytes_any f S D w hf)
  clear ho h hm hf hfo
  go_enter Tryz.func33, Tryz.ntmps33
  go_wp2_with fail
  refine HO.out.mono ?_
  rintro e w' ⟨rfl, rfl⟩
  go_wp2_with fail
  refine HB.out.mono ?_
  rintro e w1 ⟨v, rfl, hown, hb⟩
  go_wp2_with fail
  go_ret2
  exact ⟨v, rfl, hown, hb⟩
set_option maxRecDepth 100000 in
theorem Read_none (d mb c : Nat) (M : List Ent) (st fu : Int) (w : World) (h : DiskRow w d mb st fu false) (hm : w.heap[mb]? = some (.map (ents M) c)) (hfo : fileOf nm M = none) :
    Calls Tryz.prog 33 #[.pointer (some ⟨d, 0, none⟩), .string nm] w fun e w' => e = .returned (.tuple #[.slice none 0 0, .int .i64 6]) ∧ w = w' := by
  have ho := open_none d mb c M st fu w h hm hfo
  have HO := Lib.hid ho
  clear ho h hm hfo
  go_enter Tryz.func33, Tryz.ntmps33
  go_wp2_with fail
  refine HO.out.mono ?_
  rintro e w' ⟨rfl, rfl⟩
  go_wp2_with fail
  go_ret2
  exact ⟨rfl, rfl⟩
set_option maxRecDepth 100000 in
theorem Read_nil (nv : Value) (w : World) : Calls Tryz.prog 33 #[.pointer none, nv] w fun e w' => e = .returned (.tuple #[.slice none 0 0, .int .i64 1]) ∧ w = w' := by
  go_enter Tryz.func33, Tryz.ntmps33
  go_wp2_with fail
  refine (open_nil nv _).mono ?_
  rintro e w' ⟨rfl, rfl⟩
  go_wp2_with fail
  go_ret2
  exact ⟨rfl, rfl⟩
end Go.Proofs.YtjkkfjmloleedaaGreat

/- disk: settle -/
namespace Go.Proofs.YtjkkfjmloleedaaGreat
open Go.RowKit
set_option linter.unusedSectionVars false
theorem grownBy_of_below {w w1 w2 : World} {f : Nat} (h : Below w.heap.size w w1) (hs : w1.heap.size ≤ w2.heap.size) (ho : w2.os = w1.os) (ht : w2.tape = w1.tape) (hu : w2.output = w1.output) (hb : ∀ j, j ≠ f → w2.heap[j]? = w1.heap[j]?) : w.grownBy w2 (some f) :=
  ⟨ho.trans h.os, ht.trans h.tape, hu.trans h.output, Nat.le_trans h.size hs, fun j hj hne => (hb j (fun e => hne (by rw [e]))).trans (h.block j hj)⟩
set_option maxRecDepth 100000 in
theorem settle_any (f : Nat) (S : List UInt8) (D : List Deed) (w : World) (z : Int) (hz0 : 0 ≤ z) (hz1 : z ≤ 1099511627776) (h : FileAt w f S D) :
    Calls Tryz.prog 52 #[.pointer (some ⟨f, 0, none⟩), .int .i64 z] w fun e w' => e = .returned (.tuple #[]) ∧ (∃ v, FileRow w' f v (.slice none 0 0) ∧ OwnB w' w.heap.size v (afterZ S D z)) ∧ w.grownBy w' (some f) := by
  obtain ⟨⟨ao, n, cap, al, m, capl, hr, hs, hd⟩, hf, hsm⟩ := h
  have hn := hs.1
  have HA := Lib.hid (after_any f ao n cap S al m capl D z w hr hs hd hf (by omega) (by omega) hz1 (by omega))
  have HR := Lib.hid hr
  have hfb : f < w.heap.size := block_lt_of_cell (cell_of_row _ _ _ _ _ _ hr : w.cell? ⟨f, 0, none⟩ = some (.slice ao n cap))
  have HFB := Lib.hid hfb
  clear hr hs hd hf hsm hn hfb
  go_enter Tryz.func52, Tryz.ntmps52
  go_wp2_with fail
  refine HA.out.mono ?_
  rintro e w1 ⟨v, rfl, hown, hb⟩
  obtain ⟨av, cv, hvs⟩ := ownsRow_shape hown.1
  obtain ⟨lv, hlv⟩ : ∃ lv, lv = (afterZ S D z).length := ⟨_, rfl⟩
  rw [← hlv] at hvs
  subst hvs
  clear hlv
  have hrow : w1.heap[f]? = some (.cells #[.slice ao n cap, .slice al m capl] 92 (0, 0)) := (hb.block f HFB.out).trans HR.out
  have c0 : w1.cell? ⟨f, 0, none⟩ = some (.slice ao n cap) := cell_of_row _ _ _ _ _ _ hrow
  have c1 : w1.cell? ⟨f, 1, none⟩ = some (.slice al m capl) := cell_of_row _ _ _ _ _ _ hrow
  have z0 : w1.frozen? ⟨f, 0, none⟩ = false := frozen_of_row _ _ _ _ _ hrow
  have z1 : w1.frozen? ⟨f, 1, none⟩ = false := frozen_of_row _ _ _ _ _ hrow
  have HROW := Lib.hid hrow
  have HO := Lib.hid hown
  have HB := Lib.hid hb
  clear hrow hown hb
  go_wp2_with fail
  go_end0
  refine ⟨rfl, ⟨_, ?_, HO.out.move ?_⟩, ?_⟩
  · have h1 := heap_setCell_same w1 f 0 _ _ (.slice av lv cv) HROW.out
    have h2 := heap_setCell_same _ f 1 _ _ (.slice none 0 0) h1
    exact h2
  · intro g hg
    have hne : g ≠ f := by
      have := (HO.out.1.lt g hg).1
      have := HFB.out
      omega
    rw [Below.heap_setCell _ _ _ _ hne, Below.heap_setCell _ _ _ _ hne]
  · exact grownBy_of_below HB.out (by simp) rfl rfl rfl (fun j hj => by rw [Below.heap_setCell _ _ _ _ hj, Below.heap_setCell _ _ _ _ hj])
end Go.Proofs.YtjkkfjmloleedaaGreat

/- disk: what Sync does behind the step -/
namespace Go.Proofs.YtjkkfjmloleedaaGreat
open Go.RowKit
set_option linter.unusedSectionVars false
theorem FileAt.drew {w : World} {f : Nat} {S : List UInt8} {D : List Deed} (h : FileAt w f S D) : FileAt w.drew f S D := by
  obtain ⟨⟨ao, n, cap, al, m, capl, hr, hs, hd⟩, hf, hsm⟩ := h
  exact ⟨⟨ao, n, cap, al, m, capl, hr, hs.later (Below.refl _ _).drew, hd.later (Below.refl _ _).drew⟩, hf, hsm⟩
theorem loose_at (f : Nat) (S : List UInt8) (D : List Deed) (w : World) (h : FileAt w f S D) :
    Calls Tryz.prog 51 #[.pointer (some ⟨f, 0, none⟩)] w fun e w' => e = .returned (.int .i64 (unitsD D : Nat)) ∧ w = w' := by
  obtain ⟨⟨ao, n, cap, al, m, capl, hr, hs, hd⟩, hf, hsm⟩ := h
  exact loose_any f _ al m capl D w hr hd (by omega)
set_option maxRecDepth 100000 in
theorem SyncDo_any (vb f : Nat) (S : List UInt8) (D : List Deed) (w : World) (hne : vb ≠ f) (hv : w.heap[vb]? = some (.cells #[.pointer (some ⟨f, 0, none⟩)] 82 (0, 0))) (h : FileAt w f S D) :
    Calls Tryz.prog 68 #[.pointer (some ⟨vb, 0, none⟩)] w fun e w' => e = .returned (.tuple #[]) ∧ (∃ v, FileRow w' f v (.slice none 0 0) ∧ OwnB w' w.heap.size v (allB S D)) ∧ w.grownBy w' (some f) := by
  have hu : unitsD D ≤ 1099511627776 := by have := h.small; unfold unitsD; omega
  have h0 : w.cell? ⟨vb, 0, none⟩ = some (.pointer (some ⟨f, 0, none⟩)) := cell_of_row _ _ _ _ _ _ hv
  have hvb : vb < w.heap.size := block_lt_of_cell h0
  have HL := Lib.hid (loose_at f S D w.drew h.drew)
  have HT := Lib.hid (settle_any f S D w.drew (unitsD D : Nat) (by omega) (by omega) h.drew)
  have HNE := Lib.hid hne
  have HVB := Lib.hid hvb
  clear hne hvb h hv hu
  have hall : allB S D = afterZ S D (unitsD D : Nat) := rfl
  generalize unitsD D = u at HL HT hall
  have HALL := Lib.hid hall
  clear hall
  go_enter Tryz.func68, Tryz.ntmps68
  go_wp2_with fail
  go_region_held3 (fun w' => w'.cell? ⟨vb, 0, none⟩ = some (.pointer (some ⟨f, 0, none⟩)))
    (first
      | (exact h0)
      | (exact (World.cell?_of_block (w := w.drew) (hgr.block vb HVB.out (by intro e; injection e with e; exact HNE.out e))).trans h0))
    (first
      | (go_at_call 51; refine HL.out.mono ?_; rintro e w1 ⟨rfl, rfl⟩)
      | (go_at_call 52; refine HT.out.mono ?_; rintro e w1 ⟨rfl, hv1, hgr⟩))
  all_goals
    go_wp2_with fail
    go_end0
    refine ⟨rfl, ?_, ⟨hgr.os, hgr.tape, hgr.output, hgr.size, hgr.block⟩⟩
    rw [HALL.out]
    exact hv1
end Go.Proofs.YtjkkfjmloleedaaGreat

/- disk: a file's bytes behind some units of what is under way -/
import Derived.Test.YtmpjjkfbojhfoaaDPart
namespace Go.Proofs.Ytmpjjkfbojhfoaa
open Go.RowKit
set_option linter.unusedSectionVars false
def afterZ : List UInt8 → List Deed → Int → List UInt8
  | b, [], _ => b
  | b, d :: D, z => if z ≤ 0 then b else match d with
    | .more x => afterZ (b ++ x.take (min z (x.length : Int)).toNat) D (z - x.length)
    | .cut n => afterZ (b.take n) D (z - 1)
theorem afterZ_stop (b : List UInt8) (d : Deed) (D : List Deed) {z : Int} (h : z ≤ 0) : afterZ b (d :: D) z = b := by cases d <;> simp [afterZ, h]
theorem afterZ_more (b x : List UInt8) (D : List Deed) {z : Int} (h : ¬ z ≤ 0) : afterZ b (.more x :: D) z = afterZ (b ++ x.take (min z (x.length : Int)).toNat) D (z - x.length) := by rw [afterZ, if_neg h]
theorem afterZ_cut (b : List UInt8) (n : Nat) (D : List Deed) {z : Int} (h : ¬ z ≤ 0) : afterZ b (.cut n :: D) z = afterZ (b.take n) D (z - 1) := by rw [afterZ, if_neg h]
/-- every cut lies within what there is then. -/
def fitsD : List UInt8 → List Deed → Prop
  | _, [] => True
  | b, .more x :: D => fitsD (b ++ x) D
  | b, .cut n :: D => n ≤ b.length ∧ fitsD (b.take n) D
theorem IsDeed.later {w w' : World} {v : Value} {d : Deed} (h : IsDeed w v d) (hb : Below w.heap.size w w') : IsDeed w' v d := by
  cases d with
  | more b => obtain ⟨a, n, c, e, hs⟩ := h; exact ⟨a, n, c, e, hs.later hb⟩
  | cut n => exact h
theorem IsDeeds.later {w w' : World} {ao : Option Addr} {n cap : Nat} {D : List Deed} (h : IsDeeds w ao n cap D) (hb : Below w.heap.size w w') : IsDeeds w' ao n cap D := by
  obtain ⟨h1, h2, h3, h4, h5⟩ := h
  refine ⟨h1, h2, h3, h4, fun i hi => ?_⟩
  obtain ⟨b, off, v, e, hc, hv⟩ := h5 i hi
  exact ⟨b, off, v, e, (hb.cell (block_lt_of_cell hc)).trans hc, hv.later hb⟩
theorem assert_more (v : Value) (w : World) : (Instr.typeAssert (.iface 79 v) 101 79 true).run Try.prog w = .ok (.tuple #[v, .bool true]) w := by kernel_rfl
theorem assert_cut_more (v : Value) (w : World) : (Instr.typeAssert (.iface 93 v) 101 79 true).run Try.prog w = .ok (.tuple #[.slice none 0 0, .bool false]) w := by kernel_rfl
theorem assert_cut (v : Value) (w : World) : (Instr.typeAssert (.iface 93 v) 101 93 true).run Try.prog w = .ok (.tuple #[v, .bool true]) w := by kernel_rfl
set_option maxRecDepth 100000 in
set_option maxHeartbeats 2000000 in
theorem after_any (f : Nat) (ao : Option Addr) (n cap : Nat) (S : List UInt8) (al : Option Addr) (m capl : Nat) (D : List Deed) (z : Int) (w : World) (h : FileRow w f (.slice ao n cap) (.slice al m capl))
    (hs : IsBytes w ao n cap S) (hd : IsDeeds w al m capl D) (hf : fitsD S D) (hn : n ≤ 4294967296) (hz0 : -1099511627776 ≤ z) (hz1 : z ≤ 1099511627776) (hu : (D.map Deed.units).sum ≤ 1099511627776) :
    Calls Try.prog 69 #[.pointer (some ⟨f, 0, none⟩), .int .i64 z] w fun e w' => ∃ v, e = .returned v ∧ OwnB w' w.heap.size v (afterZ S D z) ∧ Below w.heap.size w w' := by
  have f0 : w.cell? ⟨f, 0, none⟩ = some (.slice ao n cap) := cell_of_row _ _ _ _ _ _ h
  have HR := Lib.hid h
  have HS := Lib.hid hs
  have HD := Lib.hid hd
  have HF := Lib.hid hf
  have hm := hd.2.1
  have hcm := hd.2.2.1
  unfold maxLen at hcm
  have hfb : f < w.heap.size := block_lt_of_cell f0
  have HFB := Lib.hid hfb
  clear h hs hd hf hfb
  go_enter Try.func69, Try.ntmps69
  go_wp2_with fail
  refine (CloneB_any _ _ _ S _ HS.out hn).mono ?_
  rintro e w1 ⟨v, rfl, hown, hb1⟩
  have f1 : w1.cell? ⟨f, 1, none⟩ = some (.slice al m capl) := (hb1.cell (by dsimp only; exact HFB.out)).trans (cell_of_row _ _ _ _ _ _ HR.out)
  have HO := Lib.hid hown
  have HB1 := Lib.hid hb1
  clear hown hb1 f0
  go_wp2_with fail
  go_loopw [1, 5, 20] (fun t1 b5 i wr => ∃ k b zz, k ≤ m ∧ i = .int .i64 ((k : Nat) : Int) ∧ t1 = .int .i64 zz ∧ -1099511627776 ≤ zz ∧ zz ≤ 1099511627776 ∧ Hid (OwnB wr w.heap.size b5 b) ∧ Hid (afterZ S D z = afterZ b (D.drop k) zz) ∧ Hid (b.length ≤ n + ((D.take k).map Deed.units).sum) ∧ Hid (0 < zz → fitsD b (D.drop k)) ∧ Hid (Below w.heap.size w wr)) (fun _ _ i _ => m - (intOf i).toNat)
  case atStart => exact ⟨0, S, z, by omega, rfl, rfl, hz0, hz1, HO, Lib.hid rfl, Lib.hid (by rw [HS.out.1]; simp), Lib.hid (fun _ => HF.out), HB1⟩
  case round =>
    obtain ⟨k, b, zz, hk, rfl, rfl, hzz0, hzz1, hown, heq, hlen, hfit, hbl⟩ := hrel
    by_cases hlt : k < m
    · have hi0 : (0 : Int) ≤ (k : Int) := by omega
      have hi5 : (k : Int) < (m : Int) := by omega
      obtain ⟨g, off, v, rfl, hc, hv⟩ := (HD.out.later hbl.out).2.2.2.2 k hlt
      obtain ⟨x, hx⟩ : ∃ x, x = D.getD k (.cut 0) := ⟨_, rfl⟩
      rw [← hx] at hv
      have hdk : D.drop k = x :: D.drop (k + 1) := by
        have hkl : k < D.length := by rw [HD.out.1]; exact hlt
        rw [List.drop_eq_getElem_cons hkl, hx, List.getD_eq_getElem?_getD, List.getElem?_eq_getElem hkl]; rfl
      have hun := take_units HD.out.1 hlt
      rw [← hx] at hun
      have hle := Nat.le_trans (take_units_le D (k + 1)) hu
      have HDK := Lib.hid hdk
      have HUN := Lib.hid hun
      have HLE := Lib.hid hle
      have HX := Lib.hid hx
      clear hdk hun hle hx
      by_cases hzp : zz ≤ 0
      · have hout : afterZ b (x :: D.drop (k + 1)) zz = b := afterZ_stop _ _ _ hzp
        have HOUT := Lib.hid hout
        clear hout hv
        go_wp2_with fail
        go_ret
        refine ⟨_, rfl, ?_, hbl.out⟩
        rw [heq.out, HDK.out, HOUT.out]
        exact hown.out
      · cases x with
        | more bs =>
          obtain ⟨a, q, cq, rfl, hbs⟩ := hv
          obtain ⟨zn, rfl⟩ : ∃ zn : Nat, zz = (zn : Int) := ⟨zz.toNat, by omega⟩
          have hta := fun w' => assert_more (.slice a q cq) w'
          have hm' := fun w' => meth_more (.slice a q cq) w'
          have hql : bs.length = q := hbs.1
          have HQL := Lib.hid hql
          have HBS := Lib.hid hbs
          have hq40 : q ≤ 1099511627776 := by have h1 := HUN.out; have h2 := HLE.out; simp only [Deed.units] at h1; omega
          have hw : IntKind.i64.wrap ((zn : Int) - (q : Int)) = (zn : Int) - (q : Int) := IntWalk.i64_in _ (by omega)
          clear hql hbs
          by_cases hzq : zn ≤ q
          · have hzqi : (zn : Int) ≤ (q : Int) := by omega
            have hst := slice_to_more HBS.out zn hzq
            have hsl := hst.1
            have HSB := Lib.hid hst.2
            clear hst
            have hnm : b.length + zn ≤ 140737488355328 := by
              have h1 := hlen.out
              have h2 := take_units_le D k
              omega
            go_wp2_with (at_builtin; refine wpList_append_more rfl _ _ rfl w.heap.size u5 b rfl hown.out a zn cq (bs.take zn) rfl HSB.out hnm (by have := hbl.out.size; omega) ?_; intro v2 w2 hown2 hgr2)
            refine (units_more a q cq _).mono ?_
            rintro e w' ⟨rfl, rfl⟩
            go_wp2_with fail
            go_roundw
            case rel =>
              refine ⟨k + 1, b ++ bs.take zn, (zn : Int) - (q : Int), by omega, by go_num, rfl, by omega, by omega, Lib.hid hown2, Lib.hid ?_, Lib.hid ?_, Lib.hid ?_, Lib.hid (hbl.out.grown hgr2 hbl.out.size (fun j hj => (hown.out.1.lt j hj).1))⟩
              · rw [heq.out, HDK.out, afterZ_more _ _ _ (by omega), HQL.out]
                congr 3
                omega
              · have h1 := hlen.out
                have h2 := HUN.out
                have h3 := HQL.out
                simp only [Deed.units] at h2
                simp only [List.length_append, List.length_take]
                omega
              · intro hp
                have h1 := hfit.out (by omega)
                rw [HDK.out] at h1
                have h3 := HQL.out
                rw [List.take_of_length_le (by omega)]
                exact h1
            case measure => simp [intOf]; omega
          · have hzqi : ¬ (zn : Int) ≤ (q : Int) := by omega
            have hst := slice_to_more HBS.out q (Nat.le_refl _)
            have hsl := hst.1
            have HSB := Lib.hid hst.2
            clear hst
            have hnm : b.length + q ≤ 140737488355328 := by
              have h1 := hlen.out
              have h2 := take_units_le D k
              omega
            go_wp2_with (at_builtin; refine wpList_append_more rfl _ _ rfl w.heap.size u5 b rfl hown.out a q cq (bs.take q) rfl HSB.out hnm (by have := hbl.out.size; omega) ?_; intro v2 w2 hown2 hgr2)
            refine (units_more a q cq _).mono ?_
            rintro e w' ⟨rfl, rfl⟩
            go_wp2_with fail
            go_roundw
            case rel =>
              refine ⟨k + 1, b ++ bs.take q, (zn : Int) - (q : Int), by omega, by go_num, rfl, by omega, by omega, Lib.hid hown2, Lib.hid ?_, Lib.hid ?_, Lib.hid ?_, Lib.hid (hbl.out.grown hgr2 hbl.out.size (fun j hj => (hown.out.1.lt j hj).1))⟩
              · rw [heq.out, HDK.out, afterZ_more _ _ _ (by omega), HQL.out]
                congr 3
                omega
              · have h1 := hlen.out
                have h2 := HUN.out
                have h3 := HQL.out
                simp only [Deed.units] at h2
                simp only [List.length_append, List.length_take]
                omega
              · intro hp
                have h1 := hfit.out (by omega)
                rw [HDK.out] at h1
                have h3 := HQL.out
                rw [List.take_of_length_le (by omega)]
                exact h1
            case measure => simp [intOf]; omega
        | cut y =>
          obtain rfl := hv
          have hta := fun w' => assert_cut_more (.int .i64 (y : Int)) w'
          have htb := fun w' => assert_cut (.int .i64 (y : Int)) w'
          have hm' := fun w' => meth_cut (.int .i64 (y : Int)) w'
          have hw : IntKind.i64.wrap (zz - 1) = zz - 1 := IntWalk.i64_in _ (by omega)
          have hyb := hfit.out (by omega)
          rw [HDK.out] at hyb
          obtain ⟨hy1, hy2⟩ := hyb
          obtain ⟨a5, c5, e5, hb5, _⟩ := hown.out.bytes
          subst e5
          have hst := slice_to hb5 y hy1
          have hsl := hst.1
          have HY2 := Lib.hid hy2
          have HY1 := Lib.hid hy1
          clear hst hy1 hy2 hb5
          go_wp2_with fail
          refine (units_cut _ _).mono ?_
          rintro e w' ⟨rfl, rfl⟩
          go_wp2_with fail
          go_roundw
          case rel =>
            refine ⟨k + 1, b.take y, zz - 1, by omega, by go_num, rfl, by omega, by omega, Lib.hid (hown.out.short y HY1.out), Lib.hid ?_, Lib.hid ?_, Lib.hid (fun _ => HY2.out), hbl.out⟩
            · rw [heq.out, HDK.out, afterZ_cut _ _ _ (by omega)]
            · have h1 := hlen.out
              have h2 := HUN.out
              simp only [Deed.units] at h2
              rw [List.length_take]
              omega
          case measure => simp [intOf]; omega
    · obtain rfl : k = m := by omega
      go_wp2
      go_ret
      refine ⟨_, rfl, ?_, hbl.out⟩
      have h1 := heq.out
      have h2 := HD.out.1
      rw [List.drop_of_length_le (by omega)] at h1
      rw [h1, afterZ]
      exact hown.out
end Go.Proofs.Ytmpjjkfbojhfoaa

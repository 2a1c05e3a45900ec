/- BoxtreeDeep (printed by mkdeep12.py) -/
import Derived.Test.YtlmmejdcjhbppaaMBLaw0
import Derived.Test.YtlmmejdcjhbppaaMBIn
import Derived.Deep.OwnRows
set_option linter.unusedSimpArgs false
set_option linter.unusedVariables false
namespace Go.Proofs.Ytlmmejdcjhbppaa
open Go.RowKit Go.Geo
attribute [local go_sem] Oper.semAt_some
theorem depth_facts : ∀ n : Nat, n ≤ 100 → depthN n ≤ 11 ∧ (0 < n → 1 ≤ depthN n ∧ depthN (n + n) = depthN n + 1) ∧ (1 < n → n ≤ 2 ^ (depthN n - 1)) := by decide +kernel
theorem cell_otherD {w : World} {a p : Addr} {v : Value} (h : p.block ≠ a.block) : (w.setCell a v).cell? p = w.cell? p := by
  unfold World.cell?
  rw [Go.Deep.blk_setCell_other _ _ _ _ h]
theorem IsInts.setOther {w : World} {ao : Option Addr} {n cap hk o : Nat} {L : List Int} {u : Value} (h : IsInts w ao n cap L) (hne : ∀ b off, ao = some ⟨b, off, none⟩ → b ≠ hk) : IsInts (w.setCell ⟨hk, o, none⟩ u) ao n cap L := by
  obtain ⟨h1, h2, h3, h4, h5⟩ := h
  refine ⟨h1, h2, h3, fun hn => ?_, h5⟩
  obtain ⟨b, off, e, hc⟩ := h4 hn
  exact ⟨b, off, e, fun i hi => (cell_otherD (p := ⟨b, off + i, none⟩) (a := ⟨hk, o, none⟩) (hne b off e)).trans (hc i hi)⟩
theorem Try.infoBoolS : (Try.prog.info? 4).map (fun i => (i.zero, i.size, i.bytes)) = some (some (.bool false), 1, 1) := by kernel_rfl
theorem make_bools (n : Nat) (hn : n ≤ 100000) (w : World) : (Instr.makeSlice 41 (.int .i64 (n : Int)) (.int .i64 (n : Int))).run Try.prog w = .ok (.slice (some ⟨w.heap.size, 0, none⟩) n n) (w.alloc (.cells (madeCells #[.bool false] n) 4)) :=
  run_make_row' 41 4 (.bool false) 1 Try.underlying41 Try.infoBoolS rfl .i64 .i64 n (by omega) (by omega) w
theorem wrap64_small (T : Nat) (h : T ≤ 1024) : wrap64 (T : Int) = (T : Int) := by
  simp only [wrap64]; omega
theorem take_more {O : List Int} {i : Nat} (h : i < O.length) : O.take (i + 1) = O.take i ++ [O.getD i 0] := by
  rw [List.take_add_one, List.getElem?_eq_getElem h, List.getD_eq_getElem?_getD, List.getElem?_eq_getElem h]; rfl
theorem perm_facts {O : List Int} {n : Nat} (h : O.Perm (allI n)) : O.length = n ∧ (∀ i, i < n → 0 ≤ O.getD i 0 ∧ O.getD i 0 < n) ∧ ∀ i, i < n → O.getD i 0 ∉ O.take i := by
  have hl : O.length = n := by rw [h.length_eq, allI_len]
  refine ⟨hl, fun i hi => ?_, fun i hi hm => ?_⟩
  · have : O.getD i 0 ∈ allI n := h.subset (by rw [List.getD_eq_getElem?_getD, List.getElem?_eq_getElem (by omega)]; exact List.getElem_mem _)
    exact allI_mem.1 this
  · have hnd : O.Nodup := h.nodup_iff.2 (allI_nodup n)
    have h2 : (O.take (i + 1)).Nodup := hnd.sublist (List.take_sublist _ _)
    rw [take_more (by omega), List.nodup_append] at h2
    exact h2.2.2 _ hm _ (List.mem_singleton_self _) rfl
set_option maxRecDepth 100000 in
set_option maxHeartbeats 8000000 in
theorem BoxtreeDeep_any (ao : Option Addr) (n cap : Nat) (L : List Bx) (w : World) (h : IsXB w ao n cap L) : Calls Try.prog 4 #[.slice ao n cap] w fun e w' => e = .returned (.bool true) ∧ Below w.heap.size w w' := by
  obtain ⟨hix, hin⟩ := h
  have hn := hix.1
  have hnc := hix.2.1
  have hcm := hix.2.2.1
  unfold maxLen at hcm
  have HI := Lib.hid hix
  have HN := Lib.hid hn
  have HIN0 := Lib.hid hin
  clear hix hn hin
  go_enter Try.func4, Try.ntmps4
  go_wp2_with fail
  refine (awake_any w).mono ?_
  rintro e w1 ⟨rfl, hb1⟩
  have HB1 := Lib.hid hb1
  clear hb1
  by_cases h100 : 100 < n
  · have h100' : (100 : Int) < (n : Int) := by omega
    go_wp2_with fail
    go_ret
    exact ⟨rfl, HB1.out⟩
  · have h100' : ¬ (100 : Int) < (n : Int) := by omega
    have HU := Lib.hid (BuildT_any ao n cap L w1 (HI.out.later HB1.out (Nat.le_refl _)) HIN0.out)
    go_wp2_with fail
    refine HU.out.mono ?_
    rintro e w2 ⟨_, hok, hb2⟩
    obtain ⟨g, rfl, _, ht2⟩ := hok (by rw [HN.out]; omega)
    have HB2 := Lib.hid (HB1.out.trans (hb2.mono HB1.out.size))
    have HT2 := Lib.hid ht2
    clear hok hb2 ht2
    have HI2 := Lib.hid (HI.out.later (HB2.out.alloc HB2.out.size (Obj.cells #[] 33)) (Nat.le_refl _))
    go_wp2_with (at_builtin; first
      | (refine wpList_append_X rfl _ _ rfl w2.heap.size (.slice (some ⟨w2.heap.size, 0, none⟩) 0 0) [] rfl (OwnX.none_new w2 _ (Nat.le_refl _)) ao n cap L rfl HI2.out (by simp; omega) (by simp) ?_
         intro v3 w3 hown3 hgr3 hfr3
         rw [List.nil_append] at hown3
         have hbl3 := below_grownX ((Below.refl _ _).alloc (Nat.le_refl _) _) (OwnX.none_new w2 _ (Nat.le_refl _)) hgr3 (by simp)
         have HB3 := Lib.hid (HB2.out.trans (hbl3.mono HB2.out.size))
         have HOW3 := Lib.hid hown3
         have HBL3 := Lib.hid hbl3
         clear hown3 hgr3 hfr3 hbl3)
      | (refine wpList_append_X rfl _ _ rfl w2.heap.size v3 L rfl HOW3.out ao n cap L rfl (HI.out.later HB3.out (Nat.le_refl _)) (by rw [HN.out]; omega) HBL3.out.size ?_
         intro v4 w4 hown4 hgr4 hfr4))
    have hbl4 : Below w2.heap.size w2 w4 := below_grownX HBL3.out HOW3.out hgr4 HBL3.out.size
    have HB4 := Lib.hid (HB2.out.trans (hbl4.mono HB2.out.size))
    have HT4 := Lib.hid (HT2.out.later hbl4)
    obtain ⟨la, lc, hv4, hix4⟩ := hown4.is
    have hll : (L ++ L).length = n + n := by rw [List.length_append, HN.out]
    have hinl : InB (L ++ L) := by intro b hb; rcases List.mem_append.1 hb with h | h <;> exact HIN0.out b h
    rw [hll] at hv4 hix4
    subst hv4
    have HU2 := Lib.hid (BuildT_any la (n + n) lc (L ++ L) w4 hix4 hinl)
    have HLL := Lib.hid hll
    clear hown4 hgr4 hfr4 hbl4 hix4 hll hinl
    go_wp2_with fail
    refine HU2.out.mono ?_
    rintro e w5 ⟨_, hok, hb5⟩
    obtain ⟨u, rfl, _, ht5⟩ := hok (by rw [HLL.out]; omega)
    have HB5 := Lib.hid (HB4.out.trans (hb5.mono HB4.out.size))
    have HT5 := Lib.hid (HT4.out.later hb5)
    have hdt := DepthT_any g L w5 HT5.out
    have hdu := DepthT_any u (L ++ L) w5 ht5
    rw [HN.out] at hdt
    rw [HLL.out] at hdu
    obtain ⟨q1, q2, q3⟩ := depth_facts n (by omega)
    obtain ⟨D, hD⟩ : ∃ D, D = depthN n := ⟨_, rfl⟩
    rw [← hD] at hdt q1 q2 q3
    have hmk := make_bools n (by omega) w5
    obtain ⟨W6, hW6⟩ : ∃ W, W = w5.alloc (.cells (madeCells #[.bool false] n) 4) := ⟨_, rfl⟩
    have hrow6 : W6.rowIs w5.heap.size 4 n (fun _ => .bool false) := by rw [hW6]; exact World.rowIs_made _ _ _ _
    have hb6 : Below w5.heap.size w5 W6 := by rw [hW6]; exact (Below.refl _ _).alloc (Nat.le_refl _) _
    rw [← hW6] at hmk
    have hlt6 : w5.heap.size < W6.heap.size := by rw [hW6]; simp
    clear hW6
    have HB6 := Lib.hid (HB5.out.trans (hb6.mono HB5.out.size))
    have HO := Lib.hid (OrderT_any g L W6 (HT5.out.later hb6))
    have HDT := Lib.hid hdt
    have HMK := Lib.hid (And.intro hrow6 (And.intro hlt6 hb6))
    clear hok hb5 hdt hrow6 hlt6 hb6 ht5
    have h11 : ¬ (11 : Int) < (D : Int) := by omega
    by_cases hz : 0 < n
    · obtain ⟨q4, q5⟩ := q2 hz
      rw [q5] at hdu
      have HDU := Lib.hid hdu
      have hz5 : (0 : Int) < (n : Int) := by omega
      have hwD : IntKind.i64.wrap ((D : Int) + 1) = ((D + 1 : Nat) : Int) := by rw [IntWalk.i64_in _ (by omega)]; omega
      clear hdu q2 hD
      by_cases h1 : 1 < n
      · have h15 : (1 : Int) < (n : Int) := by omega
        have q6 := q3 h1
        have hsm : (2 : Nat) ^ (D - 1) ≤ 1024 := Nat.le_trans (Nat.pow_le_pow_right (by omega) (show D - 1 ≤ 10 by omega)) (by decide)
        have hd1 : IntKind.i64.wrap ((D : Int) - 1) = (D : Int) - 1 := IntWalk.i64_in _ (by omega)
        have hd2 : (0 : Int) ≤ (D : Int) - 1 := by omega
        have hd3 : (D : Int) - 1 ≤ 64 := by omega
        have hd5 : ((D : Int) - 1).toNat = D - 1 := by omega
        obtain ⟨T, hT⟩ : ∃ T : Nat, T = 2 ^ (D - 1) := ⟨_, rfl⟩
        have hd6 : (1 : Int) * 2 ^ (D - 1) = (T : Int) := by rw [hT]; simp
        rw [← hT] at hsm q6
        have hwt : wrap64 ((2 : Int) ^ (D - 1)) = (T : Int) := by
          rw [Int.one_mul] at hd6
          rw [hd6]; exact wrap64_small T hsm
        clear hT hd6 q3
        have hTn : ¬ (T : Int) < (n : Int) := fun hc => absurd (Int.ofNat_lt.1 hc) (Nat.not_lt.2 q6)
        clear hsm hd5 q6
        go_wp2_with fail
        refine HDU.out.mono ?_
        rintro e wa ⟨rfl, rfl⟩
        go_wp2_with fail
        refine HDT.out.mono ?_
        rintro e wa ⟨rfl, rfl⟩
        go_wp2_with fail
        refine HDT.out.mono ?_
        rintro e wa ⟨rfl, rfl⟩
        go_wp2_with fail
        refine HDT.out.mono ?_
        rintro e wa ⟨rfl, rfl⟩
        go_wp2_with fail
        refine HO.out.mono ?_
        rintro e w7 ⟨v7, O, rfl, ho7, hly, hb7⟩
        obtain ⟨oa, oc, hv7, hi7⟩ := ho7.ints
        rw [HN.out] at hly
        obtain ⟨hol, hrg, hnin⟩ := perm_facts hly.perm
        rw [hol] at hv7 hi7
        subst hv7
        obtain ⟨hk, hhk⟩ : ∃ h, h = w5.heap.size := ⟨_, rfl⟩
        have hne : ∀ b off, oa = some ⟨b, off, none⟩ → b ≠ hk := by
          intro b off e
          have h1 := (ho7.lt b (by rw [e]; rfl)).1
          have h2 := HMK.out.2.1
          omega
        have hrow7 : w7.rowIs hk 4 n (fun j => .bool (decide ((j : Int) ∈ O.take 0))) := by
          rw [hhk]
          exact (HMK.out.1.of_block (hb7.block _ HMK.out.2.1)).congr (fun j hj => by simp)
        have hkw : w.heap.size ≤ hk := by rw [hhk]; exact HB5.out.size
        have HB7 := Lib.hid (HB6.out.trans (hb7.mono HB6.out.size))
        have HST7 := Lib.hid (And.intro HB7.out (And.intro hi7 hrow7))
        have HNE := Lib.hid hne
        have HOP := Lib.hid (And.intro hol (And.intro hrg hnin))
        have HKW := Lib.hid hkw
        rw [← hhk]
        clear hhk ho7 hly hb7 hi7 hol hrg hnin hne hrow7 hkw
        go_wp2_with fail
        go_loopw [10] (fun iv wr => ∃ i : Nat, i ≤ n ∧ iv = .int .i64 i ∧ Hid (Below w.heap.size w wr ∧ IsInts wr oa n oc O ∧ wr.rowIs hk 4 n (fun j => .bool (decide ((j : Int) ∈ O.take i))))) (fun iv _ => n - (intOf iv).toNat)
        case atStart => exact ⟨0, by omega, rfl, HST7⟩
        case round =>
          obtain ⟨i, hi, rfl, hst⟩ := hrel
          have HST := hst
          clear hst
          by_cases hlt : i < n
          · have hi5 : (i : Int) < (n : Int) := by omega
            have hi0 : (0 : Int) ≤ (i : Int) := by omega
            have hwi : IntKind.i64.wrap ((i : Int) + 1) = (i : Int) + 1 := IntWalk.i64_in _ (by omega)
            obtain ⟨x0, x1⟩ := HOP.out.2.1 i hlt
            have x2 := HOP.out.2.2 i hlt
            obtain ⟨j, hj⟩ : ∃ j : Nat, O.getD i 0 = (j : Int) := ⟨(O.getD i 0).toNat, by omega⟩
            rw [hj] at x0 x1 x2
            have hjn : j < n := by omega
            obtain ⟨ob, oo, hoa, cO⟩ := HST.out.2.1.at hlt
            have hbk := HNE.out ob oo hoa
            subst hoa
            rw [hj] at cO
            have cH := HST.out.2.2.cell hjn
            have fH := HST.out.2.2.frozen j
            rw [show decide ((j : Int) ∈ O.take i) = false from decide_eq_false x2] at cH
            have x3 : ¬ ((j : Int) < 0) := by omega
            have x4 : ¬ ((n : Int) ≤ (j : Int)) := by omega
            have HJ := Lib.hid (And.intro hj hbk)
            clear hj x2 hbk
            go_wp2_with fail
            go_roundw
            case rel =>
              refine ⟨i + 1, by omega, by go_num, Lib.hid ⟨HST.out.1.setCell (p := ⟨hk, j, none⟩) HKW.out _, HST.out.2.1.setOther HNE.out, (HST.out.2.2.set j (.bool true)).congr (fun k hk' => ?_)⟩⟩
              rw [take_more (by rw [HOP.out.1]; exact hlt), HJ.out.1]
              by_cases hkj : k = j
              · subst hkj; simp
              · have hkj2 : (k : Int) ≠ (j : Int) := by omega
                simp [hkj, hkj2]
            case measure => simp [intOf]; omega
          · have hin2 : i = n := by omega
            subst hin2
            go_wp2_with fail
            go_ret
            exact ⟨rfl, HST.out.1⟩
      · have h15 : ¬ (1 : Int) < (n : Int) := by omega
        clear q3
        go_wp2_with fail
        refine HDU.out.mono ?_
        rintro e wa ⟨rfl, rfl⟩
        go_wp2_with fail
        refine HDT.out.mono ?_
        rintro e wa ⟨rfl, rfl⟩
        go_wp2_with fail
        refine HDT.out.mono ?_
        rintro e wa ⟨rfl, rfl⟩
        go_wp2_with fail
        refine HO.out.mono ?_
        rintro e w7 ⟨v7, O, rfl, ho7, hly, hb7⟩
        obtain ⟨oa, oc, hv7, hi7⟩ := ho7.ints
        rw [HN.out] at hly
        obtain ⟨hol, hrg, hnin⟩ := perm_facts hly.perm
        rw [hol] at hv7 hi7
        subst hv7
        obtain ⟨hk, hhk⟩ : ∃ h, h = w5.heap.size := ⟨_, rfl⟩
        have hne : ∀ b off, oa = some ⟨b, off, none⟩ → b ≠ hk := by
          intro b off e
          have h1 := (ho7.lt b (by rw [e]; rfl)).1
          have h2 := HMK.out.2.1
          omega
        have hrow7 : w7.rowIs hk 4 n (fun j => .bool (decide ((j : Int) ∈ O.take 0))) := by
          rw [hhk]
          exact (HMK.out.1.of_block (hb7.block _ HMK.out.2.1)).congr (fun j hj => by simp)
        have hkw : w.heap.size ≤ hk := by rw [hhk]; exact HB5.out.size
        have HB7 := Lib.hid (HB6.out.trans (hb7.mono HB6.out.size))
        have HST7 := Lib.hid (And.intro HB7.out (And.intro hi7 hrow7))
        have HNE := Lib.hid hne
        have HOP := Lib.hid (And.intro hol (And.intro hrg hnin))
        have HKW := Lib.hid hkw
        rw [← hhk]
        clear hhk ho7 hly hb7 hi7 hol hrg hnin hne hrow7 hkw
        go_wp2_with fail
        go_loopw [10] (fun iv wr => ∃ i : Nat, i ≤ n ∧ iv = .int .i64 i ∧ Hid (Below w.heap.size w wr ∧ IsInts wr oa n oc O ∧ wr.rowIs hk 4 n (fun j => .bool (decide ((j : Int) ∈ O.take i))))) (fun iv _ => n - (intOf iv).toNat)
        case atStart => exact ⟨0, by omega, rfl, HST7⟩
        case round =>
          obtain ⟨i, hi, rfl, hst⟩ := hrel
          have HST := hst
          clear hst
          by_cases hlt : i < n
          · have hi5 : (i : Int) < (n : Int) := by omega
            have hi0 : (0 : Int) ≤ (i : Int) := by omega
            have hwi : IntKind.i64.wrap ((i : Int) + 1) = (i : Int) + 1 := IntWalk.i64_in _ (by omega)
            obtain ⟨x0, x1⟩ := HOP.out.2.1 i hlt
            have x2 := HOP.out.2.2 i hlt
            obtain ⟨j, hj⟩ : ∃ j : Nat, O.getD i 0 = (j : Int) := ⟨(O.getD i 0).toNat, by omega⟩
            rw [hj] at x0 x1 x2
            have hjn : j < n := by omega
            obtain ⟨ob, oo, hoa, cO⟩ := HST.out.2.1.at hlt
            have hbk := HNE.out ob oo hoa
            subst hoa
            rw [hj] at cO
            have cH := HST.out.2.2.cell hjn
            have fH := HST.out.2.2.frozen j
            rw [show decide ((j : Int) ∈ O.take i) = false from decide_eq_false x2] at cH
            have x3 : ¬ ((j : Int) < 0) := by omega
            have x4 : ¬ ((n : Int) ≤ (j : Int)) := by omega
            have HJ := Lib.hid (And.intro hj hbk)
            clear hj x2 hbk
            go_wp2_with fail
            go_roundw
            case rel =>
              refine ⟨i + 1, by omega, by go_num, Lib.hid ⟨HST.out.1.setCell (p := ⟨hk, j, none⟩) HKW.out _, HST.out.2.1.setOther HNE.out, (HST.out.2.2.set j (.bool true)).congr (fun k hk' => ?_)⟩⟩
              rw [take_more (by rw [HOP.out.1]; exact hlt), HJ.out.1]
              by_cases hkj : k = j
              · subst hkj; simp
              · have hkj2 : (k : Int) ≠ (j : Int) := by omega
                simp [hkj, hkj2]
            case measure => simp [intOf]; omega
          · have hin2 : i = n := by omega
            subst hin2
            go_wp2_with fail
            go_ret
            exact ⟨rfl, HST.out.1⟩
    · have hz5 : ¬ (0 : Int) < (n : Int) := by omega
      have h15 : ¬ (1 : Int) < (n : Int) := by omega
      clear q2 q3 hD hdu
      go_wp2_with fail
      refine HDT.out.mono ?_
      rintro e wa ⟨rfl, rfl⟩
      go_wp2_with fail
      refine HO.out.mono ?_
      rintro e w7 ⟨v7, O, rfl, ho7, hly, hb7⟩
      obtain ⟨oa, oc, hv7, hi7⟩ := ho7.ints
      rw [HN.out] at hly
      obtain ⟨hol, hrg, hnin⟩ := perm_facts hly.perm
      rw [hol] at hv7 hi7
      subst hv7
      obtain ⟨hk, hhk⟩ : ∃ h, h = w5.heap.size := ⟨_, rfl⟩
      have hne : ∀ b off, oa = some ⟨b, off, none⟩ → b ≠ hk := by
        intro b off e
        have h1 := (ho7.lt b (by rw [e]; rfl)).1
        have h2 := HMK.out.2.1
        omega
      have hrow7 : w7.rowIs hk 4 n (fun j => .bool (decide ((j : Int) ∈ O.take 0))) := by
        rw [hhk]
        exact (HMK.out.1.of_block (hb7.block _ HMK.out.2.1)).congr (fun j hj => by simp)
      have hkw : w.heap.size ≤ hk := by rw [hhk]; exact HB5.out.size
      have HB7 := Lib.hid (HB6.out.trans (hb7.mono HB6.out.size))
      have HST7 := Lib.hid (And.intro HB7.out (And.intro hi7 hrow7))
      have HNE := Lib.hid hne
      have HOP := Lib.hid (And.intro hol (And.intro hrg hnin))
      have HKW := Lib.hid hkw
      rw [← hhk]
      clear hhk ho7 hly hb7 hi7 hol hrg hnin hne hrow7 hkw
      go_wp2_with fail
      go_loopw [10] (fun iv wr => ∃ i : Nat, i ≤ n ∧ iv = .int .i64 i ∧ Hid (Below w.heap.size w wr ∧ IsInts wr oa n oc O ∧ wr.rowIs hk 4 n (fun j => .bool (decide ((j : Int) ∈ O.take i))))) (fun iv _ => n - (intOf iv).toNat)
      case atStart => exact ⟨0, by omega, rfl, HST7⟩
      case round =>
        obtain ⟨i, hi, rfl, hst⟩ := hrel
        have HST := hst
        clear hst
        by_cases hlt : i < n
        · exact absurd hlt (by omega)
        · have hin2 : i = n := by omega
          subst hin2
          go_wp2_with fail
          go_ret
          exact ⟨rfl, HST.out.1⟩
end Go.Proofs.Ytlmmejdcjhbppaa

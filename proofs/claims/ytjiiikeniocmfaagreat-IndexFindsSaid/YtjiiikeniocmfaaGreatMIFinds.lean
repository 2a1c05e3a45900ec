/- IndexFinds: the walk (printed by mkifinds14.py) -/
import Derived.Test.YtjiiikeniocmfaaGreatMIFinds0
import Derived.Test.YtjiiikeniocmfaaGreatMSlabW
import Derived.Test.YtjiiikeniocmfaaGreatMSBuild0
set_option linter.unusedSimpArgs false
set_option linter.unusedVariables false
namespace Go.Proofs.YtjiiikeniocmfaaGreat
open Go.RowKit Go.Geo
attribute [local go_sem] Oper.semAt_some
set_option maxRecDepth 100000 in
set_option maxHeartbeats 16000000 in
theorem IndexFinds_any (ao : Option Addr) (n cap : Nat) (G : List Reg) (po : Option Addr) (np pc : Nat) (P : List Pt) (x : Int) (w : World) (h : IsRegs w ao n cap G) (hkp : ∀ i, i < G.length → Kept (G.getD i [])) (hp : IsPts w po np pc P) : Calls Tryz.prog 5 #[.slice ao n cap, .slice po np pc, .int .i64 x] w fun e w' => e = .returned (.bool true) ∧ Below w.heap.size w w' := by
  have hnc := h.2.1
  have hcm : cap ≤ 9223372036854775807 := h.2.2.1
  have hpc := hp.2.1
  have hpcm : pc ≤ 9223372036854775807 := hp.2.2.1
  have HI := Lib.hid h
  have HP := Lib.hid hp
  have HL := Lib.hid h.1
  have HPL := Lib.hid hp.1
  have HBG := Lib.hid (Big_any ao n cap G w h hkp)
  clear h hp hkp
  have HAW : Hid (∀ wX, Below w.heap.size w wX → Calls Tryz.prog 8 #[] wX fun e w' => e = .returned (.bool true) ∧ Below w.heap.size w w') := Lib.hid (fun wX hX => (awakeI_any wX).mono (by
    rintro e w' ⟨rfl, hb⟩
    exact ⟨rfl, hX.trans (hb.mono hX.size)⟩))
  go_enter Tryz.func5, Tryz.ntmps5
  go_wp2_with fail
  refine HBG.out.mono ?_
  rintro e w1 ⟨big, rfl, hbig, hb1⟩
  have HB1 := Lib.hid hb1
  have HBIG := Lib.hid hbig
  clear hb1 hbig HBG
  cases big with
  | true =>
    go_wp2_with fail
    refine (HAW.out w1 HB1.out).mono ?_
    rintro e w2 ⟨rfl, hb2⟩
    have HB2 := Lib.hid hb2
    clear hb2
    go_wp2_with fail
    go_ret
    exact ⟨rfl, HB2.out⟩
  | false =>
  by_cases hp20 : 20 < np
  · have hp21 : (20 : Int) < (np : Int) := by omega
    go_wp2_with fail
    refine (HAW.out w1 HB1.out).mono ?_
    rintro e w2 ⟨rfl, hb2⟩
    have HB2 := Lib.hid hb2
    clear hb2
    go_wp2_with fail
    go_ret
    exact ⟨rfl, HB2.out⟩
  · have hp21 : ¬ (20 : Int) < (np : Int) := by omega
    obtain ⟨hg70, hgs⟩ := HBIG.out rfl
    have hn70 : n ≤ 70 := by rw [← HL.out]; exact hg70
    have HS : Hid (∀ i, i < n → Small (G.getD i []) ∧ sumLen (G.getD i []) ≤ 120) := Lib.hid (fun i hi => by
      obtain ⟨h1, h2⟩ := hgs i (by rw [HL.out]; exact hi)
      exact ⟨⟨by omega, fun k hk => Nat.le_trans (sumLen_get hk) (by omega)⟩, h2⟩)
    clear hg70 hgs HBIG
    go_wp2_with fail
    go_loopw [7, 8] (fun ov kv wr => ∃ k : Nat, k ≤ n ∧ kv = .int .i64 k ∧ Hid (OwnG wr w1.heap.size ov (G.take k)) ∧ Hid (Below w1.heap.size w1 wr)) (fun _ kv _ => n - (intOf kv).toNat)
    case atStart => exact ⟨0, by omega, rfl, Lib.hid (OwnG.nil _ _), Below.refl _ _⟩
    case round =>
      obtain ⟨k, hk, rfl, HOW, HBW⟩ := hrel
      have hk0 : (0 : Int) ≤ (k : Int) := by omega
      by_cases hlt : k < n
      · have hk5 : (k : Int) < (n : Int) := by omega
        have hwk : IntKind.i64.wrap ((k : Int) + 1) = (k : Int) + 1 := IntWalk.i64_in _ (by omega)
        obtain ⟨b, off, rx, ry, rz, rfl, e0, hr⟩ := (HI.out.later (HB1.out.trans (HBW.out.mono HB1.out.size)) (Nat.le_refl _)).2.2.2.2 k hlt
        have HCP := Lib.hid (CopyRegion_any rx ry rz (G.getD k []) wr hr (HS.out k hlt).1)
        have HTK : Hid (G.take (k + 1) = G.take k ++ [G.getD k []]) := Lib.hid (by
          have hkl : k < G.length := by rw [HL.out]; exact hlt
          rw [List.take_add_one, List.getElem?_eq_getElem hkl, List.getD_eq_getElem?_getD, List.getElem?_eq_getElem hkl]
          rfl)
        have HTL : Hid ((G.take k).length ≤ 4294967296) := Lib.hid (by rw [List.length_take]; omega)
        clear hr
        go_wp2_with fail
        refine HCP.out.mono ?_
        rintro e w2 ⟨v, rfl, ho, hb2⟩
        have HOV := Lib.hid ho
        have HO2 := Lib.hid (HOW.out.later hb2)
        have HB2 := Lib.hid (HBW.out.trans (hb2.mono HBW.out.size))
        have HSZ := Lib.hid HBW.out.size
        obtain ⟨vx, vz, hvx, _⟩ := ho.rings
        obtain ⟨vn, hvn⟩ : ∃ y, y = (G.getD k []).length := ⟨_, rfl⟩
        rw [← hvn] at hvx
        subst hvx
        clear ho hb2 e0 HCP hvn
        go_wp2_with (at_builtin; refine wpList_append_reg rfl _ _ rfl w1.heap.size u7 (G.take k) rfl (HO2.out.later ((Below.refl _ _).alloc (Nat.le_refl _) _)) w2.heap.size rfl _ (G.getD k []) ((HOV.out.later ((Below.refl _ _).alloc (Nat.le_refl _) _)).base HSZ.out) (alloc_new _ _) HTL.out (by have := HB2.out.size; simp; omega) ?_
                     intro v' w9 hov hgr
                     obtain ⟨av, cv, hv', _⟩ := hov.regs
                     have HN9 := Lib.hid (And.intro hov hgr)
                     clear hov hgr)
        obtain ⟨o9, g9⟩ := HN9.out
        refine ⟨⟨k + 1, by omega, by go_num, Lib.hid (by rw [HTK.out, show (Value.slice av (min k G.length + 1) cv) = v' by rw [hv']; simp]; exact o9), Lib.hid ((HB2.out.trans (((Below.refl w2.heap.size w2).alloc (Nat.le_refl _) _).mono HB2.out.size)).grown g9 (by have := HB2.out.size; simp; omega) (fun q hq => (HO2.out.lt q hq).1))⟩, ?_⟩
        simp [intOf]; omega
      · have hkn : n = k := by omega
        subst hkn
        have hk5 : ¬ (n : Int) < (n : Int) := by omega
        go_wp2_with fail
        have howA := HOW.out
        rw [List.take_of_length_le (by rw [HL.out]; exact Nat.le_refl _)] at howA
        obtain ⟨ia, ic, hu7, hri⟩ := howA.regs
        rw [HL.out] at hu7 hri
        subst hu7
        have HOWA := Lib.hid howA
        have HBU := Lib.hid (IBuild_any ia n ic G wr hri (fun i hi => by have := (HS.out i hi).2; omega))
        have hic : ic ≤ 9223372036854775807 := hri.2.2.1
        have hnic : n ≤ ic := hri.2.1
        obtain ⟨w4, hw4⟩ : ∃ x, x = wr := ⟨_, rfl⟩
        subst hw4
        have HBW4 := Lib.hid HBW.out
        have HBB4 := Lib.hid (HB1.out.trans (HBW.out.mono HB1.out.size))
        clear howA hri HOW HBW
        refine HBU.out.mono ?_
        rintro e w5 ⟨hb5, hok, hno⟩
        have HB5 := Lib.hid hb5
        have HBB5 := Lib.hid (HBB4.out.trans (hb5.mono HBB4.out.size))
        obtain ⟨fa, fb, hf⟩ : ∃ a b : Int, idxCheckP G = (a, b) := ⟨_, _, rfl⟩
        have HF := Lib.hid hf
        obtain ⟨sv, he, hsv⟩ : ∃ sv : Value, e = .returned (.tuple #[sv, .agg #[.int .i64 fa, .int .i64 fb]]) ∧ ((fa = 0 ∧ ∃ g og sg, sv = .pointer (some ⟨g, 0, none⟩) ∧ IdxOn (fun _ => False) w5 w4.heap.size g og sg G) ∨ (fa ≠ 0 ∧ sv = .pointer none)) := by
          by_cases hz : fa = 0
          · obtain ⟨g, og, sg, he, hx⟩ := hok (by rw [hf]; exact hz)
            have hfb : fb = 0 := by
              have := idxCheck_zero (G := G) (by rw [hf]; exact hz)
              rw [hf] at this
              exact this
            subst hz hfb
            exact ⟨_, he, .inl ⟨rfl, g, og, sg, rfl, hx⟩⟩
          · have he := hno (by rw [hf]; exact hz)
            rw [hf] at he
            exact ⟨_, he, .inr ⟨hz, rfl⟩⟩
        subst he
        have HSV := Lib.hid hsv
        clear hb5 hok hno hf hsv HBU
        go_wp2_with fail
        obtain ⟨W5, hW5⟩ : ∃ W, W = w5.alloc (Obj.cells #[.int .i64 fa, .int .i64 fb] 35) := ⟨_, rfl⟩
        obtain ⟨qf, hqf⟩ : ∃ q, q = w5.heap.size := ⟨_, rfl⟩
        rw [← hW5, ← hqf]
        have hb6 : Below w5.heap.size w5 W5 := by rw [hW5]; exact (Below.refl _ _).alloc (Nat.le_refl _) _
        have hr6 : W5.heap[qf]? = some (.cells #[.int .i64 fa, .int .i64 fb] 35 (0, 0)) := by rw [hW5, hqf]; exact alloc_new _ _
        have HB56 := Lib.hid hb6
        have HB6 := Lib.hid (HB5.out.trans (hb6.mono HB5.out.size))
        have HBB6 := Lib.hid (HBB5.out.trans (hb6.mono HBB5.out.size))
        have HR6 := Lib.hid hr6
        have HRC : Hid (∀ wX, Below W5.heap.size W5 wX → Calls Tryz.prog 20 #[.slice ao n cap] wX fun e w' => e = .returned (.agg #[.int .i64 fa, .int .i64 fb]) ∧ Below wX.heap.size wX w') := Lib.hid (fun wX hX => by
          have h9 := rCheck14_any ao n cap G wX (HI.out.later (HBB6.out.trans (hX.mono HBB6.out.size)) (Nat.le_refl _)) (fun i hi => by have := (HS.out i hi).2; omega)
          rw [HF.out] at h9
          exact h9)
        have HQC : Hid (∀ wX, Below W5.heap.size W5 wX → wX.cell? ⟨qf, 0, none⟩ = some (.int .i64 fa) ∧ wX.cell? ⟨qf, 1, none⟩ = some (.int .i64 fb)) := Lib.hid (fun wX hX => fault_row_at ((hX.block qf (heap_lt' HR6.out)).trans HR6.out))
        clear hb6 hr6 hW5 hqf
        have HOK : ∀ f ∈ ([] : List Fct), FctOk f := by
          intro f hf; cases hf
        refine wp_region_J (s := [(49, 0), (50, 1), (51, 2), (52, 3)]) (by kernel_rfl) (GrowJ W5 (fun iX => match iX with | 0 => some (.agg #[.int .i64 fa, .int .i64 fb]) | 1 => some (.slice ao n cap) | 2 => some (.agg #[.int .i64 fa, .int .i64 fb]) | 3 => some (.bool false) | _ => none) []) (by kernel_rfl) (by kernel_rfl) (by kernel_rfl) (by kernel_rfl) (fun _ => undef) ?start9 ?step9 ?done9
        case start9 => exact GrowJ.start ((Below.refl _ _).drew)
        case step9 =>
          refine ⟨?o9_0, ?o9_1, ?o9_2, ?o9_3, trivial⟩
          case o9_0 =>
            intro LX V aX wX K hl hp hcl hf hJ hK
            have t10 : aX.tmps[10]? = some (.pointer (some ⟨qf, 0, none⟩)) := hf.old (by kernel_rfl) rfl
            obtain ⟨c0, c1⟩ := HQC.out wX hJ.below
            rw [if_pos (by rfl)]
            go_simp
            exact hK _ _ (hJ.val HOK 0 _ (by kernel_rfl) rfl (Below.refl _ _))
          case o9_1 =>
            intro LX V aX wX K hl hp hcl hf hJ hK
            have t0 : aX.tmps[0]? = some (.slice ao n cap) := hf.old (by kernel_rfl) rfl
            rw [if_pos (by rfl)]
            go_simp
            exact hK _ _ (hJ.val HOK 1 _ (by kernel_rfl) rfl (Below.refl _ _))
          case o9_2 =>
            intro LX V aX wX K hl hp hcl hf hJ hK
            have t50 := hf.in (i := 1) (d := 50) (by kernel_rfl) (hp 1 (by kernel_rfl)) (hJ.vals 1 _ rfl (hp 1 (by kernel_rfl)))
            rw [if_pos (by rfl)]
            go_simp
            refine (HRC.out _ hJ.below).mono ?_
            rintro e wA ⟨rfl, hbA⟩
            exact hK _ _ (hJ.val HOK 2 _ (by kernel_rfl) rfl (hbA))
          case o9_3 =>
            intro LX V aX wX K hl hp hcl hf hJ hK
            have t49 := hf.in (i := 0) (d := 49) (by kernel_rfl) (hp 0 (by kernel_rfl)) (hJ.vals 0 _ rfl (hp 0 (by kernel_rfl)))
            have t51 := hf.in (i := 2) (d := 51) (by kernel_rfl) (hp 2 (by kernel_rfl)) (hJ.vals 2 _ rfl (hp 2 (by kernel_rfl)))
            rw [if_pos (by rfl)]
            go_simp
            exact hK _ _ (hJ.val HOK 3 _ (by kernel_rfl) rfl (Below.refl _ _))
        intro V wZ hJ
        have hv := hJ.vals 3 _ rfl (by kernel_rfl)
        have HBZ := Lib.hid hJ.below
        simp only [puts, Act.put, List.setIfInBounds_toArray, List.set_cons_zero, List.set_cons_succ]
        rw [hv]
        clear hJ HOK hv
        have HBBZ := Lib.hid (HBB6.out.trans (HBZ.out.mono HBB6.out.size))
        obtain ⟨c0, c1⟩ := HQC.out wZ HBZ.out
        rcases HSV.out with ⟨hz, g, og, sg, hsv, hx⟩ | ⟨hz, hsv⟩
        · subst hz hsv
          have hx5 := hx.later HB56.out
          have HX := Lib.hid (hx5.later HBZ.out)
          clear hx hx5
          go_wp2_with fail
          have hle := ILen_any (fun _ => False) _ g og sg G wZ HX.out
          rw [HL.out] at hle
          have HLE := Lib.hid hle
          clear hle
          go_wp2_with fail
          refine HLE.out.mono ?_
          rintro e w7 ⟨rfl, rfl⟩
          have hnn : (n : Int) = (n : Int) := rfl
          go_wp2_with fail
          clear c0 c1
          -- the copies written over
          have HSH : Hid (∀ k, k < n → ∃ b off rx ry rz, ia = some ⟨b, off, none⟩ ∧ w4.cell? ⟨b, off + k, none⟩ = some (.slice rx ry rz) ∧ (∃ c, w4.heap[b]? = some (.cells c 30 (0, 0))) ∧ OverShape w1.heap.size w4.heap.size w4 rx ry) := Lib.hid (fun k hk => by
            obtain ⟨vs, h1, h2, h3⟩ := HOWA.out
            obtain ⟨u, hu, ho⟩ := h3 k (by rw [HL.out]; exact hk)
            obtain ⟨rx, rz, rfl, _⟩ := ho.rings
            rcases h2.2 with ⟨e, h0⟩ | ⟨gb, cp, cur, e, hbg, hg, hnc, hm, hsz, ht⟩
            · rw [HL.out] at h0; omega
            · injection e with e1 e2 e3
              subst e1
              have hcu : cur[k]? = some (.slice rx (G.getD k []).length rz) := by
                rw [← ht] at hu
                rw [List.getElem?_take, if_pos (by rw [HL.out]; omega)] at hu
                simpa using hu
              exact ⟨gb, 0, rx, _, rz, rfl, by rw [Nat.zero_add, cell_of_row _ _ _ _ _ _ hg, hcu], ⟨_, hg⟩, OverShape.of ho (HS.out k hk).1 (Nat.le_refl _)⟩)
          have HMZ : Hid (MidG w1.heap.size w4.heap.size w4 wZ) := Lib.hid (MidG.of (HB6.out.trans (HBZ.out.mono HB6.out.size)))
          have HZ4 := Lib.hid (Nat.le_trans HB6.out.size HBZ.out.size)
          have HBW9 := Lib.hid HBW4.out.size
          have HBB1 := Lib.hid HB1.out.size
          go_loopw [11] (fun kv wr => ∃ k : Nat, k ≤ n ∧ kv = .int .i64 k ∧ Hid (MidG w1.heap.size w4.heap.size wZ wr)) (fun kv _ => n - (intOf kv).toNat)
          case atStart => exact ⟨0, by omega, rfl, MidG.refl _ _ _⟩
          case round =>
            obtain ⟨k, hk, rfl, HM⟩ := hrel
            have hk0 : (0 : Int) ≤ (k : Int) := by omega
            by_cases hlt : k < n
            · have hk5 : (k : Int) < (n : Int) := by omega
              have hwk : IntKind.i64.wrap ((k : Int) + 1) = (k : Int) + 1 := IntWalk.i64_in _ (by omega)
              obtain ⟨b, off, rx, ry, rz, rfl, e0, ⟨cr, hcr⟩, hos⟩ := HSH.out k hlt
              have hmm := HMZ.out.trans HM.out
              have e1 : wr.cell? ⟨b, off + k, none⟩ = some (.slice rx ry rz) := (cell_of_same (hmm.other b cr _ hcr (by decide))).trans e0
              have HOV := Lib.hid (OverRegion_shape w1.heap.size w4.heap.size rx ry rz wr (hos.keep hmm) (Nat.le_trans HZ4.out HM.out.size))
              clear e0 hcr hos hmm
              go_wp2_with fail
              refine HOV.out.mono ?_
              rintro e w8 ⟨w9, rfl, hb9, hm9⟩
              have HM9 := Lib.hid (HM.out.trans ((MidG.of hb9).trans hm9.toG))
              clear hb9 hm9 HOV e1
              go_wp2_with fail
              go_roundw
              case rel => exact ⟨k + 1, by omega, by go_num, HM9⟩
              case measure => simp [intOf]; omega
            · have hkn : n = k := by omega
              subst hkn
              have hk5 : ¬ (n : Int) < (n : Int) := by omega
              have HIX0 : Hid (IdxOn (fun _ => False) wr w4.heap.size g og sg G) := Lib.hid (HX.out.stepB HM.out.size (fun k h1 h2 _ => HM.out.out k h2 (.inr h1)) (fun k hk => hk.elim))
              have HBR0 : Hid (Below w.heap.size w wr) := Lib.hid (HBBZ.out.trans ((HM.out.below (Nat.le_trans HBW9.out HZ4.out)).mono HBB1.out))
              have HW4 : Hid (w.heap.size ≤ w4.heap.size) := Lib.hid (Nat.le_trans HBB1.out HBW9.out)
              clear HM HX HSH HMZ
              go_wp2_with fail
              obtain ⟨w6, hw6⟩ : ∃ x, x = wr := ⟨_, rfl⟩
              subst hw6
              go_loopw [12, 13, 14, 15, 16, 17, 18, 19, 20, 21] (fun kv _ _ _ _ _ _ _ _ _ wr => ∃ k : Nat, k ≤ np ∧ kv = .int .i64 k ∧ Hid (IdxOn (fun _ => False) wr w4.heap.size g og sg G) ∧ Hid (Below w.heap.size w wr)) (fun kv _ _ _ _ _ _ _ _ _ _ => np - (intOf kv).toNat)
              case atStart => exact ⟨0, by omega, rfl, HIX0, HBR0⟩
              case round =>
                obtain ⟨k, hk, rfl, HIX, HBR⟩ := hrel
                have hk0 : (0 : Int) ≤ (k : Int) := by omega
                by_cases hlt : k < np
                · have hk5 : (k : Int) < (np : Int) := by omega
                  have hwk : IntKind.i64.wrap ((k : Int) + 1) = (k : Int) + 1 := IntWalk.i64_in _ (by omega)
                  obtain ⟨q, hq⟩ : ∃ q, q = P.getD k p0 := ⟨_, rfl⟩
                  obtain ⟨bp, op, rfl, hcl⟩ := HP.out.2.2.2.1 (by omega)
                  obtain ⟨p1, p2⟩ := hcl k hlt
                  rw [← hq] at p1 p2
                  have hLG := HIX.out.lo
                  have hLS := HIX.out.ls
                  have HQW : Hid (∀ wX, Below w.heap.size w wX → wX.cell? ⟨bp, op + k * 2, none⟩ = some (.int .i64 q.x) ∧ wX.cell? ⟨bp, op + k * 2 + 1, none⟩ = some (.int .i64 q.y)) := Lib.hid (fun wX hX => ⟨(hX.cell (p := ⟨bp, op + k * 2, none⟩) (block_lt_of_cell p1)).trans p1, (hX.cell (p := ⟨bp, op + k * 2 + 1, none⟩) (block_lt_of_cell p2)).trans p2⟩)
                  have HT2 : Hid (∀ wX, Two og sg wr wX → Below w.heap.size w wX) := Lib.hid (fun wX hX => HBR.out.trans (hX.below (by have := HW4.out; omega) (by have := HW4.out; omega) HBR.out.size))
                  have HQ2 : Hid (∀ wX, Two og sg wr wX → wX.cell? ⟨bp, op + k * 2, none⟩ = some (.int .i64 q.x) ∧ wX.cell? ⟨bp, op + k * 2 + 1, none⟩ = some (.int .i64 q.y)) := Lib.hid (fun wX hX => HQW.out wX (HT2.out wX hX))
                  have HAA : Hid (∀ wX, (IdxOn (fun _ => False) wX w4.heap.size g og sg G ∧ Two og sg wr wX) → Calls Tryz.prog 12 #[.pointer (some ⟨g, 0, none⟩), .agg #[.int .i64 q.x, .int .i64 q.y]] wX fun e w' => ∃ a, e = .returned a ∧ AskA q w4.heap.size g og sg G wr a w') := Lib.hid (fun wX hX => ask_a q w4.heap.size g og sg G wr wX hX)
                  have HNN : Hid (∀ wX a, AskA q w4.heap.size g og sg G wr a wX → Calls Tryz.prog 17 #[.pointer (some ⟨g, 0, none⟩), .agg #[.int .i64 q.x, .int .i64 q.y]] wX fun e w' => ∃ b, e = .returned b ∧ AskA q w4.heap.size g og sg G wr a w' ∧ AskN q G wr b w') := Lib.hid (fun wX a hA => ask_n q w4.heap.size g og sg G wr wX a hA)
                  clear hq p1 p2 hcl hLG hLS
                  go_wp2_with fail
                  refine wp_region_J (s := [(87, 0), (88, 1), (89, 2), (90, 3), (91, 4), (92, 5), (93, 6), (94, 7), (95, 8), (96, 9), (97, 10), (98, 11), (13, 12), (14, 13)]) (by kernel_rfl) (ChainJ (fun iX => match iX with | 0 => some (.pointer (some ⟨g, 0, none⟩)) | 1 => some (.slice (some ⟨bp, op, none⟩) np pc) | 2 => some (.int .i64 (k : Int)) | 3 => some (.pointer (some ⟨bp, op + k * 2, none⟩)) | 4 => some (.agg #[.int .i64 q.x, .int .i64 q.y]) | 6 => some (.pointer (some ⟨g, 0, none⟩)) | 7 => some (.slice (some ⟨bp, op, none⟩) np pc) | 8 => some (.int .i64 (k : Int)) | 9 => some (.pointer (some ⟨bp, op + k * 2, none⟩)) | 10 => some (.agg #[.int .i64 q.x, .int .i64 q.y]) | _ => none) [5, 11, 12, 13] (StQ q w4.heap.size g og sg G wr)) (by kernel_rfl) (by kernel_rfl) (by kernel_rfl) (by kernel_rfl) (fun _ => undef) ?start22 ?step22 ?done22
                  case start22 => exact ChainJ.start (⟨HIX.out.later ((Below.refl _ _).drew), Two.of ((Below.refl _ _).drew)⟩)
                  case step22 =>
                    refine ⟨?o22_0, ?o22_1, ?o22_2, ?o22_3, ?o22_4, ?o22_5, ?o22_6, ?o22_7, ?o22_8, ?o22_9, ?o22_10, ?o22_11, ?o22_12, ?o22_13, trivial⟩
                    case o22_0 =>
                      intro LX V aX wX K hl hp hcl hf hJ hK
                      have t9 : aX.tmps[9]? = some (.pointer (some ⟨g, 0, none⟩)) := hf.old (by kernel_rfl) rfl
                      rw [if_pos (by rfl)]
                      go_simp
                      exact hK _ _ (hJ.val 0 _ (by kernel_rfl) rfl (fun _ h => h))
                    case o22_1 =>
                      intro LX V aX wX K hl hp hcl hf hJ hK
                      have t1 : aX.tmps[1]? = some (.slice (some ⟨bp, op, none⟩) np pc) := hf.old (by kernel_rfl) rfl
                      rw [if_pos (by rfl)]
                      go_simp
                      exact hK _ _ (hJ.val 1 _ (by kernel_rfl) rfl (fun _ h => h))
                    case o22_2 =>
                      intro LX V aX wX K hl hp hcl hf hJ hK
                      have t12 : aX.tmps[12]? = some (.int .i64 (k : Int)) := hf.old (by kernel_rfl) rfl
                      rw [if_pos (by rfl)]
                      go_simp
                      exact hK _ _ (hJ.val 2 _ (by kernel_rfl) rfl (fun _ h => h))
                    case o22_3 =>
                      intro LX V aX wX K hl hp hcl hf hJ hK
                      have t88 := hf.in (i := 1) (d := 88) (by kernel_rfl) (hp 1 (by kernel_rfl)) (hJ.vals 1 _ rfl (hp 1 (by kernel_rfl)))
                      have t89 := hf.in (i := 2) (d := 89) (by kernel_rfl) (hp 2 (by kernel_rfl)) (hJ.vals 2 _ rfl (hp 2 (by kernel_rfl)))
                      rw [if_pos (by rfl)]
                      go_simp
                      exact hK _ _ (hJ.val 3 _ (by kernel_rfl) rfl (fun _ h => h))
                    case o22_4 =>
                      intro LX V aX wX K hl hp hcl hf hJ hK
                      have t90 := hf.in (i := 3) (d := 90) (by kernel_rfl) (hp 3 (by kernel_rfl)) (hJ.vals 3 _ rfl (hp 3 (by kernel_rfl)))
                      obtain ⟨vs, hlen, hS⟩ := hJ.upto 1 (by decide) (hcl.no 11 (by kernel_rfl) (hcl.no 5 (by kernel_rfl) (hl)))
                      have hTT := StQ.two hS
                      obtain ⟨c0, c1⟩ := HQ2.out wX hTT
                      clear hTT
                      rw [if_pos (by rfl)]
                      go_simp
                      exact hK _ _ (hJ.val 4 _ (by kernel_rfl) rfl (fun _ h => h))
                    case o22_5 =>
                      intro LX V aX wX K hl hp hcl hf hJ hK
                      have t87 := hf.in (i := 0) (d := 87) (by kernel_rfl) (hp 0 (by kernel_rfl)) (hJ.vals 0 _ rfl (hp 0 (by kernel_rfl)))
                      have t91 := hf.in (i := 4) (d := 91) (by kernel_rfl) (hp 4 (by kernel_rfl)) (hJ.vals 4 _ rfl (hp 4 (by kernel_rfl)))
                      rw [if_pos (by rfl)]
                      obtain ⟨vs, hlen, hvs, hS, hn⟩ := hJ.next (by kernel_rfl) 0 (by kernel_rfl) hl (.inl rfl) rfl
                      match vs, hlen, hvs, hS, hn with
                      | [], _, hvs, hS, hn =>
                        have HS := Lib.hid hS
                        clear hS
                        go_simp
                        refine (HAA.out wX HS.out).mono ?_
                        rintro e wA ⟨a, rfl, hA⟩
                        exact hK _ _ (hn _ _ hA)
                    case o22_6 =>
                      intro LX V aX wX K hl hp hcl hf hJ hK
                      have t9 : aX.tmps[9]? = some (.pointer (some ⟨g, 0, none⟩)) := hf.old (by kernel_rfl) rfl
                      rw [if_pos (by rfl)]
                      go_simp
                      exact hK _ _ (hJ.val 6 _ (by kernel_rfl) rfl (fun _ h => h))
                    case o22_7 =>
                      intro LX V aX wX K hl hp hcl hf hJ hK
                      have t1 : aX.tmps[1]? = some (.slice (some ⟨bp, op, none⟩) np pc) := hf.old (by kernel_rfl) rfl
                      rw [if_pos (by rfl)]
                      go_simp
                      exact hK _ _ (hJ.val 7 _ (by kernel_rfl) rfl (fun _ h => h))
                    case o22_8 =>
                      intro LX V aX wX K hl hp hcl hf hJ hK
                      have t12 : aX.tmps[12]? = some (.int .i64 (k : Int)) := hf.old (by kernel_rfl) rfl
                      rw [if_pos (by rfl)]
                      go_simp
                      exact hK _ _ (hJ.val 8 _ (by kernel_rfl) rfl (fun _ h => h))
                    case o22_9 =>
                      intro LX V aX wX K hl hp hcl hf hJ hK
                      have t94 := hf.in (i := 7) (d := 94) (by kernel_rfl) (hp 7 (by kernel_rfl)) (hJ.vals 7 _ rfl (hp 7 (by kernel_rfl)))
                      have t95 := hf.in (i := 8) (d := 95) (by kernel_rfl) (hp 8 (by kernel_rfl)) (hJ.vals 8 _ rfl (hp 8 (by kernel_rfl)))
                      rw [if_pos (by rfl)]
                      go_simp
                      exact hK _ _ (hJ.val 9 _ (by kernel_rfl) rfl (fun _ h => h))
                    case o22_10 =>
                      intro LX V aX wX K hl hp hcl hf hJ hK
                      have t96 := hf.in (i := 9) (d := 96) (by kernel_rfl) (hp 9 (by kernel_rfl)) (hJ.vals 9 _ rfl (hp 9 (by kernel_rfl)))
                      obtain ⟨vs, hlen, hS⟩ := hJ.upto 1 (by decide) (hcl.no 11 (by kernel_rfl) hl)
                      have hTT := StQ.two hS
                      obtain ⟨c0, c1⟩ := HQ2.out wX hTT
                      clear hTT
                      rw [if_pos (by rfl)]
                      go_simp
                      exact hK _ _ (hJ.val 10 _ (by kernel_rfl) rfl (fun _ h => h))
                    case o22_11 =>
                      intro LX V aX wX K hl hp hcl hf hJ hK
                      have t93 := hf.in (i := 6) (d := 93) (by kernel_rfl) (hp 6 (by kernel_rfl)) (hJ.vals 6 _ rfl (hp 6 (by kernel_rfl)))
                      have t97 := hf.in (i := 10) (d := 97) (by kernel_rfl) (hp 10 (by kernel_rfl)) (hJ.vals 10 _ rfl (hp 10 (by kernel_rfl)))
                      rw [if_pos (by rfl)]
                      obtain ⟨vs, hlen, hvs, hS, hn⟩ := hJ.next (by kernel_rfl) 1 (by kernel_rfl) hl (.inr (hp 5 (by kernel_rfl))) rfl
                      match vs, hlen, hvs, hS, hn with
                      | [a0], _, hvs, hS, hn =>
                        have e0 : V 5 = a0 := hvs 0 (by decide)
                        have HS := Lib.hid hS
                        clear hS
                        go_simp
                        refine (HNN.out wX a0 HS.out).mono ?_
                        rintro e wA ⟨b, rfl, hA⟩
                        exact hK _ _ (hn _ _ hA)
                    case o22_12 =>
                      intro LX V aX wX K hl hp hcl hf hJ hK
                      have t92 := hf.in (i := 5) (d := 92) (by kernel_rfl) (hp 5 (by kernel_rfl)) rfl
                      rw [if_pos (by rfl)]
                      obtain ⟨vs, hlen, hvs, hS, hn⟩ := hJ.next (by kernel_rfl) 2 (by kernel_rfl) hl (.inr (hp 11 (by kernel_rfl))) rfl
                      match vs, hlen, hvs, hS, hn with
                      | [a0, a1], _, hvs, hS, hn =>
                        have e0 : V 5 = a0 := hvs 0 (by decide)
                        have e1 : V 11 = a1 := hvs 1 (by decide)
                        have HS := Lib.hid hS
                        clear hS
                        rw [e0] at t92
                        go_simp
                        exact hK _ _ (hn _ _ ⟨rfl, HS.out⟩)
                    case o22_13 =>
                      intro LX V aX wX K hl hp hcl hf hJ hK
                      have t98 := hf.in (i := 11) (d := 98) (by kernel_rfl) (hp 11 (by kernel_rfl)) rfl
                      rw [if_pos (by rfl)]
                      obtain ⟨vs, hlen, hvs, hS, hn⟩ := hJ.next (by kernel_rfl) 3 (by kernel_rfl) hl (.inr (hp 12 (by kernel_rfl))) rfl
                      match vs, hlen, hvs, hS, hn with
                      | [a0, a1, a2], _, hvs, hS, hn =>
                        have e0 : V 5 = a0 := hvs 0 (by decide)
                        have e1 : V 11 = a1 := hvs 1 (by decide)
                        have e2 : V 12 = a2 := hvs 2 (by decide)
                        have HS := Lib.hid hS
                        clear hS
                        rw [e1] at t98
                        go_simp
                        exact hK _ _ (hn _ _ ⟨rfl, HS.out⟩)
                  intro V wZ hJ
                  obtain ⟨vs, hlen, hvs, hS⟩ := hJ.all (by kernel_rfl)
                  match vs, hlen, hvs, hS with
                  | [a0, a1, a2, a3], _, hvs, hS =>
                    have e0 : V 5 = a0 := hvs 0 (by decide)
                    have e1 : V 11 = a1 := hvs 1 (by decide)
                    have e2 : V 12 = a2 := hvs 2 (by decide)
                    have e3 : V 13 = a3 := hvs 3 (by decide)
                    have HST := Lib.hid hS
                    simp only [puts, Act.put, List.setIfInBounds_toArray, List.set_cons_zero, List.set_cons_succ]
                    rw [e2, e3]
                    clear hJ hvs e0 e1 e2 e3 hS
                    obtain ⟨e32, e20, ⟨hoa, hix, htw⟩, hob⟩ := HST.out
                    subst e32
                    subst e20
                    obtain ⟨aa, ac, hav, hia⟩ := hoa.ints
                    obtain ⟨ba, bc, hbv, hib⟩ := hob.ints
                    obtain ⟨la, hla⟩ : ∃ m, m = (askG (inR q) G).length := ⟨_, rfl⟩
                    obtain ⟨lb, hlb⟩ : ∃ m, m = (askB (nearQ q) (boxesR G)).length := ⟨_, rfl⟩
                    rw [← hla] at hav hia
                    rw [← hlb] at hbv hib
                    subst hav
                    subst hbv
                    have HIX2 := Lib.hid hix
                    have HOGZ := Lib.hid (And.intro hix.lt.1 hix.lt.2.1)
                    have HOA := Lib.hid hoa
                    have HIB := Lib.hid hib
                    have HBZ2 := Lib.hid (HT2.out wZ htw)
                    have HLA := Lib.hid hla
                    have HOAZ : Hid (0 < la → ∃ gz, aa = some ⟨gz, 0, none⟩ ∧ wr.heap.size ≤ gz ∧ gz < wZ.heap.size) := Lib.hid (fun h0 => hoa.zero (by omega))
                    have HLA70 : Hid (la ≤ 70) := Lib.hid (by
                      rw [hla]
                      have h1 : (askG (inR q) G).length ≤ (allI G.length).length := List.length_filter_le _ _
                      rw [allI_len, HL.out] at h1
                      omega)
                    have HWRZ := Lib.hid htw.size
                    have HAT := Lib.hid (rAt14_any ao n cap G q wZ (HI.out.later HBZ2.out (Nat.le_refl _)) (by omega))
                    obtain ⟨c0, c1⟩ := HQW.out wZ HBZ2.out
                    unfold ptV at HAT
                    clear hoa hix htw hob hia hib hla hlb HST HAA HNN HQ2 HT2
                    go_wp2_with fail
                    refine HAT.out.mono ?_
                    rintro e wA ⟨vw, rfl, how, hbA⟩
                    obtain ⟨wa, wc, hwv, hiw⟩ := how.ints
                    rw [← HLA.out] at hwv hiw
                    subst hwv
                    have HIW := Lib.hid hiw
                    have HOWW := Lib.hid how
                    have HBA := Lib.hid (HBZ2.out.trans (hbA.mono HBZ2.out.size))
                    have HIXA := Lib.hid (HIX2.out.later hbA)
                    have HOAA := Lib.hid (HOA.out.later hbA)
                    have HIBA := Lib.hid (HIB.out.later hbA (Nat.le_refl _))
                    have HSZA := Lib.hid hbA.size
                    clear how hiw hbA c0 c1 HAT
                    have hiaA : IsInts wA aa la ac (askG (inR q) G) := by
                      obtain ⟨a9, c9, e9, i9⟩ := HOAA.out.ints
                      rw [← HLA.out] at e9 i9
                      injection e9 with e9 _ e10
                      subst e9 e10
                      exact i9
                    have hsm := SameInts_any aa wa la la ac wc _ _ wA hiaA HIW.out
                    rw [show ((askG (inR q) G) == (askG (inR q) G)) = true by simp] at hsm
                    have HSM := Lib.hid hsm
                    clear hiaA hsm
                    go_wp2_with fail
                    refine HSM.out.mono ?_
                    rintro e wB ⟨rfl, hgB⟩
                    have HBB := Lib.hid (HBA.out.trans (hgB.1.mono HBA.out.size))
                    have HIXB := Lib.hid (HIXA.out.later hgB.1)
                    have HOAB := Lib.hid (HOAA.out.later hgB.1)
                    have HIBB := Lib.hid (HIBA.out.later hgB.1 (Nat.le_refl _))
                    have HOWB := Lib.hid (HOWW.out.later hgB.1)
                    have HSZB := Lib.hid hgB.1.size
                    obtain ⟨c0, c1⟩ := HQW.out wB HBB.out
                    have HNR := Lib.hid (rNear14_any ao n cap G q wB (HI.out.later HBB.out (Nat.le_refl _)) (by omega) (fun i hi => by have := (HS.out i hi).2; omega))
                    unfold ptV at HNR
                    clear hgB HSM
                    go_wp2_with fail
                    refine HNR.out.mono ?_
                    rintro e wC ⟨vn, rfl, hon, hbC⟩
                    obtain ⟨na, nc, hnv, hin⟩ := hon.ints
                    have hln : lb = (askB (nearQ q) (boxesR G)).length := HIBB.out.1.symm
                    rw [← hln] at hnv hin
                    subst hnv
                    have HSMN := SameInts_any ba na lb lb bc nc _ _ wC (HIBB.out.later hbC (Nat.le_refl _)) hin
                    rw [show ((askB (nearQ q) (boxesR G)) == (askB (nearQ q) (boxesR G))) = true by simp] at HSMN
                    have HSM := Lib.hid HSMN
                    have HBC := Lib.hid (HBB.out.trans (hbC.mono HBB.out.size))
                    have HIXC := Lib.hid (HIXB.out.later hbC)
                    have HOAC := Lib.hid (HOAB.out.later hbC)
                    have HOWC := Lib.hid (HOWB.out.later hbC)
                    have HSZC := Lib.hid hbC.size
                    clear hon hbC hin hln HSMN c0 c1 HNR HIBB HIBA HIB
                    go_wp2_with fail
                    refine HSM.out.mono ?_
                    rintro e wD ⟨rfl, hgD⟩
                    have HBD := Lib.hid (HBC.out.trans (hgD.1.mono HBC.out.size))
                    have HIXD := Lib.hid (HIXC.out.later hgD.1)
                    have HOAD := Lib.hid (HOAC.out.later hgD.1)
                    have HOWD := Lib.hid (HOWC.out.later hgD.1)
                    have HWD : Hid (w.heap.size ≤ wr.heap.size ∧ wr.heap.size ≤ wZ.heap.size ∧ wZ.heap.size ≤ wD.heap.size) := Lib.hid ⟨HBR.out.size, HWRZ.out, by have := HSZA.out; have := HSZB.out; have := HSZC.out; have := hgD.1.size; omega⟩
                    clear hgD HSM HIXC HOAC HOWC HIXB HOAB HOWB HIXA HOAA HOWW HIX2 HOA HIW
                    go_wp2_with fail
                    have hla0 : (la : Int) ≤ 70 := by have := HLA70.out; omega
                    obtain ⟨wq, hwq⟩ : ∃ x, x = wr := ⟨_, rfl⟩
                    subst hwq
                    go_loopw [16] (fun jv wj => ∃ j : Nat, j ≤ la ∧ jv = .int .i64 j ∧ Hid (∃ L, L.length = la ∧ OwnI wj wq.heap.size (.slice aa la ac) L) ∧ Hid (IdxOn (fun k => (Value.slice aa la ac).ownBlock = some k) wj w4.heap.size g og sg G) ∧ Hid (Below w.heap.size w wj) ∧ Hid (OwnI wj wZ.heap.size (.slice wa la wc) (askG (inR q) G)) ∧ Hid (wZ.heap.size ≤ wj.heap.size)) (fun jv _ => la - (intOf jv).toNat)
                    case atStart => exact ⟨0, by omega, rfl, Lib.hid ⟨_, HLA.out.symm, HOAD.out⟩, HIXD, HBD, HOWD, Lib.hid HWD.out.2.2⟩
                    case round =>
                      obtain ⟨j, hj, rfl, hol, hixj, hbj, howj, hszj⟩ := hrel
                      have hj0 : (0 : Int) ≤ (j : Int) := by omega
                      by_cases hlj : j < la
                      · have hj5 : (j : Int) < (la : Int) := by omega
                        have hwj : IntKind.i64.wrap ((j : Int) + 1) = (j : Int) + 1 := IntWalk.i64_in _ (by omega)
                        obtain ⟨L, hLl, hoL⟩ := hol.out
                        obtain ⟨ga, rfl, hga1, hga2⟩ := hoL.zero (by omega)
                        obtain ⟨a9, c9, e9, i9⟩ := hoL.ints
                        rw [hLl] at e9 i9
                        injection e9 with e9 _ e10
                        subst e9
                        obtain ⟨b2, o2, e11, hcl⟩ := i9.2.2.2.1 (by omega)
                        injection e11 with e11
                        injection e11 with e12 e13
                        subst e12
                        subst e13
                        have d0 : wr.cell? ⟨ga, j, none⟩ = some (.int .i64 (L.getD j 0)) := by have := hcl j (by omega); rwa [Nat.zero_add] at this
                        have f0 : wr.frozen? ⟨ga, j, none⟩ = false := hoL.froz j
                        have HOL2 : Hid (OwnI (wr.setCell ⟨ga, j, none⟩ (.int .i64 (-7))) wq.heap.size (.slice (some ⟨ga, 0, none⟩) la ac) (L.set j (-7))) := Lib.hid (by
                          have h9 := OwnI.put (cap := ac) (X := L) (g := ga) (base := wq.heap.size) (w := wr) (by rw [hLl]; exact hoL) j (-7)
                          rwa [hLl] at h9)
                        have HLL := Lib.hid (show (L.set j (-7)).length = la by simpa using hLl)
                        have HGA := Lib.hid (And.intro hga1 hga2)
                        have HAZ : Hid (ga < wZ.heap.size) := Lib.hid (by
                          obtain ⟨gz, h1, _, h2⟩ := HOAZ.out (by omega)
                          injection h1 with h1
                          injection h1 with h1
                          rw [h1]; exact h2)
                        clear hol hoL hga1 hga2 i9 hcl e10 hLl
                        go_wp2_with fail
                        go_roundw
                        case rel =>
                          have hsc := Below.heap_setCell
                          have h1 := HAZ.out
                          have h2 := HWD.out
                          have h3 := HGA.out
                          refine ⟨j + 1, by omega, by go_num, Lib.hid ⟨_, HLL.out, HOL2.out⟩, Lib.hid (hixj.out.step (by rw [World.size_setCell]; exact Nat.le_refl _) (fun k _ hk => Below.heap_setCell _ _ _ _ (fun e => hk (by rw [e]; rfl))) (fun k hk => .inl hk)), Lib.hid (hbj.out.setCell (p := ⟨ga, j, none⟩) (by show w.heap.size ≤ ga; omega) _), Lib.hid (ownsRow_move howj.out fun q hq => Below.heap_setCell _ _ _ _ (by have := (howj.out.lt q hq).1; show q ≠ ga; omega)), Lib.hid (by rw [World.size_setCell]; exact hszj.out)⟩
                        case measure => simp [intOf]; omega
                      · have hjn : la = j := by omega
                        subst hjn
                        have hj5 : ¬ (la : Int) < (la : Int) := by omega
                        have HIXE : Hid (IdxOn (fun _ => False) wr w4.heap.size g og sg G) := Lib.hid (hixj.out.step (Nat.le_refl _) (fun _ _ _ => rfl) (fun k hk => hk.elim))
                        obtain ⟨c0, c1⟩ := HQW.out wr hbj.out
                        obtain ⟨e6, he6⟩ : ∃ e6 : Int, e6 = (if 0 ≤ x ∧ x < (G.length : Int) then 0 else 6) := ⟨_, rfl⟩
                        obtain ⟨r, hr⟩ : ∃ r, r = inAt q G x := ⟨_, rfl⟩
                        have hia := In_all w4.heap.size g og sg x G q wr HIXE.out (Nat.le_trans (by have := HBB6.out; exact Nat.le_refl _) (by have := HIXE.out.lo; have := HIXE.out.lt; omega))
                        rw [← he6, ← hr] at hia
                        unfold ptV at hia
                        have HIN := Lib.hid hia
                        have HE6 := Lib.hid he6
                        have HRR := Lib.hid hr
                        clear hol hixj he6 hr hia HIX HIXD HOAD
                        go_wp2_with fail
                        refine HIN.out.mono ?_
                        rintro e wE ⟨rfl, hixE, hbE, htE⟩
                        have HIXE2 := Lib.hid hixE
                        have HBE := Lib.hid (hbj.out.trans (hbE.mono HW4.out))
                        have HOWE : Hid (OwnI wE wZ.heap.size (.slice wa la wc) (askG (inR q) G)) := Lib.hid (ownsRow_move howj.out fun q hq => htE.block q (howj.out.lt q hq).2 (by have h1 := (howj.out.lt q hq).1; have h2 := HOGZ.out; omega) (by have h1 := (howj.out.lt q hq).1; have h2 := HOGZ.out; omega))
                        clear hixE hbE htE HIN c0 c1 howj
                        go_wp2_with fail
                        have HLW := Lib.hid HLA.out
                        go_loopw [19, 20] (fun hv jv wj => ∃ j : Nat, j ≤ la ∧ jv = .int .i64 j ∧ (∃ hb : Bool, hv = .bool hb ∧ Hid (hb = ((askG (inR q) G).take j).any (fun y => y == x))) ∧ wj = wE) (fun _ jv _ => la - (intOf jv).toNat)
                        case atStart => exact ⟨0, by omega, rfl, ⟨false, rfl, rfl⟩, rfl⟩
                        case round =>
                          obtain ⟨j, hj, rfl, ⟨hb, rfl, hhb⟩, rfl⟩ := hrel
                          have hj0 : (0 : Int) ≤ (j : Int) := by omega
                          by_cases hlj : j < la
                          · have hj5 : (j : Int) < (la : Int) := by omega
                            have hwj : IntKind.i64.wrap ((j : Int) + 1) = (j : Int) + 1 := IntWalk.i64_in _ (by omega)
                            obtain ⟨a9, c9, e9, i9⟩ := HOWE.out.ints
                            rw [← HLA.out] at e9 i9
                            injection e9 with e9 _ e10
                            subst e9
                            obtain ⟨b2, o2, rfl, hcl⟩ := i9.2.2.2.1 (by omega)
                            have d0 := hcl j (by omega)
                            have hjl : j < (askG (inR q) G).length := by rw [← HLA.out]; exact hlj
                            obtain ⟨y, hy⟩ : ∃ y, y = (askG (inR q) G).getD j 0 := ⟨_, rfl⟩
                            rw [← hy] at d0
                            have hst : ((askG (inR q) G).take (j + 1)).any (fun y => y == x) = (((askG (inR q) G).take j).any (fun y => y == x) || (y == x)) := by
                              rw [List.take_add_one, List.any_append, List.getElem?_eq_getElem hjl, hy, List.getD_eq_getElem?_getD, List.getElem?_eq_getElem hjl]
                              simp
                            have HST := Lib.hid hst
                            clear i9 hcl e10 hy hst hjl
                            cases hb with
                            | true =>
                              go_wp2_with fail
                              go_roundw
                              case rel => exact ⟨j + 1, by omega, by go_num, ⟨true, by simp, Lib.hid (by rw [HST.out, ← hhb.out]; rfl)⟩, by first | trivial | rfl⟩
                              case measure => simp [intOf]; omega
                            | false =>
                              by_cases hyx : y = x
                              · have hyx2 : (y == x) = true := by simp [hyx]
                                have HST2 : Hid (true = ((askG (inR q) G).take (j + 1)).any (fun y => y == x)) := Lib.hid (by rw [HST.out, hyx2, Bool.or_true])
                                clear hyx
                                go_wp2_with fail
                                go_roundw
                                case rel => exact ⟨j + 1, by omega, by go_num, ⟨true, by simp, HST2⟩, by first | trivial | rfl⟩
                                case measure => simp [intOf]; omega
                              · have hyx2 : (y == x) = false := by simp [hyx]
                                have HST2 : Hid (false = ((askG (inR q) G).take (j + 1)).any (fun y => y == x)) := Lib.hid (by rw [HST.out, hyx2, ← hhb.out]; rfl)
                                clear hyx
                                go_wp2_with fail
                                go_roundw
                                case rel => exact ⟨j + 1, by omega, by go_num, ⟨false, by simp, HST2⟩, by first | trivial | rfl⟩
                                case measure => simp [intOf]; omega
                          · have hjn : la = j := by omega
                            subst hjn
                            have hj5 : ¬ (la : Int) < (la : Int) := by omega
                            have hhr : hb = r := by
                              have h1 := hhb.out
                              rw [List.take_of_length_le (by rw [← HLA.out]; exact Nat.le_refl _), askG_any, ← HRR.out] at h1
                              exact h1
                            subst hhr
                            have hhh : (hb == hb) = true := by simp
                            clear hhb
                            by_cases hx0 : 0 ≤ x
                            · by_cases hxn : x < (n : Int)
                              · have he0 : e6 = 0 := by rw [HE6.out, HL.out, if_pos ⟨hx0, hxn⟩]
                                subst he0
                                go_wp2_with fail
                                go_roundw
                                case rel => exact ⟨k + 1, by omega, by go_num, HIXE2, HBE⟩
                                case measure => simp [intOf]; omega
                              · have he0 : e6 = 6 := by rw [HE6.out, HL.out, if_neg (by omega)]
                                subst he0
                                go_wp2_with fail
                                go_roundw
                                case rel => exact ⟨k + 1, by omega, by go_num, HIXE2, HBE⟩
                                case measure => simp [intOf]; omega
                            · have he0 : e6 = 6 := by rw [HE6.out, HL.out, if_neg (by omega)]
                              subst he0
                              go_wp2_with fail
                              go_roundw
                              case rel => exact ⟨k + 1, by omega, by go_num, HIXE2, HBE⟩
                              case measure => simp [intOf]; omega
                · have hkn : np = k := by omega
                  subst hkn
                  have hk5 : ¬ (np : Int) < (np : Int) := by omega
                  go_wp2_with fail
                  refine (HAW.out wr HBR.out).mono ?_
                  rintro e w7 ⟨rfl, hb7⟩
                  have HB7 := Lib.hid hb7
                  clear hb7
                  go_wp2_with fail
                  go_ret
                  exact ⟨rfl, HB7.out⟩
        · subst hsv
          have hz2 : (fa == 0) = false := by simp [hz]
          clear hz
          go_wp2_with fail
          refine (HAW.out wZ HBBZ.out).mono ?_
          rintro e w7 ⟨rfl, hb7⟩
          have HB7 := Lib.hid hb7
          clear hb7
          go_wp2_with fail
          go_ret
          exact ⟨rfl, HB7.out⟩
end Go.Proofs.YtjiiikeniocmfaaGreat

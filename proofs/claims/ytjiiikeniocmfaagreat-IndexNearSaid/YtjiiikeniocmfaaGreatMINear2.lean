/- IndexNear: the walk (printed by mkinear14.py) -/
import Derived.Test.YtjiiikeniocmfaaGreatMIKnown
import Derived.Deep.OwnRows
import Derived.Test.YtjiiikeniocmfaaGreatMSlabW
import Derived.Test.YtjiiikeniocmfaaGreatMSBuild0
set_option linter.unusedSimpArgs false
set_option linter.unusedVariables false
namespace Go.Proofs.YtjiiikeniocmfaaGreat
open Go.RowKit Go.Geo
attribute [local go_sem] Oper.semAt_some
set_option maxRecDepth 100000 in
set_option maxHeartbeats 16000000 in
theorem IndexNear_any (ao : Option Addr) (n cap : Nat) (G : List Reg) (p : Pt) (tp : Option Addr) (nt tc : Nat) (T : List Int) (w : World) (h : IsRegs w ao n cap G) (hkp : ∀ i, i < G.length → Kept (G.getD i [])) (ht : IsInts w tp nt tc T) : Calls Tryz.prog 7 #[.slice ao n cap, ptV p, .slice tp nt tc] w fun e w' => e = .returned (.bool true) ∧ Below w.heap.size w w' := by
  have hnc := h.2.1
  have hcm : cap ≤ 9223372036854775807 := h.2.2.1
  have htc := ht.2.1
  have htcm : tc ≤ 9223372036854775807 := ht.2.2.1
  obtain ⟨W0, hW0⟩ : ∃ W, W = w.alloc (.cells #[.int .i64 p.x, .int .i64 p.y] 24) := ⟨_, rfl⟩
  obtain ⟨bp, hbp⟩ : ∃ b, b = w.heap.size := ⟨_, rfl⟩
  have hb0 : Below w.heap.size w W0 := by rw [hW0]; exact (Below.refl _ _).alloc (Nat.le_refl _) _
  have k0 : W0.heap[bp]? = some (.cells #[.int .i64 p.x, .int .i64 p.y] 24 (0, 0)) := by rw [hW0, hbp]; exact alloc_new _ _
  have HPC : Hid (∀ wX, Below W0.heap.size W0 wX → wX.cell? ⟨bp, 0, none⟩ = some (.int .i64 p.x) ∧ wX.cell? ⟨bp, 1, none⟩ = some (.int .i64 p.y)) := Lib.hid (fun wX hX => by
    have q0 := (hX.block _ (heap_lt' k0)).trans k0
    exact ⟨cell_of_row _ _ _ _ _ _ q0, cell_of_row _ _ _ _ _ _ q0⟩)
  have HI := Lib.hid (h.later hb0 (Nat.le_refl _))
  have HTT := Lib.hid (ht.later hb0 (Nat.le_refl _))
  have HB0 := Lib.hid hb0
  have HL := Lib.hid h.1
  have HKP := Lib.hid hkp
  clear h hkp ht hb0 k0
  unfold ptV
  go_enter Tryz.func7, Tryz.ntmps7
  go_wp2_with fail
  rw [← hW0, ← hbp]
  clear hW0
  have HBP := Lib.hid hbp
  clear hbp
  refine (IndexKnown_any W0).mono ?_
  rintro e w1 ⟨rfl, hb1⟩
  have HB1 := Lib.hid hb1
  have HBG := Lib.hid (Big_any ao n cap G w1 (HI.out.later hb1 (Nat.le_refl _)) HKP.out)
  clear hb1
  go_wp2_with fail
  refine HBG.out.mono ?_
  rintro e w2 ⟨big, rfl, hbig, hb2⟩
  have HB2 := Lib.hid (HB1.out.trans (hb2.mono HB1.out.size))
  have HBIG := Lib.hid hbig
  clear hb2 hbig HBG
  cases big with
  | true =>
    go_wp2_with fail
    go_ret
    exact ⟨rfl, HB0.out.trans (HB2.out.mono HB0.out.size)⟩
  | false =>
  obtain ⟨hg70, hgs⟩ := HBIG.out rfl
  by_cases h20 : 20 < n
  · have h5 : (20 : Int) < (n : Int) := by omega
    clear hg70 hgs
    go_wp2_with fail
    go_ret
    exact ⟨rfl, HB0.out.trans (HB2.out.mono HB0.out.size)⟩
  by_cases h60 : 60 < nt
  · have h5 : ¬ (20 : Int) < (n : Int) := by omega
    have h6 : (60 : Int) < (nt : Int) := by omega
    clear hg70 hgs
    go_wp2_with fail
    go_ret
    exact ⟨rfl, HB0.out.trans (HB2.out.mono HB0.out.size)⟩
  have h5 : ¬ (20 : Int) < (n : Int) := by omega
  have h6 : ¬ (60 : Int) < (nt : Int) := by omega
  have HS : Hid (∀ i, i < n → sumLen (G.getD i []) ≤ 1000000000000) := Lib.hid (fun i hi => by
    obtain ⟨h1, h2⟩ := hgs i (by rw [HL.out]; exact hi)
    omega)
  have HBU := Lib.hid (IBuild_any ao n cap G w2 (HI.out.later HB2.out (Nat.le_refl _)) HS.out)
  clear hg70 hgs HBIG
  go_wp2_with fail
  refine HBU.out.mono ?_
  rintro e w3 ⟨hb3, hok, hno⟩
  have HB3 := Lib.hid (HB2.out.trans (hb3.mono HB2.out.size))
  have HSZ2 := Lib.hid HB2.out.size
  clear hb3 HBU
  by_cases hz : (idxCheckP G).1 ≠ 0
  · have he := hno hz
    obtain ⟨fa, fb, hf⟩ : ∃ a b : Int, idxCheckP G = (a, b) := ⟨_, _, rfl⟩
    rw [hf] at he hz
    have hz2 : (fa == 0) = false := by simpa using hz
    subst he
    unfold faultV
    clear hok hno hz hf
    go_wp2_with fail
    go_ret
    exact ⟨rfl, HB0.out.trans ((HB3.out.alloc HB3.out.size _).mono HB0.out.size)⟩
  · have hz0 : (idxCheckP G).1 = 0 := by omega
    obtain ⟨g, og, sg, rfl, hx⟩ := hok hz0
    have HX3 := Lib.hid hx
    have HZ0 := Lib.hid hz0
    clear hok hno hz hz0 hx
    obtain ⟨W4, hW4⟩ : ∃ W, W = w3.alloc (Obj.cells #[.int .i64 0, .int .i64 0] 35) := ⟨_, rfl⟩
    have hb4 : Below w3.heap.size w3 (W4.alloc (Obj.cells #[] 30)) := by rw [hW4]; exact ((Below.refl _ _).alloc (Nat.le_refl _) _).alloc (by simp) _
    have HB4 := Lib.hid (HB3.out.trans (hb4.mono HB3.out.size))
    have HB34 := Lib.hid hb4
    have HIR : Hid (Below W0.heap.size W0 (W4.alloc (Obj.cells #[] 30))) := Lib.hid HB4.out
    have HOE := Lib.hid (hdrs_none_new W4 w3.heap.size (by rw [hW4]; simp))
    rw [hW4] at HIR HOE HB34
    have hsz4 : (w3.alloc (Obj.cells #[.int .i64 0, .int .i64 0] 35)).heap.size = w3.heap.size + 1 := by simp
    rw [hsz4] at HOE
    clear hb4 hsz4 hW4
    go_wp2_with (at_builtin; refine wpList_append_hdrs rfl _ _ rfl w3.heap.size _ rfl HOE.out ao n cap G rfl HI.out HIR.out (by omega) (by simp; omega) ?_
                 intro v5 w5 H hH hown5 hgr5
                 have HO5 := Lib.hid (And.intro hH (And.intro hown5 hgr5))
                 have hslv : ∃ ai ci, v5 = .slice ai n ci := by
                   rcases hown5.2 with ⟨e, h0⟩ | ⟨g9, cp, cur, e, _⟩
                   · exact ⟨none, 0, by rw [e, h0]⟩
                   · exact ⟨_, _, e⟩
                 obtain ⟨ai, ci, hv5⟩ := hslv
                 subst hv5
                 clear hH hown5 hgr5)
    obtain ⟨W6, hmk, hio, hb6⟩ := make_I n (by omega) w5
    have hbl5 : Below w3.heap.size w3 w5 := HB34.out.grown HO5.out.2.2 (by simp; omega) (fun k hk => (HOE.out.lt k hk).1)
    have HH : Hid (HdrOk W6 H G) := Lib.hid (by
      have hbW : Below w3.heap.size w3 W6 := hbl5.trans (hb6.mono hbl5.size)
      exact HO5.out.1.later (HB3.out.trans (hbW.mono HB3.out.size)) (Nat.le_refl _))
    have HH0 : Hid (HdrOk W0 H G) := Lib.hid HO5.out.1
    have HX6 : Hid (OwnH W6 w3.heap.size (.slice ai n ci) H) := Lib.hid (by
      have h1 := HO5.out.2.1
      have hHl : H.length = n := HO5.out.1.1.trans HL.out
      have h2 : OwnH w5 w3.heap.size (.slice ai n ci) H := by unfold OwnH; rw [hHl]; exact h1
      exact h2.later hb6)
    have HHL : Hid (H.length = n) := Lib.hid (HO5.out.1.1.trans HL.out)
    have HI6 := Lib.hid (hio.base hbl5.size)
    have HB6 := Lib.hid (hbl5.trans (hb6.mono hbl5.size))
    have HGA := Lib.hid hbl5.size
    have hci : n ≤ ci ∧ ci ≤ 9223372036854775807 := by
      rcases HX6.out.2 with ⟨e, h0⟩ | ⟨g9, cp, cur, e, _, _, h1, h2, _⟩
      · injection e with e1 e2 e3
        omega
      · injection e with e1 e2 e3
        subst e3
        unfold maxLen at h2
        rw [HHL.out] at h1
        exact ⟨h1, h2⟩
    obtain ⟨hci1, hci2⟩ := hci
    obtain ⟨B, hB⟩ : ∃ B, B = w3.heap.size := ⟨_, rfl⟩
    obtain ⟨ga, hga⟩ : ∃ g, g = w5.heap.size := ⟨_, rfl⟩
    rw [← hga] at HGA HI6
    rw [← hB] at HX6 HI6 HB6 HGA
    have HB9 := Lib.hid hB
    rw [← hga] at hmk
    rw [hmk]
    clear hmk hga hio hb6 hbl5 hB HO5 HOE HB34 HIR
    go_wp2_with fail
    go_loopw [12] (fun iv wr => ∃ i : Nat, i ≤ n ∧ iv = .int .i64 i ∧ Hid (∃ A : List Int, A.length = n ∧ (∀ j, j < i → A.getD j 0 = (j : Int)) ∧ OwnH wr B (.slice ai n ci) H ∧ OwnI wr B (.slice (some ⟨ga, 0, none⟩) n n) A ∧ Below B w3 wr)) (fun iv _ => n - (intOf iv).toNat)
    case atStart => exact ⟨0, by omega, rfl, Lib.hid ⟨List.replicate n 0, List.length_replicate, fun j hj => absurd hj (by omega), HX6.out, HI6.out, HB6.out⟩⟩
    case round =>
      obtain ⟨i, hi, rfl, hst⟩ := hrel
      obtain ⟨A, hA, hAj, hAX, hAI, hAB⟩ := hst.out
      clear hst
      by_cases hlt : i < n
      · have hi5 : (i : Int) < (n : Int) := by omega
        have hi0 : (0 : Int) ≤ (i : Int) := by omega
        have hwi : IntKind.i64.wrap ((i : Int) + 1) = (i : Int) + 1 := IntWalk.i64_in _ (by omega)
        have ci := hAI.cellAt hA hlt
        have fi := hAI.froz i
        have HST := Lib.hid (And.intro hA (And.intro hAj (And.intro hAX (And.intro hAI hAB))))
        clear hA hAj hAX hAI hAB
        go_wp2_with fail
        go_roundw
        case rel =>
          obtain ⟨hA, hAj, hAX, hAI, hAB⟩ := HST.out
          have hai := hAI
          rw [← hA] at hai
          have hput := hai.put i (i : Int)
          rw [hA] at hput
          refine ⟨i + 1, by omega, by go_num, Lib.hid ⟨A.set i (i : Int), by rw [List.length_set, hA], fun j hj => ?_, hAX.byI hAI, hput, hAB.setCell (p := ⟨ga, i, none⟩) HGA.out _⟩⟩
          by_cases hji : j = i
          · subst hji
            rw [List.getD_eq_getElem?_getD, List.getElem?_set_self (by omega)]; rfl
          · rw [List.getD_eq_getElem?_getD, List.getElem?_set_ne (by omega), ← List.getD_eq_getElem?_getD]
            exact hAj j (by omega)
        case measure => simp [intOf]; omega
      · have hin2 : n = i := by omega
        subst hin2
        have hi5 : ¬ (n : Int) < (n : Int) := by omega
        obtain rfl := allI_of hA hAj
        have HST := Lib.hid (And.intro hAX (And.intro hAI hAB))
        clear hA hAj hAX hAI hAB
        go_wp2_with fail
        go_loopw [13, 14, 15] (fun iv _ _ wr => ∃ i : Nat, i ≤ nt ∧ iv = .int .i64 i ∧ Hid (∃ M A, TurnH n H M A ∧ OwnH wr B (.slice ai n ci) M ∧ OwnI wr B (.slice (some ⟨ga, 0, none⟩) n n) A ∧ Below B w3 wr)) (fun iv _ _ _ => nt - (intOf iv).toNat)
        case atStart => exact ⟨0, by omega, rfl, Lib.hid ⟨H, _, TurnH.start HHL.out, HST.out.1, HST.out.2.1, HST.out.2.2⟩⟩
        case round =>
          obtain ⟨i, hi, rfl, hst⟩ := hrel
          obtain ⟨M, A, hTI, hMX, hMI, hMB⟩ := hst.out
          clear hst HST
          by_cases hlt : i < nt ∧ 0 < n
          · obtain ⟨hlt, hz⟩ := hlt
            have hi5 : (i : Int) < (nt : Int) := by omega
            have hz5 : (0 : Int) < (n : Int) := by omega
            have hwi : IntKind.i64.wrap ((i : Int) + 1) = (i : Int) + 1 := IntWalk.i64_in _ (by omega)
            obtain ⟨gm, csm, hgm, hgmB, _⟩ := hMX.row hTI.len hz
            subst hgm
            have HR : Hid (TwoR w3 B gm n ci ga M A wr) := Lib.hid ⟨hMX, hMI, hTI.len, hTI.alen, hMB, hgmB, HGA.out⟩
            have HTI := Lib.hid hTI
            obtain ⟨bt, ot, hto, htat⟩ := HTT.out.2.2.2.1 (by omega)
            subst hto
            obtain ⟨x, hx⟩ : ∃ x, x = T.getD i 0 := ⟨_, rfl⟩
            obtain ⟨a, ha⟩ : ∃ a, a = i % n := ⟨_, rfl⟩
            have han : a < n := by rw [ha]; exact Nat.mod_lt _ hz
            have hmod : Int.tmod (i : Int) (n : Int) = (a : Int) := by rw [ha, Int.tmod_eq_emod_of_nonneg (by omega)]; exact (Int.natCast_emod i n).symm
            obtain ⟨b, hb⟩ : ∃ b : Nat, pickP x n = (b : Int) ∧ b < n := by
              have h1 : pickP x (n : Int) = x % (n : Int) := by unfold pickP; rw [if_neg (by omega)]
              have h2 := Int.emod_nonneg x (show (n : Int) ≠ 0 by omega)
              have h3 := Int.emod_lt_of_pos x hz5
              exact ⟨(x % (n : Int)).toNat, by rw [h1]; omega, by omega⟩
            have HPK : Hid (∀ wX, Below wr.heap.size wr wX → Calls Tryz.prog 9 #[.int .i64 x, .int .i64 (n : Int)] wX fun e w' => e = .returned (.int .i64 (b : Int)) ∧ wX = w') := Lib.hid (fun wX _ => by
              have := Pick_any x n wX (by omega)
              rw [hb.1] at this
              exact this)
            have HBR : Hid (Below W0.heap.size W0 wr) := Lib.hid (HB3.out.trans (by rw [HB9.out] at hMB; exact hMB.mono HB3.out.size))
            have HTC : Hid (∀ wX, Below wr.heap.size wr wX → wX.cell? ⟨bt, ot + i, none⟩ = some (.int .i64 x)) := Lib.hid (fun wX hX => by
              have := htat i hlt
              rw [← hx] at this
              exact ((HBR.out.trans (hX.mono HBR.out.size)).cell (p := ⟨bt, ot + i, none⟩) (block_lt_of_cell this)).trans this)
            have HMOD := Lib.hid (And.intro hmod (And.intro (show (n : Int) ≠ 0 by omega) (IntWalk.i64_in (a : Int) (by omega))))
            have HIX := Lib.hid (And.intro hi5 (show (0 : Int) ≤ (i : Int) by omega))
            have HAB := Lib.hid (And.intro han hb.2)
            clear hTI hMX hMI hMB hgmB htat hx ha han hmod hb
            go_wp2_with fail
            have HOK : ∀ f ∈ ([] : List Fct), FctOk f := by
              intro f hf; cases hf
            refine wp_region_J (s := [(74, 0), (75, 1), (76, 2), (77, 3), (78, 4), (79, 5), (80, 6), (81, 7), (82, 8), (83, 9), (84, 10), (14, 11), (15, 12)]) (by kernel_rfl) (GrowJ wr (fun iX => match iX with | 0 => some (.int .i64 (i : Int)) | 1 => some (.slice (some ⟨gm, 0, none⟩) n ci) | 2 => some (.int .i64 (n : Int)) | 3 => some (.int .i64 (a : Int)) | 4 => some (.slice (some ⟨bt, ot, none⟩) nt tc) | 5 => some (.int .i64 (i : Int)) | 6 => some (.pointer (some ⟨bt, ot + i, none⟩)) | 7 => some (.int .i64 x) | 8 => some (.slice (some ⟨gm, 0, none⟩) n ci) | 9 => some (.int .i64 (n : Int)) | 10 => some (.int .i64 (b : Int)) | 11 => some (.int .i64 (a : Int)) | 12 => some (.int .i64 (b : Int)) | _ => none) []) (by kernel_rfl) (by kernel_rfl) (by kernel_rfl) (by kernel_rfl) (fun _ => undef) ?start16 ?step16 ?done16
            case start16 => exact GrowJ.start ((Below.refl _ _).drew)
            case step16 =>
              refine ⟨?o16_0, ?o16_1, ?o16_2, ?o16_3, ?o16_4, ?o16_5, ?o16_6, ?o16_7, ?o16_8, ?o16_9, ?o16_10, ?o16_11, ?o16_12, trivial⟩
              case o16_0 =>
                intro LX V aX wX K hl hp hcl hf hJ hK
                have t13 : aX.tmps[13]? = some (.int .i64 (i : Int)) := hf.old (by kernel_rfl) rfl
                rw [if_pos (by rfl)]
                go_simp
                exact hK _ _ (hJ.val HOK 0 _ (by kernel_rfl) rfl (Below.refl _ _))
              case o16_1 =>
                intro LX V aX wX K hl hp hcl hf hJ hK
                have t10 : aX.tmps[10]? = some (.slice (some ⟨gm, 0, none⟩) n ci) := hf.old (by kernel_rfl) rfl
                rw [if_pos (by rfl)]
                go_simp
                exact hK _ _ (hJ.val HOK 1 _ (by kernel_rfl) rfl (Below.refl _ _))
              case o16_2 =>
                intro LX V aX wX K hl hp hcl hf hJ hK
                have t75 := hf.in (i := 1) (d := 75) (by kernel_rfl) (hp 1 (by kernel_rfl)) (hJ.vals 1 _ rfl (hp 1 (by kernel_rfl)))
                rw [if_pos (by rfl)]
                go_simp
                exact hK _ _ (hJ.val HOK 2 _ (by kernel_rfl) rfl (Below.refl _ _))
              case o16_3 =>
                intro LX V aX wX K hl hp hcl hf hJ hK
                have t74 := hf.in (i := 0) (d := 74) (by kernel_rfl) (hp 0 (by kernel_rfl)) (hJ.vals 0 _ rfl (hp 0 (by kernel_rfl)))
                have t76 := hf.in (i := 2) (d := 76) (by kernel_rfl) (hp 2 (by kernel_rfl)) (hJ.vals 2 _ rfl (hp 2 (by kernel_rfl)))
                obtain ⟨hm1, hm2, hm3⟩ := HMOD.out
                have hm4 : ¬ n = 0 := by omega
                rw [if_pos (by rfl)]
                go_simp
                exact hK _ _ (hJ.val HOK 3 _ (by kernel_rfl) rfl (Below.refl _ _))
              case o16_4 =>
                intro LX V aX wX K hl hp hcl hf hJ hK
                have t2 : aX.tmps[2]? = some (.slice (some ⟨bt, ot, none⟩) nt tc) := hf.old (by kernel_rfl) rfl
                rw [if_pos (by rfl)]
                go_simp
                exact hK _ _ (hJ.val HOK 4 _ (by kernel_rfl) rfl (Below.refl _ _))
              case o16_5 =>
                intro LX V aX wX K hl hp hcl hf hJ hK
                have t13 : aX.tmps[13]? = some (.int .i64 (i : Int)) := hf.old (by kernel_rfl) rfl
                rw [if_pos (by rfl)]
                go_simp
                exact hK _ _ (hJ.val HOK 5 _ (by kernel_rfl) rfl (Below.refl _ _))
              case o16_6 =>
                intro LX V aX wX K hl hp hcl hf hJ hK
                have t78 := hf.in (i := 4) (d := 78) (by kernel_rfl) (hp 4 (by kernel_rfl)) (hJ.vals 4 _ rfl (hp 4 (by kernel_rfl)))
                have t79 := hf.in (i := 5) (d := 79) (by kernel_rfl) (hp 5 (by kernel_rfl)) (hJ.vals 5 _ rfl (hp 5 (by kernel_rfl)))
                obtain ⟨hi1, hi2⟩ := HIX.out
                rw [if_pos (by rfl)]
                go_simp
                exact hK _ _ (hJ.val HOK 6 _ (by kernel_rfl) rfl (Below.refl _ _))
              case o16_7 =>
                intro LX V aX wX K hl hp hcl hf hJ hK
                have t80 := hf.in (i := 6) (d := 80) (by kernel_rfl) (hp 6 (by kernel_rfl)) (hJ.vals 6 _ rfl (hp 6 (by kernel_rfl)))
                have cx := HTC.out wX hJ.below
                rw [if_pos (by rfl)]
                go_simp
                exact hK _ _ (hJ.val HOK 7 _ (by kernel_rfl) rfl (Below.refl _ _))
              case o16_8 =>
                intro LX V aX wX K hl hp hcl hf hJ hK
                have t10 : aX.tmps[10]? = some (.slice (some ⟨gm, 0, none⟩) n ci) := hf.old (by kernel_rfl) rfl
                rw [if_pos (by rfl)]
                go_simp
                exact hK _ _ (hJ.val HOK 8 _ (by kernel_rfl) rfl (Below.refl _ _))
              case o16_9 =>
                intro LX V aX wX K hl hp hcl hf hJ hK
                have t82 := hf.in (i := 8) (d := 82) (by kernel_rfl) (hp 8 (by kernel_rfl)) (hJ.vals 8 _ rfl (hp 8 (by kernel_rfl)))
                rw [if_pos (by rfl)]
                go_simp
                exact hK _ _ (hJ.val HOK 9 _ (by kernel_rfl) rfl (Below.refl _ _))
              case o16_10 =>
                intro LX V aX wX K hl hp hcl hf hJ hK
                have t81 := hf.in (i := 7) (d := 81) (by kernel_rfl) (hp 7 (by kernel_rfl)) (hJ.vals 7 _ rfl (hp 7 (by kernel_rfl)))
                have t83 := hf.in (i := 9) (d := 83) (by kernel_rfl) (hp 9 (by kernel_rfl)) (hJ.vals 9 _ rfl (hp 9 (by kernel_rfl)))
                rw [if_pos (by rfl)]
                go_simp
                refine (HPK.out _ hJ.below).mono ?_
                rintro e wA ⟨rfl, rfl⟩
                exact hK _ _ (hJ.val HOK 10 _ (by kernel_rfl) rfl (Below.refl _ _))
              case o16_11 =>
                intro LX V aX wX K hl hp hcl hf hJ hK
                have t77 := hf.in (i := 3) (d := 77) (by kernel_rfl) (hp 3 (by kernel_rfl)) (hJ.vals 3 _ rfl (hp 3 (by kernel_rfl)))
                rw [if_pos (by rfl)]
                go_simp
                exact hK _ _ (hJ.val HOK 11 _ (by kernel_rfl) rfl (Below.refl _ _))
              case o16_12 =>
                intro LX V aX wX K hl hp hcl hf hJ hK
                have t84 := hf.in (i := 10) (d := 84) (by kernel_rfl) (hp 10 (by kernel_rfl)) (hJ.vals 10 _ rfl (hp 10 (by kernel_rfl)))
                rw [if_pos (by rfl)]
                go_simp
                exact hK _ _ (hJ.val HOK 12 _ (by kernel_rfl) rfl (Below.refl _ _))
            intro V wZ hJ
            have hv1 := hJ.vals 11 _ rfl (by kernel_rfl)
            have hv2 := hJ.vals 12 _ rfl (by kernel_rfl)
            have HBZ := Lib.hid hJ.below
            simp only [puts, Act.put, List.setIfInBounds_toArray, List.set_cons_zero, List.set_cons_succ]
            rw [hv1, hv2]
            clear hJ HOK hv1 hv2
            have HRZ := Lib.hid (HR.out.later HBZ.out (by have := HR.out.bel.size; have := HB9.out; omega))
            have HSZ : Hid (B ≤ wZ.heap.size) := Lib.hid (by have := HRZ.out.bel.size; have := HB9.out; omega)
            obtain ⟨xa, ya, za, hma⟩ := HTI.out.slice HH.out HL.out HAB.out.1
            obtain ⟨xb, yb, zb, hmb⟩ := HTI.out.slice HH.out HL.out HAB.out.2
            have HMA := Lib.hid hma
            have HMB := Lib.hid hmb
            clear hma hmb
            have HABI := Lib.hid (And.intro (show (a : Int) < (n : Int) by have := HAB.out; omega) (show (b : Int) < (n : Int) by have := HAB.out; omega))
            go_wp2_with fail
            refine wp_region_J (s := [(85, 0), (86, 1), (87, 2), (88, 3), (89, 4), (90, 5), (91, 6), (92, 7), (93, 8), (94, 9), (95, 10), (96, 11), (97, 12), (98, 14)]) (by kernel_rfl) (ChainJ (fun iX => match iX with | 0 => some (.slice (some ⟨gm, 0, none⟩) n ci) | 1 => some (.int .i64 (a : Int)) | 2 => some (.slice (some ⟨gm, 0, none⟩) n ci) | 3 => some (.int .i64 (b : Int)) | 4 => some (.slice (some ⟨gm, 0, none⟩) n ci) | 5 => some (.int .i64 (b : Int)) | 6 => some (.pointer (some ⟨gm, b, none⟩)) | 7 => some (.agg #[.slice xb yb zb]) | 8 => some (.slice (some ⟨gm, 0, none⟩) n ci) | 9 => some (.int .i64 (a : Int)) | 10 => some (.pointer (some ⟨gm, a, none⟩)) | 11 => some (.agg #[.slice xa ya za]) | 12 => some (.pointer (some ⟨gm, a, none⟩)) | 14 => some (.pointer (some ⟨gm, b, none⟩)) | _ => none) [13, 15] (SwX w3 B gm n ci ga M A a b)) (by kernel_rfl) (by kernel_rfl) (by kernel_rfl) (by kernel_rfl) (fun _ => undef) ?start17 ?step17 ?done17
            case start17 => exact ChainJ.start (HRZ.out.later ((Below.refl _ _).drew) HSZ.out)
            case step17 =>
              refine ⟨?o17_0, ?o17_1, ?o17_2, ?o17_3, ?o17_4, ?o17_5, ?o17_6, ?o17_7, ?o17_8, ?o17_9, ?o17_10, ?o17_11, ?o17_12, ?o17_13, ?o17_14, ?o17_15, trivial⟩
              case o17_0 =>
                intro LX V aX wX K hl hp hcl hf hJ hK
                have t10 : aX.tmps[10]? = some (.slice (some ⟨gm, 0, none⟩) n ci) := hf.old (by kernel_rfl) rfl
                rw [if_pos (by rfl)]
                go_simp
                exact hK _ _ (hJ.val 0 _ (by kernel_rfl) rfl (fun _ h => h))
              case o17_1 =>
                intro LX V aX wX K hl hp hcl hf hJ hK
                have t14 : aX.tmps[14]? = some (.int .i64 (a : Int)) := hf.old (by kernel_rfl) rfl
                rw [if_pos (by rfl)]
                go_simp
                exact hK _ _ (hJ.val 1 _ (by kernel_rfl) rfl (fun _ h => h))
              case o17_2 =>
                intro LX V aX wX K hl hp hcl hf hJ hK
                have t10 : aX.tmps[10]? = some (.slice (some ⟨gm, 0, none⟩) n ci) := hf.old (by kernel_rfl) rfl
                rw [if_pos (by rfl)]
                go_simp
                exact hK _ _ (hJ.val 2 _ (by kernel_rfl) rfl (fun _ h => h))
              case o17_3 =>
                intro LX V aX wX K hl hp hcl hf hJ hK
                have t15 : aX.tmps[15]? = some (.int .i64 (b : Int)) := hf.old (by kernel_rfl) rfl
                rw [if_pos (by rfl)]
                go_simp
                exact hK _ _ (hJ.val 3 _ (by kernel_rfl) rfl (fun _ h => h))
              case o17_4 =>
                intro LX V aX wX K hl hp hcl hf hJ hK
                have t10 : aX.tmps[10]? = some (.slice (some ⟨gm, 0, none⟩) n ci) := hf.old (by kernel_rfl) rfl
                rw [if_pos (by rfl)]
                go_simp
                exact hK _ _ (hJ.val 4 _ (by kernel_rfl) rfl (fun _ h => h))
              case o17_5 =>
                intro LX V aX wX K hl hp hcl hf hJ hK
                have t15 : aX.tmps[15]? = some (.int .i64 (b : Int)) := hf.old (by kernel_rfl) rfl
                rw [if_pos (by rfl)]
                go_simp
                exact hK _ _ (hJ.val 5 _ (by kernel_rfl) rfl (fun _ h => h))
              case o17_6 =>
                intro LX V aX wX K hl hp hcl hf hJ hK
                have t89 := hf.in (i := 4) (d := 89) (by kernel_rfl) (hp 4 (by kernel_rfl)) (hJ.vals 4 _ rfl (hp 4 (by kernel_rfl)))
                have t90 := hf.in (i := 5) (d := 90) (by kernel_rfl) (hp 5 (by kernel_rfl)) (hJ.vals 5 _ rfl (hp 5 (by kernel_rfl)))
                obtain ⟨hab1, hab2⟩ := HABI.out
                rw [if_pos (by rfl)]
                go_simp
                exact hK _ _ (hJ.val 6 _ (by kernel_rfl) rfl (fun _ h => h))
              case o17_7 =>
                intro LX V aX wX K hl hp hcl hf hJ hK
                have t91 := hf.in (i := 6) (d := 91) (by kernel_rfl) (hp 6 (by kernel_rfl)) (hJ.vals 6 _ rfl (hp 6 (by kernel_rfl)))
                obtain ⟨vs, hlen, hS⟩ := hJ.upto 0 (by decide) (hcl.no 13 (by kernel_rfl) hl)
                have hS0 : TwoR w3 B gm n ci ga M A wX := by
                  match vs, hlen, hS with
                  | [], _, hS => exact hS
                obtain ⟨y0, f0⟩ := hS0.x.cellAt hS0.ml HAB.out.2
                rw [HMB.out] at y0
                rw [if_pos (by rfl)]
                go_simp
                exact hK _ _ (hJ.val 7 _ (by kernel_rfl) rfl (fun _ h => h))
              case o17_8 =>
                intro LX V aX wX K hl hp hcl hf hJ hK
                have t10 : aX.tmps[10]? = some (.slice (some ⟨gm, 0, none⟩) n ci) := hf.old (by kernel_rfl) rfl
                rw [if_pos (by rfl)]
                go_simp
                exact hK _ _ (hJ.val 8 _ (by kernel_rfl) rfl (fun _ h => h))
              case o17_9 =>
                intro LX V aX wX K hl hp hcl hf hJ hK
                have t14 : aX.tmps[14]? = some (.int .i64 (a : Int)) := hf.old (by kernel_rfl) rfl
                rw [if_pos (by rfl)]
                go_simp
                exact hK _ _ (hJ.val 9 _ (by kernel_rfl) rfl (fun _ h => h))
              case o17_10 =>
                intro LX V aX wX K hl hp hcl hf hJ hK
                have t93 := hf.in (i := 8) (d := 93) (by kernel_rfl) (hp 8 (by kernel_rfl)) (hJ.vals 8 _ rfl (hp 8 (by kernel_rfl)))
                have t94 := hf.in (i := 9) (d := 94) (by kernel_rfl) (hp 9 (by kernel_rfl)) (hJ.vals 9 _ rfl (hp 9 (by kernel_rfl)))
                obtain ⟨hab1, hab2⟩ := HABI.out
                rw [if_pos (by rfl)]
                go_simp
                exact hK _ _ (hJ.val 10 _ (by kernel_rfl) rfl (fun _ h => h))
              case o17_11 =>
                intro LX V aX wX K hl hp hcl hf hJ hK
                have t95 := hf.in (i := 10) (d := 95) (by kernel_rfl) (hp 10 (by kernel_rfl)) (hJ.vals 10 _ rfl (hp 10 (by kernel_rfl)))
                obtain ⟨vs, hlen, hS⟩ := hJ.upto 0 (by decide) (hcl.no 13 (by kernel_rfl) hl)
                have hS0 : TwoR w3 B gm n ci ga M A wX := by
                  match vs, hlen, hS with
                  | [], _, hS => exact hS
                obtain ⟨y0, f0⟩ := hS0.x.cellAt hS0.ml HAB.out.1
                rw [HMA.out] at y0
                rw [if_pos (by rfl)]
                go_simp
                exact hK _ _ (hJ.val 11 _ (by kernel_rfl) rfl (fun _ h => h))
              case o17_12 =>
                intro LX V aX wX K hl hp hcl hf hJ hK
                have t85 := hf.in (i := 0) (d := 85) (by kernel_rfl) (hp 0 (by kernel_rfl)) (hJ.vals 0 _ rfl (hp 0 (by kernel_rfl)))
                have t86 := hf.in (i := 1) (d := 86) (by kernel_rfl) (hp 1 (by kernel_rfl)) (hJ.vals 1 _ rfl (hp 1 (by kernel_rfl)))
                obtain ⟨hab1, hab2⟩ := HABI.out
                rw [if_pos (by rfl)]
                go_simp
                exact hK _ _ (hJ.val 12 _ (by kernel_rfl) rfl (fun _ h => h))
              case o17_13 =>
                intro LX V aX wX K hl hp hcl hf hJ hK
                have t97 := hf.in (i := 12) (d := 97) (by kernel_rfl) (hp 12 (by kernel_rfl)) (hJ.vals 12 _ rfl (hp 12 (by kernel_rfl)))
                have t92 := hf.in (i := 7) (d := 92) (by kernel_rfl) (hp 7 (by kernel_rfl)) (hJ.vals 7 _ rfl (hp 7 (by kernel_rfl)))
                rw [if_pos (by rfl)]
                obtain ⟨vs, hlen, hvs, hS, hn⟩ := hJ.next (by kernel_rfl) 0 (by kernel_rfl) hl (.inl rfl) rfl
                match vs, hlen, hvs, hS, hn with
                | [], _, hvs, hS, hn =>
                  have hS0 : TwoR w3 B gm n ci ga M A wX := hS
                  obtain ⟨y0, f0⟩ := hS0.x.cellAt hS0.ml HAB.out.1
                  go_simp
                  exact hK undef _ (hn undef _ (by show TwoR w3 B gm n ci ga (M.set a (M.getD b undef)) A _; rw [HMB.out]; exact hS0.putX a _))
              case o17_14 =>
                intro LX V aX wX K hl hp hcl hf hJ hK
                have t87 := hf.in (i := 2) (d := 87) (by kernel_rfl) (hp 2 (by kernel_rfl)) (hJ.vals 2 _ rfl (hp 2 (by kernel_rfl)))
                have t88 := hf.in (i := 3) (d := 88) (by kernel_rfl) (hp 3 (by kernel_rfl)) (hJ.vals 3 _ rfl (hp 3 (by kernel_rfl)))
                obtain ⟨hab1, hab2⟩ := HABI.out
                rw [if_pos (by rfl)]
                go_simp
                exact hK _ _ (hJ.val 14 _ (by kernel_rfl) rfl (fun _ h => h))
              case o17_15 =>
                intro LX V aX wX K hl hp hcl hf hJ hK
                have t98 := hf.in (i := 14) (d := 98) (by kernel_rfl) (hp 14 (by kernel_rfl)) (hJ.vals 14 _ rfl (hp 14 (by kernel_rfl)))
                have t96 := hf.in (i := 11) (d := 96) (by kernel_rfl) (hp 11 (by kernel_rfl)) (hJ.vals 11 _ rfl (hp 11 (by kernel_rfl)))
                rw [if_pos (by rfl)]
                obtain ⟨vs, hlen, hvs, hS, hn⟩ := hJ.next (by kernel_rfl) 1 (by kernel_rfl) hl (.inr (hp 13 (by kernel_rfl))) rfl
                match vs, hlen, hvs, hS, hn with
                | [a0], _, hvs, hS, hn =>
                  have e0 : V 13 = a0 := hvs 0 (by decide)
                  have hS0 : TwoR w3 B gm n ci ga (M.set a (M.getD b undef)) A wX := hS
                  obtain ⟨y0, f0⟩ := hS0.x.cellAt hS0.ml HAB.out.2
                  go_simp
                  exact hK undef _ (hn undef _ (by show TwoR w3 B gm n ci ga ((M.set a (M.getD b undef)).set b (M.getD a undef)) A _; rw [HMA.out]; exact hS0.putX b _))
            intro V wZ hJ
            obtain ⟨vs, hlen, hvs, hS⟩ := hJ.all (by kernel_rfl)
            match vs, hlen, hvs, hS with
            | [a0, a1], _, hvs, hS =>
              have e0 : V 13 = a0 := hvs 0 (by decide)
              have e1 : V 15 = a1 := hvs 1 (by decide)
              have HR2 : Hid (TwoR w3 B gm n ci ga ((M.set a (M.getD b undef)).set b (M.getD a undef)) A wZ) := Lib.hid hS
              simp only [puts, Act.put, List.setIfInBounds_toArray, List.set_cons_zero, List.set_cons_succ]
              clear hJ hvs hS
              obtain ⟨M2, hM2⟩ : ∃ M2, M2 = (M.set a (M.getD b undef)).set b (M.getD a undef) := ⟨_, rfl⟩
              rw [← hM2] at HR2
              have HM2 := Lib.hid hM2
              have HSZ2 : Hid (B ≤ wZ.heap.size) := Lib.hid (by have := HR2.out.bel.size; have := HB9.out; omega)
              clear hM2
              go_wp2_with fail
              refine wp_region_J (s := [(99, 0), (100, 1), (101, 2), (102, 3), (103, 4), (104, 5), (105, 6), (106, 7), (107, 8), (108, 9), (109, 10), (110, 11), (111, 12), (112, 14)]) (by kernel_rfl) (ChainJ (fun iX => match iX with | 0 => some (.slice (some ⟨ga, 0, none⟩) n n) | 1 => some (.int .i64 (a : Int)) | 2 => some (.slice (some ⟨ga, 0, none⟩) n n) | 3 => some (.int .i64 (b : Int)) | 4 => some (.slice (some ⟨ga, 0, none⟩) n n) | 5 => some (.int .i64 (b : Int)) | 6 => some (.pointer (some ⟨ga, b, none⟩)) | 7 => some (.int .i64 (A.getD b 0)) | 8 => some (.slice (some ⟨ga, 0, none⟩) n n) | 9 => some (.int .i64 (a : Int)) | 10 => some (.pointer (some ⟨ga, a, none⟩)) | 11 => some (.int .i64 (A.getD a 0)) | 12 => some (.pointer (some ⟨ga, a, none⟩)) | 14 => some (.pointer (some ⟨ga, b, none⟩)) | _ => none) [13, 15] (SwI w3 B gm n ci ga M2 A a b)) (by kernel_rfl) (by kernel_rfl) (by kernel_rfl) (by kernel_rfl) (fun _ => undef) ?start18 ?step18 ?done18
              case start18 => exact ChainJ.start (HR2.out.later ((Below.refl _ _).drew) HSZ2.out)
              case step18 =>
                refine ⟨?o18_0, ?o18_1, ?o18_2, ?o18_3, ?o18_4, ?o18_5, ?o18_6, ?o18_7, ?o18_8, ?o18_9, ?o18_10, ?o18_11, ?o18_12, ?o18_13, ?o18_14, ?o18_15, trivial⟩
                case o18_0 =>
                  intro LX V aX wX K hl hp hcl hf hJ hK
                  have t11 : aX.tmps[11]? = some (.slice (some ⟨ga, 0, none⟩) n n) := hf.old (by kernel_rfl) rfl
                  rw [if_pos (by rfl)]
                  go_simp
                  exact hK _ _ (hJ.val 0 _ (by kernel_rfl) rfl (fun _ h => h))
                case o18_1 =>
                  intro LX V aX wX K hl hp hcl hf hJ hK
                  have t14 : aX.tmps[14]? = some (.int .i64 (a : Int)) := hf.old (by kernel_rfl) rfl
                  rw [if_pos (by rfl)]
                  go_simp
                  exact hK _ _ (hJ.val 1 _ (by kernel_rfl) rfl (fun _ h => h))
                case o18_2 =>
                  intro LX V aX wX K hl hp hcl hf hJ hK
                  have t11 : aX.tmps[11]? = some (.slice (some ⟨ga, 0, none⟩) n n) := hf.old (by kernel_rfl) rfl
                  rw [if_pos (by rfl)]
                  go_simp
                  exact hK _ _ (hJ.val 2 _ (by kernel_rfl) rfl (fun _ h => h))
                case o18_3 =>
                  intro LX V aX wX K hl hp hcl hf hJ hK
                  have t15 : aX.tmps[15]? = some (.int .i64 (b : Int)) := hf.old (by kernel_rfl) rfl
                  rw [if_pos (by rfl)]
                  go_simp
                  exact hK _ _ (hJ.val 3 _ (by kernel_rfl) rfl (fun _ h => h))
                case o18_4 =>
                  intro LX V aX wX K hl hp hcl hf hJ hK
                  have t11 : aX.tmps[11]? = some (.slice (some ⟨ga, 0, none⟩) n n) := hf.old (by kernel_rfl) rfl
                  rw [if_pos (by rfl)]
                  go_simp
                  exact hK _ _ (hJ.val 4 _ (by kernel_rfl) rfl (fun _ h => h))
                case o18_5 =>
                  intro LX V aX wX K hl hp hcl hf hJ hK
                  have t15 : aX.tmps[15]? = some (.int .i64 (b : Int)) := hf.old (by kernel_rfl) rfl
                  rw [if_pos (by rfl)]
                  go_simp
                  exact hK _ _ (hJ.val 5 _ (by kernel_rfl) rfl (fun _ h => h))
                case o18_6 =>
                  intro LX V aX wX K hl hp hcl hf hJ hK
                  have t103 := hf.in (i := 4) (d := 103) (by kernel_rfl) (hp 4 (by kernel_rfl)) (hJ.vals 4 _ rfl (hp 4 (by kernel_rfl)))
                  have t104 := hf.in (i := 5) (d := 104) (by kernel_rfl) (hp 5 (by kernel_rfl)) (hJ.vals 5 _ rfl (hp 5 (by kernel_rfl)))
                  obtain ⟨hab1, hab2⟩ := HABI.out
                  rw [if_pos (by rfl)]
                  go_simp
                  exact hK _ _ (hJ.val 6 _ (by kernel_rfl) rfl (fun _ h => h))
                case o18_7 =>
                  intro LX V aX wX K hl hp hcl hf hJ hK
                  have t105 := hf.in (i := 6) (d := 105) (by kernel_rfl) (hp 6 (by kernel_rfl)) (hJ.vals 6 _ rfl (hp 6 (by kernel_rfl)))
                  obtain ⟨vs, hlen, hS⟩ := hJ.upto 0 (by decide) (hcl.no 13 (by kernel_rfl) hl)
                  have hS0 : TwoR w3 B gm n ci ga M2 A wX := by
                    match vs, hlen, hS with
                    | [], _, hS => exact hS
                  have y0 := hS0.i.cellAt hS0.al HAB.out.2
                  rw [if_pos (by rfl)]
                  go_simp
                  exact hK _ _ (hJ.val 7 _ (by kernel_rfl) rfl (fun _ h => h))
                case o18_8 =>
                  intro LX V aX wX K hl hp hcl hf hJ hK
                  have t11 : aX.tmps[11]? = some (.slice (some ⟨ga, 0, none⟩) n n) := hf.old (by kernel_rfl) rfl
                  rw [if_pos (by rfl)]
                  go_simp
                  exact hK _ _ (hJ.val 8 _ (by kernel_rfl) rfl (fun _ h => h))
                case o18_9 =>
                  intro LX V aX wX K hl hp hcl hf hJ hK
                  have t14 : aX.tmps[14]? = some (.int .i64 (a : Int)) := hf.old (by kernel_rfl) rfl
                  rw [if_pos (by rfl)]
                  go_simp
                  exact hK _ _ (hJ.val 9 _ (by kernel_rfl) rfl (fun _ h => h))
                case o18_10 =>
                  intro LX V aX wX K hl hp hcl hf hJ hK
                  have t107 := hf.in (i := 8) (d := 107) (by kernel_rfl) (hp 8 (by kernel_rfl)) (hJ.vals 8 _ rfl (hp 8 (by kernel_rfl)))
                  have t108 := hf.in (i := 9) (d := 108) (by kernel_rfl) (hp 9 (by kernel_rfl)) (hJ.vals 9 _ rfl (hp 9 (by kernel_rfl)))
                  obtain ⟨hab1, hab2⟩ := HABI.out
                  rw [if_pos (by rfl)]
                  go_simp
                  exact hK _ _ (hJ.val 10 _ (by kernel_rfl) rfl (fun _ h => h))
                case o18_11 =>
                  intro LX V aX wX K hl hp hcl hf hJ hK
                  have t109 := hf.in (i := 10) (d := 109) (by kernel_rfl) (hp 10 (by kernel_rfl)) (hJ.vals 10 _ rfl (hp 10 (by kernel_rfl)))
                  obtain ⟨vs, hlen, hS⟩ := hJ.upto 0 (by decide) (hcl.no 13 (by kernel_rfl) hl)
                  have hS0 : TwoR w3 B gm n ci ga M2 A wX := by
                    match vs, hlen, hS with
                    | [], _, hS => exact hS
                  have y0 := hS0.i.cellAt hS0.al HAB.out.1
                  rw [if_pos (by rfl)]
                  go_simp
                  exact hK _ _ (hJ.val 11 _ (by kernel_rfl) rfl (fun _ h => h))
                case o18_12 =>
                  intro LX V aX wX K hl hp hcl hf hJ hK
                  have t99 := hf.in (i := 0) (d := 99) (by kernel_rfl) (hp 0 (by kernel_rfl)) (hJ.vals 0 _ rfl (hp 0 (by kernel_rfl)))
                  have t100 := hf.in (i := 1) (d := 100) (by kernel_rfl) (hp 1 (by kernel_rfl)) (hJ.vals 1 _ rfl (hp 1 (by kernel_rfl)))
                  obtain ⟨hab1, hab2⟩ := HABI.out
                  rw [if_pos (by rfl)]
                  go_simp
                  exact hK _ _ (hJ.val 12 _ (by kernel_rfl) rfl (fun _ h => h))
                case o18_13 =>
                  intro LX V aX wX K hl hp hcl hf hJ hK
                  have t111 := hf.in (i := 12) (d := 111) (by kernel_rfl) (hp 12 (by kernel_rfl)) (hJ.vals 12 _ rfl (hp 12 (by kernel_rfl)))
                  have t106 := hf.in (i := 7) (d := 106) (by kernel_rfl) (hp 7 (by kernel_rfl)) (hJ.vals 7 _ rfl (hp 7 (by kernel_rfl)))
                  rw [if_pos (by rfl)]
                  obtain ⟨vs, hlen, hvs, hS, hn⟩ := hJ.next (by kernel_rfl) 0 (by kernel_rfl) hl (.inl rfl) rfl
                  match vs, hlen, hvs, hS, hn with
                  | [], _, hvs, hS, hn =>
                    have hS0 : TwoR w3 B gm n ci ga M2 A wX := hS
                    have y0 := hS0.i.cellAt hS0.al HAB.out.1
                    have f0 := hS0.i.froz a
                    go_simp
                    exact hK undef _ (hn undef _ (hS0.putI a (A.getD b 0)))
                case o18_14 =>
                  intro LX V aX wX K hl hp hcl hf hJ hK
                  have t101 := hf.in (i := 2) (d := 101) (by kernel_rfl) (hp 2 (by kernel_rfl)) (hJ.vals 2 _ rfl (hp 2 (by kernel_rfl)))
                  have t102 := hf.in (i := 3) (d := 102) (by kernel_rfl) (hp 3 (by kernel_rfl)) (hJ.vals 3 _ rfl (hp 3 (by kernel_rfl)))
                  obtain ⟨hab1, hab2⟩ := HABI.out
                  rw [if_pos (by rfl)]
                  go_simp
                  exact hK _ _ (hJ.val 14 _ (by kernel_rfl) rfl (fun _ h => h))
                case o18_15 =>
                  intro LX V aX wX K hl hp hcl hf hJ hK
                  have t112 := hf.in (i := 14) (d := 112) (by kernel_rfl) (hp 14 (by kernel_rfl)) (hJ.vals 14 _ rfl (hp 14 (by kernel_rfl)))
                  have t110 := hf.in (i := 11) (d := 110) (by kernel_rfl) (hp 11 (by kernel_rfl)) (hJ.vals 11 _ rfl (hp 11 (by kernel_rfl)))
                  rw [if_pos (by rfl)]
                  obtain ⟨vs, hlen, hvs, hS, hn⟩ := hJ.next (by kernel_rfl) 1 (by kernel_rfl) hl (.inr (hp 13 (by kernel_rfl))) rfl
                  match vs, hlen, hvs, hS, hn with
                  | [a0], _, hvs, hS, hn =>
                    have e0 : V 13 = a0 := hvs 0 (by decide)
                    have hS0 : TwoR w3 B gm n ci ga M2 (A.set a (A.getD b 0)) wX := hS
                    have y0 := hS0.i.cellAt hS0.al HAB.out.2
                    have f0 := hS0.i.froz b
                    go_simp
                    exact hK undef _ (hn undef _ (hS0.putI b (A.getD a 0)))
              intro V wZ hJ
              obtain ⟨vs, hlen, hvs, hS⟩ := hJ.all (by kernel_rfl)
              match vs, hlen, hvs, hS with
              | [a0, a1], _, hvs, hS =>
                have e0 : V 13 = a0 := hvs 0 (by decide)
                have e1 : V 15 = a1 := hvs 1 (by decide)
                have HR3 : Hid (TwoR w3 B gm n ci ga M2 ((A.set a (A.getD b 0)).set b (A.getD a 0)) wZ) := Lib.hid hS
                simp only [puts, Act.put, List.setIfInBounds_toArray, List.set_cons_zero, List.set_cons_succ]
                clear hJ hvs hS
                go_wp2_with fail
                go_roundw
                case rel => exact ⟨i + 1, by omega, by go_num, Lib.hid ⟨M2, _, by rw [HM2.out]; exact HTI.out.swap HAB.out.1 HAB.out.2, HR3.out.x, HR3.out.i, HR3.out.bel⟩⟩
                case measure => simp [intOf]; omega
          · rcases (show (¬ (i : Int) < (nt : Int)) ∨ ((i : Int) < (nt : Int) ∧ ¬ (0 : Int) < (n : Int)) by omega) with hi5 | ⟨hi5, hz5⟩
            · clear hlt
              obtain ⟨wm, hwm⟩ : ∃ x, x = wr := ⟨_, rfl⟩
              subst hwm
              have HBM : Hid (Below W0.heap.size W0 wm) := Lib.hid (HB3.out.trans (by rw [HB9.out] at hMB; exact hMB.mono HB3.out.size))
              have hb3m : Below w3.heap.size w3 wm := by rw [HB9.out] at hMB; exact hMB
              have hrg := hTI.regs (HH0.out.later HBM.out (Nat.le_refl _)) HL.out hMX
              have hG2 : (turnG G A).length = n := by simp [turnG, hTI.alen]
              have hget : ∀ j, j < n → (turnG G A).getD j [] = G.getD (A.getD j 0).toNat [] := fun j hj => by rw [turnG_get (by rw [hTI.alen]; exact hj)]; rfl
              have hAn : ∀ j, j < n → (A.getD j 0).toNat < n := fun j hj => by have := hTI.inn j hj; omega
              have HBU2 := Lib.hid (IBuild_any ai n ci (turnG G A) wm hrg (fun j hj => by rw [hget j hj]; exact HS.out _ (hAn j hj)))
              have hok2 := turn_ok HL.out hTI.alen hTI.inn HZ0.out
              have HXM := Lib.hid (HX3.out.later hb3m)
              have HAI := Lib.hid hMI
              have HTA := Lib.hid (And.intro hTI.alen hTI.inn)
              have HGET := Lib.hid (And.intro hG2 (And.intro hget hAn))
              have HGAM : Hid (ga < wm.heap.size ∨ n = 0) := Lib.hid (by
                by_cases hn : n = 0
                · exact .inr hn
                · obtain ⟨g9, e9, _, h9⟩ := hMI.zero (by rw [hTI.alen]; omega)
                  injection e9 with e9
                  injection e9 with e9
                  subst e9
                  exact .inl h9)
              have HSM := Lib.hid hb3m.size
              clear hrg hb3m hG2 hget hAn hTI hMX hMI hMB
              go_wp2_with fail
              refine HBU2.out.mono ?_
              rintro e w7 ⟨hb7, hok, _⟩
              obtain ⟨g2, og2, sg2, rfl, hy⟩ := hok hok2
              have HY7 := Lib.hid hy
              have HX7 : Hid (IdxOn (fun k => k = og2 ∨ k = sg2) w7 w2.heap.size g og sg G) := Lib.hid (HXM.out.step hb7.size (fun k hk _ => hb7.block k hk) (fun k hk => .inr (by rcases hk with rfl | rfl; exact hy.lo; exact hy.ls)))
              have HB7 := Lib.hid (HBM.out.trans (hb7.mono HBM.out.size))
              have HB7M := Lib.hid hb7
              clear hok hok2 hy hb7 HBU2
              go_wp2_with fail
              obtain ⟨W8, hW8⟩ : ∃ W, W = w7.alloc (Obj.cells #[.int .i64 0, .int .i64 0] 35) := ⟨_, rfl⟩
              rw [← hW8]
              have hb8 : Below w7.heap.size w7 W8 := by rw [hW8]; exact (Below.refl _ _).alloc (Nat.le_refl _) _
              have HY8 := Lib.hid (HY7.out.later hb8)
              have HX8 := Lib.hid (HX7.out.later hb8)
              have HB8 := Lib.hid (HB7.out.trans (hb8.mono HB7.out.size))
              have HB8M := Lib.hid (HB7M.out.trans (hb8.mono HB7M.out.size))
              have HAI8 := Lib.hid (HAI.out.later HB8M.out)
              clear hb8 hW8
              -- where the blocks lie
              have HPOS : Hid (W0.heap.size ≤ og ∧ W0.heap.size ≤ sg ∧ og < w3.heap.size ∧ sg < w3.heap.size ∧ wm.heap.size ≤ og2 ∧ wm.heap.size ≤ sg2 ∧ og2 < W8.heap.size ∧ sg2 < W8.heap.size ∧ w3.heap.size ≤ wm.heap.size ∧ wm.heap.size ≤ W8.heap.size ∧ w3.heap.size ≤ ga) := Lib.hid (by
                have h1 := HX3.out.lo
                have h2 := HX3.out.ls
                have h3 := HX3.out.lt
                have h4 := HY8.out.lo
                have h5 := HY8.out.ls
                have h6 := HY8.out.lt
                have h7 := HSZ2.out
                have h8 := HGA.out
                have h9 := HB9.out
                exact ⟨by omega, by omega, h3.1, h3.2.1, h4, h5, h6.1, h6.2.1, HSM.out, HB8M.out.size, by omega⟩)
              have HT1 : Hid (∀ wX, Two og sg W8 wX → Below W0.heap.size W0 wX) := Lib.hid (fun wX hX => HB8.out.trans (hX.below HPOS.out.1 HPOS.out.2.1 HB8.out.size))
              have HQ2 : Hid (∀ wX, Two og sg W8 wX → wX.cell? ⟨bp, 0, none⟩ = some (.int .i64 p.x) ∧ wX.cell? ⟨bp, 1, none⟩ = some (.int .i64 p.y)) := Lib.hid (fun wX hX => HPC.out wX (HT1.out wX hX))
              have hX1lt : ∀ k, (fun k => k = og2 ∨ k = sg2) k → k < W8.heap.size := fun k hk => by have := HPOS.out; rcases hk with rfl | rfl <;> omega
              have HX1L := Lib.hid hX1lt
              have HAA : Hid (∀ wX, (IdxOn (fun k => k = og2 ∨ k = sg2) wX w2.heap.size g og sg G ∧ Two og sg W8 wX) → Calls Tryz.prog 12 #[.pointer (some ⟨g, 0, none⟩), .agg #[.int .i64 p.x, .int .i64 p.y]] wX fun e w' => ∃ a, e = .returned a ∧ AskAX (fun k => k = og2 ∨ k = sg2) p w2.heap.size g og sg G W8 a w') := Lib.hid (fun wX hX => ask_aX _ p w2.heap.size g og sg G W8 wX hX HX1L.out)
              have HNN : Hid (∀ wX a, AskAX (fun k => k = og2 ∨ k = sg2) p w2.heap.size g og sg G W8 a wX → Calls Tryz.prog 17 #[.pointer (some ⟨g, 0, none⟩), .agg #[.int .i64 p.x, .int .i64 p.y]] wX fun e w' => ∃ b, e = .returned b ∧ AskAX (fun k => k = og2 ∨ k = sg2) p w2.heap.size g og sg G W8 a w' ∧ AskN p G W8 b w') := Lib.hid (fun wX a hA => ask_nX _ p w2.heap.size g og sg G W8 wX a hA)
              clear hX1lt
              refine wp_region_J (s := [(129, 0), (130, 1), (131, 2), (132, 3), (133, 4), (134, 5), (18, 6), (19, 7)]) (by kernel_rfl) (ChainJ (fun iX => match iX with | 0 => some (.pointer (some ⟨g, 0, none⟩)) | 1 => some (.agg #[.int .i64 p.x, .int .i64 p.y]) | 3 => some (.pointer (some ⟨g, 0, none⟩)) | 4 => some (.agg #[.int .i64 p.x, .int .i64 p.y]) | _ => none) [2, 5, 6, 7] (StX (fun k => k = og2 ∨ k = sg2) p w2.heap.size g og sg G W8)) (by kernel_rfl) (by kernel_rfl) (by kernel_rfl) (by kernel_rfl) (fun _ => undef) ?start22 ?step22 ?done22
              case start22 => exact ChainJ.start (⟨HX8.out.later ((Below.refl _ _).drew), Two.of ((Below.refl _ _).drew)⟩)
              case step22 =>
                refine ⟨?o22_0, ?o22_1, ?o22_2, ?o22_3, ?o22_4, ?o22_5, ?o22_6, ?o22_7, trivial⟩
                case o22_0 =>
                  intro LX V aX wX K hl hp hcl hf hJ hK
                  have t8 : aX.tmps[8]? = some (.pointer (some ⟨g, 0, none⟩)) := hf.old (by kernel_rfl) rfl
                  rw [if_pos (by rfl)]
                  go_simp
                  exact hK _ _ (hJ.val 0 _ (by kernel_rfl) rfl (fun _ h => h))
                case o22_1 =>
                  intro LX V aX wX K hl hp hcl hf hJ hK
                  have t4 : aX.tmps[4]? = some (.pointer (some ⟨bp, 0, none⟩)) := hf.old (by kernel_rfl) rfl
                  obtain ⟨vs, hlen, hS⟩ := hJ.upto 1 (by decide) (hcl.no 5 (by kernel_rfl) (hcl.no 2 (by kernel_rfl) (hl)))
                  have hTT := StX.two hS
                  obtain ⟨c0, c1⟩ := HQ2.out wX hTT
                  clear hTT
                  rw [if_pos (by rfl)]
                  go_simp
                  exact hK _ _ (hJ.val 1 _ (by kernel_rfl) rfl (fun _ h => h))
                case o22_2 =>
                  intro LX V aX wX K hl hp hcl hf hJ hK
                  have t129 := hf.in (i := 0) (d := 129) (by kernel_rfl) (hp 0 (by kernel_rfl)) (hJ.vals 0 _ rfl (hp 0 (by kernel_rfl)))
                  have t130 := hf.in (i := 1) (d := 130) (by kernel_rfl) (hp 1 (by kernel_rfl)) (hJ.vals 1 _ rfl (hp 1 (by kernel_rfl)))
                  rw [if_pos (by rfl)]
                  obtain ⟨vs, hlen, hvs, hS, hn⟩ := hJ.next (by kernel_rfl) 0 (by kernel_rfl) hl (.inl rfl) rfl
                  match vs, hlen, hvs, hS, hn with
                  | [], _, hvs, hS, hn =>
                    have HS7 := Lib.hid hS
                    clear hS
                    go_simp
                    refine (HAA.out wX HS7.out).mono ?_
                    rintro e wA ⟨a, rfl, hA⟩
                    exact hK _ _ (hn _ _ hA)
                case o22_3 =>
                  intro LX V aX wX K hl hp hcl hf hJ hK
                  have t8 : aX.tmps[8]? = some (.pointer (some ⟨g, 0, none⟩)) := hf.old (by kernel_rfl) rfl
                  rw [if_pos (by rfl)]
                  go_simp
                  exact hK _ _ (hJ.val 3 _ (by kernel_rfl) rfl (fun _ h => h))
                case o22_4 =>
                  intro LX V aX wX K hl hp hcl hf hJ hK
                  have t4 : aX.tmps[4]? = some (.pointer (some ⟨bp, 0, none⟩)) := hf.old (by kernel_rfl) rfl
                  obtain ⟨vs, hlen, hS⟩ := hJ.upto 1 (by decide) (hcl.no 5 (by kernel_rfl) hl)
                  have hTT := StX.two hS
                  obtain ⟨c0, c1⟩ := HQ2.out wX hTT
                  clear hTT
                  rw [if_pos (by rfl)]
                  go_simp
                  exact hK _ _ (hJ.val 4 _ (by kernel_rfl) rfl (fun _ h => h))
                case o22_5 =>
                  intro LX V aX wX K hl hp hcl hf hJ hK
                  have t132 := hf.in (i := 3) (d := 132) (by kernel_rfl) (hp 3 (by kernel_rfl)) (hJ.vals 3 _ rfl (hp 3 (by kernel_rfl)))
                  have t133 := hf.in (i := 4) (d := 133) (by kernel_rfl) (hp 4 (by kernel_rfl)) (hJ.vals 4 _ rfl (hp 4 (by kernel_rfl)))
                  rw [if_pos (by rfl)]
                  obtain ⟨vs, hlen, hvs, hS, hn⟩ := hJ.next (by kernel_rfl) 1 (by kernel_rfl) hl (.inr (hp 2 (by kernel_rfl))) rfl
                  match vs, hlen, hvs, hS, hn with
                  | [a0], _, hvs, hS, hn =>
                    have e0 : V 2 = a0 := hvs 0 (by decide)
                    have HS7 := Lib.hid hS
                    clear hS
                    go_simp
                    refine (HNN.out wX a0 HS7.out).mono ?_
                    rintro e wA ⟨b, rfl, hA⟩
                    exact hK _ _ (hn _ _ hA)
                case o22_6 =>
                  intro LX V aX wX K hl hp hcl hf hJ hK
                  have t131 := hf.in (i := 2) (d := 131) (by kernel_rfl) (hp 2 (by kernel_rfl)) rfl
                  rw [if_pos (by rfl)]
                  obtain ⟨vs, hlen, hvs, hS, hn⟩ := hJ.next (by kernel_rfl) 2 (by kernel_rfl) hl (.inr (hp 5 (by kernel_rfl))) rfl
                  match vs, hlen, hvs, hS, hn with
                  | [a0, a1], _, hvs, hS, hn =>
                    have e0 : V 2 = a0 := hvs 0 (by decide)
                    have e1 : V 5 = a1 := hvs 1 (by decide)
                    have HS7 := Lib.hid hS
                    clear hS
                    rw [e0] at t131
                    go_simp
                    exact hK _ _ (hn _ _ ⟨rfl, HS7.out⟩)
                case o22_7 =>
                  intro LX V aX wX K hl hp hcl hf hJ hK
                  have t134 := hf.in (i := 5) (d := 134) (by kernel_rfl) (hp 5 (by kernel_rfl)) rfl
                  rw [if_pos (by rfl)]
                  obtain ⟨vs, hlen, hvs, hS, hn⟩ := hJ.next (by kernel_rfl) 3 (by kernel_rfl) hl (.inr (hp 6 (by kernel_rfl))) rfl
                  match vs, hlen, hvs, hS, hn with
                  | [a0, a1, a2], _, hvs, hS, hn =>
                    have e0 : V 2 = a0 := hvs 0 (by decide)
                    have e1 : V 5 = a1 := hvs 1 (by decide)
                    have e2 : V 6 = a2 := hvs 2 (by decide)
                    have HS7 := Lib.hid hS
                    clear hS
                    rw [e1] at t134
                    go_simp
                    exact hK _ _ (hn _ _ ⟨rfl, HS7.out⟩)
              intro V wZ hJ
              obtain ⟨vs, hlen, hvs, hS⟩ := hJ.all (by kernel_rfl)
              match vs, hlen, hvs, hS with
              | [a0, a1, a2, a3], _, hvs, hS =>
                have e0 : V 2 = a0 := hvs 0 (by decide)
                have e1 : V 5 = a1 := hvs 1 (by decide)
                have e2 : V 6 = a2 := hvs 2 (by decide)
                have e3 : V 7 = a3 := hvs 3 (by decide)
                have HST := Lib.hid hS
                simp only [puts, Act.put, List.setIfInBounds_toArray, List.set_cons_zero, List.set_cons_succ]
                rw [e2, e3]
                clear hJ hvs e0 e1 e2 e3 hS
                obtain ⟨e32, e20, ⟨hoa, hix, htw⟩, hob⟩ := HST.out
                subst e32
                subst e20
                obtain ⟨aa, ac, hav, hia⟩ := hoa.ints
                obtain ⟨ba, bc, hbv, hib⟩ := hob.ints
                obtain ⟨la, hla⟩ : ∃ m, m = (askG (inR p) G).length := ⟨_, rfl⟩
                obtain ⟨lb, hlb⟩ : ∃ m, m = (askB (nearQ p) (boxesR G)).length := ⟨_, rfl⟩
                rw [← hla] at hav hia
                rw [← hlb] at hbv hib
                subst hav
                subst hbv
                have HLAB : Hid (la ≤ 20 ∧ lb ≤ 20) := Lib.hid (by
                  have h1 : (askG (inR p) G).length ≤ (allI G.length).length := List.length_filter_le _ _
                  have h2 : (askB (nearQ p) (boxesR G)).length ≤ (allI (boxesR G).length).length := by rw [askB_filter]; exact List.length_filter_le _ _
                  rw [allI_len, HL.out] at h1
                  rw [allI_len, boxesR_len, HL.out] at h2
                  omega)
                have HXZ := Lib.hid hix
                have HTZ := Lib.hid htw
                have HOA := Lib.hid hoa
                have HOB := Lib.hid hob
                have HLAI : Hid (∀ wX, wX.heap.size ≥ wZ.heap.size → (∀ k, W8.heap.size ≤ k → k < wZ.heap.size → wX.heap[k]? = wZ.heap[k]?) → IsInts wX aa la ac (askG (inR p) G) ∧ IsInts wX ba lb bc (askB (nearQ p) (boxesR G))) := Lib.hid (fun wX h1 h2 => by
                  have o1 : OwnI wX W8.heap.size (.slice aa la ac) (askG (inR p) G) := ownsRow_move HOA.out fun q hq => h2 q (HOA.out.lt q hq).1 (HOA.out.lt q hq).2
                  have o2 : OwnI wX W8.heap.size (.slice ba lb bc) (askB (nearQ p) (boxesR G)) := ownsRow_move HOB.out fun q hq => h2 q (HOB.out.lt q hq).1 (HOB.out.lt q hq).2
                  obtain ⟨a1, c1, e1, i1⟩ := o1.ints
                  obtain ⟨a2, c2, e2, i2⟩ := o2.ints
                  rw [← hla] at e1 i1
                  rw [← hlb] at e2 i2
                  injection e1 with f1 _ f2
                  injection e2 with f3 _ f4
                  subst f1 f2 f3 f4
                  exact ⟨i1, i2⟩)
                have HOK : Hid (∀ i, i < G.length → (regionCheckP (G.getD i [])).1 = 0) := Lib.hid hix.ok
                clear hoa hix htw hob hia hib hla hlb HST HAA HNN
                go_wp2_with fail
                go_loopw [20, 21, 22] (fun kv _ _ wr => ∃ k : Nat, k ≤ n ∧ kv = .int .i64 k ∧ Hid (IdxOn (fun k => k = og2 ∨ k = sg2) wr w2.heap.size g og sg G) ∧ Hid (Two og sg wZ wr)) (fun kv _ _ _ => n - (intOf kv).toNat)
                case atStart => exact ⟨0, by omega, rfl, HXZ, Two.refl _ _ _⟩
                case round =>
                  obtain ⟨k, hk, rfl, HX9, HT9⟩ := hrel
                  have hk0 : (0 : Int) ≤ (k : Int) := by omega
                  by_cases hlt : k < n
                  · have hk5 : (k : Int) < (n : Int) := by omega
                    have hwk : IntKind.i64.wrap ((k : Int) + 1) = (k : Int) + 1 := IntWalk.i64_in _ (by omega)
                    obtain ⟨r, hr⟩ : ∃ r, r = inR p (G.getD k []) := ⟨_, rfl⟩
                    have hin := IIn_any (fun k => k = og2 ∨ k = sg2) w2.heap.size g og sg k G p wr HX9.out (fun q hq => Nat.lt_of_lt_of_le (HX1L.out q hq) (Nat.le_trans HTZ.out.size HT9.out.size)) (by rw [HL.out]; exact hlt)
                    rw [← hr] at hin
                    unfold ptV at hin
                    have HIN := Lib.hid hin
                    have HRR := Lib.hid hr
                    obtain ⟨c0, c1⟩ := HQ2.out wr (HTZ.out.trans HT9.out)
                    have HKN := Lib.hid hlt
                    clear hin hr
                    go_wp2_with fail
                    refine HIN.out.mono ?_
                    rintro e wI ⟨rfl, hxI, htI⟩
                    have HXI := Lib.hid hxI
                    have HTI9 := Lib.hid (HT9.out.trans htI)
                    have HBI := Lib.hid (HT1.out wI (HTZ.out.trans HTI9.out))
                    have HLI : Hid (∀ wX, Below wI.heap.size wI wX → IsInts wX aa la ac (askG (inR p) G) ∧ IsInts wX ba lb bc (askB (nearQ p) (boxesR G))) := Lib.hid (fun wX hX => by
                      have ht := HTI9.out.trans (Two.of hX)
                      exact HLAI.out wX ht.size (fun q h1 h2 => ht.block q h2 (by have := HPOS.out; omega) (by have := HPOS.out; omega)))
                    obtain ⟨bl, ol, rx, ry, rz, rfl, e0, hrr⟩ := (HI.out.later HBI.out (Nat.le_refl _)).2.2.2.2 k hlt
                    have HRI : Hid (∀ wX, Below wI.heap.size wI wX → Calls Tryz.prog 25 #[.agg #[.int .i64 p.x, .int .i64 p.y], .agg #[.slice rx ry rz]] wX fun e w' => e = .returned (.bool r) ∧ Below wX.heap.size wX w') := Lib.hid (fun wX hX => by
                      have := In_region p rx ry rz (G.getD k []) wX (hrr.later hX (Nat.le_refl _))
                      rw [← HRR.out] at this
                      exact this)
                    have HAH : Hid (∀ wX, Below wI.heap.size wI wX → Calls Tryz.prog 26 #[.slice aa la ac, .int .i64 (k : Int)] wX fun e w' => e = .returned (.bool r) ∧ Below wX.heap.size wX w') := Lib.hid (fun wX hX => by
                      have := among_any aa la ac _ (k : Int) wX (HLI.out wX hX).1 (by have := HLAB.out; omega)
                      rw [has_any p G k (by rw [HL.out]; exact HKN.out), ← HRR.out] at this
                      exact this)
                    have HAN : Hid (r = true → ∀ wX, Below wI.heap.size wI wX → Calls Tryz.prog 26 #[.slice ba lb bc, .int .i64 (k : Int)] wX fun e w' => e = .returned (.bool true) ∧ Below wX.heap.size wX w') := Lib.hid (fun hrt wX hX => by
                      have := among_any ba lb bc _ (k : Int) wX (HLI.out wX hX).2 (by have := HLAB.out; omega)
                      rw [near_any p G k (by rw [HL.out]; exact HKN.out) HOK.out (by rw [← HRR.out]; exact hrt)] at this
                      exact this)
                    have HCI : Hid (∀ wX, Below wI.heap.size wI wX → wX.cell? ⟨bp, 0, none⟩ = some (.int .i64 p.x) ∧ wX.cell? ⟨bp, 1, none⟩ = some (.int .i64 p.y) ∧ wX.cell? ⟨bl, ol + k, none⟩ = some (.slice rx ry rz)) := Lib.hid (fun wX hX => by
                      obtain ⟨d0, d1⟩ := HQ2.out wX (HTZ.out.trans (HTI9.out.trans (Two.of hX)))
                      exact ⟨d0, d1, (hX.cell (p := ⟨bl, ol + k, none⟩) (block_lt_of_cell e0)).trans e0⟩)
                    have hHI := Lib.hid (And.intro hk5 hk0)
                    clear hxI htI e0 hrr c0 c1 HIN
                    go_wp2_with fail
                    clear hk5 hk0
                    cases r with
                    | true =>
                      have HANT := Lib.hid (HAN.out rfl)
                      have HOKR : ∀ f ∈ ([] : List Fct), FctOk f := by
                        intro f hf; cases hf
                      refine wp_region_J (s := [(148, 0), (149, 1), (150, 2), (151, 3), (152, 4), (153, 5), (154, 6), (155, 7), (156, 8), (157, 9), (158, 10), (159, 11), (160, 12), (161, 13), (162, 14), (163, 15), (164, 16), (165, 17), (166, 18), (167, 19), (168, 20), (169, 21), (170, 22), (171, 23), (172, 24), (173, 25), (174, 26), (175, 27)]) (by kernel_rfl) (GrowJ wI (fun iX => match iX with | 0 => some (.int .i64 0) | 1 => some (.bool false) | 2 => some (.bool false) | 3 => some (.bool true) | 4 => some (.agg #[.int .i64 p.x, .int .i64 p.y]) | 5 => some (.slice (some ⟨bl, ol, none⟩) n cap) | 6 => some (.int .i64 (k : Int)) | 7 => some (.pointer (some ⟨bl, ol + k, none⟩)) | 8 => some (.agg #[.slice rx ry rz]) | 9 => some (.bool true) | 10 => some (.bool false) | 11 => some (.bool false) | 12 => some (.bool false) | 13 => some (.bool true) | 14 => some (.slice aa la ac) | 15 => some (.int .i64 (k : Int)) | 16 => some (.bool true) | 17 => some (.bool false) | 18 => some (.bool false) | 19 => some (.bool false) | 20 => some (.bool true) | 21 => some (.bool true) | 22 => some (.slice ba lb bc) | 23 => some (.int .i64 (k : Int)) | 24 => some (.bool true) | 25 => some (.bool false) | 26 => some (.bool false) | 27 => some (.bool false) | _ => none) []) (by kernel_rfl) (by kernel_rfl) (by kernel_rfl) (by kernel_rfl) (fun _ => undef) ?start27t ?step27t ?done27t
                      case start27t => exact GrowJ.start ((Below.refl _ _).drew)
                      case step27t =>
                        refine ⟨?o27t_0, ?o27t_1, ?o27t_2, ?o27t_3, ?o27t_4, ?o27t_5, ?o27t_6, ?o27t_7, ?o27t_8, ?o27t_9, ?o27t_10, ?o27t_11, ?o27t_12, ?o27t_13, ?o27t_14, ?o27t_15, ?o27t_16, ?o27t_17, ?o27t_18, ?o27t_19, ?o27t_20, ?o27t_21, ?o27t_22, ?o27t_23, ?o27t_24, ?o27t_25, ?o27t_26, ?o27t_27, trivial⟩
                        case o27t_0 =>
                          intro LX V aX wX K hl hp hcl hf hJ hK
                          have t22 : aX.tmps[22]? = some (.int .i64 0) := hf.old (by kernel_rfl) rfl
                          rw [if_pos (by rfl)]
                          go_simp
                          exact hK _ _ (hJ.val HOKR 0 _ (by kernel_rfl) rfl (Below.refl _ _))
                        case o27t_1 =>
                          intro LX V aX wX K hl hp hcl hf hJ hK
                          have t148 := hf.in (i := 0) (d := 148) (by kernel_rfl) (hp 0 (by kernel_rfl)) (hJ.vals 0 _ rfl (hp 0 (by kernel_rfl)))
                          rw [if_pos (by rfl)]
                          go_simp
                          exact hK _ _ (hJ.val HOKR 1 _ (by kernel_rfl) rfl (Below.refl _ _))
                        case o27t_2 =>
                          intro LX V aX wX K hl hp hcl hf hJ hK
                          have t149 := hf.in (i := 1) (d := 149) (by kernel_rfl) (hp 1 (by kernel_rfl)) (hJ.vals 1 _ rfl (hp 1 (by kernel_rfl)))
                          rw [if_pos (by rfl)]
                          go_simp
                          exact hK _ _ (hJ.val HOKR 2 _ (by kernel_rfl) rfl (Below.refl _ _))
                        case o27t_3 =>
                          intro LX V aX wX K hl hp hcl hf hJ hK
                          have t21 : aX.tmps[21]? = some (.bool true) := hf.old (by kernel_rfl) rfl
                          have t150 := hf.in (i := 2) (d := 150) (by kernel_rfl) (hp 2 (by kernel_rfl)) (hJ.vals 2 _ rfl (hp 2 (by kernel_rfl)))
                          rw [if_pos (wanted_of rfl rfl t150)]
                          go_simp
                          exact hK _ _ (hJ.val HOKR 3 _ (by kernel_rfl) rfl (Below.refl _ _))
                        case o27t_4 =>
                          intro LX V aX wX K hl hp hcl hf hJ hK
                          have t4 : aX.tmps[4]? = some (.pointer (some ⟨bp, 0, none⟩)) := hf.old (by kernel_rfl) rfl
                          have t150 := hf.in (i := 2) (d := 150) (by kernel_rfl) (hp 2 (by kernel_rfl)) (hJ.vals 2 _ rfl (hp 2 (by kernel_rfl)))
                          obtain ⟨c0, c1, c2⟩ := HCI.out wX hJ.below
                          rw [if_pos (wanted_of rfl rfl t150)]
                          go_simp
                          exact hK _ _ (hJ.val HOKR 4 _ (by kernel_rfl) rfl (Below.refl _ _))
                        case o27t_5 =>
                          intro LX V aX wX K hl hp hcl hf hJ hK
                          have t0 : aX.tmps[0]? = some (.slice (some ⟨bl, ol, none⟩) n cap) := hf.old (by kernel_rfl) rfl
                          have t150 := hf.in (i := 2) (d := 150) (by kernel_rfl) (hp 2 (by kernel_rfl)) (hJ.vals 2 _ rfl (hp 2 (by kernel_rfl)))
                          rw [if_pos (wanted_of rfl rfl t150)]
                          go_simp
                          exact hK _ _ (hJ.val HOKR 5 _ (by kernel_rfl) rfl (Below.refl _ _))
                        case o27t_6 =>
                          intro LX V aX wX K hl hp hcl hf hJ hK
                          have t20 : aX.tmps[20]? = some (.int .i64 (k : Int)) := hf.old (by kernel_rfl) rfl
                          have t150 := hf.in (i := 2) (d := 150) (by kernel_rfl) (hp 2 (by kernel_rfl)) (hJ.vals 2 _ rfl (hp 2 (by kernel_rfl)))
                          rw [if_pos (wanted_of rfl rfl t150)]
                          go_simp
                          exact hK _ _ (hJ.val HOKR 6 _ (by kernel_rfl) rfl (Below.refl _ _))
                        case o27t_7 =>
                          intro LX V aX wX K hl hp hcl hf hJ hK
                          have t153 := hf.in (i := 5) (d := 153) (by kernel_rfl) (hp 5 (by kernel_rfl)) (hJ.vals 5 _ rfl (hp 5 (by kernel_rfl)))
                          have t154 := hf.in (i := 6) (d := 154) (by kernel_rfl) (hp 6 (by kernel_rfl)) (hJ.vals 6 _ rfl (hp 6 (by kernel_rfl)))
                          have t150 := hf.in (i := 2) (d := 150) (by kernel_rfl) (hp 2 (by kernel_rfl)) (hJ.vals 2 _ rfl (hp 2 (by kernel_rfl)))
                          obtain ⟨hk5, hk0⟩ := hHI.out
                          rw [if_pos (wanted_of rfl rfl t150)]
                          go_simp
                          exact hK _ _ (hJ.val HOKR 7 _ (by kernel_rfl) rfl (Below.refl _ _))
                        case o27t_8 =>
                          intro LX V aX wX K hl hp hcl hf hJ hK
                          have t155 := hf.in (i := 7) (d := 155) (by kernel_rfl) (hp 7 (by kernel_rfl)) (hJ.vals 7 _ rfl (hp 7 (by kernel_rfl)))
                          have t150 := hf.in (i := 2) (d := 150) (by kernel_rfl) (hp 2 (by kernel_rfl)) (hJ.vals 2 _ rfl (hp 2 (by kernel_rfl)))
                          obtain ⟨c0, c1, c2⟩ := HCI.out wX hJ.below
                          rw [if_pos (wanted_of rfl rfl t150)]
                          go_simp
                          exact hK _ _ (hJ.val HOKR 8 _ (by kernel_rfl) rfl (Below.refl _ _))
                        case o27t_9 =>
                          intro LX V aX wX K hl hp hcl hf hJ hK
                          have t152 := hf.in (i := 4) (d := 152) (by kernel_rfl) (hp 4 (by kernel_rfl)) (hJ.vals 4 _ rfl (hp 4 (by kernel_rfl)))
                          have t156 := hf.in (i := 8) (d := 156) (by kernel_rfl) (hp 8 (by kernel_rfl)) (hJ.vals 8 _ rfl (hp 8 (by kernel_rfl)))
                          have t150 := hf.in (i := 2) (d := 150) (by kernel_rfl) (hp 2 (by kernel_rfl)) (hJ.vals 2 _ rfl (hp 2 (by kernel_rfl)))
                          rw [if_pos (wanted_of rfl rfl t150)]
                          go_simp
                          refine (HRI.out _ hJ.below).mono ?_
                          rintro e wA ⟨rfl, hbA⟩
                          exact hK _ _ (hJ.val HOKR 9 _ (by kernel_rfl) rfl (hbA))
                        case o27t_10 =>
                          intro LX V aX wX K hl hp hcl hf hJ hK
                          have t151 := hf.in (i := 3) (d := 151) (by kernel_rfl) (hp 3 (by kernel_rfl)) (hJ.vals 3 _ rfl (hp 3 (by kernel_rfl)))
                          have t157 := hf.in (i := 9) (d := 157) (by kernel_rfl) (hp 9 (by kernel_rfl)) (hJ.vals 9 _ rfl (hp 9 (by kernel_rfl)))
                          have t150 := hf.in (i := 2) (d := 150) (by kernel_rfl) (hp 2 (by kernel_rfl)) (hJ.vals 2 _ rfl (hp 2 (by kernel_rfl)))
                          rw [if_pos (wanted_of rfl rfl t150)]
                          go_simp
                          exact hK _ _ (hJ.val HOKR 10 _ (by kernel_rfl) rfl (Below.refl _ _))
                        case o27t_11 =>
                          intro LX V aX wX K hl hp hcl hf hJ hK
                          have t150 := hf.in (i := 2) (d := 150) (by kernel_rfl) (hp 2 (by kernel_rfl)) (hJ.vals 2 _ rfl (hp 2 (by kernel_rfl)))
                          have t158 := hf.in (i := 10) (d := 158) (by kernel_rfl) (hp 10 (by kernel_rfl)) (hJ.vals 10 _ rfl (hp 10 (by kernel_rfl)))
                          rw [if_pos (by rfl)]
                          go_simp
                          exact hK _ _ (hJ.val HOKR 11 _ (by kernel_rfl) rfl (Below.refl _ _))
                        case o27t_12 =>
                          intro LX V aX wX K hl hp hcl hf hJ hK
                          have t159 := hf.in (i := 11) (d := 159) (by kernel_rfl) (hp 11 (by kernel_rfl)) (hJ.vals 11 _ rfl (hp 11 (by kernel_rfl)))
                          rw [if_pos (by rfl)]
                          go_simp
                          exact hK _ _ (hJ.val HOKR 12 _ (by kernel_rfl) rfl (Below.refl _ _))
                        case o27t_13 =>
                          intro LX V aX wX K hl hp hcl hf hJ hK
                          have t21 : aX.tmps[21]? = some (.bool true) := hf.old (by kernel_rfl) rfl
                          have t160 := hf.in (i := 12) (d := 160) (by kernel_rfl) (hp 12 (by kernel_rfl)) (hJ.vals 12 _ rfl (hp 12 (by kernel_rfl)))
                          rw [if_pos (wanted_of rfl rfl t160)]
                          go_simp
                          exact hK _ _ (hJ.val HOKR 13 _ (by kernel_rfl) rfl (Below.refl _ _))
                        case o27t_14 =>
                          intro LX V aX wX K hl hp hcl hf hJ hK
                          have t18 : aX.tmps[18]? = some (.slice aa la ac) := hf.old (by kernel_rfl) rfl
                          have t160 := hf.in (i := 12) (d := 160) (by kernel_rfl) (hp 12 (by kernel_rfl)) (hJ.vals 12 _ rfl (hp 12 (by kernel_rfl)))
                          rw [if_pos (wanted_of rfl rfl t160)]
                          go_simp
                          exact hK _ _ (hJ.val HOKR 14 _ (by kernel_rfl) rfl (Below.refl _ _))
                        case o27t_15 =>
                          intro LX V aX wX K hl hp hcl hf hJ hK
                          have t20 : aX.tmps[20]? = some (.int .i64 (k : Int)) := hf.old (by kernel_rfl) rfl
                          have t160 := hf.in (i := 12) (d := 160) (by kernel_rfl) (hp 12 (by kernel_rfl)) (hJ.vals 12 _ rfl (hp 12 (by kernel_rfl)))
                          rw [if_pos (wanted_of rfl rfl t160)]
                          go_simp
                          exact hK _ _ (hJ.val HOKR 15 _ (by kernel_rfl) rfl (Below.refl _ _))
                        case o27t_16 =>
                          intro LX V aX wX K hl hp hcl hf hJ hK
                          have t162 := hf.in (i := 14) (d := 162) (by kernel_rfl) (hp 14 (by kernel_rfl)) (hJ.vals 14 _ rfl (hp 14 (by kernel_rfl)))
                          have t163 := hf.in (i := 15) (d := 163) (by kernel_rfl) (hp 15 (by kernel_rfl)) (hJ.vals 15 _ rfl (hp 15 (by kernel_rfl)))
                          have t160 := hf.in (i := 12) (d := 160) (by kernel_rfl) (hp 12 (by kernel_rfl)) (hJ.vals 12 _ rfl (hp 12 (by kernel_rfl)))
                          rw [if_pos (wanted_of rfl rfl t160)]
                          go_simp
                          refine (HAH.out _ hJ.below).mono ?_
                          rintro e wA ⟨rfl, hbA⟩
                          exact hK _ _ (hJ.val HOKR 16 _ (by kernel_rfl) rfl (hbA))
                        case o27t_17 =>
                          intro LX V aX wX K hl hp hcl hf hJ hK
                          have t161 := hf.in (i := 13) (d := 161) (by kernel_rfl) (hp 13 (by kernel_rfl)) (hJ.vals 13 _ rfl (hp 13 (by kernel_rfl)))
                          have t164 := hf.in (i := 16) (d := 164) (by kernel_rfl) (hp 16 (by kernel_rfl)) (hJ.vals 16 _ rfl (hp 16 (by kernel_rfl)))
                          have t160 := hf.in (i := 12) (d := 160) (by kernel_rfl) (hp 12 (by kernel_rfl)) (hJ.vals 12 _ rfl (hp 12 (by kernel_rfl)))
                          rw [if_pos (wanted_of rfl rfl t160)]
                          go_simp
                          exact hK _ _ (hJ.val HOKR 17 _ (by kernel_rfl) rfl (Below.refl _ _))
                        case o27t_18 =>
                          intro LX V aX wX K hl hp hcl hf hJ hK
                          have t160 := hf.in (i := 12) (d := 160) (by kernel_rfl) (hp 12 (by kernel_rfl)) (hJ.vals 12 _ rfl (hp 12 (by kernel_rfl)))
                          have t165 := hf.in (i := 17) (d := 165) (by kernel_rfl) (hp 17 (by kernel_rfl)) (hJ.vals 17 _ rfl (hp 17 (by kernel_rfl)))
                          rw [if_pos (by rfl)]
                          go_simp
                          exact hK _ _ (hJ.val HOKR 18 _ (by kernel_rfl) rfl (Below.refl _ _))
                        case o27t_19 =>
                          intro LX V aX wX K hl hp hcl hf hJ hK
                          have t166 := hf.in (i := 18) (d := 166) (by kernel_rfl) (hp 18 (by kernel_rfl)) (hJ.vals 18 _ rfl (hp 18 (by kernel_rfl)))
                          rw [if_pos (by rfl)]
                          go_simp
                          exact hK _ _ (hJ.val HOKR 19 _ (by kernel_rfl) rfl (Below.refl _ _))
                        case o27t_20 =>
                          intro LX V aX wX K hl hp hcl hf hJ hK
                          have t21 : aX.tmps[21]? = some (.bool true) := hf.old (by kernel_rfl) rfl
                          have t167 := hf.in (i := 19) (d := 167) (by kernel_rfl) (hp 19 (by kernel_rfl)) (hJ.vals 19 _ rfl (hp 19 (by kernel_rfl)))
                          rw [if_pos (wanted_of rfl rfl t167)]
                          go_simp
                          exact hK _ _ (hJ.val HOKR 20 _ (by kernel_rfl) rfl (Below.refl _ _))
                        case o27t_21 =>
                          intro LX V aX wX K hl hp hcl hf hJ hK
                          have t168 := hf.in (i := 20) (d := 168) (by kernel_rfl) (hp 20 (by kernel_rfl)) (hJ.vals 20 _ rfl (hp 20 (by kernel_rfl)))
                          have t167 := hf.in (i := 19) (d := 167) (by kernel_rfl) (hp 19 (by kernel_rfl)) (hJ.vals 19 _ rfl (hp 19 (by kernel_rfl)))
                          rw [if_pos (wanted_of rfl rfl t167)]
                          go_simp
                          exact hK _ _ (hJ.val HOKR 21 _ (by kernel_rfl) rfl (Below.refl _ _))
                        case o27t_22 =>
                          intro LX V aX wX K hl hp hcl hf hJ hK
                          have t19 : aX.tmps[19]? = some (.slice ba lb bc) := hf.old (by kernel_rfl) rfl
                          have t169 := hf.in (i := 21) (d := 169) (by kernel_rfl) (hp 21 (by kernel_rfl)) (hJ.vals 21 _ rfl (hp 21 (by kernel_rfl)))
                          rw [if_pos (wanted_of rfl rfl t169)]
                          go_simp
                          exact hK _ _ (hJ.val HOKR 22 _ (by kernel_rfl) rfl (Below.refl _ _))
                        case o27t_23 =>
                          intro LX V aX wX K hl hp hcl hf hJ hK
                          have t20 : aX.tmps[20]? = some (.int .i64 (k : Int)) := hf.old (by kernel_rfl) rfl
                          have t169 := hf.in (i := 21) (d := 169) (by kernel_rfl) (hp 21 (by kernel_rfl)) (hJ.vals 21 _ rfl (hp 21 (by kernel_rfl)))
                          rw [if_pos (wanted_of rfl rfl t169)]
                          go_simp
                          exact hK _ _ (hJ.val HOKR 23 _ (by kernel_rfl) rfl (Below.refl _ _))
                        case o27t_24 =>
                          intro LX V aX wX K hl hp hcl hf hJ hK
                          have t170 := hf.in (i := 22) (d := 170) (by kernel_rfl) (hp 22 (by kernel_rfl)) (hJ.vals 22 _ rfl (hp 22 (by kernel_rfl)))
                          have t171 := hf.in (i := 23) (d := 171) (by kernel_rfl) (hp 23 (by kernel_rfl)) (hJ.vals 23 _ rfl (hp 23 (by kernel_rfl)))
                          have t169 := hf.in (i := 21) (d := 169) (by kernel_rfl) (hp 21 (by kernel_rfl)) (hJ.vals 21 _ rfl (hp 21 (by kernel_rfl)))
                          rw [if_pos (wanted_of rfl rfl t169)]
                          go_simp
                          refine (HANT.out _ hJ.below).mono ?_
                          rintro e wA ⟨rfl, hbA⟩
                          exact hK _ _ (hJ.val HOKR 24 _ (by kernel_rfl) rfl (hbA))
                        case o27t_25 =>
                          intro LX V aX wX K hl hp hcl hf hJ hK
                          have t172 := hf.in (i := 24) (d := 172) (by kernel_rfl) (hp 24 (by kernel_rfl)) (hJ.vals 24 _ rfl (hp 24 (by kernel_rfl)))
                          have t169 := hf.in (i := 21) (d := 169) (by kernel_rfl) (hp 21 (by kernel_rfl)) (hJ.vals 21 _ rfl (hp 21 (by kernel_rfl)))
                          rw [if_pos (wanted_of rfl rfl t169)]
                          go_simp
                          exact hK _ _ (hJ.val HOKR 25 _ (by kernel_rfl) rfl (Below.refl _ _))
                        case o27t_26 =>
                          intro LX V aX wX K hl hp hcl hf hJ hK
                          have t169 := hf.in (i := 21) (d := 169) (by kernel_rfl) (hp 21 (by kernel_rfl)) (hJ.vals 21 _ rfl (hp 21 (by kernel_rfl)))
                          have t173 := hf.in (i := 25) (d := 173) (by kernel_rfl) (hp 25 (by kernel_rfl)) (hJ.vals 25 _ rfl (hp 25 (by kernel_rfl)))
                          have t167 := hf.in (i := 19) (d := 167) (by kernel_rfl) (hp 19 (by kernel_rfl)) (hJ.vals 19 _ rfl (hp 19 (by kernel_rfl)))
                          rw [if_pos (wanted_of rfl rfl t167)]
                          go_simp
                          exact hK _ _ (hJ.val HOKR 26 _ (by kernel_rfl) rfl (Below.refl _ _))
                        case o27t_27 =>
                          intro LX V aX wX K hl hp hcl hf hJ hK
                          have t167 := hf.in (i := 19) (d := 167) (by kernel_rfl) (hp 19 (by kernel_rfl)) (hJ.vals 19 _ rfl (hp 19 (by kernel_rfl)))
                          have t174 := hf.in (i := 26) (d := 174) (by kernel_rfl) (hp 26 (by kernel_rfl)) (hJ.vals 26 _ rfl (hp 26 (by kernel_rfl)))
                          rw [if_pos (by rfl)]
                          go_simp
                          exact hK _ _ (hJ.val HOKR 27 _ (by kernel_rfl) rfl (Below.refl _ _))
                      intro V wZ hJ
                      have hv := hJ.vals 27 _ rfl (by kernel_rfl)
                      have HBZ := Lib.hid hJ.below
                      simp only [puts, Act.put, List.setIfInBounds_toArray, List.set_cons_zero, List.set_cons_succ]
                      rw [hv]
                      clear hJ HOKR hv
                      obtain ⟨hk5, hk0⟩ := hHI.out
                      go_wp2_with fail
                      go_roundw
                      case rel => exact ⟨k + 1, by omega, by go_num, Lib.hid (HXI.out.later HBZ.out), Lib.hid (HTI9.out.trans (Two.of HBZ.out))⟩
                      case measure => simp [intOf]; omega
                    | false =>
                      have HOKR : ∀ f ∈ ([] : List Fct), FctOk f := by
                        intro f hf; cases hf
                      refine wp_region_J (s := [(148, 0), (149, 1), (150, 2), (151, 3), (152, 4), (153, 5), (154, 6), (155, 7), (156, 8), (157, 9), (158, 10), (159, 11), (160, 12), (161, 13), (162, 14), (163, 15), (164, 16), (165, 17), (166, 18), (167, 19), (168, 20), (169, 21), (170, 22), (171, 23), (172, 24), (173, 25), (174, 26), (175, 27)]) (by kernel_rfl) (GrowJ wI (fun iX => match iX with | 0 => some (.int .i64 0) | 1 => some (.bool false) | 2 => some (.bool false) | 3 => some (.bool false) | 4 => some (.agg #[.int .i64 p.x, .int .i64 p.y]) | 5 => some (.slice (some ⟨bl, ol, none⟩) n cap) | 6 => some (.int .i64 (k : Int)) | 7 => some (.pointer (some ⟨bl, ol + k, none⟩)) | 8 => some (.agg #[.slice rx ry rz]) | 9 => some (.bool false) | 10 => some (.bool false) | 11 => some (.bool false) | 12 => some (.bool false) | 13 => some (.bool false) | 14 => some (.slice aa la ac) | 15 => some (.int .i64 (k : Int)) | 16 => some (.bool false) | 17 => some (.bool false) | 18 => some (.bool false) | 19 => some (.bool false) | 20 => some (.bool false) | 21 => some (.bool false) | 22 => some (undef) | 23 => some (undef) | 24 => some (undef) | 25 => some (undef) | 26 => some (.bool false) | 27 => some (.bool false) | _ => none) []) (by kernel_rfl) (by kernel_rfl) (by kernel_rfl) (by kernel_rfl) (fun _ => undef) ?start27 ?step27 ?done27
                      case start27 => exact GrowJ.start ((Below.refl _ _).drew)
                      case step27 =>
                        refine ⟨?o27_0, ?o27_1, ?o27_2, ?o27_3, ?o27_4, ?o27_5, ?o27_6, ?o27_7, ?o27_8, ?o27_9, ?o27_10, ?o27_11, ?o27_12, ?o27_13, ?o27_14, ?o27_15, ?o27_16, ?o27_17, ?o27_18, ?o27_19, ?o27_20, ?o27_21, ?o27_22, ?o27_23, ?o27_24, ?o27_25, ?o27_26, ?o27_27, trivial⟩
                        case o27_0 =>
                          intro LX V aX wX K hl hp hcl hf hJ hK
                          have t22 : aX.tmps[22]? = some (.int .i64 0) := hf.old (by kernel_rfl) rfl
                          rw [if_pos (by rfl)]
                          go_simp
                          exact hK _ _ (hJ.val HOKR 0 _ (by kernel_rfl) rfl (Below.refl _ _))
                        case o27_1 =>
                          intro LX V aX wX K hl hp hcl hf hJ hK
                          have t148 := hf.in (i := 0) (d := 148) (by kernel_rfl) (hp 0 (by kernel_rfl)) (hJ.vals 0 _ rfl (hp 0 (by kernel_rfl)))
                          rw [if_pos (by rfl)]
                          go_simp
                          exact hK _ _ (hJ.val HOKR 1 _ (by kernel_rfl) rfl (Below.refl _ _))
                        case o27_2 =>
                          intro LX V aX wX K hl hp hcl hf hJ hK
                          have t149 := hf.in (i := 1) (d := 149) (by kernel_rfl) (hp 1 (by kernel_rfl)) (hJ.vals 1 _ rfl (hp 1 (by kernel_rfl)))
                          rw [if_pos (by rfl)]
                          go_simp
                          exact hK _ _ (hJ.val HOKR 2 _ (by kernel_rfl) rfl (Below.refl _ _))
                        case o27_3 =>
                          intro LX V aX wX K hl hp hcl hf hJ hK
                          have t21 : aX.tmps[21]? = some (.bool false) := hf.old (by kernel_rfl) rfl
                          have t150 := hf.in (i := 2) (d := 150) (by kernel_rfl) (hp 2 (by kernel_rfl)) (hJ.vals 2 _ rfl (hp 2 (by kernel_rfl)))
                          rw [if_pos (wanted_of rfl rfl t150)]
                          go_simp
                          exact hK _ _ (hJ.val HOKR 3 _ (by kernel_rfl) rfl (Below.refl _ _))
                        case o27_4 =>
                          intro LX V aX wX K hl hp hcl hf hJ hK
                          have t4 : aX.tmps[4]? = some (.pointer (some ⟨bp, 0, none⟩)) := hf.old (by kernel_rfl) rfl
                          have t150 := hf.in (i := 2) (d := 150) (by kernel_rfl) (hp 2 (by kernel_rfl)) (hJ.vals 2 _ rfl (hp 2 (by kernel_rfl)))
                          obtain ⟨c0, c1, c2⟩ := HCI.out wX hJ.below
                          rw [if_pos (wanted_of rfl rfl t150)]
                          go_simp
                          exact hK _ _ (hJ.val HOKR 4 _ (by kernel_rfl) rfl (Below.refl _ _))
                        case o27_5 =>
                          intro LX V aX wX K hl hp hcl hf hJ hK
                          have t0 : aX.tmps[0]? = some (.slice (some ⟨bl, ol, none⟩) n cap) := hf.old (by kernel_rfl) rfl
                          have t150 := hf.in (i := 2) (d := 150) (by kernel_rfl) (hp 2 (by kernel_rfl)) (hJ.vals 2 _ rfl (hp 2 (by kernel_rfl)))
                          rw [if_pos (wanted_of rfl rfl t150)]
                          go_simp
                          exact hK _ _ (hJ.val HOKR 5 _ (by kernel_rfl) rfl (Below.refl _ _))
                        case o27_6 =>
                          intro LX V aX wX K hl hp hcl hf hJ hK
                          have t20 : aX.tmps[20]? = some (.int .i64 (k : Int)) := hf.old (by kernel_rfl) rfl
                          have t150 := hf.in (i := 2) (d := 150) (by kernel_rfl) (hp 2 (by kernel_rfl)) (hJ.vals 2 _ rfl (hp 2 (by kernel_rfl)))
                          rw [if_pos (wanted_of rfl rfl t150)]
                          go_simp
                          exact hK _ _ (hJ.val HOKR 6 _ (by kernel_rfl) rfl (Below.refl _ _))
                        case o27_7 =>
                          intro LX V aX wX K hl hp hcl hf hJ hK
                          have t153 := hf.in (i := 5) (d := 153) (by kernel_rfl) (hp 5 (by kernel_rfl)) (hJ.vals 5 _ rfl (hp 5 (by kernel_rfl)))
                          have t154 := hf.in (i := 6) (d := 154) (by kernel_rfl) (hp 6 (by kernel_rfl)) (hJ.vals 6 _ rfl (hp 6 (by kernel_rfl)))
                          have t150 := hf.in (i := 2) (d := 150) (by kernel_rfl) (hp 2 (by kernel_rfl)) (hJ.vals 2 _ rfl (hp 2 (by kernel_rfl)))
                          obtain ⟨hk5, hk0⟩ := hHI.out
                          rw [if_pos (wanted_of rfl rfl t150)]
                          go_simp
                          exact hK _ _ (hJ.val HOKR 7 _ (by kernel_rfl) rfl (Below.refl _ _))
                        case o27_8 =>
                          intro LX V aX wX K hl hp hcl hf hJ hK
                          have t155 := hf.in (i := 7) (d := 155) (by kernel_rfl) (hp 7 (by kernel_rfl)) (hJ.vals 7 _ rfl (hp 7 (by kernel_rfl)))
                          have t150 := hf.in (i := 2) (d := 150) (by kernel_rfl) (hp 2 (by kernel_rfl)) (hJ.vals 2 _ rfl (hp 2 (by kernel_rfl)))
                          obtain ⟨c0, c1, c2⟩ := HCI.out wX hJ.below
                          rw [if_pos (wanted_of rfl rfl t150)]
                          go_simp
                          exact hK _ _ (hJ.val HOKR 8 _ (by kernel_rfl) rfl (Below.refl _ _))
                        case o27_9 =>
                          intro LX V aX wX K hl hp hcl hf hJ hK
                          have t152 := hf.in (i := 4) (d := 152) (by kernel_rfl) (hp 4 (by kernel_rfl)) (hJ.vals 4 _ rfl (hp 4 (by kernel_rfl)))
                          have t156 := hf.in (i := 8) (d := 156) (by kernel_rfl) (hp 8 (by kernel_rfl)) (hJ.vals 8 _ rfl (hp 8 (by kernel_rfl)))
                          have t150 := hf.in (i := 2) (d := 150) (by kernel_rfl) (hp 2 (by kernel_rfl)) (hJ.vals 2 _ rfl (hp 2 (by kernel_rfl)))
                          rw [if_pos (wanted_of rfl rfl t150)]
                          go_simp
                          refine (HRI.out _ hJ.below).mono ?_
                          rintro e wA ⟨rfl, hbA⟩
                          exact hK _ _ (hJ.val HOKR 9 _ (by kernel_rfl) rfl (hbA))
                        case o27_10 =>
                          intro LX V aX wX K hl hp hcl hf hJ hK
                          have t151 := hf.in (i := 3) (d := 151) (by kernel_rfl) (hp 3 (by kernel_rfl)) (hJ.vals 3 _ rfl (hp 3 (by kernel_rfl)))
                          have t157 := hf.in (i := 9) (d := 157) (by kernel_rfl) (hp 9 (by kernel_rfl)) (hJ.vals 9 _ rfl (hp 9 (by kernel_rfl)))
                          have t150 := hf.in (i := 2) (d := 150) (by kernel_rfl) (hp 2 (by kernel_rfl)) (hJ.vals 2 _ rfl (hp 2 (by kernel_rfl)))
                          rw [if_pos (wanted_of rfl rfl t150)]
                          go_simp
                          exact hK _ _ (hJ.val HOKR 10 _ (by kernel_rfl) rfl (Below.refl _ _))
                        case o27_11 =>
                          intro LX V aX wX K hl hp hcl hf hJ hK
                          have t150 := hf.in (i := 2) (d := 150) (by kernel_rfl) (hp 2 (by kernel_rfl)) (hJ.vals 2 _ rfl (hp 2 (by kernel_rfl)))
                          have t158 := hf.in (i := 10) (d := 158) (by kernel_rfl) (hp 10 (by kernel_rfl)) (hJ.vals 10 _ rfl (hp 10 (by kernel_rfl)))
                          rw [if_pos (by rfl)]
                          go_simp
                          exact hK _ _ (hJ.val HOKR 11 _ (by kernel_rfl) rfl (Below.refl _ _))
                        case o27_12 =>
                          intro LX V aX wX K hl hp hcl hf hJ hK
                          have t159 := hf.in (i := 11) (d := 159) (by kernel_rfl) (hp 11 (by kernel_rfl)) (hJ.vals 11 _ rfl (hp 11 (by kernel_rfl)))
                          rw [if_pos (by rfl)]
                          go_simp
                          exact hK _ _ (hJ.val HOKR 12 _ (by kernel_rfl) rfl (Below.refl _ _))
                        case o27_13 =>
                          intro LX V aX wX K hl hp hcl hf hJ hK
                          have t21 : aX.tmps[21]? = some (.bool false) := hf.old (by kernel_rfl) rfl
                          have t160 := hf.in (i := 12) (d := 160) (by kernel_rfl) (hp 12 (by kernel_rfl)) (hJ.vals 12 _ rfl (hp 12 (by kernel_rfl)))
                          rw [if_pos (wanted_of rfl rfl t160)]
                          go_simp
                          exact hK _ _ (hJ.val HOKR 13 _ (by kernel_rfl) rfl (Below.refl _ _))
                        case o27_14 =>
                          intro LX V aX wX K hl hp hcl hf hJ hK
                          have t18 : aX.tmps[18]? = some (.slice aa la ac) := hf.old (by kernel_rfl) rfl
                          have t160 := hf.in (i := 12) (d := 160) (by kernel_rfl) (hp 12 (by kernel_rfl)) (hJ.vals 12 _ rfl (hp 12 (by kernel_rfl)))
                          rw [if_pos (wanted_of rfl rfl t160)]
                          go_simp
                          exact hK _ _ (hJ.val HOKR 14 _ (by kernel_rfl) rfl (Below.refl _ _))
                        case o27_15 =>
                          intro LX V aX wX K hl hp hcl hf hJ hK
                          have t20 : aX.tmps[20]? = some (.int .i64 (k : Int)) := hf.old (by kernel_rfl) rfl
                          have t160 := hf.in (i := 12) (d := 160) (by kernel_rfl) (hp 12 (by kernel_rfl)) (hJ.vals 12 _ rfl (hp 12 (by kernel_rfl)))
                          rw [if_pos (wanted_of rfl rfl t160)]
                          go_simp
                          exact hK _ _ (hJ.val HOKR 15 _ (by kernel_rfl) rfl (Below.refl _ _))
                        case o27_16 =>
                          intro LX V aX wX K hl hp hcl hf hJ hK
                          have t162 := hf.in (i := 14) (d := 162) (by kernel_rfl) (hp 14 (by kernel_rfl)) (hJ.vals 14 _ rfl (hp 14 (by kernel_rfl)))
                          have t163 := hf.in (i := 15) (d := 163) (by kernel_rfl) (hp 15 (by kernel_rfl)) (hJ.vals 15 _ rfl (hp 15 (by kernel_rfl)))
                          have t160 := hf.in (i := 12) (d := 160) (by kernel_rfl) (hp 12 (by kernel_rfl)) (hJ.vals 12 _ rfl (hp 12 (by kernel_rfl)))
                          rw [if_pos (wanted_of rfl rfl t160)]
                          go_simp
                          refine (HAH.out _ hJ.below).mono ?_
                          rintro e wA ⟨rfl, hbA⟩
                          exact hK _ _ (hJ.val HOKR 16 _ (by kernel_rfl) rfl (hbA))
                        case o27_17 =>
                          intro LX V aX wX K hl hp hcl hf hJ hK
                          have t161 := hf.in (i := 13) (d := 161) (by kernel_rfl) (hp 13 (by kernel_rfl)) (hJ.vals 13 _ rfl (hp 13 (by kernel_rfl)))
                          have t164 := hf.in (i := 16) (d := 164) (by kernel_rfl) (hp 16 (by kernel_rfl)) (hJ.vals 16 _ rfl (hp 16 (by kernel_rfl)))
                          have t160 := hf.in (i := 12) (d := 160) (by kernel_rfl) (hp 12 (by kernel_rfl)) (hJ.vals 12 _ rfl (hp 12 (by kernel_rfl)))
                          rw [if_pos (wanted_of rfl rfl t160)]
                          go_simp
                          exact hK _ _ (hJ.val HOKR 17 _ (by kernel_rfl) rfl (Below.refl _ _))
                        case o27_18 =>
                          intro LX V aX wX K hl hp hcl hf hJ hK
                          have t160 := hf.in (i := 12) (d := 160) (by kernel_rfl) (hp 12 (by kernel_rfl)) (hJ.vals 12 _ rfl (hp 12 (by kernel_rfl)))
                          have t165 := hf.in (i := 17) (d := 165) (by kernel_rfl) (hp 17 (by kernel_rfl)) (hJ.vals 17 _ rfl (hp 17 (by kernel_rfl)))
                          rw [if_pos (by rfl)]
                          go_simp
                          exact hK _ _ (hJ.val HOKR 18 _ (by kernel_rfl) rfl (Below.refl _ _))
                        case o27_19 =>
                          intro LX V aX wX K hl hp hcl hf hJ hK
                          have t166 := hf.in (i := 18) (d := 166) (by kernel_rfl) (hp 18 (by kernel_rfl)) (hJ.vals 18 _ rfl (hp 18 (by kernel_rfl)))
                          rw [if_pos (by rfl)]
                          go_simp
                          exact hK _ _ (hJ.val HOKR 19 _ (by kernel_rfl) rfl (Below.refl _ _))
                        case o27_20 =>
                          intro LX V aX wX K hl hp hcl hf hJ hK
                          have t21 : aX.tmps[21]? = some (.bool false) := hf.old (by kernel_rfl) rfl
                          have t167 := hf.in (i := 19) (d := 167) (by kernel_rfl) (hp 19 (by kernel_rfl)) (hJ.vals 19 _ rfl (hp 19 (by kernel_rfl)))
                          rw [if_pos (wanted_of rfl rfl t167)]
                          go_simp
                          exact hK _ _ (hJ.val HOKR 20 _ (by kernel_rfl) rfl (Below.refl _ _))
                        case o27_21 =>
                          intro LX V aX wX K hl hp hcl hf hJ hK
                          have t168 := hf.in (i := 20) (d := 168) (by kernel_rfl) (hp 20 (by kernel_rfl)) (hJ.vals 20 _ rfl (hp 20 (by kernel_rfl)))
                          have t167 := hf.in (i := 19) (d := 167) (by kernel_rfl) (hp 19 (by kernel_rfl)) (hJ.vals 19 _ rfl (hp 19 (by kernel_rfl)))
                          rw [if_pos (wanted_of rfl rfl t167)]
                          go_simp
                          exact hK _ _ (hJ.val HOKR 21 _ (by kernel_rfl) rfl (Below.refl _ _))
                        case o27_22 =>
                          intro LX V aX wX K hl hp hcl hf hJ hK
                          have t169 := hf.in (i := 21) (d := 169) (by kernel_rfl) (hp 21 (by kernel_rfl)) (hJ.vals 21 _ rfl (hp 21 (by kernel_rfl)))
                          rw [if_neg (by rw [wanted_not (b := true) rfl rfl t169]; exact Bool.false_ne_true)]
                          exact hK _ _ (hJ.val HOKR 22 _ (by kernel_rfl) rfl (Below.refl _ _))
                        case o27_23 =>
                          intro LX V aX wX K hl hp hcl hf hJ hK
                          have t169 := hf.in (i := 21) (d := 169) (by kernel_rfl) (hp 21 (by kernel_rfl)) (hJ.vals 21 _ rfl (hp 21 (by kernel_rfl)))
                          rw [if_neg (by rw [wanted_not (b := true) rfl rfl t169]; exact Bool.false_ne_true)]
                          exact hK _ _ (hJ.val HOKR 23 _ (by kernel_rfl) rfl (Below.refl _ _))
                        case o27_24 =>
                          intro LX V aX wX K hl hp hcl hf hJ hK
                          have t169 := hf.in (i := 21) (d := 169) (by kernel_rfl) (hp 21 (by kernel_rfl)) (hJ.vals 21 _ rfl (hp 21 (by kernel_rfl)))
                          rw [if_neg (by rw [wanted_not (b := true) rfl rfl t169]; exact Bool.false_ne_true)]
                          exact hK _ _ (hJ.val HOKR 24 _ (by kernel_rfl) rfl (Below.refl _ _))
                        case o27_25 =>
                          intro LX V aX wX K hl hp hcl hf hJ hK
                          have t169 := hf.in (i := 21) (d := 169) (by kernel_rfl) (hp 21 (by kernel_rfl)) (hJ.vals 21 _ rfl (hp 21 (by kernel_rfl)))
                          rw [if_neg (by rw [wanted_not (b := true) rfl rfl t169]; exact Bool.false_ne_true)]
                          exact hK _ _ (hJ.val HOKR 25 _ (by kernel_rfl) rfl (Below.refl _ _))
                        case o27_26 =>
                          intro LX V aX wX K hl hp hcl hf hJ hK
                          have t169 := hf.in (i := 21) (d := 169) (by kernel_rfl) (hp 21 (by kernel_rfl)) (hJ.vals 21 _ rfl (hp 21 (by kernel_rfl)))
                          have t173 := hf.in (i := 25) (d := 173) (by kernel_rfl) (hp 25 (by kernel_rfl)) (hJ.vals 25 _ rfl (hp 25 (by kernel_rfl)))
                          have t167 := hf.in (i := 19) (d := 167) (by kernel_rfl) (hp 19 (by kernel_rfl)) (hJ.vals 19 _ rfl (hp 19 (by kernel_rfl)))
                          rw [if_pos (wanted_of rfl rfl t167)]
                          go_simp
                          exact hK _ _ (hJ.val HOKR 26 _ (by kernel_rfl) rfl (Below.refl _ _))
                        case o27_27 =>
                          intro LX V aX wX K hl hp hcl hf hJ hK
                          have t167 := hf.in (i := 19) (d := 167) (by kernel_rfl) (hp 19 (by kernel_rfl)) (hJ.vals 19 _ rfl (hp 19 (by kernel_rfl)))
                          have t174 := hf.in (i := 26) (d := 174) (by kernel_rfl) (hp 26 (by kernel_rfl)) (hJ.vals 26 _ rfl (hp 26 (by kernel_rfl)))
                          rw [if_pos (by rfl)]
                          go_simp
                          exact hK _ _ (hJ.val HOKR 27 _ (by kernel_rfl) rfl (Below.refl _ _))
                      intro V wZ hJ
                      have hv := hJ.vals 27 _ rfl (by kernel_rfl)
                      have HBZ := Lib.hid hJ.below
                      simp only [puts, Act.put, List.setIfInBounds_toArray, List.set_cons_zero, List.set_cons_succ]
                      rw [hv]
                      clear hJ HOKR hv
                      obtain ⟨hk5, hk0⟩ := hHI.out
                      go_wp2_with fail
                      go_roundw
                      case rel => exact ⟨k + 1, by omega, by go_num, Lib.hid (HXI.out.later HBZ.out), Lib.hid (HTI9.out.trans (Two.of HBZ.out))⟩
                      case measure => simp [intOf]; omega
                  · have hkn : n = k := by omega
                    subst hkn
                    have hk5 : ¬ (n : Int) < (n : Int) := by omega
                    obtain ⟨wE, hwE⟩ : ∃ x, x = wr := ⟨_, rfl⟩
                    subst hwE
                    have HTE := Lib.hid (HTZ.out.trans HT9.out)
                    have HYE : Hid (IdxOn (fun _ => False) wE wm.heap.size g2 og2 sg2 (turnG G A)) := Lib.hid (HY8.out.stepB HTE.out.size (fun k h1 h2 _ => HTE.out.block k h2 (by have := HPOS.out; omega) (by have := HPOS.out; omega)) (fun k hk => hk.elim))
                    have HBE := Lib.hid (HT1.out wE HTE.out)
                    have HT2 : Hid (∀ wX, Two og2 sg2 wE wX → Below W0.heap.size W0 wX) := Lib.hid (fun wX hX => HBE.out.trans (hX.below (by have := HPOS.out; have := HBM.out.size; omega) (by have := HPOS.out; have := HBM.out.size; omega) HBE.out.size))
                    clear HX9
                    go_wp2_with fail
                    go_loopw [23] (fun kv wr => ∃ k : Nat, k ≤ n ∧ kv = .int .i64 k ∧ Hid (IdxOn (fun _ => False) wr wm.heap.size g2 og2 sg2 (turnG G A)) ∧ Hid (Two og2 sg2 wE wr)) (fun kv _ => n - (intOf kv).toNat)
                    case atStart => exact ⟨0, by omega, rfl, HYE, Two.refl _ _ _⟩
                    case round =>
                      obtain ⟨k, hk, rfl, HYK, HTK⟩ := hrel
                      have hk0 : (0 : Int) ≤ (k : Int) := by omega
                      by_cases hlt : k < n
                      · have hk5 : (k : Int) < (n : Int) := by omega
                        have hwk : IntKind.i64.wrap ((k : Int) + 1) = (k : Int) + 1 := IntWalk.i64_in _ (by omega)
                        obtain ⟨r, hr⟩ : ∃ r, r = inR p ((turnG G A).getD k []) := ⟨_, rfl⟩
                        obtain ⟨av, hav⟩ : ∃ a, a = A.getD k 0 := ⟨_, rfl⟩
                        have hgal : ga < wm.heap.size := by
                          rcases HGAM.out with h | h
                          · exact h
                          · omega
                        have HC2 : Hid (∀ wX, Two og2 sg2 wE wX → wX.cell? ⟨bp, 0, none⟩ = some (.int .i64 p.x) ∧ wX.cell? ⟨bp, 1, none⟩ = some (.int .i64 p.y) ∧ wX.cell? ⟨ga, k, none⟩ = some (.int .i64 av)) := Lib.hid (fun wX hX => by
                          obtain ⟨d0, d1⟩ := HPC.out wX (HT2.out wX hX)
                          refine ⟨d0, d1, ?_⟩
                          have hP := HPOS.out
                          have h1 := HAI8.out.cellAt HTA.out.1 hlt
                          rw [← hav] at h1
                          rw [cell_of_same (hX.block ga (by have := HTE.out.size; omega) (by omega) (by omega)), cell_of_same (HTE.out.block ga (by omega) (by omega) (by omega))]
                          exact h1)
                        have HLX : Hid (∀ wX, Two og2 sg2 wE wX → IsInts wX aa la ac (askG (inR p) G)) := Lib.hid (fun wX hX => (HLAI.out wX (by have h1 := HT9.out.size; have h2 := hX.size; omega) (fun q h1 h2 => by
                          have hP := HPOS.out
                          have h3 := HT9.out.size
                          rw [hX.block q (by omega) (by omega) (by omega), HT9.out.block q h2 (by omega) (by omega)])).1)
                        have HRAV : Hid ((askG (inR p) G).any (fun y => y == av) = r) := Lib.hid (by
                          have h1 := HTA.out.2 k hlt
                          rw [← hav] at h1
                          rw [askG_any, hr, HGET.out.2.1 k hlt, ← hav]
                          unfold inAt regI
                          rw [HL.out, decide_eq_true h1.1, decide_eq_true h1.2]
                          rfl)
                        have HRK : Hid ((askG (inR p) (turnG G A)).any (fun y => y == (k : Int)) = r) := Lib.hid (by
                          rw [has_any p (turnG G A) k (by rw [HGET.out.1]; exact hlt), hr])
                        have HAA : Hid (∀ wX, (IdxOn (fun _ => False) wX wm.heap.size g2 og2 sg2 (turnG G A) ∧ Two og2 sg2 wE wX) → Calls Tryz.prog 12 #[.pointer (some ⟨g2, 0, none⟩), .agg #[.int .i64 p.x, .int .i64 p.y]] wX fun e w' => ∃ a, e = .returned a ∧ AskAX (fun _ => False) p wm.heap.size g2 og2 sg2 (turnG G A) wE a w') := Lib.hid (fun wX hX => ask_aX _ p wm.heap.size g2 og2 sg2 (turnG G A) wE wX hX (fun k hk => hk.elim))
                        have HKI := Lib.hid (And.intro hk5 hk0)
                        clear hr hav hgal
                        go_wp2_with fail
                        clear hk5 hk0
                        refine wp_region_J (s := [(182, 0), (183, 1), (184, 2), (185, 3), (186, 4), (187, 5), (188, 6), (189, 7), (190, 8), (191, 9), (192, 10), (193, 11)]) (by kernel_rfl) (ChainJ (fun iX => match iX with | 0 => some (.pointer (some ⟨g2, 0, none⟩)) | 1 => some (.agg #[.int .i64 p.x, .int .i64 p.y]) | 3 => some (.int .i64 (k : Int)) | 5 => some (.slice aa la ac) | 6 => some (.slice (some ⟨ga, 0, none⟩) n n) | 7 => some (.int .i64 (k : Int)) | 8 => some (.pointer (some ⟨ga, k, none⟩)) | 9 => some (.int .i64 av) | _ => none) [2, 4, 10, 11] (StM p wm.heap.size g2 og2 sg2 (turnG G A) r wE)) (by kernel_rfl) (by kernel_rfl) (by kernel_rfl) (by kernel_rfl) (fun _ => undef) ?start32 ?step32 ?done32
                        case start32 => exact ChainJ.start (⟨HYK.out.later ((Below.refl _ _).drew), HTK.out.trans (Two.of ((Below.refl _ _).drew))⟩)
                        case step32 =>
                          refine ⟨?o32_0, ?o32_1, ?o32_2, ?o32_3, ?o32_4, ?o32_5, ?o32_6, ?o32_7, ?o32_8, ?o32_9, ?o32_10, ?o32_11, trivial⟩
                          case o32_0 =>
                            intro LX V aX wX K hl hp hcl hf hJ hK
                            have t16 : aX.tmps[16]? = some (.pointer (some ⟨g2, 0, none⟩)) := hf.old (by kernel_rfl) rfl
                            rw [if_pos (by rfl)]
                            go_simp
                            exact hK _ _ (hJ.val 0 _ (by kernel_rfl) rfl (fun _ h => h))
                          case o32_1 =>
                            intro LX V aX wX K hl hp hcl hf hJ hK
                            have t4 : aX.tmps[4]? = some (.pointer (some ⟨bp, 0, none⟩)) := hf.old (by kernel_rfl) rfl
                            obtain ⟨vs, hlen, hS⟩ := hJ.upto 2 (by decide) (hcl.no 10 (by kernel_rfl) (hcl.no 4 (by kernel_rfl) (hcl.no 2 (by kernel_rfl) (hl))))
                            have hTT := StM.two hS
                            obtain ⟨c0, c1, c2⟩ := HC2.out wX hTT
                            clear hTT
                            rw [if_pos (by rfl)]
                            go_simp
                            exact hK _ _ (hJ.val 1 _ (by kernel_rfl) rfl (fun _ h => h))
                          case o32_2 =>
                            intro LX V aX wX K hl hp hcl hf hJ hK
                            have t182 := hf.in (i := 0) (d := 182) (by kernel_rfl) (hp 0 (by kernel_rfl)) (hJ.vals 0 _ rfl (hp 0 (by kernel_rfl)))
                            have t183 := hf.in (i := 1) (d := 183) (by kernel_rfl) (hp 1 (by kernel_rfl)) (hJ.vals 1 _ rfl (hp 1 (by kernel_rfl)))
                            rw [if_pos (by rfl)]
                            obtain ⟨vs, hlen, hvs, hS, hn⟩ := hJ.next (by kernel_rfl) 0 (by kernel_rfl) hl (.inl rfl) rfl
                            match vs, hlen, hvs, hS, hn with
                            | [], _, hvs, hS, hn =>
                              have HS7 := Lib.hid hS
                              clear hS
                              go_simp
                              refine (HAA.out wX HS7.out).mono ?_
                              rintro e wA ⟨a, rfl, hA⟩
                              exact hK _ _ (hn _ _ hA)
                          case o32_3 =>
                            intro LX V aX wX K hl hp hcl hf hJ hK
                            have t23 : aX.tmps[23]? = some (.int .i64 (k : Int)) := hf.old (by kernel_rfl) rfl
                            rw [if_pos (by rfl)]
                            go_simp
                            exact hK _ _ (hJ.val 3 _ (by kernel_rfl) rfl (fun _ h => h))
                          case o32_4 =>
                            intro LX V aX wX K hl hp hcl hf hJ hK
                            have t184 := hf.in (i := 2) (d := 184) (by kernel_rfl) (hp 2 (by kernel_rfl)) rfl
                            have t185 := hf.in (i := 3) (d := 185) (by kernel_rfl) (hp 3 (by kernel_rfl)) (hJ.vals 3 _ rfl (hp 3 (by kernel_rfl)))
                            rw [if_pos (by rfl)]
                            obtain ⟨vs, hlen, hvs, hS, hn⟩ := hJ.next (by kernel_rfl) 1 (by kernel_rfl) hl (.inr (hp 2 (by kernel_rfl))) rfl
                            match vs, hlen, hvs, hS, hn with
                            | [a0], _, hvs, hS, hn =>
                              have e0 : V 2 = a0 := hvs 0 (by decide)
                              have HS7 := Lib.hid hS
                              clear hS
                              obtain ⟨a9, c9, e9, i9⟩ := HS7.out.1.ints
                              have HI9 := Lib.hid i9
                              rw [e0, e9] at t184
                              obtain ⟨l9, hl9⟩ : ∃ m, m = (askG (inR p) (turnG G A)).length := ⟨_, rfl⟩
                              rw [← hl9] at t184
                              have hl20 : l9 ≤ 1000000000 := by
                                rw [hl9]
                                have h1 : (askG (inR p) (turnG G A)).length ≤ (allI (turnG G A).length).length := List.length_filter_le _ _
                                rw [allI_len, HGET.out.1] at h1
                                omega
                              have hmm := among_any a9 l9 c9 _ (k : Int) wX (by rw [hl9]; exact HI9.out) hl20
                              rw [HRK.out] at hmm
                              have HMM := Lib.hid hmm
                              clear i9 hl9 hmm hl20
                              go_simp
                              refine HMM.out.mono ?_
                              rintro e wA ⟨rfl, hbA⟩
                              exact hK _ _ (hn _ _ ⟨rfl, HS7.out.2.1.later hbA, HS7.out.2.2.trans (Two.of hbA)⟩)
                          case o32_5 =>
                            intro LX V aX wX K hl hp hcl hf hJ hK
                            have t18 : aX.tmps[18]? = some (.slice aa la ac) := hf.old (by kernel_rfl) rfl
                            rw [if_pos (by rfl)]
                            go_simp
                            exact hK _ _ (hJ.val 5 _ (by kernel_rfl) rfl (fun _ h => h))
                          case o32_6 =>
                            intro LX V aX wX K hl hp hcl hf hJ hK
                            have t11 : aX.tmps[11]? = some (.slice (some ⟨ga, 0, none⟩) n n) := hf.old (by kernel_rfl) rfl
                            rw [if_pos (by rfl)]
                            go_simp
                            exact hK _ _ (hJ.val 6 _ (by kernel_rfl) rfl (fun _ h => h))
                          case o32_7 =>
                            intro LX V aX wX K hl hp hcl hf hJ hK
                            have t23 : aX.tmps[23]? = some (.int .i64 (k : Int)) := hf.old (by kernel_rfl) rfl
                            rw [if_pos (by rfl)]
                            go_simp
                            exact hK _ _ (hJ.val 7 _ (by kernel_rfl) rfl (fun _ h => h))
                          case o32_8 =>
                            intro LX V aX wX K hl hp hcl hf hJ hK
                            have t188 := hf.in (i := 6) (d := 188) (by kernel_rfl) (hp 6 (by kernel_rfl)) (hJ.vals 6 _ rfl (hp 6 (by kernel_rfl)))
                            have t189 := hf.in (i := 7) (d := 189) (by kernel_rfl) (hp 7 (by kernel_rfl)) (hJ.vals 7 _ rfl (hp 7 (by kernel_rfl)))
                            obtain ⟨hk5, hk0⟩ := HKI.out
                            rw [if_pos (by rfl)]
                            go_simp
                            exact hK _ _ (hJ.val 8 _ (by kernel_rfl) rfl (fun _ h => h))
                          case o32_9 =>
                            intro LX V aX wX K hl hp hcl hf hJ hK
                            have t190 := hf.in (i := 8) (d := 190) (by kernel_rfl) (hp 8 (by kernel_rfl)) (hJ.vals 8 _ rfl (hp 8 (by kernel_rfl)))
                            obtain ⟨vs, hlen, hS⟩ := hJ.upto 2 (by decide) (hcl.no 10 (by kernel_rfl) hl)
                            have hTT := StM.two hS
                            obtain ⟨c0, c1, c2⟩ := HC2.out wX hTT
                            clear hTT
                            rw [if_pos (by rfl)]
                            go_simp
                            exact hK _ _ (hJ.val 9 _ (by kernel_rfl) rfl (fun _ h => h))
                          case o32_10 =>
                            intro LX V aX wX K hl hp hcl hf hJ hK
                            have t187 := hf.in (i := 5) (d := 187) (by kernel_rfl) (hp 5 (by kernel_rfl)) (hJ.vals 5 _ rfl (hp 5 (by kernel_rfl)))
                            have t191 := hf.in (i := 9) (d := 191) (by kernel_rfl) (hp 9 (by kernel_rfl)) (hJ.vals 9 _ rfl (hp 9 (by kernel_rfl)))
                            rw [if_pos (by rfl)]
                            obtain ⟨vs, hlen, hvs, hS, hn⟩ := hJ.next (by kernel_rfl) 2 (by kernel_rfl) hl (.inr (hp 4 (by kernel_rfl))) rfl
                            match vs, hlen, hvs, hS, hn with
                            | [a0, a1], _, hvs, hS, hn =>
                              have e0 : V 2 = a0 := hvs 0 (by decide)
                              have e1 : V 4 = a1 := hvs 1 (by decide)
                              have HS7 := Lib.hid hS
                              clear hS
                              have hmm := among_any aa la ac _ av wX (HLX.out wX HS7.out.2.2) (by have := HLAB.out; omega)
                              rw [HRAV.out] at hmm
                              have HMM := Lib.hid hmm
                              clear hmm
                              go_simp
                              refine HMM.out.mono ?_
                              rintro e wA ⟨rfl, hbA⟩
                              exact hK _ _ (hn _ _ ⟨rfl, HS7.out.1, HS7.out.2.1.later hbA, HS7.out.2.2.trans (Two.of hbA)⟩)
                          case o32_11 =>
                            intro LX V aX wX K hl hp hcl hf hJ hK
                            have t186 := hf.in (i := 4) (d := 186) (by kernel_rfl) (hp 4 (by kernel_rfl)) rfl
                            have t192 := hf.in (i := 10) (d := 192) (by kernel_rfl) (hp 10 (by kernel_rfl)) rfl
                            rw [if_pos (by rfl)]
                            obtain ⟨vs, hlen, hvs, hS, hn⟩ := hJ.next (by kernel_rfl) 3 (by kernel_rfl) hl (.inr (hp 10 (by kernel_rfl))) rfl
                            match vs, hlen, hvs, hS, hn with
                            | [a0, a1, a2], _, hvs, hS, hn =>
                              have e0 : V 2 = a0 := hvs 0 (by decide)
                              have e1 : V 4 = a1 := hvs 1 (by decide)
                              have e2 : V 10 = a2 := hvs 2 (by decide)
                              have HS7 := Lib.hid hS
                              clear hS
                              rw [e1, HS7.out.2.1] at t186
                              rw [e2, HS7.out.1] at t192
                              have hrn : (r != r) = false := by simp
                              have hre : (r == r) = true := by simp
                              go_simp
                              exact hK _ _ (hn _ _ ⟨by first | rfl | simp, HS7.out.2.2⟩)
                        intro V wZ hJ
                        obtain ⟨vs, hlen, hvs, hS⟩ := hJ.all (by kernel_rfl)
                        match vs, hlen, hvs, hS with
                        | [a0, a1, a2, a3], _, hvs, hS =>
                          have e0 : V 2 = a0 := hvs 0 (by decide)
                          have e1 : V 4 = a1 := hvs 1 (by decide)
                          have e2 : V 10 = a2 := hvs 2 (by decide)
                          have e3 : V 11 = a3 := hvs 3 (by decide)
                          have HSU := Lib.hid hS
                          simp only [puts, Act.put, List.setIfInBounds_toArray, List.set_cons_zero, List.set_cons_succ]
                          rw [e3]
                          clear hJ hvs e0 e1 e2 e3 hS
                          obtain ⟨rfl, hyy, hty⟩ := HSU.out
                          have HYY := Lib.hid (And.intro hyy hty)
                          obtain ⟨hk5, hk0⟩ := HKI.out
                          clear hyy hty HSU
                          go_wp2_with fail
                          go_roundw
                          case rel => exact ⟨k + 1, by omega, by go_num, Lib.hid HYY.out.1, Lib.hid HYY.out.2⟩
                          case measure => simp [intOf]; omega
                      · have hkn : n = k := by omega
                        subst hkn
                        have hk5 : ¬ (n : Int) < (n : Int) := by omega
                        go_wp2_with fail
                        go_ret
                        exact ⟨rfl, HB0.out.trans ((HT2.out wr HTK.out).mono HB0.out.size)⟩
            · clear hlt
              obtain ⟨wm, hwm⟩ : ∃ x, x = wr := ⟨_, rfl⟩
              subst hwm
              have HBM : Hid (Below W0.heap.size W0 wm) := Lib.hid (HB3.out.trans (by rw [HB9.out] at hMB; exact hMB.mono HB3.out.size))
              have hb3m : Below w3.heap.size w3 wm := by rw [HB9.out] at hMB; exact hMB
              have hrg := hTI.regs (HH0.out.later HBM.out (Nat.le_refl _)) HL.out hMX
              have hG2 : (turnG G A).length = n := by simp [turnG, hTI.alen]
              have hget : ∀ j, j < n → (turnG G A).getD j [] = G.getD (A.getD j 0).toNat [] := fun j hj => by rw [turnG_get (by rw [hTI.alen]; exact hj)]; rfl
              have hAn : ∀ j, j < n → (A.getD j 0).toNat < n := fun j hj => by have := hTI.inn j hj; omega
              have HBU2 := Lib.hid (IBuild_any ai n ci (turnG G A) wm hrg (fun j hj => by rw [hget j hj]; exact HS.out _ (hAn j hj)))
              have hok2 := turn_ok HL.out hTI.alen hTI.inn HZ0.out
              have HXM := Lib.hid (HX3.out.later hb3m)
              have HAI := Lib.hid hMI
              have HTA := Lib.hid (And.intro hTI.alen hTI.inn)
              have HGET := Lib.hid (And.intro hG2 (And.intro hget hAn))
              have HGAM : Hid (ga < wm.heap.size ∨ n = 0) := Lib.hid (by
                by_cases hn : n = 0
                · exact .inr hn
                · obtain ⟨g9, e9, _, h9⟩ := hMI.zero (by rw [hTI.alen]; omega)
                  injection e9 with e9
                  injection e9 with e9
                  subst e9
                  exact .inl h9)
              have HSM := Lib.hid hb3m.size
              clear hrg hb3m hG2 hget hAn hTI hMX hMI hMB
              go_wp2_with fail
              refine HBU2.out.mono ?_
              rintro e w7 ⟨hb7, hok, _⟩
              obtain ⟨g2, og2, sg2, rfl, hy⟩ := hok hok2
              have HY7 := Lib.hid hy
              have HX7 : Hid (IdxOn (fun k => k = og2 ∨ k = sg2) w7 w2.heap.size g og sg G) := Lib.hid (HXM.out.step hb7.size (fun k hk _ => hb7.block k hk) (fun k hk => .inr (by rcases hk with rfl | rfl; exact hy.lo; exact hy.ls)))
              have HB7 := Lib.hid (HBM.out.trans (hb7.mono HBM.out.size))
              have HB7M := Lib.hid hb7
              clear hok hok2 hy hb7 HBU2
              go_wp2_with fail
              obtain ⟨W8, hW8⟩ : ∃ W, W = w7.alloc (Obj.cells #[.int .i64 0, .int .i64 0] 35) := ⟨_, rfl⟩
              rw [← hW8]
              have hb8 : Below w7.heap.size w7 W8 := by rw [hW8]; exact (Below.refl _ _).alloc (Nat.le_refl _) _
              have HY8 := Lib.hid (HY7.out.later hb8)
              have HX8 := Lib.hid (HX7.out.later hb8)
              have HB8 := Lib.hid (HB7.out.trans (hb8.mono HB7.out.size))
              have HB8M := Lib.hid (HB7M.out.trans (hb8.mono HB7M.out.size))
              have HAI8 := Lib.hid (HAI.out.later HB8M.out)
              clear hb8 hW8
              -- where the blocks lie
              have HPOS : Hid (W0.heap.size ≤ og ∧ W0.heap.size ≤ sg ∧ og < w3.heap.size ∧ sg < w3.heap.size ∧ wm.heap.size ≤ og2 ∧ wm.heap.size ≤ sg2 ∧ og2 < W8.heap.size ∧ sg2 < W8.heap.size ∧ w3.heap.size ≤ wm.heap.size ∧ wm.heap.size ≤ W8.heap.size ∧ w3.heap.size ≤ ga) := Lib.hid (by
                have h1 := HX3.out.lo
                have h2 := HX3.out.ls
                have h3 := HX3.out.lt
                have h4 := HY8.out.lo
                have h5 := HY8.out.ls
                have h6 := HY8.out.lt
                have h7 := HSZ2.out
                have h8 := HGA.out
                have h9 := HB9.out
                exact ⟨by omega, by omega, h3.1, h3.2.1, h4, h5, h6.1, h6.2.1, HSM.out, HB8M.out.size, by omega⟩)
              have HT1 : Hid (∀ wX, Two og sg W8 wX → Below W0.heap.size W0 wX) := Lib.hid (fun wX hX => HB8.out.trans (hX.below HPOS.out.1 HPOS.out.2.1 HB8.out.size))
              have HQ2 : Hid (∀ wX, Two og sg W8 wX → wX.cell? ⟨bp, 0, none⟩ = some (.int .i64 p.x) ∧ wX.cell? ⟨bp, 1, none⟩ = some (.int .i64 p.y)) := Lib.hid (fun wX hX => HPC.out wX (HT1.out wX hX))
              have hX1lt : ∀ k, (fun k => k = og2 ∨ k = sg2) k → k < W8.heap.size := fun k hk => by have := HPOS.out; rcases hk with rfl | rfl <;> omega
              have HX1L := Lib.hid hX1lt
              have HAA : Hid (∀ wX, (IdxOn (fun k => k = og2 ∨ k = sg2) wX w2.heap.size g og sg G ∧ Two og sg W8 wX) → Calls Tryz.prog 12 #[.pointer (some ⟨g, 0, none⟩), .agg #[.int .i64 p.x, .int .i64 p.y]] wX fun e w' => ∃ a, e = .returned a ∧ AskAX (fun k => k = og2 ∨ k = sg2) p w2.heap.size g og sg G W8 a w') := Lib.hid (fun wX hX => ask_aX _ p w2.heap.size g og sg G W8 wX hX HX1L.out)
              have HNN : Hid (∀ wX a, AskAX (fun k => k = og2 ∨ k = sg2) p w2.heap.size g og sg G W8 a wX → Calls Tryz.prog 17 #[.pointer (some ⟨g, 0, none⟩), .agg #[.int .i64 p.x, .int .i64 p.y]] wX fun e w' => ∃ b, e = .returned b ∧ AskAX (fun k => k = og2 ∨ k = sg2) p w2.heap.size g og sg G W8 a w' ∧ AskN p G W8 b w') := Lib.hid (fun wX a hA => ask_nX _ p w2.heap.size g og sg G W8 wX a hA)
              clear hX1lt
              refine wp_region_J (s := [(129, 0), (130, 1), (131, 2), (132, 3), (133, 4), (134, 5), (18, 6), (19, 7)]) (by kernel_rfl) (ChainJ (fun iX => match iX with | 0 => some (.pointer (some ⟨g, 0, none⟩)) | 1 => some (.agg #[.int .i64 p.x, .int .i64 p.y]) | 3 => some (.pointer (some ⟨g, 0, none⟩)) | 4 => some (.agg #[.int .i64 p.x, .int .i64 p.y]) | _ => none) [2, 5, 6, 7] (StX (fun k => k = og2 ∨ k = sg2) p w2.heap.size g og sg G W8)) (by kernel_rfl) (by kernel_rfl) (by kernel_rfl) (by kernel_rfl) (fun _ => undef) ?start22q ?step22q ?done22q
              case start22q => exact ChainJ.start (⟨HX8.out.later ((Below.refl _ _).drew), Two.of ((Below.refl _ _).drew)⟩)
              case step22q =>
                refine ⟨?o22q_0, ?o22q_1, ?o22q_2, ?o22q_3, ?o22q_4, ?o22q_5, ?o22q_6, ?o22q_7, trivial⟩
                case o22q_0 =>
                  intro LX V aX wX K hl hp hcl hf hJ hK
                  have t8 : aX.tmps[8]? = some (.pointer (some ⟨g, 0, none⟩)) := hf.old (by kernel_rfl) rfl
                  rw [if_pos (by rfl)]
                  go_simp
                  exact hK _ _ (hJ.val 0 _ (by kernel_rfl) rfl (fun _ h => h))
                case o22q_1 =>
                  intro LX V aX wX K hl hp hcl hf hJ hK
                  have t4 : aX.tmps[4]? = some (.pointer (some ⟨bp, 0, none⟩)) := hf.old (by kernel_rfl) rfl
                  obtain ⟨vs, hlen, hS⟩ := hJ.upto 1 (by decide) (hcl.no 5 (by kernel_rfl) (hcl.no 2 (by kernel_rfl) (hl)))
                  have hTT := StX.two hS
                  obtain ⟨c0, c1⟩ := HQ2.out wX hTT
                  clear hTT
                  rw [if_pos (by rfl)]
                  go_simp
                  exact hK _ _ (hJ.val 1 _ (by kernel_rfl) rfl (fun _ h => h))
                case o22q_2 =>
                  intro LX V aX wX K hl hp hcl hf hJ hK
                  have t129 := hf.in (i := 0) (d := 129) (by kernel_rfl) (hp 0 (by kernel_rfl)) (hJ.vals 0 _ rfl (hp 0 (by kernel_rfl)))
                  have t130 := hf.in (i := 1) (d := 130) (by kernel_rfl) (hp 1 (by kernel_rfl)) (hJ.vals 1 _ rfl (hp 1 (by kernel_rfl)))
                  rw [if_pos (by rfl)]
                  obtain ⟨vs, hlen, hvs, hS, hn⟩ := hJ.next (by kernel_rfl) 0 (by kernel_rfl) hl (.inl rfl) rfl
                  match vs, hlen, hvs, hS, hn with
                  | [], _, hvs, hS, hn =>
                    have HS7 := Lib.hid hS
                    clear hS
                    go_simp
                    refine (HAA.out wX HS7.out).mono ?_
                    rintro e wA ⟨a, rfl, hA⟩
                    exact hK _ _ (hn _ _ hA)
                case o22q_3 =>
                  intro LX V aX wX K hl hp hcl hf hJ hK
                  have t8 : aX.tmps[8]? = some (.pointer (some ⟨g, 0, none⟩)) := hf.old (by kernel_rfl) rfl
                  rw [if_pos (by rfl)]
                  go_simp
                  exact hK _ _ (hJ.val 3 _ (by kernel_rfl) rfl (fun _ h => h))
                case o22q_4 =>
                  intro LX V aX wX K hl hp hcl hf hJ hK
                  have t4 : aX.tmps[4]? = some (.pointer (some ⟨bp, 0, none⟩)) := hf.old (by kernel_rfl) rfl
                  obtain ⟨vs, hlen, hS⟩ := hJ.upto 1 (by decide) (hcl.no 5 (by kernel_rfl) hl)
                  have hTT := StX.two hS
                  obtain ⟨c0, c1⟩ := HQ2.out wX hTT
                  clear hTT
                  rw [if_pos (by rfl)]
                  go_simp
                  exact hK _ _ (hJ.val 4 _ (by kernel_rfl) rfl (fun _ h => h))
                case o22q_5 =>
                  intro LX V aX wX K hl hp hcl hf hJ hK
                  have t132 := hf.in (i := 3) (d := 132) (by kernel_rfl) (hp 3 (by kernel_rfl)) (hJ.vals 3 _ rfl (hp 3 (by kernel_rfl)))
                  have t133 := hf.in (i := 4) (d := 133) (by kernel_rfl) (hp 4 (by kernel_rfl)) (hJ.vals 4 _ rfl (hp 4 (by kernel_rfl)))
                  rw [if_pos (by rfl)]
                  obtain ⟨vs, hlen, hvs, hS, hn⟩ := hJ.next (by kernel_rfl) 1 (by kernel_rfl) hl (.inr (hp 2 (by kernel_rfl))) rfl
                  match vs, hlen, hvs, hS, hn with
                  | [a0], _, hvs, hS, hn =>
                    have e0 : V 2 = a0 := hvs 0 (by decide)
                    have HS7 := Lib.hid hS
                    clear hS
                    go_simp
                    refine (HNN.out wX a0 HS7.out).mono ?_
                    rintro e wA ⟨b, rfl, hA⟩
                    exact hK _ _ (hn _ _ hA)
                case o22q_6 =>
                  intro LX V aX wX K hl hp hcl hf hJ hK
                  have t131 := hf.in (i := 2) (d := 131) (by kernel_rfl) (hp 2 (by kernel_rfl)) rfl
                  rw [if_pos (by rfl)]
                  obtain ⟨vs, hlen, hvs, hS, hn⟩ := hJ.next (by kernel_rfl) 2 (by kernel_rfl) hl (.inr (hp 5 (by kernel_rfl))) rfl
                  match vs, hlen, hvs, hS, hn with
                  | [a0, a1], _, hvs, hS, hn =>
                    have e0 : V 2 = a0 := hvs 0 (by decide)
                    have e1 : V 5 = a1 := hvs 1 (by decide)
                    have HS7 := Lib.hid hS
                    clear hS
                    rw [e0] at t131
                    go_simp
                    exact hK _ _ (hn _ _ ⟨rfl, HS7.out⟩)
                case o22q_7 =>
                  intro LX V aX wX K hl hp hcl hf hJ hK
                  have t134 := hf.in (i := 5) (d := 134) (by kernel_rfl) (hp 5 (by kernel_rfl)) rfl
                  rw [if_pos (by rfl)]
                  obtain ⟨vs, hlen, hvs, hS, hn⟩ := hJ.next (by kernel_rfl) 3 (by kernel_rfl) hl (.inr (hp 6 (by kernel_rfl))) rfl
                  match vs, hlen, hvs, hS, hn with
                  | [a0, a1, a2], _, hvs, hS, hn =>
                    have e0 : V 2 = a0 := hvs 0 (by decide)
                    have e1 : V 5 = a1 := hvs 1 (by decide)
                    have e2 : V 6 = a2 := hvs 2 (by decide)
                    have HS7 := Lib.hid hS
                    clear hS
                    rw [e1] at t134
                    go_simp
                    exact hK _ _ (hn _ _ ⟨rfl, HS7.out⟩)
              intro V wZ hJ
              obtain ⟨vs, hlen, hvs, hS⟩ := hJ.all (by kernel_rfl)
              match vs, hlen, hvs, hS with
              | [a0, a1, a2, a3], _, hvs, hS =>
                have e0 : V 2 = a0 := hvs 0 (by decide)
                have e1 : V 5 = a1 := hvs 1 (by decide)
                have e2 : V 6 = a2 := hvs 2 (by decide)
                have e3 : V 7 = a3 := hvs 3 (by decide)
                have HST := Lib.hid hS
                simp only [puts, Act.put, List.setIfInBounds_toArray, List.set_cons_zero, List.set_cons_succ]
                rw [e2, e3]
                clear hJ hvs e0 e1 e2 e3 hS
                obtain ⟨e32, e20, ⟨hoa, hix, htw⟩, hob⟩ := HST.out
                subst e32
                subst e20
                obtain ⟨aa, ac, hav, hia⟩ := hoa.ints
                obtain ⟨ba, bc, hbv, hib⟩ := hob.ints
                obtain ⟨la, hla⟩ : ∃ m, m = (askG (inR p) G).length := ⟨_, rfl⟩
                obtain ⟨lb, hlb⟩ : ∃ m, m = (askB (nearQ p) (boxesR G)).length := ⟨_, rfl⟩
                rw [← hla] at hav hia
                rw [← hlb] at hbv hib
                subst hav
                subst hbv
                have HLAB : Hid (la ≤ 20 ∧ lb ≤ 20) := Lib.hid (by
                  have h1 : (askG (inR p) G).length ≤ (allI G.length).length := List.length_filter_le _ _
                  have h2 : (askB (nearQ p) (boxesR G)).length ≤ (allI (boxesR G).length).length := by rw [askB_filter]; exact List.length_filter_le _ _
                  rw [allI_len, HL.out] at h1
                  rw [allI_len, boxesR_len, HL.out] at h2
                  omega)
                have HXZ := Lib.hid hix
                have HTZ := Lib.hid htw
                have HOA := Lib.hid hoa
                have HOB := Lib.hid hob
                have HLAI : Hid (∀ wX, wX.heap.size ≥ wZ.heap.size → (∀ k, W8.heap.size ≤ k → k < wZ.heap.size → wX.heap[k]? = wZ.heap[k]?) → IsInts wX aa la ac (askG (inR p) G) ∧ IsInts wX ba lb bc (askB (nearQ p) (boxesR G))) := Lib.hid (fun wX h1 h2 => by
                  have o1 : OwnI wX W8.heap.size (.slice aa la ac) (askG (inR p) G) := ownsRow_move HOA.out fun q hq => h2 q (HOA.out.lt q hq).1 (HOA.out.lt q hq).2
                  have o2 : OwnI wX W8.heap.size (.slice ba lb bc) (askB (nearQ p) (boxesR G)) := ownsRow_move HOB.out fun q hq => h2 q (HOB.out.lt q hq).1 (HOB.out.lt q hq).2
                  obtain ⟨a1, c1, e1, i1⟩ := o1.ints
                  obtain ⟨a2, c2, e2, i2⟩ := o2.ints
                  rw [← hla] at e1 i1
                  rw [← hlb] at e2 i2
                  injection e1 with f1 _ f2
                  injection e2 with f3 _ f4
                  subst f1 f2 f3 f4
                  exact ⟨i1, i2⟩)
                have HOK : Hid (∀ i, i < G.length → (regionCheckP (G.getD i [])).1 = 0) := Lib.hid hix.ok
                clear hoa hix htw hob hia hib hla hlb HST HAA HNN
                go_wp2_with fail
                go_loopw [20, 21, 22] (fun kv _ _ wr => ∃ k : Nat, k ≤ n ∧ kv = .int .i64 k ∧ Hid (IdxOn (fun k => k = og2 ∨ k = sg2) wr w2.heap.size g og sg G) ∧ Hid (Two og sg wZ wr)) (fun kv _ _ _ => n - (intOf kv).toNat)
                case atStart => exact ⟨0, by omega, rfl, HXZ, Two.refl _ _ _⟩
                case round =>
                  obtain ⟨k, hk, rfl, HX9, HT9⟩ := hrel
                  have hk0 : (0 : Int) ≤ (k : Int) := by omega
                  by_cases hlt : k < n
                  · have hk5 : (k : Int) < (n : Int) := by omega
                    have hwk : IntKind.i64.wrap ((k : Int) + 1) = (k : Int) + 1 := IntWalk.i64_in _ (by omega)
                    obtain ⟨r, hr⟩ : ∃ r, r = inR p (G.getD k []) := ⟨_, rfl⟩
                    have hin := IIn_any (fun k => k = og2 ∨ k = sg2) w2.heap.size g og sg k G p wr HX9.out (fun q hq => Nat.lt_of_lt_of_le (HX1L.out q hq) (Nat.le_trans HTZ.out.size HT9.out.size)) (by rw [HL.out]; exact hlt)
                    rw [← hr] at hin
                    unfold ptV at hin
                    have HIN := Lib.hid hin
                    have HRR := Lib.hid hr
                    obtain ⟨c0, c1⟩ := HQ2.out wr (HTZ.out.trans HT9.out)
                    have HKN := Lib.hid hlt
                    clear hin hr
                    go_wp2_with fail
                    refine HIN.out.mono ?_
                    rintro e wI ⟨rfl, hxI, htI⟩
                    have HXI := Lib.hid hxI
                    have HTI9 := Lib.hid (HT9.out.trans htI)
                    have HBI := Lib.hid (HT1.out wI (HTZ.out.trans HTI9.out))
                    have HLI : Hid (∀ wX, Below wI.heap.size wI wX → IsInts wX aa la ac (askG (inR p) G) ∧ IsInts wX ba lb bc (askB (nearQ p) (boxesR G))) := Lib.hid (fun wX hX => by
                      have ht := HTI9.out.trans (Two.of hX)
                      exact HLAI.out wX ht.size (fun q h1 h2 => ht.block q h2 (by have := HPOS.out; omega) (by have := HPOS.out; omega)))
                    obtain ⟨bl, ol, rx, ry, rz, rfl, e0, hrr⟩ := (HI.out.later HBI.out (Nat.le_refl _)).2.2.2.2 k hlt
                    have HRI : Hid (∀ wX, Below wI.heap.size wI wX → Calls Tryz.prog 25 #[.agg #[.int .i64 p.x, .int .i64 p.y], .agg #[.slice rx ry rz]] wX fun e w' => e = .returned (.bool r) ∧ Below wX.heap.size wX w') := Lib.hid (fun wX hX => by
                      have := In_region p rx ry rz (G.getD k []) wX (hrr.later hX (Nat.le_refl _))
                      rw [← HRR.out] at this
                      exact this)
                    have HAH : Hid (∀ wX, Below wI.heap.size wI wX → Calls Tryz.prog 26 #[.slice aa la ac, .int .i64 (k : Int)] wX fun e w' => e = .returned (.bool r) ∧ Below wX.heap.size wX w') := Lib.hid (fun wX hX => by
                      have := among_any aa la ac _ (k : Int) wX (HLI.out wX hX).1 (by have := HLAB.out; omega)
                      rw [has_any p G k (by rw [HL.out]; exact HKN.out), ← HRR.out] at this
                      exact this)
                    have HAN : Hid (r = true → ∀ wX, Below wI.heap.size wI wX → Calls Tryz.prog 26 #[.slice ba lb bc, .int .i64 (k : Int)] wX fun e w' => e = .returned (.bool true) ∧ Below wX.heap.size wX w') := Lib.hid (fun hrt wX hX => by
                      have := among_any ba lb bc _ (k : Int) wX (HLI.out wX hX).2 (by have := HLAB.out; omega)
                      rw [near_any p G k (by rw [HL.out]; exact HKN.out) HOK.out (by rw [← HRR.out]; exact hrt)] at this
                      exact this)
                    have HCI : Hid (∀ wX, Below wI.heap.size wI wX → wX.cell? ⟨bp, 0, none⟩ = some (.int .i64 p.x) ∧ wX.cell? ⟨bp, 1, none⟩ = some (.int .i64 p.y) ∧ wX.cell? ⟨bl, ol + k, none⟩ = some (.slice rx ry rz)) := Lib.hid (fun wX hX => by
                      obtain ⟨d0, d1⟩ := HQ2.out wX (HTZ.out.trans (HTI9.out.trans (Two.of hX)))
                      exact ⟨d0, d1, (hX.cell (p := ⟨bl, ol + k, none⟩) (block_lt_of_cell e0)).trans e0⟩)
                    have hHI := Lib.hid (And.intro hk5 hk0)
                    clear hxI htI e0 hrr c0 c1 HIN
                    go_wp2_with fail
                    clear hk5 hk0
                    cases r with
                    | true =>
                      have HANT := Lib.hid (HAN.out rfl)
                      have HOKR : ∀ f ∈ ([] : List Fct), FctOk f := by
                        intro f hf; cases hf
                      refine wp_region_J (s := [(148, 0), (149, 1), (150, 2), (151, 3), (152, 4), (153, 5), (154, 6), (155, 7), (156, 8), (157, 9), (158, 10), (159, 11), (160, 12), (161, 13), (162, 14), (163, 15), (164, 16), (165, 17), (166, 18), (167, 19), (168, 20), (169, 21), (170, 22), (171, 23), (172, 24), (173, 25), (174, 26), (175, 27)]) (by kernel_rfl) (GrowJ wI (fun iX => match iX with | 0 => some (.int .i64 0) | 1 => some (.bool false) | 2 => some (.bool false) | 3 => some (.bool true) | 4 => some (.agg #[.int .i64 p.x, .int .i64 p.y]) | 5 => some (.slice (some ⟨bl, ol, none⟩) n cap) | 6 => some (.int .i64 (k : Int)) | 7 => some (.pointer (some ⟨bl, ol + k, none⟩)) | 8 => some (.agg #[.slice rx ry rz]) | 9 => some (.bool true) | 10 => some (.bool false) | 11 => some (.bool false) | 12 => some (.bool false) | 13 => some (.bool true) | 14 => some (.slice aa la ac) | 15 => some (.int .i64 (k : Int)) | 16 => some (.bool true) | 17 => some (.bool false) | 18 => some (.bool false) | 19 => some (.bool false) | 20 => some (.bool true) | 21 => some (.bool true) | 22 => some (.slice ba lb bc) | 23 => some (.int .i64 (k : Int)) | 24 => some (.bool true) | 25 => some (.bool false) | 26 => some (.bool false) | 27 => some (.bool false) | _ => none) []) (by kernel_rfl) (by kernel_rfl) (by kernel_rfl) (by kernel_rfl) (fun _ => undef) ?start27qt ?step27qt ?done27qt
                      case start27qt => exact GrowJ.start ((Below.refl _ _).drew)
                      case step27qt =>
                        refine ⟨?o27t_0, ?o27t_1, ?o27t_2, ?o27t_3, ?o27t_4, ?o27t_5, ?o27t_6, ?o27t_7, ?o27t_8, ?o27t_9, ?o27t_10, ?o27t_11, ?o27t_12, ?o27t_13, ?o27t_14, ?o27t_15, ?o27t_16, ?o27t_17, ?o27t_18, ?o27t_19, ?o27t_20, ?o27t_21, ?o27t_22, ?o27t_23, ?o27t_24, ?o27t_25, ?o27t_26, ?o27t_27, trivial⟩
                        case o27t_0 =>
                          intro LX V aX wX K hl hp hcl hf hJ hK
                          have t22 : aX.tmps[22]? = some (.int .i64 0) := hf.old (by kernel_rfl) rfl
                          rw [if_pos (by rfl)]
                          go_simp
                          exact hK _ _ (hJ.val HOKR 0 _ (by kernel_rfl) rfl (Below.refl _ _))
                        case o27t_1 =>
                          intro LX V aX wX K hl hp hcl hf hJ hK
                          have t148 := hf.in (i := 0) (d := 148) (by kernel_rfl) (hp 0 (by kernel_rfl)) (hJ.vals 0 _ rfl (hp 0 (by kernel_rfl)))
                          rw [if_pos (by rfl)]
                          go_simp
                          exact hK _ _ (hJ.val HOKR 1 _ (by kernel_rfl) rfl (Below.refl _ _))
                        case o27t_2 =>
                          intro LX V aX wX K hl hp hcl hf hJ hK
                          have t149 := hf.in (i := 1) (d := 149) (by kernel_rfl) (hp 1 (by kernel_rfl)) (hJ.vals 1 _ rfl (hp 1 (by kernel_rfl)))
                          rw [if_pos (by rfl)]
                          go_simp
                          exact hK _ _ (hJ.val HOKR 2 _ (by kernel_rfl) rfl (Below.refl _ _))
                        case o27t_3 =>
                          intro LX V aX wX K hl hp hcl hf hJ hK
                          have t21 : aX.tmps[21]? = some (.bool true) := hf.old (by kernel_rfl) rfl
                          have t150 := hf.in (i := 2) (d := 150) (by kernel_rfl) (hp 2 (by kernel_rfl)) (hJ.vals 2 _ rfl (hp 2 (by kernel_rfl)))
                          rw [if_pos (wanted_of rfl rfl t150)]
                          go_simp
                          exact hK _ _ (hJ.val HOKR 3 _ (by kernel_rfl) rfl (Below.refl _ _))
                        case o27t_4 =>
                          intro LX V aX wX K hl hp hcl hf hJ hK
                          have t4 : aX.tmps[4]? = some (.pointer (some ⟨bp, 0, none⟩)) := hf.old (by kernel_rfl) rfl
                          have t150 := hf.in (i := 2) (d := 150) (by kernel_rfl) (hp 2 (by kernel_rfl)) (hJ.vals 2 _ rfl (hp 2 (by kernel_rfl)))
                          obtain ⟨c0, c1, c2⟩ := HCI.out wX hJ.below
                          rw [if_pos (wanted_of rfl rfl t150)]
                          go_simp
                          exact hK _ _ (hJ.val HOKR 4 _ (by kernel_rfl) rfl (Below.refl _ _))
                        case o27t_5 =>
                          intro LX V aX wX K hl hp hcl hf hJ hK
                          have t0 : aX.tmps[0]? = some (.slice (some ⟨bl, ol, none⟩) n cap) := hf.old (by kernel_rfl) rfl
                          have t150 := hf.in (i := 2) (d := 150) (by kernel_rfl) (hp 2 (by kernel_rfl)) (hJ.vals 2 _ rfl (hp 2 (by kernel_rfl)))
                          rw [if_pos (wanted_of rfl rfl t150)]
                          go_simp
                          exact hK _ _ (hJ.val HOKR 5 _ (by kernel_rfl) rfl (Below.refl _ _))
                        case o27t_6 =>
                          intro LX V aX wX K hl hp hcl hf hJ hK
                          have t20 : aX.tmps[20]? = some (.int .i64 (k : Int)) := hf.old (by kernel_rfl) rfl
                          have t150 := hf.in (i := 2) (d := 150) (by kernel_rfl) (hp 2 (by kernel_rfl)) (hJ.vals 2 _ rfl (hp 2 (by kernel_rfl)))
                          rw [if_pos (wanted_of rfl rfl t150)]
                          go_simp
                          exact hK _ _ (hJ.val HOKR 6 _ (by kernel_rfl) rfl (Below.refl _ _))
                        case o27t_7 =>
                          intro LX V aX wX K hl hp hcl hf hJ hK
                          have t153 := hf.in (i := 5) (d := 153) (by kernel_rfl) (hp 5 (by kernel_rfl)) (hJ.vals 5 _ rfl (hp 5 (by kernel_rfl)))
                          have t154 := hf.in (i := 6) (d := 154) (by kernel_rfl) (hp 6 (by kernel_rfl)) (hJ.vals 6 _ rfl (hp 6 (by kernel_rfl)))
                          have t150 := hf.in (i := 2) (d := 150) (by kernel_rfl) (hp 2 (by kernel_rfl)) (hJ.vals 2 _ rfl (hp 2 (by kernel_rfl)))
                          obtain ⟨hk5, hk0⟩ := hHI.out
                          rw [if_pos (wanted_of rfl rfl t150)]
                          go_simp
                          exact hK _ _ (hJ.val HOKR 7 _ (by kernel_rfl) rfl (Below.refl _ _))
                        case o27t_8 =>
                          intro LX V aX wX K hl hp hcl hf hJ hK
                          have t155 := hf.in (i := 7) (d := 155) (by kernel_rfl) (hp 7 (by kernel_rfl)) (hJ.vals 7 _ rfl (hp 7 (by kernel_rfl)))
                          have t150 := hf.in (i := 2) (d := 150) (by kernel_rfl) (hp 2 (by kernel_rfl)) (hJ.vals 2 _ rfl (hp 2 (by kernel_rfl)))
                          obtain ⟨c0, c1, c2⟩ := HCI.out wX hJ.below
                          rw [if_pos (wanted_of rfl rfl t150)]
                          go_simp
                          exact hK _ _ (hJ.val HOKR 8 _ (by kernel_rfl) rfl (Below.refl _ _))
                        case o27t_9 =>
                          intro LX V aX wX K hl hp hcl hf hJ hK
                          have t152 := hf.in (i := 4) (d := 152) (by kernel_rfl) (hp 4 (by kernel_rfl)) (hJ.vals 4 _ rfl (hp 4 (by kernel_rfl)))
                          have t156 := hf.in (i := 8) (d := 156) (by kernel_rfl) (hp 8 (by kernel_rfl)) (hJ.vals 8 _ rfl (hp 8 (by kernel_rfl)))
                          have t150 := hf.in (i := 2) (d := 150) (by kernel_rfl) (hp 2 (by kernel_rfl)) (hJ.vals 2 _ rfl (hp 2 (by kernel_rfl)))
                          rw [if_pos (wanted_of rfl rfl t150)]
                          go_simp
                          refine (HRI.out _ hJ.below).mono ?_
                          rintro e wA ⟨rfl, hbA⟩
                          exact hK _ _ (hJ.val HOKR 9 _ (by kernel_rfl) rfl (hbA))
                        case o27t_10 =>
                          intro LX V aX wX K hl hp hcl hf hJ hK
                          have t151 := hf.in (i := 3) (d := 151) (by kernel_rfl) (hp 3 (by kernel_rfl)) (hJ.vals 3 _ rfl (hp 3 (by kernel_rfl)))
                          have t157 := hf.in (i := 9) (d := 157) (by kernel_rfl) (hp 9 (by kernel_rfl)) (hJ.vals 9 _ rfl (hp 9 (by kernel_rfl)))
                          have t150 := hf.in (i := 2) (d := 150) (by kernel_rfl) (hp 2 (by kernel_rfl)) (hJ.vals 2 _ rfl (hp 2 (by kernel_rfl)))
                          rw [if_pos (wanted_of rfl rfl t150)]
                          go_simp
                          exact hK _ _ (hJ.val HOKR 10 _ (by kernel_rfl) rfl (Below.refl _ _))
                        case o27t_11 =>
                          intro LX V aX wX K hl hp hcl hf hJ hK
                          have t150 := hf.in (i := 2) (d := 150) (by kernel_rfl) (hp 2 (by kernel_rfl)) (hJ.vals 2 _ rfl (hp 2 (by kernel_rfl)))
                          have t158 := hf.in (i := 10) (d := 158) (by kernel_rfl) (hp 10 (by kernel_rfl)) (hJ.vals 10 _ rfl (hp 10 (by kernel_rfl)))
                          rw [if_pos (by rfl)]
                          go_simp
                          exact hK _ _ (hJ.val HOKR 11 _ (by kernel_rfl) rfl (Below.refl _ _))
                        case o27t_12 =>
                          intro LX V aX wX K hl hp hcl hf hJ hK
                          have t159 := hf.in (i := 11) (d := 159) (by kernel_rfl) (hp 11 (by kernel_rfl)) (hJ.vals 11 _ rfl (hp 11 (by kernel_rfl)))
                          rw [if_pos (by rfl)]
                          go_simp
                          exact hK _ _ (hJ.val HOKR 12 _ (by kernel_rfl) rfl (Below.refl _ _))
                        case o27t_13 =>
                          intro LX V aX wX K hl hp hcl hf hJ hK
                          have t21 : aX.tmps[21]? = some (.bool true) := hf.old (by kernel_rfl) rfl
                          have t160 := hf.in (i := 12) (d := 160) (by kernel_rfl) (hp 12 (by kernel_rfl)) (hJ.vals 12 _ rfl (hp 12 (by kernel_rfl)))
                          rw [if_pos (wanted_of rfl rfl t160)]
                          go_simp
                          exact hK _ _ (hJ.val HOKR 13 _ (by kernel_rfl) rfl (Below.refl _ _))
                        case o27t_14 =>
                          intro LX V aX wX K hl hp hcl hf hJ hK
                          have t18 : aX.tmps[18]? = some (.slice aa la ac) := hf.old (by kernel_rfl) rfl
                          have t160 := hf.in (i := 12) (d := 160) (by kernel_rfl) (hp 12 (by kernel_rfl)) (hJ.vals 12 _ rfl (hp 12 (by kernel_rfl)))
                          rw [if_pos (wanted_of rfl rfl t160)]
                          go_simp
                          exact hK _ _ (hJ.val HOKR 14 _ (by kernel_rfl) rfl (Below.refl _ _))
                        case o27t_15 =>
                          intro LX V aX wX K hl hp hcl hf hJ hK
                          have t20 : aX.tmps[20]? = some (.int .i64 (k : Int)) := hf.old (by kernel_rfl) rfl
                          have t160 := hf.in (i := 12) (d := 160) (by kernel_rfl) (hp 12 (by kernel_rfl)) (hJ.vals 12 _ rfl (hp 12 (by kernel_rfl)))
                          rw [if_pos (wanted_of rfl rfl t160)]
                          go_simp
                          exact hK _ _ (hJ.val HOKR 15 _ (by kernel_rfl) rfl (Below.refl _ _))
                        case o27t_16 =>
                          intro LX V aX wX K hl hp hcl hf hJ hK
                          have t162 := hf.in (i := 14) (d := 162) (by kernel_rfl) (hp 14 (by kernel_rfl)) (hJ.vals 14 _ rfl (hp 14 (by kernel_rfl)))
                          have t163 := hf.in (i := 15) (d := 163) (by kernel_rfl) (hp 15 (by kernel_rfl)) (hJ.vals 15 _ rfl (hp 15 (by kernel_rfl)))
                          have t160 := hf.in (i := 12) (d := 160) (by kernel_rfl) (hp 12 (by kernel_rfl)) (hJ.vals 12 _ rfl (hp 12 (by kernel_rfl)))
                          rw [if_pos (wanted_of rfl rfl t160)]
                          go_simp
                          refine (HAH.out _ hJ.below).mono ?_
                          rintro e wA ⟨rfl, hbA⟩
                          exact hK _ _ (hJ.val HOKR 16 _ (by kernel_rfl) rfl (hbA))
                        case o27t_17 =>
                          intro LX V aX wX K hl hp hcl hf hJ hK
                          have t161 := hf.in (i := 13) (d := 161) (by kernel_rfl) (hp 13 (by kernel_rfl)) (hJ.vals 13 _ rfl (hp 13 (by kernel_rfl)))
                          have t164 := hf.in (i := 16) (d := 164) (by kernel_rfl) (hp 16 (by kernel_rfl)) (hJ.vals 16 _ rfl (hp 16 (by kernel_rfl)))
                          have t160 := hf.in (i := 12) (d := 160) (by kernel_rfl) (hp 12 (by kernel_rfl)) (hJ.vals 12 _ rfl (hp 12 (by kernel_rfl)))
                          rw [if_pos (wanted_of rfl rfl t160)]
                          go_simp
                          exact hK _ _ (hJ.val HOKR 17 _ (by kernel_rfl) rfl (Below.refl _ _))
                        case o27t_18 =>
                          intro LX V aX wX K hl hp hcl hf hJ hK
                          have t160 := hf.in (i := 12) (d := 160) (by kernel_rfl) (hp 12 (by kernel_rfl)) (hJ.vals 12 _ rfl (hp 12 (by kernel_rfl)))
                          have t165 := hf.in (i := 17) (d := 165) (by kernel_rfl) (hp 17 (by kernel_rfl)) (hJ.vals 17 _ rfl (hp 17 (by kernel_rfl)))
                          rw [if_pos (by rfl)]
                          go_simp
                          exact hK _ _ (hJ.val HOKR 18 _ (by kernel_rfl) rfl (Below.refl _ _))
                        case o27t_19 =>
                          intro LX V aX wX K hl hp hcl hf hJ hK
                          have t166 := hf.in (i := 18) (d := 166) (by kernel_rfl) (hp 18 (by kernel_rfl)) (hJ.vals 18 _ rfl (hp 18 (by kernel_rfl)))
                          rw [if_pos (by rfl)]
                          go_simp
                          exact hK _ _ (hJ.val HOKR 19 _ (by kernel_rfl) rfl (Below.refl _ _))
                        case o27t_20 =>
                          intro LX V aX wX K hl hp hcl hf hJ hK
                          have t21 : aX.tmps[21]? = some (.bool true) := hf.old (by kernel_rfl) rfl
                          have t167 := hf.in (i := 19) (d := 167) (by kernel_rfl) (hp 19 (by kernel_rfl)) (hJ.vals 19 _ rfl (hp 19 (by kernel_rfl)))
                          rw [if_pos (wanted_of rfl rfl t167)]
                          go_simp
                          exact hK _ _ (hJ.val HOKR 20 _ (by kernel_rfl) rfl (Below.refl _ _))
                        case o27t_21 =>
                          intro LX V aX wX K hl hp hcl hf hJ hK
                          have t168 := hf.in (i := 20) (d := 168) (by kernel_rfl) (hp 20 (by kernel_rfl)) (hJ.vals 20 _ rfl (hp 20 (by kernel_rfl)))
                          have t167 := hf.in (i := 19) (d := 167) (by kernel_rfl) (hp 19 (by kernel_rfl)) (hJ.vals 19 _ rfl (hp 19 (by kernel_rfl)))
                          rw [if_pos (wanted_of rfl rfl t167)]
                          go_simp
                          exact hK _ _ (hJ.val HOKR 21 _ (by kernel_rfl) rfl (Below.refl _ _))
                        case o27t_22 =>
                          intro LX V aX wX K hl hp hcl hf hJ hK
                          have t19 : aX.tmps[19]? = some (.slice ba lb bc) := hf.old (by kernel_rfl) rfl
                          have t169 := hf.in (i := 21) (d := 169) (by kernel_rfl) (hp 21 (by kernel_rfl)) (hJ.vals 21 _ rfl (hp 21 (by kernel_rfl)))
                          rw [if_pos (wanted_of rfl rfl t169)]
                          go_simp
                          exact hK _ _ (hJ.val HOKR 22 _ (by kernel_rfl) rfl (Below.refl _ _))
                        case o27t_23 =>
                          intro LX V aX wX K hl hp hcl hf hJ hK
                          have t20 : aX.tmps[20]? = some (.int .i64 (k : Int)) := hf.old (by kernel_rfl) rfl
                          have t169 := hf.in (i := 21) (d := 169) (by kernel_rfl) (hp 21 (by kernel_rfl)) (hJ.vals 21 _ rfl (hp 21 (by kernel_rfl)))
                          rw [if_pos (wanted_of rfl rfl t169)]
                          go_simp
                          exact hK _ _ (hJ.val HOKR 23 _ (by kernel_rfl) rfl (Below.refl _ _))
                        case o27t_24 =>
                          intro LX V aX wX K hl hp hcl hf hJ hK
                          have t170 := hf.in (i := 22) (d := 170) (by kernel_rfl) (hp 22 (by kernel_rfl)) (hJ.vals 22 _ rfl (hp 22 (by kernel_rfl)))
                          have t171 := hf.in (i := 23) (d := 171) (by kernel_rfl) (hp 23 (by kernel_rfl)) (hJ.vals 23 _ rfl (hp 23 (by kernel_rfl)))
                          have t169 := hf.in (i := 21) (d := 169) (by kernel_rfl) (hp 21 (by kernel_rfl)) (hJ.vals 21 _ rfl (hp 21 (by kernel_rfl)))
                          rw [if_pos (wanted_of rfl rfl t169)]
                          go_simp
                          refine (HANT.out _ hJ.below).mono ?_
                          rintro e wA ⟨rfl, hbA⟩
                          exact hK _ _ (hJ.val HOKR 24 _ (by kernel_rfl) rfl (hbA))
                        case o27t_25 =>
                          intro LX V aX wX K hl hp hcl hf hJ hK
                          have t172 := hf.in (i := 24) (d := 172) (by kernel_rfl) (hp 24 (by kernel_rfl)) (hJ.vals 24 _ rfl (hp 24 (by kernel_rfl)))
                          have t169 := hf.in (i := 21) (d := 169) (by kernel_rfl) (hp 21 (by kernel_rfl)) (hJ.vals 21 _ rfl (hp 21 (by kernel_rfl)))
                          rw [if_pos (wanted_of rfl rfl t169)]
                          go_simp
                          exact hK _ _ (hJ.val HOKR 25 _ (by kernel_rfl) rfl (Below.refl _ _))
                        case o27t_26 =>
                          intro LX V aX wX K hl hp hcl hf hJ hK
                          have t169 := hf.in (i := 21) (d := 169) (by kernel_rfl) (hp 21 (by kernel_rfl)) (hJ.vals 21 _ rfl (hp 21 (by kernel_rfl)))
                          have t173 := hf.in (i := 25) (d := 173) (by kernel_rfl) (hp 25 (by kernel_rfl)) (hJ.vals 25 _ rfl (hp 25 (by kernel_rfl)))
                          have t167 := hf.in (i := 19) (d := 167) (by kernel_rfl) (hp 19 (by kernel_rfl)) (hJ.vals 19 _ rfl (hp 19 (by kernel_rfl)))
                          rw [if_pos (wanted_of rfl rfl t167)]
                          go_simp
                          exact hK _ _ (hJ.val HOKR 26 _ (by kernel_rfl) rfl (Below.refl _ _))
                        case o27t_27 =>
                          intro LX V aX wX K hl hp hcl hf hJ hK
                          have t167 := hf.in (i := 19) (d := 167) (by kernel_rfl) (hp 19 (by kernel_rfl)) (hJ.vals 19 _ rfl (hp 19 (by kernel_rfl)))
                          have t174 := hf.in (i := 26) (d := 174) (by kernel_rfl) (hp 26 (by kernel_rfl)) (hJ.vals 26 _ rfl (hp 26 (by kernel_rfl)))
                          rw [if_pos (by rfl)]
                          go_simp
                          exact hK _ _ (hJ.val HOKR 27 _ (by kernel_rfl) rfl (Below.refl _ _))
                      intro V wZ hJ
                      have hv := hJ.vals 27 _ rfl (by kernel_rfl)
                      have HBZ := Lib.hid hJ.below
                      simp only [puts, Act.put, List.setIfInBounds_toArray, List.set_cons_zero, List.set_cons_succ]
                      rw [hv]
                      clear hJ HOKR hv
                      obtain ⟨hk5, hk0⟩ := hHI.out
                      go_wp2_with fail
                      go_roundw
                      case rel => exact ⟨k + 1, by omega, by go_num, Lib.hid (HXI.out.later HBZ.out), Lib.hid (HTI9.out.trans (Two.of HBZ.out))⟩
                      case measure => simp [intOf]; omega
                    | false =>
                      have HOKR : ∀ f ∈ ([] : List Fct), FctOk f := by
                        intro f hf; cases hf
                      refine wp_region_J (s := [(148, 0), (149, 1), (150, 2), (151, 3), (152, 4), (153, 5), (154, 6), (155, 7), (156, 8), (157, 9), (158, 10), (159, 11), (160, 12), (161, 13), (162, 14), (163, 15), (164, 16), (165, 17), (166, 18), (167, 19), (168, 20), (169, 21), (170, 22), (171, 23), (172, 24), (173, 25), (174, 26), (175, 27)]) (by kernel_rfl) (GrowJ wI (fun iX => match iX with | 0 => some (.int .i64 0) | 1 => some (.bool false) | 2 => some (.bool false) | 3 => some (.bool false) | 4 => some (.agg #[.int .i64 p.x, .int .i64 p.y]) | 5 => some (.slice (some ⟨bl, ol, none⟩) n cap) | 6 => some (.int .i64 (k : Int)) | 7 => some (.pointer (some ⟨bl, ol + k, none⟩)) | 8 => some (.agg #[.slice rx ry rz]) | 9 => some (.bool false) | 10 => some (.bool false) | 11 => some (.bool false) | 12 => some (.bool false) | 13 => some (.bool false) | 14 => some (.slice aa la ac) | 15 => some (.int .i64 (k : Int)) | 16 => some (.bool false) | 17 => some (.bool false) | 18 => some (.bool false) | 19 => some (.bool false) | 20 => some (.bool false) | 21 => some (.bool false) | 22 => some (undef) | 23 => some (undef) | 24 => some (undef) | 25 => some (undef) | 26 => some (.bool false) | 27 => some (.bool false) | _ => none) []) (by kernel_rfl) (by kernel_rfl) (by kernel_rfl) (by kernel_rfl) (fun _ => undef) ?start27q ?step27q ?done27q
                      case start27q => exact GrowJ.start ((Below.refl _ _).drew)
                      case step27q =>
                        refine ⟨?o27q_0, ?o27q_1, ?o27q_2, ?o27q_3, ?o27q_4, ?o27q_5, ?o27q_6, ?o27q_7, ?o27q_8, ?o27q_9, ?o27q_10, ?o27q_11, ?o27q_12, ?o27q_13, ?o27q_14, ?o27q_15, ?o27q_16, ?o27q_17, ?o27q_18, ?o27q_19, ?o27q_20, ?o27q_21, ?o27q_22, ?o27q_23, ?o27q_24, ?o27q_25, ?o27q_26, ?o27q_27, trivial⟩
                        case o27q_0 =>
                          intro LX V aX wX K hl hp hcl hf hJ hK
                          have t22 : aX.tmps[22]? = some (.int .i64 0) := hf.old (by kernel_rfl) rfl
                          rw [if_pos (by rfl)]
                          go_simp
                          exact hK _ _ (hJ.val HOKR 0 _ (by kernel_rfl) rfl (Below.refl _ _))
                        case o27q_1 =>
                          intro LX V aX wX K hl hp hcl hf hJ hK
                          have t148 := hf.in (i := 0) (d := 148) (by kernel_rfl) (hp 0 (by kernel_rfl)) (hJ.vals 0 _ rfl (hp 0 (by kernel_rfl)))
                          rw [if_pos (by rfl)]
                          go_simp
                          exact hK _ _ (hJ.val HOKR 1 _ (by kernel_rfl) rfl (Below.refl _ _))
                        case o27q_2 =>
                          intro LX V aX wX K hl hp hcl hf hJ hK
                          have t149 := hf.in (i := 1) (d := 149) (by kernel_rfl) (hp 1 (by kernel_rfl)) (hJ.vals 1 _ rfl (hp 1 (by kernel_rfl)))
                          rw [if_pos (by rfl)]
                          go_simp
                          exact hK _ _ (hJ.val HOKR 2 _ (by kernel_rfl) rfl (Below.refl _ _))
                        case o27q_3 =>
                          intro LX V aX wX K hl hp hcl hf hJ hK
                          have t21 : aX.tmps[21]? = some (.bool false) := hf.old (by kernel_rfl) rfl
                          have t150 := hf.in (i := 2) (d := 150) (by kernel_rfl) (hp 2 (by kernel_rfl)) (hJ.vals 2 _ rfl (hp 2 (by kernel_rfl)))
                          rw [if_pos (wanted_of rfl rfl t150)]
                          go_simp
                          exact hK _ _ (hJ.val HOKR 3 _ (by kernel_rfl) rfl (Below.refl _ _))
                        case o27q_4 =>
                          intro LX V aX wX K hl hp hcl hf hJ hK
                          have t4 : aX.tmps[4]? = some (.pointer (some ⟨bp, 0, none⟩)) := hf.old (by kernel_rfl) rfl
                          have t150 := hf.in (i := 2) (d := 150) (by kernel_rfl) (hp 2 (by kernel_rfl)) (hJ.vals 2 _ rfl (hp 2 (by kernel_rfl)))
                          obtain ⟨c0, c1, c2⟩ := HCI.out wX hJ.below
                          rw [if_pos (wanted_of rfl rfl t150)]
                          go_simp
                          exact hK _ _ (hJ.val HOKR 4 _ (by kernel_rfl) rfl (Below.refl _ _))
                        case o27q_5 =>
                          intro LX V aX wX K hl hp hcl hf hJ hK
                          have t0 : aX.tmps[0]? = some (.slice (some ⟨bl, ol, none⟩) n cap) := hf.old (by kernel_rfl) rfl
                          have t150 := hf.in (i := 2) (d := 150) (by kernel_rfl) (hp 2 (by kernel_rfl)) (hJ.vals 2 _ rfl (hp 2 (by kernel_rfl)))
                          rw [if_pos (wanted_of rfl rfl t150)]
                          go_simp
                          exact hK _ _ (hJ.val HOKR 5 _ (by kernel_rfl) rfl (Below.refl _ _))
                        case o27q_6 =>
                          intro LX V aX wX K hl hp hcl hf hJ hK
                          have t20 : aX.tmps[20]? = some (.int .i64 (k : Int)) := hf.old (by kernel_rfl) rfl
                          have t150 := hf.in (i := 2) (d := 150) (by kernel_rfl) (hp 2 (by kernel_rfl)) (hJ.vals 2 _ rfl (hp 2 (by kernel_rfl)))
                          rw [if_pos (wanted_of rfl rfl t150)]
                          go_simp
                          exact hK _ _ (hJ.val HOKR 6 _ (by kernel_rfl) rfl (Below.refl _ _))
                        case o27q_7 =>
                          intro LX V aX wX K hl hp hcl hf hJ hK
                          have t153 := hf.in (i := 5) (d := 153) (by kernel_rfl) (hp 5 (by kernel_rfl)) (hJ.vals 5 _ rfl (hp 5 (by kernel_rfl)))
                          have t154 := hf.in (i := 6) (d := 154) (by kernel_rfl) (hp 6 (by kernel_rfl)) (hJ.vals 6 _ rfl (hp 6 (by kernel_rfl)))
                          have t150 := hf.in (i := 2) (d := 150) (by kernel_rfl) (hp 2 (by kernel_rfl)) (hJ.vals 2 _ rfl (hp 2 (by kernel_rfl)))
                          obtain ⟨hk5, hk0⟩ := hHI.out
                          rw [if_pos (wanted_of rfl rfl t150)]
                          go_simp
                          exact hK _ _ (hJ.val HOKR 7 _ (by kernel_rfl) rfl (Below.refl _ _))
                        case o27q_8 =>
                          intro LX V aX wX K hl hp hcl hf hJ hK
                          have t155 := hf.in (i := 7) (d := 155) (by kernel_rfl) (hp 7 (by kernel_rfl)) (hJ.vals 7 _ rfl (hp 7 (by kernel_rfl)))
                          have t150 := hf.in (i := 2) (d := 150) (by kernel_rfl) (hp 2 (by kernel_rfl)) (hJ.vals 2 _ rfl (hp 2 (by kernel_rfl)))
                          obtain ⟨c0, c1, c2⟩ := HCI.out wX hJ.below
                          rw [if_pos (wanted_of rfl rfl t150)]
                          go_simp
                          exact hK _ _ (hJ.val HOKR 8 _ (by kernel_rfl) rfl (Below.refl _ _))
                        case o27q_9 =>
                          intro LX V aX wX K hl hp hcl hf hJ hK
                          have t152 := hf.in (i := 4) (d := 152) (by kernel_rfl) (hp 4 (by kernel_rfl)) (hJ.vals 4 _ rfl (hp 4 (by kernel_rfl)))
                          have t156 := hf.in (i := 8) (d := 156) (by kernel_rfl) (hp 8 (by kernel_rfl)) (hJ.vals 8 _ rfl (hp 8 (by kernel_rfl)))
                          have t150 := hf.in (i := 2) (d := 150) (by kernel_rfl) (hp 2 (by kernel_rfl)) (hJ.vals 2 _ rfl (hp 2 (by kernel_rfl)))
                          rw [if_pos (wanted_of rfl rfl t150)]
                          go_simp
                          refine (HRI.out _ hJ.below).mono ?_
                          rintro e wA ⟨rfl, hbA⟩
                          exact hK _ _ (hJ.val HOKR 9 _ (by kernel_rfl) rfl (hbA))
                        case o27q_10 =>
                          intro LX V aX wX K hl hp hcl hf hJ hK
                          have t151 := hf.in (i := 3) (d := 151) (by kernel_rfl) (hp 3 (by kernel_rfl)) (hJ.vals 3 _ rfl (hp 3 (by kernel_rfl)))
                          have t157 := hf.in (i := 9) (d := 157) (by kernel_rfl) (hp 9 (by kernel_rfl)) (hJ.vals 9 _ rfl (hp 9 (by kernel_rfl)))
                          have t150 := hf.in (i := 2) (d := 150) (by kernel_rfl) (hp 2 (by kernel_rfl)) (hJ.vals 2 _ rfl (hp 2 (by kernel_rfl)))
                          rw [if_pos (wanted_of rfl rfl t150)]
                          go_simp
                          exact hK _ _ (hJ.val HOKR 10 _ (by kernel_rfl) rfl (Below.refl _ _))
                        case o27q_11 =>
                          intro LX V aX wX K hl hp hcl hf hJ hK
                          have t150 := hf.in (i := 2) (d := 150) (by kernel_rfl) (hp 2 (by kernel_rfl)) (hJ.vals 2 _ rfl (hp 2 (by kernel_rfl)))
                          have t158 := hf.in (i := 10) (d := 158) (by kernel_rfl) (hp 10 (by kernel_rfl)) (hJ.vals 10 _ rfl (hp 10 (by kernel_rfl)))
                          rw [if_pos (by rfl)]
                          go_simp
                          exact hK _ _ (hJ.val HOKR 11 _ (by kernel_rfl) rfl (Below.refl _ _))
                        case o27q_12 =>
                          intro LX V aX wX K hl hp hcl hf hJ hK
                          have t159 := hf.in (i := 11) (d := 159) (by kernel_rfl) (hp 11 (by kernel_rfl)) (hJ.vals 11 _ rfl (hp 11 (by kernel_rfl)))
                          rw [if_pos (by rfl)]
                          go_simp
                          exact hK _ _ (hJ.val HOKR 12 _ (by kernel_rfl) rfl (Below.refl _ _))
                        case o27q_13 =>
                          intro LX V aX wX K hl hp hcl hf hJ hK
                          have t21 : aX.tmps[21]? = some (.bool false) := hf.old (by kernel_rfl) rfl
                          have t160 := hf.in (i := 12) (d := 160) (by kernel_rfl) (hp 12 (by kernel_rfl)) (hJ.vals 12 _ rfl (hp 12 (by kernel_rfl)))
                          rw [if_pos (wanted_of rfl rfl t160)]
                          go_simp
                          exact hK _ _ (hJ.val HOKR 13 _ (by kernel_rfl) rfl (Below.refl _ _))
                        case o27q_14 =>
                          intro LX V aX wX K hl hp hcl hf hJ hK
                          have t18 : aX.tmps[18]? = some (.slice aa la ac) := hf.old (by kernel_rfl) rfl
                          have t160 := hf.in (i := 12) (d := 160) (by kernel_rfl) (hp 12 (by kernel_rfl)) (hJ.vals 12 _ rfl (hp 12 (by kernel_rfl)))
                          rw [if_pos (wanted_of rfl rfl t160)]
                          go_simp
                          exact hK _ _ (hJ.val HOKR 14 _ (by kernel_rfl) rfl (Below.refl _ _))
                        case o27q_15 =>
                          intro LX V aX wX K hl hp hcl hf hJ hK
                          have t20 : aX.tmps[20]? = some (.int .i64 (k : Int)) := hf.old (by kernel_rfl) rfl
                          have t160 := hf.in (i := 12) (d := 160) (by kernel_rfl) (hp 12 (by kernel_rfl)) (hJ.vals 12 _ rfl (hp 12 (by kernel_rfl)))
                          rw [if_pos (wanted_of rfl rfl t160)]
                          go_simp
                          exact hK _ _ (hJ.val HOKR 15 _ (by kernel_rfl) rfl (Below.refl _ _))
                        case o27q_16 =>
                          intro LX V aX wX K hl hp hcl hf hJ hK
                          have t162 := hf.in (i := 14) (d := 162) (by kernel_rfl) (hp 14 (by kernel_rfl)) (hJ.vals 14 _ rfl (hp 14 (by kernel_rfl)))
                          have t163 := hf.in (i := 15) (d := 163) (by kernel_rfl) (hp 15 (by kernel_rfl)) (hJ.vals 15 _ rfl (hp 15 (by kernel_rfl)))
                          have t160 := hf.in (i := 12) (d := 160) (by kernel_rfl) (hp 12 (by kernel_rfl)) (hJ.vals 12 _ rfl (hp 12 (by kernel_rfl)))
                          rw [if_pos (wanted_of rfl rfl t160)]
                          go_simp
                          refine (HAH.out _ hJ.below).mono ?_
                          rintro e wA ⟨rfl, hbA⟩
                          exact hK _ _ (hJ.val HOKR 16 _ (by kernel_rfl) rfl (hbA))
                        case o27q_17 =>
                          intro LX V aX wX K hl hp hcl hf hJ hK
                          have t161 := hf.in (i := 13) (d := 161) (by kernel_rfl) (hp 13 (by kernel_rfl)) (hJ.vals 13 _ rfl (hp 13 (by kernel_rfl)))
                          have t164 := hf.in (i := 16) (d := 164) (by kernel_rfl) (hp 16 (by kernel_rfl)) (hJ.vals 16 _ rfl (hp 16 (by kernel_rfl)))
                          have t160 := hf.in (i := 12) (d := 160) (by kernel_rfl) (hp 12 (by kernel_rfl)) (hJ.vals 12 _ rfl (hp 12 (by kernel_rfl)))
                          rw [if_pos (wanted_of rfl rfl t160)]
                          go_simp
                          exact hK _ _ (hJ.val HOKR 17 _ (by kernel_rfl) rfl (Below.refl _ _))
                        case o27q_18 =>
                          intro LX V aX wX K hl hp hcl hf hJ hK
                          have t160 := hf.in (i := 12) (d := 160) (by kernel_rfl) (hp 12 (by kernel_rfl)) (hJ.vals 12 _ rfl (hp 12 (by kernel_rfl)))
                          have t165 := hf.in (i := 17) (d := 165) (by kernel_rfl) (hp 17 (by kernel_rfl)) (hJ.vals 17 _ rfl (hp 17 (by kernel_rfl)))
                          rw [if_pos (by rfl)]
                          go_simp
                          exact hK _ _ (hJ.val HOKR 18 _ (by kernel_rfl) rfl (Below.refl _ _))
                        case o27q_19 =>
                          intro LX V aX wX K hl hp hcl hf hJ hK
                          have t166 := hf.in (i := 18) (d := 166) (by kernel_rfl) (hp 18 (by kernel_rfl)) (hJ.vals 18 _ rfl (hp 18 (by kernel_rfl)))
                          rw [if_pos (by rfl)]
                          go_simp
                          exact hK _ _ (hJ.val HOKR 19 _ (by kernel_rfl) rfl (Below.refl _ _))
                        case o27q_20 =>
                          intro LX V aX wX K hl hp hcl hf hJ hK
                          have t21 : aX.tmps[21]? = some (.bool false) := hf.old (by kernel_rfl) rfl
                          have t167 := hf.in (i := 19) (d := 167) (by kernel_rfl) (hp 19 (by kernel_rfl)) (hJ.vals 19 _ rfl (hp 19 (by kernel_rfl)))
                          rw [if_pos (wanted_of rfl rfl t167)]
                          go_simp
                          exact hK _ _ (hJ.val HOKR 20 _ (by kernel_rfl) rfl (Below.refl _ _))
                        case o27q_21 =>
                          intro LX V aX wX K hl hp hcl hf hJ hK
                          have t168 := hf.in (i := 20) (d := 168) (by kernel_rfl) (hp 20 (by kernel_rfl)) (hJ.vals 20 _ rfl (hp 20 (by kernel_rfl)))
                          have t167 := hf.in (i := 19) (d := 167) (by kernel_rfl) (hp 19 (by kernel_rfl)) (hJ.vals 19 _ rfl (hp 19 (by kernel_rfl)))
                          rw [if_pos (wanted_of rfl rfl t167)]
                          go_simp
                          exact hK _ _ (hJ.val HOKR 21 _ (by kernel_rfl) rfl (Below.refl _ _))
                        case o27q_22 =>
                          intro LX V aX wX K hl hp hcl hf hJ hK
                          have t169 := hf.in (i := 21) (d := 169) (by kernel_rfl) (hp 21 (by kernel_rfl)) (hJ.vals 21 _ rfl (hp 21 (by kernel_rfl)))
                          rw [if_neg (by rw [wanted_not (b := true) rfl rfl t169]; exact Bool.false_ne_true)]
                          exact hK _ _ (hJ.val HOKR 22 _ (by kernel_rfl) rfl (Below.refl _ _))
                        case o27q_23 =>
                          intro LX V aX wX K hl hp hcl hf hJ hK
                          have t169 := hf.in (i := 21) (d := 169) (by kernel_rfl) (hp 21 (by kernel_rfl)) (hJ.vals 21 _ rfl (hp 21 (by kernel_rfl)))
                          rw [if_neg (by rw [wanted_not (b := true) rfl rfl t169]; exact Bool.false_ne_true)]
                          exact hK _ _ (hJ.val HOKR 23 _ (by kernel_rfl) rfl (Below.refl _ _))
                        case o27q_24 =>
                          intro LX V aX wX K hl hp hcl hf hJ hK
                          have t169 := hf.in (i := 21) (d := 169) (by kernel_rfl) (hp 21 (by kernel_rfl)) (hJ.vals 21 _ rfl (hp 21 (by kernel_rfl)))
                          rw [if_neg (by rw [wanted_not (b := true) rfl rfl t169]; exact Bool.false_ne_true)]
                          exact hK _ _ (hJ.val HOKR 24 _ (by kernel_rfl) rfl (Below.refl _ _))
                        case o27q_25 =>
                          intro LX V aX wX K hl hp hcl hf hJ hK
                          have t169 := hf.in (i := 21) (d := 169) (by kernel_rfl) (hp 21 (by kernel_rfl)) (hJ.vals 21 _ rfl (hp 21 (by kernel_rfl)))
                          rw [if_neg (by rw [wanted_not (b := true) rfl rfl t169]; exact Bool.false_ne_true)]
                          exact hK _ _ (hJ.val HOKR 25 _ (by kernel_rfl) rfl (Below.refl _ _))
                        case o27q_26 =>
                          intro LX V aX wX K hl hp hcl hf hJ hK
                          have t169 := hf.in (i := 21) (d := 169) (by kernel_rfl) (hp 21 (by kernel_rfl)) (hJ.vals 21 _ rfl (hp 21 (by kernel_rfl)))
                          have t173 := hf.in (i := 25) (d := 173) (by kernel_rfl) (hp 25 (by kernel_rfl)) (hJ.vals 25 _ rfl (hp 25 (by kernel_rfl)))
                          have t167 := hf.in (i := 19) (d := 167) (by kernel_rfl) (hp 19 (by kernel_rfl)) (hJ.vals 19 _ rfl (hp 19 (by kernel_rfl)))
                          rw [if_pos (wanted_of rfl rfl t167)]
                          go_simp
                          exact hK _ _ (hJ.val HOKR 26 _ (by kernel_rfl) rfl (Below.refl _ _))
                        case o27q_27 =>
                          intro LX V aX wX K hl hp hcl hf hJ hK
                          have t167 := hf.in (i := 19) (d := 167) (by kernel_rfl) (hp 19 (by kernel_rfl)) (hJ.vals 19 _ rfl (hp 19 (by kernel_rfl)))
                          have t174 := hf.in (i := 26) (d := 174) (by kernel_rfl) (hp 26 (by kernel_rfl)) (hJ.vals 26 _ rfl (hp 26 (by kernel_rfl)))
                          rw [if_pos (by rfl)]
                          go_simp
                          exact hK _ _ (hJ.val HOKR 27 _ (by kernel_rfl) rfl (Below.refl _ _))
                      intro V wZ hJ
                      have hv := hJ.vals 27 _ rfl (by kernel_rfl)
                      have HBZ := Lib.hid hJ.below
                      simp only [puts, Act.put, List.setIfInBounds_toArray, List.set_cons_zero, List.set_cons_succ]
                      rw [hv]
                      clear hJ HOKR hv
                      obtain ⟨hk5, hk0⟩ := hHI.out
                      go_wp2_with fail
                      go_roundw
                      case rel => exact ⟨k + 1, by omega, by go_num, Lib.hid (HXI.out.later HBZ.out), Lib.hid (HTI9.out.trans (Two.of HBZ.out))⟩
                      case measure => simp [intOf]; omega
                  · have hkn : n = k := by omega
                    subst hkn
                    have hk5 : ¬ (n : Int) < (n : Int) := by omega
                    obtain ⟨wE, hwE⟩ : ∃ x, x = wr := ⟨_, rfl⟩
                    subst hwE
                    have HTE := Lib.hid (HTZ.out.trans HT9.out)
                    have HYE : Hid (IdxOn (fun _ => False) wE wm.heap.size g2 og2 sg2 (turnG G A)) := Lib.hid (HY8.out.stepB HTE.out.size (fun k h1 h2 _ => HTE.out.block k h2 (by have := HPOS.out; omega) (by have := HPOS.out; omega)) (fun k hk => hk.elim))
                    have HBE := Lib.hid (HT1.out wE HTE.out)
                    have HT2 : Hid (∀ wX, Two og2 sg2 wE wX → Below W0.heap.size W0 wX) := Lib.hid (fun wX hX => HBE.out.trans (hX.below (by have := HPOS.out; have := HBM.out.size; omega) (by have := HPOS.out; have := HBM.out.size; omega) HBE.out.size))
                    clear HX9
                    go_wp2_with fail
                    go_loopw [23] (fun kv wr => ∃ k : Nat, k ≤ n ∧ kv = .int .i64 k ∧ Hid (IdxOn (fun _ => False) wr wm.heap.size g2 og2 sg2 (turnG G A)) ∧ Hid (Two og2 sg2 wE wr)) (fun kv _ => n - (intOf kv).toNat)
                    case atStart => exact ⟨0, by omega, rfl, HYE, Two.refl _ _ _⟩
                    case round =>
                      obtain ⟨k, hk, rfl, HYK, HTK⟩ := hrel
                      have hk0 : (0 : Int) ≤ (k : Int) := by omega
                      by_cases hlt : k < n
                      · have hk5 : (k : Int) < (n : Int) := by omega
                        have hwk : IntKind.i64.wrap ((k : Int) + 1) = (k : Int) + 1 := IntWalk.i64_in _ (by omega)
                        obtain ⟨r, hr⟩ : ∃ r, r = inR p ((turnG G A).getD k []) := ⟨_, rfl⟩
                        obtain ⟨av, hav⟩ : ∃ a, a = A.getD k 0 := ⟨_, rfl⟩
                        have hgal : ga < wm.heap.size := by
                          rcases HGAM.out with h | h
                          · exact h
                          · omega
                        have HC2 : Hid (∀ wX, Two og2 sg2 wE wX → wX.cell? ⟨bp, 0, none⟩ = some (.int .i64 p.x) ∧ wX.cell? ⟨bp, 1, none⟩ = some (.int .i64 p.y) ∧ wX.cell? ⟨ga, k, none⟩ = some (.int .i64 av)) := Lib.hid (fun wX hX => by
                          obtain ⟨d0, d1⟩ := HPC.out wX (HT2.out wX hX)
                          refine ⟨d0, d1, ?_⟩
                          have hP := HPOS.out
                          have h1 := HAI8.out.cellAt HTA.out.1 hlt
                          rw [← hav] at h1
                          rw [cell_of_same (hX.block ga (by have := HTE.out.size; omega) (by omega) (by omega)), cell_of_same (HTE.out.block ga (by omega) (by omega) (by omega))]
                          exact h1)
                        have HLX : Hid (∀ wX, Two og2 sg2 wE wX → IsInts wX aa la ac (askG (inR p) G)) := Lib.hid (fun wX hX => (HLAI.out wX (by have h1 := HT9.out.size; have h2 := hX.size; omega) (fun q h1 h2 => by
                          have hP := HPOS.out
                          have h3 := HT9.out.size
                          rw [hX.block q (by omega) (by omega) (by omega), HT9.out.block q h2 (by omega) (by omega)])).1)
                        have HRAV : Hid ((askG (inR p) G).any (fun y => y == av) = r) := Lib.hid (by
                          have h1 := HTA.out.2 k hlt
                          rw [← hav] at h1
                          rw [askG_any, hr, HGET.out.2.1 k hlt, ← hav]
                          unfold inAt regI
                          rw [HL.out, decide_eq_true h1.1, decide_eq_true h1.2]
                          rfl)
                        have HRK : Hid ((askG (inR p) (turnG G A)).any (fun y => y == (k : Int)) = r) := Lib.hid (by
                          rw [has_any p (turnG G A) k (by rw [HGET.out.1]; exact hlt), hr])
                        have HAA : Hid (∀ wX, (IdxOn (fun _ => False) wX wm.heap.size g2 og2 sg2 (turnG G A) ∧ Two og2 sg2 wE wX) → Calls Tryz.prog 12 #[.pointer (some ⟨g2, 0, none⟩), .agg #[.int .i64 p.x, .int .i64 p.y]] wX fun e w' => ∃ a, e = .returned a ∧ AskAX (fun _ => False) p wm.heap.size g2 og2 sg2 (turnG G A) wE a w') := Lib.hid (fun wX hX => ask_aX _ p wm.heap.size g2 og2 sg2 (turnG G A) wE wX hX (fun k hk => hk.elim))
                        have HKI := Lib.hid (And.intro hk5 hk0)
                        clear hr hav hgal
                        go_wp2_with fail
                        clear hk5 hk0
                        refine wp_region_J (s := [(182, 0), (183, 1), (184, 2), (185, 3), (186, 4), (187, 5), (188, 6), (189, 7), (190, 8), (191, 9), (192, 10), (193, 11)]) (by kernel_rfl) (ChainJ (fun iX => match iX with | 0 => some (.pointer (some ⟨g2, 0, none⟩)) | 1 => some (.agg #[.int .i64 p.x, .int .i64 p.y]) | 3 => some (.int .i64 (k : Int)) | 5 => some (.slice aa la ac) | 6 => some (.slice (some ⟨ga, 0, none⟩) n n) | 7 => some (.int .i64 (k : Int)) | 8 => some (.pointer (some ⟨ga, k, none⟩)) | 9 => some (.int .i64 av) | _ => none) [2, 4, 10, 11] (StM p wm.heap.size g2 og2 sg2 (turnG G A) r wE)) (by kernel_rfl) (by kernel_rfl) (by kernel_rfl) (by kernel_rfl) (fun _ => undef) ?start32q ?step32q ?done32q
                        case start32q => exact ChainJ.start (⟨HYK.out.later ((Below.refl _ _).drew), HTK.out.trans (Two.of ((Below.refl _ _).drew))⟩)
                        case step32q =>
                          refine ⟨?o32q_0, ?o32q_1, ?o32q_2, ?o32q_3, ?o32q_4, ?o32q_5, ?o32q_6, ?o32q_7, ?o32q_8, ?o32q_9, ?o32q_10, ?o32q_11, trivial⟩
                          case o32q_0 =>
                            intro LX V aX wX K hl hp hcl hf hJ hK
                            have t16 : aX.tmps[16]? = some (.pointer (some ⟨g2, 0, none⟩)) := hf.old (by kernel_rfl) rfl
                            rw [if_pos (by rfl)]
                            go_simp
                            exact hK _ _ (hJ.val 0 _ (by kernel_rfl) rfl (fun _ h => h))
                          case o32q_1 =>
                            intro LX V aX wX K hl hp hcl hf hJ hK
                            have t4 : aX.tmps[4]? = some (.pointer (some ⟨bp, 0, none⟩)) := hf.old (by kernel_rfl) rfl
                            obtain ⟨vs, hlen, hS⟩ := hJ.upto 2 (by decide) (hcl.no 10 (by kernel_rfl) (hcl.no 4 (by kernel_rfl) (hcl.no 2 (by kernel_rfl) (hl))))
                            have hTT := StM.two hS
                            obtain ⟨c0, c1, c2⟩ := HC2.out wX hTT
                            clear hTT
                            rw [if_pos (by rfl)]
                            go_simp
                            exact hK _ _ (hJ.val 1 _ (by kernel_rfl) rfl (fun _ h => h))
                          case o32q_2 =>
                            intro LX V aX wX K hl hp hcl hf hJ hK
                            have t182 := hf.in (i := 0) (d := 182) (by kernel_rfl) (hp 0 (by kernel_rfl)) (hJ.vals 0 _ rfl (hp 0 (by kernel_rfl)))
                            have t183 := hf.in (i := 1) (d := 183) (by kernel_rfl) (hp 1 (by kernel_rfl)) (hJ.vals 1 _ rfl (hp 1 (by kernel_rfl)))
                            rw [if_pos (by rfl)]
                            obtain ⟨vs, hlen, hvs, hS, hn⟩ := hJ.next (by kernel_rfl) 0 (by kernel_rfl) hl (.inl rfl) rfl
                            match vs, hlen, hvs, hS, hn with
                            | [], _, hvs, hS, hn =>
                              have HS7 := Lib.hid hS
                              clear hS
                              go_simp
                              refine (HAA.out wX HS7.out).mono ?_
                              rintro e wA ⟨a, rfl, hA⟩
                              exact hK _ _ (hn _ _ hA)
                          case o32q_3 =>
                            intro LX V aX wX K hl hp hcl hf hJ hK
                            have t23 : aX.tmps[23]? = some (.int .i64 (k : Int)) := hf.old (by kernel_rfl) rfl
                            rw [if_pos (by rfl)]
                            go_simp
                            exact hK _ _ (hJ.val 3 _ (by kernel_rfl) rfl (fun _ h => h))
                          case o32q_4 =>
                            intro LX V aX wX K hl hp hcl hf hJ hK
                            have t184 := hf.in (i := 2) (d := 184) (by kernel_rfl) (hp 2 (by kernel_rfl)) rfl
                            have t185 := hf.in (i := 3) (d := 185) (by kernel_rfl) (hp 3 (by kernel_rfl)) (hJ.vals 3 _ rfl (hp 3 (by kernel_rfl)))
                            rw [if_pos (by rfl)]
                            obtain ⟨vs, hlen, hvs, hS, hn⟩ := hJ.next (by kernel_rfl) 1 (by kernel_rfl) hl (.inr (hp 2 (by kernel_rfl))) rfl
                            match vs, hlen, hvs, hS, hn with
                            | [a0], _, hvs, hS, hn =>
                              have e0 : V 2 = a0 := hvs 0 (by decide)
                              have HS7 := Lib.hid hS
                              clear hS
                              obtain ⟨a9, c9, e9, i9⟩ := HS7.out.1.ints
                              have HI9 := Lib.hid i9
                              rw [e0, e9] at t184
                              obtain ⟨l9, hl9⟩ : ∃ m, m = (askG (inR p) (turnG G A)).length := ⟨_, rfl⟩
                              rw [← hl9] at t184
                              have hl20 : l9 ≤ 1000000000 := by
                                rw [hl9]
                                have h1 : (askG (inR p) (turnG G A)).length ≤ (allI (turnG G A).length).length := List.length_filter_le _ _
                                rw [allI_len, HGET.out.1] at h1
                                omega
                              have hmm := among_any a9 l9 c9 _ (k : Int) wX (by rw [hl9]; exact HI9.out) hl20
                              rw [HRK.out] at hmm
                              have HMM := Lib.hid hmm
                              clear i9 hl9 hmm hl20
                              go_simp
                              refine HMM.out.mono ?_
                              rintro e wA ⟨rfl, hbA⟩
                              exact hK _ _ (hn _ _ ⟨rfl, HS7.out.2.1.later hbA, HS7.out.2.2.trans (Two.of hbA)⟩)
                          case o32q_5 =>
                            intro LX V aX wX K hl hp hcl hf hJ hK
                            have t18 : aX.tmps[18]? = some (.slice aa la ac) := hf.old (by kernel_rfl) rfl
                            rw [if_pos (by rfl)]
                            go_simp
                            exact hK _ _ (hJ.val 5 _ (by kernel_rfl) rfl (fun _ h => h))
                          case o32q_6 =>
                            intro LX V aX wX K hl hp hcl hf hJ hK
                            have t11 : aX.tmps[11]? = some (.slice (some ⟨ga, 0, none⟩) n n) := hf.old (by kernel_rfl) rfl
                            rw [if_pos (by rfl)]
                            go_simp
                            exact hK _ _ (hJ.val 6 _ (by kernel_rfl) rfl (fun _ h => h))
                          case o32q_7 =>
                            intro LX V aX wX K hl hp hcl hf hJ hK
                            have t23 : aX.tmps[23]? = some (.int .i64 (k : Int)) := hf.old (by kernel_rfl) rfl
                            rw [if_pos (by rfl)]
                            go_simp
                            exact hK _ _ (hJ.val 7 _ (by kernel_rfl) rfl (fun _ h => h))
                          case o32q_8 =>
                            intro LX V aX wX K hl hp hcl hf hJ hK
                            have t188 := hf.in (i := 6) (d := 188) (by kernel_rfl) (hp 6 (by kernel_rfl)) (hJ.vals 6 _ rfl (hp 6 (by kernel_rfl)))
                            have t189 := hf.in (i := 7) (d := 189) (by kernel_rfl) (hp 7 (by kernel_rfl)) (hJ.vals 7 _ rfl (hp 7 (by kernel_rfl)))
                            obtain ⟨hk5, hk0⟩ := HKI.out
                            rw [if_pos (by rfl)]
                            go_simp
                            exact hK _ _ (hJ.val 8 _ (by kernel_rfl) rfl (fun _ h => h))
                          case o32q_9 =>
                            intro LX V aX wX K hl hp hcl hf hJ hK
                            have t190 := hf.in (i := 8) (d := 190) (by kernel_rfl) (hp 8 (by kernel_rfl)) (hJ.vals 8 _ rfl (hp 8 (by kernel_rfl)))
                            obtain ⟨vs, hlen, hS⟩ := hJ.upto 2 (by decide) (hcl.no 10 (by kernel_rfl) hl)
                            have hTT := StM.two hS
                            obtain ⟨c0, c1, c2⟩ := HC2.out wX hTT
                            clear hTT
                            rw [if_pos (by rfl)]
                            go_simp
                            exact hK _ _ (hJ.val 9 _ (by kernel_rfl) rfl (fun _ h => h))
                          case o32q_10 =>
                            intro LX V aX wX K hl hp hcl hf hJ hK
                            have t187 := hf.in (i := 5) (d := 187) (by kernel_rfl) (hp 5 (by kernel_rfl)) (hJ.vals 5 _ rfl (hp 5 (by kernel_rfl)))
                            have t191 := hf.in (i := 9) (d := 191) (by kernel_rfl) (hp 9 (by kernel_rfl)) (hJ.vals 9 _ rfl (hp 9 (by kernel_rfl)))
                            rw [if_pos (by rfl)]
                            obtain ⟨vs, hlen, hvs, hS, hn⟩ := hJ.next (by kernel_rfl) 2 (by kernel_rfl) hl (.inr (hp 4 (by kernel_rfl))) rfl
                            match vs, hlen, hvs, hS, hn with
                            | [a0, a1], _, hvs, hS, hn =>
                              have e0 : V 2 = a0 := hvs 0 (by decide)
                              have e1 : V 4 = a1 := hvs 1 (by decide)
                              have HS7 := Lib.hid hS
                              clear hS
                              have hmm := among_any aa la ac _ av wX (HLX.out wX HS7.out.2.2) (by have := HLAB.out; omega)
                              rw [HRAV.out] at hmm
                              have HMM := Lib.hid hmm
                              clear hmm
                              go_simp
                              refine HMM.out.mono ?_
                              rintro e wA ⟨rfl, hbA⟩
                              exact hK _ _ (hn _ _ ⟨rfl, HS7.out.1, HS7.out.2.1.later hbA, HS7.out.2.2.trans (Two.of hbA)⟩)
                          case o32q_11 =>
                            intro LX V aX wX K hl hp hcl hf hJ hK
                            have t186 := hf.in (i := 4) (d := 186) (by kernel_rfl) (hp 4 (by kernel_rfl)) rfl
                            have t192 := hf.in (i := 10) (d := 192) (by kernel_rfl) (hp 10 (by kernel_rfl)) rfl
                            rw [if_pos (by rfl)]
                            obtain ⟨vs, hlen, hvs, hS, hn⟩ := hJ.next (by kernel_rfl) 3 (by kernel_rfl) hl (.inr (hp 10 (by kernel_rfl))) rfl
                            match vs, hlen, hvs, hS, hn with
                            | [a0, a1, a2], _, hvs, hS, hn =>
                              have e0 : V 2 = a0 := hvs 0 (by decide)
                              have e1 : V 4 = a1 := hvs 1 (by decide)
                              have e2 : V 10 = a2 := hvs 2 (by decide)
                              have HS7 := Lib.hid hS
                              clear hS
                              rw [e1, HS7.out.2.1] at t186
                              rw [e2, HS7.out.1] at t192
                              have hrn : (r != r) = false := by simp
                              have hre : (r == r) = true := by simp
                              go_simp
                              exact hK _ _ (hn _ _ ⟨by first | rfl | simp, HS7.out.2.2⟩)
                        intro V wZ hJ
                        obtain ⟨vs, hlen, hvs, hS⟩ := hJ.all (by kernel_rfl)
                        match vs, hlen, hvs, hS with
                        | [a0, a1, a2, a3], _, hvs, hS =>
                          have e0 : V 2 = a0 := hvs 0 (by decide)
                          have e1 : V 4 = a1 := hvs 1 (by decide)
                          have e2 : V 10 = a2 := hvs 2 (by decide)
                          have e3 : V 11 = a3 := hvs 3 (by decide)
                          have HSU := Lib.hid hS
                          simp only [puts, Act.put, List.setIfInBounds_toArray, List.set_cons_zero, List.set_cons_succ]
                          rw [e3]
                          clear hJ hvs e0 e1 e2 e3 hS
                          obtain ⟨rfl, hyy, hty⟩ := HSU.out
                          have HYY := Lib.hid (And.intro hyy hty)
                          obtain ⟨hk5, hk0⟩ := HKI.out
                          clear hyy hty HSU
                          go_wp2_with fail
                          go_roundw
                          case rel => exact ⟨k + 1, by omega, by go_num, Lib.hid HYY.out.1, Lib.hid HYY.out.2⟩
                          case measure => simp [intOf]; omega
                      · have hkn : n = k := by omega
                        subst hkn
                        have hk5 : ¬ (n : Int) < (n : Int) := by omega
                        go_wp2_with fail
                        go_ret
                        exact ⟨rfl, HB0.out.trans ((HT2.out wr HTK.out).mono HB0.out.size)⟩
end Go.Proofs.YtjiiikeniocmfaaGreat

/- layer 16: words.cut (printed by mkcut16.py) -/
import Derived.Test.YtbgihfjagfbfgaaDoorMWCut0
import Derived.Carry
set_option linter.unusedSimpArgs false
set_option linter.unusedVariables false
namespace Go.Proofs.YtbgihfjagfbfgaaDoor
open Go.RowKit Go.Words
attribute [local go_sem] Oper.semAt_some
theorem cutM_cells {W W2 : World} {g3 m1 m2 : Nat} {S : List Wd} {F G : Wd → Option Wd} {lg sh : Wd} {w : World} (vs : List Value) (h : CutM W W2 g3 m1 m2 S F G lg sh vs w) : w.cell? ⟨g3, 0, none⟩ = some (.map (some m1)) ∧ w.cell? ⟨g3, 1, none⟩ = some (.map (some m2)) := by
  match vs, h with
  | [], h => exact ⟨(CutSt.cells h).1, (CutSt.cells h).2.1⟩
  | [_], h => exact ⟨(CutSt.cells h).1, (CutSt.cells h).2.1⟩
  | [_, _], h => exact ⟨(CutSt.cells h).1, (CutSt.cells h).2.1⟩
  | _ :: _ :: _ :: _, h => exact ⟨(CutSt.cells h).1, (CutSt.cells h).2.1⟩
set_option maxRecDepth 100000 in
set_option maxHeartbeats 4000000 in
theorem cut_any (T : Wd) (fi : List Wd) (P : List Pr) (w : World) (h : Tb w) (hfi : Lib.fields T = fi) (hP : cutP T = P) (hT : T.length ≤ 100000) (ha : T.all (fun b => decide (b.toNat < 128)) = true) (hn : P.length ≤ 1000) (hlen : fi.all (fun f => decide (f.length ≤ 1000)) = true) :
    Calls Tryd.prog 21 #[sV T] w (CutR P w) := by
  have HT := Lib.hid h
  have HF : Hid (∀ wX, Below w.heap.size w wX → Calls Tryd.prog 22 #[sV T] wX fun e w' => e = .returned (.slice (some ⟨wX.heap.size, 0, none⟩) fi.length fi.length) ∧ w' = wX.alloc (.cells (flatS fi).toArray 9)) := Lib.hid (fun wX hX => by
    have := Fields_any T wX (h.later hX) (by omega) ha
    rw [hfi] at this
    exact this)
  clear h
  have hmm := @run_makeMap Tryd.prog
  go_enter Tryd.func21, Tryd.ntmps21
  go_wp2_with fail
  obtain ⟨a2, a3, a4, a5, a6⟩ := alloc4 w (Obj.cells #[.map none, .map none, .slice none 0 0] 39) (Obj.map #[] 0) (Obj.map #[] 0) (Obj.cells #[.map (some (w.heap.size + 1)), .map (some (w.heap.size + 1 + 1)), .slice none 0 0] 39)
  obtain ⟨W1, hW1⟩ : ∃ W, W = (((w.alloc (Obj.cells #[.map none, .map none, .slice none 0 0] 39)).alloc (Obj.map #[] 0)).alloc (Obj.map #[] 0)).alloc (Obj.cells #[.map (some (w.heap.size + 1)), .map (some (w.heap.size + 1 + 1)), .slice none 0 0] 39) := ⟨_, rfl⟩
  have hb1 : Below w.heap.size w W1 := by
    rw [hW1]
    exact ((((Below.refl w.heap.size w).alloc (Nat.le_refl _) _).alloc (by simp) _).alloc (by simp; omega) _).alloc (by simp; omega) _
  rw [← hW1] at a2 a3 a4 a5 a6 ⊢
  clear hW1
  obtain ⟨g2, hg2⟩ : ∃ g, g = w.heap.size := ⟨_, rfl⟩
  obtain ⟨g3, hg3⟩ : ∃ g, g = w.heap.size + 1 + 1 + 1 := ⟨_, rfl⟩
  obtain ⟨m2, hm2⟩ : ∃ g, g = w.heap.size + 1 + 1 := ⟨_, rfl⟩
  obtain ⟨m1, hm1⟩ : ∃ g, g = w.heap.size + 1 := ⟨_, rfl⟩
  rw [← hg3, ← hm2, ← hm1] at a5
  rw [← hm2] at a4
  rw [← hm1] at a3
  rw [← hg2] at a2
  obtain ⟨W2, hW2⟩ : ∃ W, W = W1.alloc (.cells (flatS fi).toArray 9) := ⟨_, rfl⟩
  obtain ⟨ga, hga⟩ : ∃ g, g = W1.heap.size := ⟨_, rfl⟩
  obtain ⟨n, hn2⟩ : ∃ n, n = fi.length := ⟨_, rfl⟩
  have hnP : P.length = n := by rw [← hP, hn2, ← hfi]; unfold cutP; simp
  have hb2 : Below W1.heap.size W1 W2 := by rw [hW2]; exact (Below.refl _ _).alloc (Nat.le_refl _) _
  have hW2s : W2.heap.size = w.heap.size + 5 := by rw [hW2]; simp; omega
  have hf2 : W2.heap[ga]? = some (.cells (flatS fi).toArray 9 (0, 0)) := by rw [hW2, hga]; exact alloc_new _ _
  have HA : Hid (CutAt w W2 g3 m1 m2) := Lib.hid ⟨by omega, by omega, by omega, by omega, by omega, by omega, by omega, by omega, by omega⟩
  have hlow : ∀ k, k < W1.heap.size → W2.heap[k]? = W1.heap[k]? := fun k hk => hb2.block k hk
  have hnone : MapIs W2 m1 (fun _ => none) ∧ MapIs W2 m2 (fun _ => none) := ⟨⟨[], 0, (hlow m1 (by omega)).trans a3, fun _ => rfl⟩, ⟨[], 0, (hlow m2 (by omega)).trans a4, fun _ => rfl⟩⟩
  have hst0 : CutSt w W2 g3 m1 m2 [] (fun _ => none) (fun _ => none) W2 := ⟨⟨_, (hlow g3 (by omega)).trans a5, OwnS.nil _ _⟩, hnone.1, hnone.2, fun _ _ _ _ _ => rfl, Nat.le_refl _, hb1.trans (hb2.mono hb1.size)⟩
  have HST0 := Lib.hid hst0
  have HG2 : Hid (W2.heap[g2]? = some (.cells #[.map none, .map none, .slice none 0 0] 39 (0, 0)) ∧ g2 < W2.heap.size ∧ g2 ≠ m1 ∧ g2 ≠ m2 ∧ g2 ≠ g3 ∧ w.heap.size ≤ g2) := Lib.hid ⟨(hlow g2 (by omega)).trans a2, by omega, by omega, by omega, by omega, by omega⟩
  have HFI : Hid (∀ wX S F G, CutSt w W2 g3 m1 m2 S F G wX → ∀ i, i < n → wX.cell? ⟨ga, i, none⟩ = some (sV (fi.getD i []))) := Lib.hid (fun wX S F G hS i hi => by
    have h1 := (hS.keep ga (by omega) (by omega) (by omega) (by omega)).trans hf2
    refine (cell_of_row _ _ _ _ _ _ h1).trans ?_
    simpa using flatS_get fi i (by omega))
  have HP2 : Hid (∀ i, i < n → P.getD i pr0 = (Lib.replaceAll (Lib.cut (fi.getD i []) [61]).1 [95] [32], (Lib.cut (fi.getD i []) [61]).2.1) ∧ (fi.getD i []).length ≤ 1000) := Lib.hid (fun i hi => by
    have hif : i < fi.length := by omega
    refine ⟨?_, ?_⟩
    · rw [← hP]
      unfold cutP
      rw [hfi, List.getD_eq_getElem?_getD, List.getElem?_map, List.getD_eq_getElem?_getD, List.getElem?_eq_getElem hif]; rfl
    · rw [List.getD_eq_getElem?_getD, List.getElem?_eq_getElem hif]
      exact of_decide_eq_true (List.all_eq_true.1 hlen _ (List.getElem_mem _)))
  have HNP := Lib.hid hnP
  have HF1 := Lib.hid (HF.out W1 hb1)
  have hn5 : n ≤ 1000 := by omega
  rw [← hg3, ← hm2, ← hm1, ← hg2]
  clear a2 a3 a4 a5 a6 hb1 hb2 hW2s hf2 hlow hnone hst0 hnP hn hlen hP hfi hg2 hg3 hm1 hm2 HF
  refine HF1.out.mono ?_
  rintro e wf ⟨rfl, rfl⟩
  rw [← hW2, ← hga, ← hn2]
  clear hW2 hga hn2
  go_wp2_with fail
  go_loopw [15] (fun iv wr => ∃ i : Nat, i ≤ n ∧ iv = .int .i64 i ∧ Hid (CutSt w W2 g3 m1 m2 ((P.take i).map (·.2)) (shortF (P.take i)) (longF (P.take i)) wr)) (fun iv _ => n - (intOf iv).toNat)
  case atStart => exact ⟨0, by omega, rfl, HST0⟩
  case round =>
    obtain ⟨i, hi, rfl, hst⟩ := hrel
    have HST := hst
    clear hst
    by_cases hlt : i < n
    · have hi5 : (i : Int) < (n : Int) := by omega
      have hi0 : (0 : Int) ≤ (i : Int) := by omega
      have hwi : IntKind.i64.wrap ((i : Int) + 1) = (i : Int) + 1 := IntWalk.i64_in _ (by omega)
      have cf := HFI.out wr _ _ _ HST.out i hlt
      obtain ⟨hpi, hfl⟩ := HP2.out i hlt
      obtain ⟨f, hf⟩ : ∃ f, f = fi.getD i [] := ⟨_, rfl⟩
      rw [← hf] at cf hpi hfl
      have HTR := Lib.hid (HT.out.later HST.out.bel)
      have HCU := Lib.hid (Cut_any f [61] wr HTR.out (by omega))
      have hcl := cut_len f [61]
      obtain ⟨lg0, hlg0⟩ : ∃ x, x = (Lib.cut f [61]).1 := ⟨_, rfl⟩
      obtain ⟨sh, hsh⟩ : ∃ x, x = (Lib.cut f [61]).2.1 := ⟨_, rfl⟩
      obtain ⟨bo, hbo⟩ : ∃ x, x = (Lib.cut f [61]).2.2 := ⟨_, rfl⟩
      rw [← hlg0, ← hsh, ← hbo] at HCU
      rw [← hlg0, ← hsh] at hpi
      rw [← hlg0] at hcl
      obtain ⟨lg, hlg⟩ : ∃ x, x = Lib.replaceAll lg0 [95] [32] := ⟨_, rfl⟩
      rw [← hlg] at hpi
      have HPI := Lib.hid hpi
      have HLG := Lib.hid hlg
      have HL0 : Hid (lg0.length ≤ 1000000) := Lib.hid (by omega)
      obtain ⟨S, hS⟩ : ∃ S, S = (P.take i).map (·.2) := ⟨_, rfl⟩
      obtain ⟨F, hF⟩ : ∃ F, F = shortF (P.take i) := ⟨_, rfl⟩
      obtain ⟨G, hG⟩ : ∃ G, G = longF (P.take i) := ⟨_, rfl⟩
      rw [← hS, ← hF, ← hG] at HST
      have HSFG := Lib.hid (And.intro hS (And.intro hF hG))
      have hsl : S.length ≤ 1000 := by rw [hS]; simp; omega
      have HSL := Lib.hid hsl
      clear hpi hfl hf hcl hlg0 hsh hbo hlg hS hF hG hsl
      go_wp2_with fail
      refine HCU.out.mono ?_
      rintro e wa ⟨rfl, hba⟩
      have HSA := Lib.hid (HST.out.later hba)
      have HRE := Lib.hid (Rep_any lg0 wa (HTR.out.later hba) HL0.out)
      rw [← HLG.out] at HRE
      clear hba cf
      go_wp2_with fail
      refine HRE.out.mono ?_
      rintro e wb ⟨rfl, hbb⟩
      have HS6 := Lib.hid (HSA.out.later hbb)
      clear hbb
      go_wp2_with fail
      refine wp_region_J (s := [(27, 0), (28, 1), (29, 2), (30, 3), (31, 4), (32, 5), (33, 6), (34, 7), (35, 8), (36, 9), (37, 10), (38, 11), (39, 12), (40, 13), (41, 14)]) (by kernel_rfl) (ChainJ (fun iX => match iX with | 0 => some (.pointer (some ⟨g3, 0, none⟩)) | 1 => some (.map (some m1)) | 2 => some (sV lg) | 3 => some (.pointer (some ⟨g3, 0, none⟩)) | 4 => some (.map (some m1)) | 5 => some (sV sh) | 6 => some (.pointer (some ⟨g3, 1, none⟩)) | 7 => some (.map (some m2)) | 8 => some (sV sh) | 9 => some (sV sh) | 10 => some (fV (bs sh)) | 11 => some (sV sh) | 12 => some (fV (bs sh)) | 13 => some (sV lg) | 14 => some (fV (bs lg)) | _ => none) [15, 16, 17] (CutM w W2 g3 m1 m2 S F G lg sh)) (by kernel_rfl) (by kernel_rfl) (by kernel_rfl) (by kernel_rfl) (fun _ => undef) ?start7 ?step7 ?done7
      case start7 => exact ChainJ.start (HS6.out.later ((Below.refl _ _).drew))
      case step7 =>
        refine ⟨?o7_0, ?o7_1, ?o7_2, ?o7_3, ?o7_4, ?o7_5, ?o7_6, ?o7_7, ?o7_8, ?o7_9, ?o7_10, ?o7_11, ?o7_12, ?o7_13, ?o7_14, ?o7_15, ?o7_16, ?o7_17, trivial⟩
        case o7_0 =>
          intro LX V aX wX K hl hp hcl hf hJ hK
          have t3 : aX.tmps[3]? = some (.pointer (some ⟨g3, 0, none⟩)) := hf.old (by kernel_rfl) rfl
          rw [if_pos (by rfl)]
          go_simp
          exact hK _ _ (hJ.val 0 _ (by kernel_rfl) rfl (fun _ h => h))
        case o7_1 =>
          intro LX V aX wX K hl hp hcl hf hJ hK
          have t27 := hf.in (i := 0) (d := 27) (by kernel_rfl) (hp 0 (by kernel_rfl)) (hJ.vals 0 _ rfl (hp 0 (by kernel_rfl)))
          obtain ⟨vs, hlen, hS⟩ := hJ.upto 0 (by decide) (hcl.no 15 (by kernel_rfl) hl)
          have hC := cutM_cells vs hS
          obtain ⟨c0, c1⟩ := hC
          rw [if_pos (by rfl)]
          go_simp
          exact hK _ _ (hJ.val 1 _ (by kernel_rfl) rfl (fun _ h => h))
        case o7_2 =>
          intro LX V aX wX K hl hp hcl hf hJ hK
          have t6 : aX.tmps[6]? = some (sV lg) := hf.old (by kernel_rfl) rfl
          rw [if_pos (by rfl)]
          go_simp
          exact hK _ _ (hJ.val 2 _ (by kernel_rfl) rfl (fun _ h => h))
        case o7_3 =>
          intro LX V aX wX K hl hp hcl hf hJ hK
          have t3 : aX.tmps[3]? = some (.pointer (some ⟨g3, 0, none⟩)) := hf.old (by kernel_rfl) rfl
          rw [if_pos (by rfl)]
          go_simp
          exact hK _ _ (hJ.val 3 _ (by kernel_rfl) rfl (fun _ h => h))
        case o7_4 =>
          intro LX V aX wX K hl hp hcl hf hJ hK
          have t30 := hf.in (i := 3) (d := 30) (by kernel_rfl) (hp 3 (by kernel_rfl)) (hJ.vals 3 _ rfl (hp 3 (by kernel_rfl)))
          obtain ⟨vs, hlen, hS⟩ := hJ.upto 1 (by decide) (hcl.no 16 (by kernel_rfl) hl)
          have hC := cutM_cells vs hS
          obtain ⟨c0, c1⟩ := hC
          rw [if_pos (by rfl)]
          go_simp
          exact hK _ _ (hJ.val 4 _ (by kernel_rfl) rfl (fun _ h => h))
        case o7_5 =>
          intro LX V aX wX K hl hp hcl hf hJ hK
          have t7 : aX.tmps[7]? = some (sV sh) := hf.old (by kernel_rfl) rfl
          rw [if_pos (by rfl)]
          go_simp
          exact hK _ _ (hJ.val 5 _ (by kernel_rfl) rfl (fun _ h => h))
        case o7_6 =>
          intro LX V aX wX K hl hp hcl hf hJ hK
          have t3 : aX.tmps[3]? = some (.pointer (some ⟨g3, 0, none⟩)) := hf.old (by kernel_rfl) rfl
          rw [if_pos (by rfl)]
          go_simp
          exact hK _ _ (hJ.val 6 _ (by kernel_rfl) rfl (fun _ h => h))
        case o7_7 =>
          intro LX V aX wX K hl hp hcl hf hJ hK
          have t33 := hf.in (i := 6) (d := 33) (by kernel_rfl) (hp 6 (by kernel_rfl)) (hJ.vals 6 _ rfl (hp 6 (by kernel_rfl)))
          obtain ⟨vs, hlen, hS⟩ := hJ.upto 2 (by decide) (hcl.no 17 (by kernel_rfl) hl)
          have hC := cutM_cells vs hS
          obtain ⟨c0, c1⟩ := hC
          rw [if_pos (by rfl)]
          go_simp
          exact hK _ _ (hJ.val 7 _ (by kernel_rfl) rfl (fun _ h => h))
        case o7_8 =>
          intro LX V aX wX K hl hp hcl hf hJ hK
          have t7 : aX.tmps[7]? = some (sV sh) := hf.old (by kernel_rfl) rfl
          rw [if_pos (by rfl)]
          go_simp
          exact hK _ _ (hJ.val 8 _ (by kernel_rfl) rfl (fun _ h => h))
        case o7_9 =>
          intro LX V aX wX K hl hp hcl hf hJ hK
          have t7 : aX.tmps[7]? = some (sV sh) := hf.old (by kernel_rfl) rfl
          rw [if_pos (by rfl)]
          go_simp
          exact hK _ _ (hJ.val 9 _ (by kernel_rfl) rfl (fun _ h => h))
        case o7_10 =>
          intro LX V aX wX K hl hp hcl hf hJ hK
          have t36 := hf.in (i := 9) (d := 36) (by kernel_rfl) (hp 9 (by kernel_rfl)) (hJ.vals 9 _ rfl (hp 9 (by kernel_rfl)))
          rw [if_pos (by rfl)]
          go_simp
          exact hK _ _ (hJ.val 10 _ (by kernel_rfl) rfl (fun _ h => h))
        case o7_11 =>
          intro LX V aX wX K hl hp hcl hf hJ hK
          have t7 : aX.tmps[7]? = some (sV sh) := hf.old (by kernel_rfl) rfl
          rw [if_pos (by rfl)]
          go_simp
          exact hK _ _ (hJ.val 11 _ (by kernel_rfl) rfl (fun _ h => h))
        case o7_12 =>
          intro LX V aX wX K hl hp hcl hf hJ hK
          have t38 := hf.in (i := 11) (d := 38) (by kernel_rfl) (hp 11 (by kernel_rfl)) (hJ.vals 11 _ rfl (hp 11 (by kernel_rfl)))
          rw [if_pos (by rfl)]
          go_simp
          exact hK _ _ (hJ.val 12 _ (by kernel_rfl) rfl (fun _ h => h))
        case o7_13 =>
          intro LX V aX wX K hl hp hcl hf hJ hK
          have t6 : aX.tmps[6]? = some (sV lg) := hf.old (by kernel_rfl) rfl
          rw [if_pos (by rfl)]
          go_simp
          exact hK _ _ (hJ.val 13 _ (by kernel_rfl) rfl (fun _ h => h))
        case o7_14 =>
          intro LX V aX wX K hl hp hcl hf hJ hK
          have t40 := hf.in (i := 13) (d := 40) (by kernel_rfl) (hp 13 (by kernel_rfl)) (hJ.vals 13 _ rfl (hp 13 (by kernel_rfl)))
          rw [if_pos (by rfl)]
          go_simp
          exact hK _ _ (hJ.val 14 _ (by kernel_rfl) rfl (fun _ h => h))
        case o7_15 =>
          intro LX V aX wX K hl hp hcl hf hJ hK
          have t28 := hf.in (i := 1) (d := 28) (by kernel_rfl) (hp 1 (by kernel_rfl)) (hJ.vals 1 _ rfl (hp 1 (by kernel_rfl)))
          have t29 := hf.in (i := 2) (d := 29) (by kernel_rfl) (hp 2 (by kernel_rfl)) (hJ.vals 2 _ rfl (hp 2 (by kernel_rfl)))
          have t37 := hf.in (i := 10) (d := 37) (by kernel_rfl) (hp 10 (by kernel_rfl)) (hJ.vals 10 _ rfl (hp 10 (by kernel_rfl)))
          rw [if_pos (by rfl)]
          obtain ⟨vs, hlen, hvs, hS, hn⟩ := hJ.next (by kernel_rfl) 0 (by kernel_rfl) hl (.inl rfl) rfl
          match vs, hlen, hvs, hS, hn with
          | [], _, hvs, hS, hn =>
            obtain ⟨o, hr, hS2⟩ := hS.put1 HA.out lg sh
            go_simp
            exact hK undef _ (hn undef _ hS2)
        case o7_16 =>
          intro LX V aX wX K hl hp hcl hf hJ hK
          have t31 := hf.in (i := 4) (d := 31) (by kernel_rfl) (hp 4 (by kernel_rfl)) (hJ.vals 4 _ rfl (hp 4 (by kernel_rfl)))
          have t32 := hf.in (i := 5) (d := 32) (by kernel_rfl) (hp 5 (by kernel_rfl)) (hJ.vals 5 _ rfl (hp 5 (by kernel_rfl)))
          have t39 := hf.in (i := 12) (d := 39) (by kernel_rfl) (hp 12 (by kernel_rfl)) (hJ.vals 12 _ rfl (hp 12 (by kernel_rfl)))
          rw [if_pos (by rfl)]
          obtain ⟨vs, hlen, hvs, hS, hn⟩ := hJ.next (by kernel_rfl) 1 (by kernel_rfl) hl (.inr (hp 15 (by kernel_rfl))) rfl
          match vs, hlen, hvs, hS, hn with
          | [a0], _, hvs, hS, hn =>
            have e0 : V 15 = a0 := hvs 0 (by decide)
            obtain ⟨o, hr, hS2⟩ := CutSt.put1 hS HA.out sh sh
            go_simp
            exact hK undef _ (hn undef _ hS2)
        case o7_17 =>
          intro LX V aX wX K hl hp hcl hf hJ hK
          have t34 := hf.in (i := 7) (d := 34) (by kernel_rfl) (hp 7 (by kernel_rfl)) (hJ.vals 7 _ rfl (hp 7 (by kernel_rfl)))
          have t35 := hf.in (i := 8) (d := 35) (by kernel_rfl) (hp 8 (by kernel_rfl)) (hJ.vals 8 _ rfl (hp 8 (by kernel_rfl)))
          have t41 := hf.in (i := 14) (d := 41) (by kernel_rfl) (hp 14 (by kernel_rfl)) (hJ.vals 14 _ rfl (hp 14 (by kernel_rfl)))
          rw [if_pos (by rfl)]
          obtain ⟨vs, hlen, hvs, hS, hn⟩ := hJ.next (by kernel_rfl) 2 (by kernel_rfl) hl (.inr (hp 16 (by kernel_rfl))) rfl
          match vs, hlen, hvs, hS, hn with
          | [a0, a1], _, hvs, hS, hn =>
            have e0 : V 15 = a0 := hvs 0 (by decide)
            have e1 : V 16 = a1 := hvs 1 (by decide)
            obtain ⟨o, hr, hS2⟩ := CutSt.put2 hS HA.out sh lg
            go_simp
            exact hK undef _ (hn undef _ hS2)
      intro V wZ hJ
      obtain ⟨vs, hlen, hvs, hS⟩ := hJ.all (by kernel_rfl)
      match vs, hlen, hvs, hS with
      | [a0, a1, a2], _, hvs, hS =>
        have e0 : V 15 = a0 := hvs 0 (by decide)
        have e1 : V 16 = a1 := hvs 1 (by decide)
        have e2 : V 17 = a2 := hvs 2 (by decide)
        have HS7 : Hid (CutSt w W2 g3 m1 m2 S (upW (upW F lg sh) sh sh) (upW G sh lg) wZ) := Lib.hid hS
        simp only [puts, Act.put, List.setIfInBounds_toArray, List.set_cons_zero, List.set_cons_succ]
        clear hJ hvs hS
        obtain ⟨d0, d1, v, d2, hov, hrow⟩ := HS7.out.cells
        have HROW := Lib.hid hrow
        have HOV := Lib.hid hov
        have HOV2 := Lib.hid (hov.later ((Below.refl _ _).alloc (Nat.le_refl _) (Obj.cells #[sV sh] 9)))
        have HKL : Hid (S.length + 1 ≤ 1000000000) := Lib.hid (by have := HSL.out; omega)
        have HSZ := Lib.hid HS7.out.size
        clear hrow hov d0 d1
        go_wp2_with (at_builtin; refine wpList_append_strs rfl _ _ rfl W2.heap.size v S rfl HOV2.out _ _ _ [sh] rfl (one_strs wZ sh) HKL.out (by have := HSZ.out; simp; omega) ?_
                     intro v7 w7 hown7 hg7
                     obtain ⟨h7, hs7⟩ := HS7.out.app HA.out HROW.out HOV.out hown7 hg7
                     obtain ⟨a7, c7, hv7, _⟩ := hown7.strs
                     obtain ⟨n7, hn7⟩ : ∃ m, m = (S ++ [sh]).length := ⟨_, rfl⟩
                     rw [← hn7] at hv7
                     subst hv7
                     have hc7 : w7.cell? ⟨g3, 2, none⟩ = some v := cell_of_row _ _ _ _ _ _ h7
                     have hf7 : w7.frozen? ⟨g3, 2, none⟩ = false := frozen_of_row _ _ _ _ _ h7
                     have H8 := Lib.hid hs7
                     clear hown7 hg7 hs7 hn7 h7)
        go_roundw
        case rel =>
          refine ⟨i + 1, by omega, by go_num, Lib.hid ?_⟩
          rw [shortF_more (by rw [HNP.out]; exact hlt), longF_more (by rw [HNP.out]; exact hlt), takeP (d := pr0) (by rw [HNP.out]; exact hlt), List.map_append, List.map_cons, List.map_nil, HPI.out, ← HSFG.out.1, ← HSFG.out.2.1, ← HSFG.out.2.2]
          exact H8.out
        case measure => simp [intOf]; omega
    · have hin : n = i := by omega
      subst hin
      have hall : P.take n = P := List.take_of_length_le (by rw [HNP.out]; exact Nat.le_refl _)
      rw [hall] at HST
      obtain ⟨d0, d1, v, d2, hov, hrow⟩ := HST.out.cells
      have HSO := Lib.hid (Sort_strs W2.heap.size v (P.map (·.2)) wr hov (by rw [List.length_map, HNP.out]; omega))
      have HROW := Lib.hid hrow
      have HOV := Lib.hid hov
      clear hall hov hrow d0 d1
      go_wp2_with fail
      refine HSO.out.mono ?_
      rintro e ws ⟨rfl, hos, hgs⟩
      have hlow : ∀ k, k < W2.heap.size → ws.heap[k]? = wr.heap[k]? := fun k hk => hgs.block k (by have := HST.out.size; omega) (fun e => by have := (HOV.out.lt k e.symm).1; omega)
      have hr3 := (hlow g3 HA.out.b1).trans HROW.out
      have hr2 := (hlow g2 HG2.out.2.1).trans ((HST.out.keep g2 HG2.out.2.1 HG2.out.2.2.1 HG2.out.2.2.2.1 HG2.out.2.2.2.2.1).trans HG2.out.1)
      have e0 : ws.cell? ⟨g3, 0, none⟩ = some (.map (some m1)) := cell_of_row _ _ _ _ _ _ hr3
      have e1 : ws.cell? ⟨g3, 1, none⟩ = some (.map (some m2)) := cell_of_row _ _ _ _ _ _ hr3
      have e2 : ws.cell? ⟨g3, 2, none⟩ = some v := cell_of_row _ _ _ _ _ _ hr3
      have k0 : ws.cell? ⟨g2, 0, none⟩ = some (.map none) := cell_of_row _ _ _ _ _ _ hr2
      have k1 : ws.cell? ⟨g2, 1, none⟩ = some (.map none) := cell_of_row _ _ _ _ _ _ hr2
      have k2 : ws.cell? ⟨g2, 2, none⟩ = some (.slice none 0 0) := cell_of_row _ _ _ _ _ _ hr2
      have f0 : ws.frozen? ⟨g2, 0, none⟩ = false := frozen_of_row _ _ _ _ _ hr2
      have f1 : ws.frozen? ⟨g2, 1, none⟩ = false := frozen_of_row _ _ _ _ _ hr2
      have f2 : ws.frozen? ⟨g2, 2, none⟩ = false := frozen_of_row _ _ _ _ _ hr2
      have HM1 := Lib.hid (HST.out.s.move (hlow m1 HA.out.b2))
      have HM2 := Lib.hid (HST.out.l.move (hlow m2 HA.out.b3))
      have HBS := Lib.hid (HST.out.bel.grown hgs HST.out.bel.size (fun k hk => by have := (HOV.out.lt k hk).1; have := HA.out.b1; have := HA.out.a1; omega))
      have HOS := Lib.hid hos
      have HR2 := Lib.hid hr2
      obtain ⟨va, vc, hvv, _⟩ := hos.strs
      obtain ⟨vn, hvn⟩ : ∃ k, k = ((P.map (·.2)).mergeSort fun x y => decide (x ≤ y)).length := ⟨_, rfl⟩
      rw [← hvn] at hvv
      subst hvv
      clear hlow hr3 hr2 hos hgs hvn d2
      go_wp2_with fail
      have q1 := heap_setCell_same _ _ 0 _ _ (.map (some m1)) HR2.out
      have q2 := heap_setCell_same _ _ 1 _ _ (.map (some m2)) q1
      have q3 := heap_setCell_same _ _ 2 _ _ (.slice va vn vc) q2
      have hot : ∀ k, k ≠ g2 → (((ws.setCell ⟨g2, 0, none⟩ (.map (some m1))).setCell ⟨g2, 1, none⟩ (.map (some m2))).setCell ⟨g2, 2, none⟩ (.slice va vn vc)).heap[k]? = ws.heap[k]? := fun k hk => by
        rw [Below.heap_setCell _ _ _ _ hk, Below.heap_setCell _ _ _ _ hk, Below.heap_setCell _ _ _ _ hk]
      exact bodyPost_ret (results_cell_row rfl _ _ _ _ _ _ _ rfl q3 Tryd.underlying39 rfl (by kernel_rfl)) rfl ⟨m1, m2, _, rfl, HM1.out.move (hot m1 HG2.out.2.2.1.symm), HM2.out.move (hot m2 HG2.out.2.2.2.1.symm),
        OwnS.base (ownsRow_move HOS.out fun k e => hot k (by have := (HOS.out.lt k e).1; have := HG2.out.2.1; omega)) (by have := HA.out.a1; have := HA.out.b1; omega),
        ((HBS.out.setCell (p := ⟨g2, 0, none⟩) HG2.out.2.2.2.2.2 _).setCell (p := ⟨g2, 1, none⟩) HG2.out.2.2.2.2.2 _).setCell (p := ⟨g2, 2, none⟩) HG2.out.2.2.2.2.2 _⟩
end Go.Proofs.YtbgihfjagfbfgaaDoor

/- layer 16: WordsAll (printed by mkall16.py) -/
import Derived.Test.YtbgihfjagfbfgaaDoorMWKit
import Derived.Test.YtbgihfjagfbfgaaDoorMRegG
import Derived.Sort.Walk0
import Derived.Laws.Cover1
set_option linter.unusedSimpArgs false
set_option linter.unusedVariables false
namespace Go.Proofs.YtbgihfjagfbfgaaDoor
open Go.RowKit Go.Words
attribute [local go_sem] Oper.semAt_some
theorem less_bs (x y : Wd) : Op.bytesLess (bs x).toList (bs y).toList = decide (x < y) := by
  rw [Proofs.bytesLess_eq, Lib.toList_data, Lib.toList_data, data_bs, data_bs]
theorem leq_no {x y : Wd} (h : y < x) : Op.bytesLess (bs x).toList (bs y).toList = false ∧ ((bs x).toList == (bs y).toList) = false := by
  rw [less_bs, bs_eq]
  exact ⟨decide_eq_false (fun k => List.lt_irrefl _ (List.lt_trans k h)), decide_eq_false (fun e => List.lt_irrefl _ (e ▸ h))⟩
theorem getD_memS {L : List Wd} {i : Nat} (h : i < L.length) : L.getD i [] ∈ L := by
  rw [List.getD_eq_getElem?_getD, List.getElem?_eq_getElem h]; exact List.getElem_mem _
theorem all_long (k : Int) {i : Nat} (h : i < (kindS k).length) : ∃ lg, firstL (kindP k) ((kindS k).getD i []) = some lg := by
  obtain ⟨p, hp, e⟩ := kindS_mem.1 (getD_memS h)
  exact ⟨p.1, firstL_of (kind_good k) hp e⟩
theorem all_rise2 (k : Int) {j i : Nat} (hj : j < i) (h : i < (kindS k).length) : (kindS k).getD j [] < (kindS k).getD i [] := by
  have h1 := kindS_rise k
  rw [List.getD_eq_getElem?_getD, List.getElem?_eq_getElem (by omega), List.getD_eq_getElem?_getD, List.getElem?_eq_getElem h]
  exact List.pairwise_iff_getElem.1 h1 _ _ _ _ hj
theorem all_rise (k : Int) {i : Nat} (h : i + 1 < (kindS k).length) : (kindS k).getD i [] < (kindS k).getD (i + 1) [] := all_rise2 k (by omega) h
theorem all_apart (k : Int) {j i : Nat} (hj : j < i) (h : i < (kindS k).length) : ¬ ∃ lg, firstL (kindP k) ((kindS k).getD j []) = some lg ∧ firstL (kindP k) ((kindS k).getD i []) = some lg := by
  rintro ⟨lg, h1, h2⟩
  obtain ⟨p, hp, e1, e2⟩ := firstL_some h1
  obtain ⟨q, hq, e3, e4⟩ := firstL_some h2
  have := (good_at (kind_good k) hp hq).1 (e2.trans e4.symm)
  have h3 := all_rise2 k hj h
  rw [← e1, ← e3, this] at h3
  exact List.lt_irrefl _ h3
set_option maxRecDepth 100000 in
set_option maxHeartbeats 16000000 in
theorem WordsAll_any (k : Int) (w : World) (h : Tb w) : Calls Tryd.prog 5 #[.int .i64 k] w fun e w' => e = .returned (.bool true) ∧ Below w.heap.size w w' := by
  have HT := Lib.hid h
  clear h
  by_cases h1 : k = 1
  · subst h1
    go_enter Tryd.func5, Tryd.ntmps5
    go_wp2_with fail
    have ha := All_kind 1 w HT.out
    rw [show kindS 1 = sufS from rfl, show sufS.length = 20 from rfl] at ha
    refine ha.mono ?_
    clear ha
    rintro e w2 ⟨ao, cap, rfl, hi, _, hb⟩
    have HB2 := Lib.hid hb
    have HT2 := Lib.hid (HT.out.later hb)
    obtain ⟨b, off, hao, _⟩ := hi.at (i := 0) (by omega)
    subst hao
    have hnc := hi.2.1
    have hcm : cap ≤ 9223372036854775807 := hi.2.2.1
    have HAT : Hid (∀ wX, Below w2.heap.size w2 wX → ∀ i, i < 20 → wX.cell? ⟨b, off + i, none⟩ = some (sV (sufS.getD i []))) := Lib.hid (fun wX hX i hi2 => by
      obtain ⟨b2, o2, e2, c2⟩ := (hi.later hX (Nat.le_refl _)).at hi2
      cases e2
      exact c2)
    have HL : Hid (∀ (x : Wd) (wX : World), Tb wX → Calls Tryd.prog 10 #[.int .i64 1, sV x] wX fun e w' => e = .returned (foundV (firstL (kindP 1) x)) ∧ Below wX.heap.size wX w') := Lib.hid (fun x wX hT => by
      have := Long_any 1 x wX hT
      rw [long_is] at this
      exact this)
    have HLO : Hid (∀ i, i < 20 → ∃ lg, firstL (kindP 1) (sufS.getD i []) = some lg ∧ True) := Lib.hid (fun i hi2 => by
      obtain ⟨lg, h⟩ := all_long 1 (i := i) (by rw [show (kindS 1).length = 20 from rfl]; exact hi2)
      exact ⟨lg, h, trivial⟩)
    have HDI : Hid (∀ j i, j < i → i < 20 → ¬ ∃ lg, firstL (kindP 1) (sufS.getD j []) = some lg ∧ firstL (kindP 1) (sufS.getD i []) = some lg) := Lib.hid (fun j i hj hi2 h => all_apart 1 hj (by rw [show (kindS 1).length = 20 from rfl]; exact hi2) h)
    have HRI : Hid (∀ i, i + 1 < 20 → sufS.getD i [] < sufS.getD (i + 1) []) := Lib.hid (fun i hi2 => all_rise 1 (by rw [show (kindS 1).length = 20 from rfl]; exact hi2))
    clear hi hb
    go_wp2_with fail
    go_loopw [5] (fun iv wr => ∃ i : Nat, i ≤ 20 ∧ iv = .int .i64 i ∧ Hid (Below w2.heap.size w2 wr)) (fun iv _ => 20 - (intOf iv).toNat)
    case atStart => exact ⟨0, by omega, rfl, Lib.hid (Below.refl _ _)⟩
    case round =>
      obtain ⟨i, hi, rfl, hbr⟩ := hrel
      by_cases hlt : i < 20
      · have hi5 : (i : Int) < (20 : Int) := by omega
        have hi0 : (0 : Int) ≤ (i : Int) := by omega
        have hwi : IntKind.i64.wrap ((i : Int) + 1) = (i : Int) + 1 := IntWalk.i64_in _ (by omega)
        have cx := HAT.out wr hbr.out i hlt
        obtain ⟨lg, e1, _⟩ := HLO.out i hlt
        have HLG := Lib.hid e1
        obtain ⟨x, hx⟩ : ∃ x, x = sufS.getD i [] := ⟨_, rfl⟩
        rw [← hx] at cx e1
        have HX := Lib.hid hx
        have hl := HL.out x wr (HT2.out.later hbr.out)
        rw [e1] at hl
        have HLX := Lib.hid hl
        clear e1 hx hl
        go_wp2_with fail
        refine HLX.out.mono ?_
        rintro e wq ⟨rfl, hb3⟩
        have HBQ := Lib.hid (hbr.out.trans (hb3.mono hbr.out.size))
        have HIX := Lib.hid (And.intro hi5 hi0)
        have HCX : Hid (∀ wX, Below wq.heap.size wq wX → wX.cell? ⟨b, off + i, none⟩ = some (sV x)) := Lib.hid (fun wX hX => by
          have := HAT.out wX (HBQ.out.trans (hX.mono HBQ.out.size)) i hlt
          rw [← HX.out] at this
          exact this)
        clear hb3 cx
        unfold foundV
        by_cases hp : 0 < i
        · obtain ⟨i1, hi1⟩ : ∃ i1 : Nat, i = i1 + 1 := ⟨i - 1, by omega⟩
          obtain ⟨y, hy⟩ : ∃ y, y = sufS.getD i1 [] := ⟨_, rfl⟩
          have hyx : y < x := by
            have := HRI.out i1 (by omega)
            rw [← hi1, ← hy, ← HX.out] at this
            exact this
          have HCY : Hid (∀ wX, Below wq.heap.size wq wX → wX.cell? ⟨b, off + i1, none⟩ = some (sV y)) := Lib.hid (fun wX hX => by
            have := HAT.out wX (HBQ.out.trans (hX.mono HBQ.out.size)) i1 (by omega)
            rw [← hy] at this
            exact this)
          have HLE : Hid (Op.bytesLess (bs x).toList (bs y).toList = false ∧ ((bs x).toList == (bs y).toList) = false) := Lib.hid (leq_no hyx)
          have HIX2 : Hid ((0 : Int) < (i : Int) ∧ 0 < i ∧ IntKind.i64.wrap ((i : Int) - 1) = (i1 : Int) ∧ (i1 : Int) < (20 : Int) ∧ (0 : Int) ≤ (i1 : Int)) := Lib.hid ⟨by omega, hp, by rw [IntWalk.i64_in _ (by omega)]; omega, by omega, by omega⟩
          clear hy hyx hi1 hp
          go_wp2_with fail
          have HOK : ∀ f ∈ ([] : List Fct), FctOk f := by
            intro f hf; cases hf
          refine wp_region_J (s := [(41, 0), (42, 1), (43, 2), (44, 3), (45, 4), (46, 5), (47, 6), (48, 7), (49, 8), (50, 9), (51, 10), (52, 11), (53, 12), (54, 13), (55, 14), (56, 15), (57, 16), (58, 17)]) (by kernel_rfl) (GrowJ wq (fun iX => match iX with | 0 => some (.bool true) | 1 => some (.bool false) | 2 => some (.bool false) | 3 => some (.int .i64 (i : Int)) | 4 => some (.bool true) | 5 => some (.bool true) | 6 => some (.slice (some ⟨b, off, none⟩) 20 cap) | 7 => some (.int .i64 (i : Int)) | 8 => some (.pointer (some ⟨b, off + i, none⟩)) | 9 => some (sV x) | 10 => some (.slice (some ⟨b, off, none⟩) 20 cap) | 11 => some (.int .i64 (i : Int)) | 12 => some (.int .i64 (i1 : Int)) | 13 => some (.pointer (some ⟨b, off + i1, none⟩)) | 14 => some (sV y) | 15 => some (.bool false) | 16 => some (.bool false) | 17 => some (.bool false) | _ => none) []) (by kernel_rfl) (by kernel_rfl) (by kernel_rfl) (by kernel_rfl) (fun _ => undef) ?start18k1a ?step18k1a ?done18k1a
          case start18k1a => exact GrowJ.start ((Below.refl _ _).drew)
          case step18k1a =>
            refine ⟨?o18k1a_0, ?o18k1a_1, ?o18k1a_2, ?o18k1a_3, ?o18k1a_4, ?o18k1a_5, ?o18k1a_6, ?o18k1a_7, ?o18k1a_8, ?o18k1a_9, ?o18k1a_10, ?o18k1a_11, ?o18k1a_12, ?o18k1a_13, ?o18k1a_14, ?o18k1a_15, ?o18k1a_16, ?o18k1a_17, trivial⟩
            case o18k1a_0 =>
              intro LX V aX wX K hl hp hcl hf hJ hK
              have t7 : aX.tmps[7]? = some (.bool true) := hf.old (by kernel_rfl) rfl
              rw [if_pos (by rfl)]
              go_simp
              exact hK _ _ (hJ.val HOK 0 _ (by kernel_rfl) rfl (Below.refl _ _))
            case o18k1a_1 =>
              intro LX V aX wX K hl hp hcl hf hJ hK
              have t41 := hf.in (i := 0) (d := 41) (by kernel_rfl) (hp 0 (by kernel_rfl)) (hJ.vals 0 _ rfl (hp 0 (by kernel_rfl)))
              rw [if_pos (by rfl)]
              go_simp
              exact hK _ _ (hJ.val HOK 1 _ (by kernel_rfl) rfl (Below.refl _ _))
            case o18k1a_2 =>
              intro LX V aX wX K hl hp hcl hf hJ hK
              have t42 := hf.in (i := 1) (d := 42) (by kernel_rfl) (hp 1 (by kernel_rfl)) (hJ.vals 1 _ rfl (hp 1 (by kernel_rfl)))
              rw [if_pos (by rfl)]
              go_simp
              exact hK _ _ (hJ.val HOK 2 _ (by kernel_rfl) rfl (Below.refl _ _))
            case o18k1a_3 =>
              intro LX V aX wX K hl hp hcl hf hJ hK
              have t5 : aX.tmps[5]? = some (.int .i64 (i : Int)) := hf.old (by kernel_rfl) rfl
              have t43 := hf.in (i := 2) (d := 43) (by kernel_rfl) (hp 2 (by kernel_rfl)) (hJ.vals 2 _ rfl (hp 2 (by kernel_rfl)))
              rw [if_pos (wanted_of rfl rfl t43)]
              go_simp
              exact hK _ _ (hJ.val HOK 3 _ (by kernel_rfl) rfl (Below.refl _ _))
            case o18k1a_4 =>
              intro LX V aX wX K hl hp hcl hf hJ hK
              have t44 := hf.in (i := 3) (d := 44) (by kernel_rfl) (hp 3 (by kernel_rfl)) (hJ.vals 3 _ rfl (hp 3 (by kernel_rfl)))
              have t43 := hf.in (i := 2) (d := 43) (by kernel_rfl) (hp 2 (by kernel_rfl)) (hJ.vals 2 _ rfl (hp 2 (by kernel_rfl)))
              obtain ⟨v1, v2, v3, v4, v5⟩ := HIX2.out
              rw [if_pos (wanted_of rfl rfl t43)]
              go_simp
              exact hK _ _ (hJ.val HOK 4 _ (by kernel_rfl) rfl (Below.refl _ _))
            case o18k1a_5 =>
              intro LX V aX wX K hl hp hcl hf hJ hK
              have t45 := hf.in (i := 4) (d := 45) (by kernel_rfl) (hp 4 (by kernel_rfl)) (hJ.vals 4 _ rfl (hp 4 (by kernel_rfl)))
              have t43 := hf.in (i := 2) (d := 43) (by kernel_rfl) (hp 2 (by kernel_rfl)) (hJ.vals 2 _ rfl (hp 2 (by kernel_rfl)))
              rw [if_pos (wanted_of rfl rfl t43)]
              go_simp
              exact hK _ _ (hJ.val HOK 5 _ (by kernel_rfl) rfl (Below.refl _ _))
            case o18k1a_6 =>
              intro LX V aX wX K hl hp hcl hf hJ hK
              have t3 : aX.tmps[3]? = some (.slice (some ⟨b, off, none⟩) 20 cap) := hf.old (by kernel_rfl) rfl
              have t46 := hf.in (i := 5) (d := 46) (by kernel_rfl) (hp 5 (by kernel_rfl)) (hJ.vals 5 _ rfl (hp 5 (by kernel_rfl)))
              rw [if_pos (wanted_of rfl rfl t46)]
              go_simp
              exact hK _ _ (hJ.val HOK 6 _ (by kernel_rfl) rfl (Below.refl _ _))
            case o18k1a_7 =>
              intro LX V aX wX K hl hp hcl hf hJ hK
              have t5 : aX.tmps[5]? = some (.int .i64 (i : Int)) := hf.old (by kernel_rfl) rfl
              have t46 := hf.in (i := 5) (d := 46) (by kernel_rfl) (hp 5 (by kernel_rfl)) (hJ.vals 5 _ rfl (hp 5 (by kernel_rfl)))
              rw [if_pos (wanted_of rfl rfl t46)]
              go_simp
              exact hK _ _ (hJ.val HOK 7 _ (by kernel_rfl) rfl (Below.refl _ _))
            case o18k1a_8 =>
              intro LX V aX wX K hl hp hcl hf hJ hK
              have t47 := hf.in (i := 6) (d := 47) (by kernel_rfl) (hp 6 (by kernel_rfl)) (hJ.vals 6 _ rfl (hp 6 (by kernel_rfl)))
              have t48 := hf.in (i := 7) (d := 48) (by kernel_rfl) (hp 7 (by kernel_rfl)) (hJ.vals 7 _ rfl (hp 7 (by kernel_rfl)))
              have t46 := hf.in (i := 5) (d := 46) (by kernel_rfl) (hp 5 (by kernel_rfl)) (hJ.vals 5 _ rfl (hp 5 (by kernel_rfl)))
              obtain ⟨u1, u2⟩ := HIX.out
              rw [if_pos (wanted_of rfl rfl t46)]
              go_simp
              exact hK _ _ (hJ.val HOK 8 _ (by kernel_rfl) rfl (Below.refl _ _))
            case o18k1a_9 =>
              intro LX V aX wX K hl hp hcl hf hJ hK
              have t49 := hf.in (i := 8) (d := 49) (by kernel_rfl) (hp 8 (by kernel_rfl)) (hJ.vals 8 _ rfl (hp 8 (by kernel_rfl)))
              have t46 := hf.in (i := 5) (d := 46) (by kernel_rfl) (hp 5 (by kernel_rfl)) (hJ.vals 5 _ rfl (hp 5 (by kernel_rfl)))
              have cx := HCX.out wX hJ.below
              rw [if_pos (wanted_of rfl rfl t46)]
              go_simp
              exact hK _ _ (hJ.val HOK 9 _ (by kernel_rfl) rfl (Below.refl _ _))
            case o18k1a_10 =>
              intro LX V aX wX K hl hp hcl hf hJ hK
              have t3 : aX.tmps[3]? = some (.slice (some ⟨b, off, none⟩) 20 cap) := hf.old (by kernel_rfl) rfl
              have t46 := hf.in (i := 5) (d := 46) (by kernel_rfl) (hp 5 (by kernel_rfl)) (hJ.vals 5 _ rfl (hp 5 (by kernel_rfl)))
              rw [if_pos (wanted_of rfl rfl t46)]
              go_simp
              exact hK _ _ (hJ.val HOK 10 _ (by kernel_rfl) rfl (Below.refl _ _))
            case o18k1a_11 =>
              intro LX V aX wX K hl hp hcl hf hJ hK
              have t5 : aX.tmps[5]? = some (.int .i64 (i : Int)) := hf.old (by kernel_rfl) rfl
              have t46 := hf.in (i := 5) (d := 46) (by kernel_rfl) (hp 5 (by kernel_rfl)) (hJ.vals 5 _ rfl (hp 5 (by kernel_rfl)))
              rw [if_pos (wanted_of rfl rfl t46)]
              go_simp
              exact hK _ _ (hJ.val HOK 11 _ (by kernel_rfl) rfl (Below.refl _ _))
            case o18k1a_12 =>
              intro LX V aX wX K hl hp hcl hf hJ hK
              have t52 := hf.in (i := 11) (d := 52) (by kernel_rfl) (hp 11 (by kernel_rfl)) (hJ.vals 11 _ rfl (hp 11 (by kernel_rfl)))
              have t46 := hf.in (i := 5) (d := 46) (by kernel_rfl) (hp 5 (by kernel_rfl)) (hJ.vals 5 _ rfl (hp 5 (by kernel_rfl)))
              obtain ⟨v1, v2, v3, v4, v5⟩ := HIX2.out
              rw [if_pos (wanted_of rfl rfl t46)]
              go_simp
              exact hK _ _ (hJ.val HOK 12 _ (by kernel_rfl) rfl (Below.refl _ _))
            case o18k1a_13 =>
              intro LX V aX wX K hl hp hcl hf hJ hK
              have t51 := hf.in (i := 10) (d := 51) (by kernel_rfl) (hp 10 (by kernel_rfl)) (hJ.vals 10 _ rfl (hp 10 (by kernel_rfl)))
              have t53 := hf.in (i := 12) (d := 53) (by kernel_rfl) (hp 12 (by kernel_rfl)) (hJ.vals 12 _ rfl (hp 12 (by kernel_rfl)))
              have t46 := hf.in (i := 5) (d := 46) (by kernel_rfl) (hp 5 (by kernel_rfl)) (hJ.vals 5 _ rfl (hp 5 (by kernel_rfl)))
              obtain ⟨v1, v2, v3, v4, v5⟩ := HIX2.out
              rw [if_pos (wanted_of rfl rfl t46)]
              go_simp
              exact hK _ _ (hJ.val HOK 13 _ (by kernel_rfl) rfl (Below.refl _ _))
            case o18k1a_14 =>
              intro LX V aX wX K hl hp hcl hf hJ hK
              have t54 := hf.in (i := 13) (d := 54) (by kernel_rfl) (hp 13 (by kernel_rfl)) (hJ.vals 13 _ rfl (hp 13 (by kernel_rfl)))
              have t46 := hf.in (i := 5) (d := 46) (by kernel_rfl) (hp 5 (by kernel_rfl)) (hJ.vals 5 _ rfl (hp 5 (by kernel_rfl)))
              have cy := HCY.out wX hJ.below
              rw [if_pos (wanted_of rfl rfl t46)]
              go_simp
              exact hK _ _ (hJ.val HOK 14 _ (by kernel_rfl) rfl (Below.refl _ _))
            case o18k1a_15 =>
              intro LX V aX wX K hl hp hcl hf hJ hK
              have t50 := hf.in (i := 9) (d := 50) (by kernel_rfl) (hp 9 (by kernel_rfl)) (hJ.vals 9 _ rfl (hp 9 (by kernel_rfl)))
              have t55 := hf.in (i := 14) (d := 55) (by kernel_rfl) (hp 14 (by kernel_rfl)) (hJ.vals 14 _ rfl (hp 14 (by kernel_rfl)))
              have t46 := hf.in (i := 5) (d := 46) (by kernel_rfl) (hp 5 (by kernel_rfl)) (hJ.vals 5 _ rfl (hp 5 (by kernel_rfl)))
              obtain ⟨l1, l2⟩ := HLE.out
              rw [if_pos (wanted_of rfl rfl t46)]
              go_simp
              exact hK _ _ (hJ.val HOK 15 _ (by kernel_rfl) rfl (Below.refl _ _))
            case o18k1a_16 =>
              intro LX V aX wX K hl hp hcl hf hJ hK
              have t46 := hf.in (i := 5) (d := 46) (by kernel_rfl) (hp 5 (by kernel_rfl)) (hJ.vals 5 _ rfl (hp 5 (by kernel_rfl)))
              have t56 := hf.in (i := 15) (d := 56) (by kernel_rfl) (hp 15 (by kernel_rfl)) (hJ.vals 15 _ rfl (hp 15 (by kernel_rfl)))
              have t43 := hf.in (i := 2) (d := 43) (by kernel_rfl) (hp 2 (by kernel_rfl)) (hJ.vals 2 _ rfl (hp 2 (by kernel_rfl)))
              rw [if_pos (wanted_of rfl rfl t43)]
              go_simp
              exact hK _ _ (hJ.val HOK 16 _ (by kernel_rfl) rfl (Below.refl _ _))
            case o18k1a_17 =>
              intro LX V aX wX K hl hp hcl hf hJ hK
              have t43 := hf.in (i := 2) (d := 43) (by kernel_rfl) (hp 2 (by kernel_rfl)) (hJ.vals 2 _ rfl (hp 2 (by kernel_rfl)))
              have t57 := hf.in (i := 16) (d := 57) (by kernel_rfl) (hp 16 (by kernel_rfl)) (hJ.vals 16 _ rfl (hp 16 (by kernel_rfl)))
              rw [if_pos (by rfl)]
              go_simp
              exact hK _ _ (hJ.val HOK 17 _ (by kernel_rfl) rfl (Below.refl _ _))
          intro V wZ hJ
          have hv := hJ.vals 17 _ rfl (by kernel_rfl)
          have HBZ := Lib.hid hJ.below
          simp only [puts, Act.put, List.setIfInBounds_toArray, List.set_cons_zero, List.set_cons_succ]
          rw [hv]
          clear hJ HOK hv
          have HBX := Lib.hid (HBQ.out.trans (HBZ.out.mono HBQ.out.size))
          go_wp2_with fail
          go_loopw [8] (fun jv wr => ∃ j : Nat, j ≤ i ∧ jv = .int .i64 j ∧ Hid (Below w2.heap.size w2 wr)) (fun jv _ => i - (intOf jv).toNat)
          case atStart => exact ⟨0, by omega, rfl, HBX⟩
          case round =>
            obtain ⟨j, hj, rfl, hbj⟩ := hrel
            by_cases hltj : j < i
            · have hj5 : (j : Int) < (i : Int) := by omega
              have hj6 : (j : Int) < (20 : Int) := by omega
              have hj0 : (0 : Int) ≤ (j : Int) := by omega
              have hwj : IntKind.i64.wrap ((j : Int) + 1) = (j : Int) + 1 := IntWalk.i64_in _ (by omega)
              have cz := HAT.out wr hbj.out j (by omega)
              obtain ⟨ot, e9, e10⟩ := HLO.out j (by omega)
              obtain ⟨z, hz⟩ : ∃ z, z = sufS.getD j [] := ⟨_, rfl⟩
              rw [← hz] at cz e9
              have hne : ot ≠ lg := fun e => HDI.out j i hltj hlt ⟨lg, by rw [← hz, e9, e], HLG.out⟩
              have q9 : ((bs ot).toList == (bs lg).toList) = false := (bs_eq _ _).trans (decide_eq_false hne)
              have hl := HL.out z wr (HT2.out.later hbj.out)
              rw [e9] at hl
              have HLZ := Lib.hid hl
              clear e9 e10 hz hne hl
              go_wp2_with fail
              refine HLZ.out.mono ?_
              rintro e w4 ⟨rfl, hb4⟩
              have HB4 := Lib.hid (hbj.out.trans (hb4.mono hbj.out.size))
              clear hb4
              unfold foundV
              go_wp2_with fail
              go_roundw
              case rel => exact ⟨j + 1, by omega, by go_num, HB4⟩
              case measure => simp [intOf]; omega
            · have hji : i = j := by omega
              subst hji
              go_wp2_with fail
              go_roundw
              case rel => exact ⟨i + 1, by omega, by go_num, hbj⟩
              case measure => simp [intOf]; omega
        · have HK0 : Hid (¬ (0 : Int) < (i : Int)) := Lib.hid (by omega)
          clear hp
          go_wp2_with fail
          have HOK : ∀ f ∈ ([] : List Fct), FctOk f := by
            intro f hf; cases hf
          refine wp_region_J (s := [(41, 0), (42, 1), (43, 2), (44, 3), (45, 4), (46, 5), (47, 6), (48, 7), (49, 8), (50, 9), (51, 10), (52, 11), (53, 12), (54, 13), (55, 14), (56, 15), (57, 16), (58, 17)]) (by kernel_rfl) (GrowJ wq (fun iX => match iX with | 0 => some (.bool true) | 1 => some (.bool false) | 2 => some (.bool false) | 3 => some (.int .i64 (i : Int)) | 4 => some (.bool false) | 5 => some (.bool false) | 6 => some (undef) | 7 => some (undef) | 8 => some (undef) | 9 => some (undef) | 10 => some (undef) | 11 => some (undef) | 12 => some (undef) | 13 => some (undef) | 14 => some (undef) | 15 => some (undef) | 16 => some (.bool false) | 17 => some (.bool false) | _ => none) []) (by kernel_rfl) (by kernel_rfl) (by kernel_rfl) (by kernel_rfl) (fun _ => undef) ?start18k1b ?step18k1b ?done18k1b
          case start18k1b => exact GrowJ.start ((Below.refl _ _).drew)
          case step18k1b =>
            refine ⟨?o18k1b_0, ?o18k1b_1, ?o18k1b_2, ?o18k1b_3, ?o18k1b_4, ?o18k1b_5, ?o18k1b_6, ?o18k1b_7, ?o18k1b_8, ?o18k1b_9, ?o18k1b_10, ?o18k1b_11, ?o18k1b_12, ?o18k1b_13, ?o18k1b_14, ?o18k1b_15, ?o18k1b_16, ?o18k1b_17, trivial⟩
            case o18k1b_0 =>
              intro LX V aX wX K hl hp hcl hf hJ hK
              have t7 : aX.tmps[7]? = some (.bool true) := hf.old (by kernel_rfl) rfl
              rw [if_pos (by rfl)]
              go_simp
              exact hK _ _ (hJ.val HOK 0 _ (by kernel_rfl) rfl (Below.refl _ _))
            case o18k1b_1 =>
              intro LX V aX wX K hl hp hcl hf hJ hK
              have t41 := hf.in (i := 0) (d := 41) (by kernel_rfl) (hp 0 (by kernel_rfl)) (hJ.vals 0 _ rfl (hp 0 (by kernel_rfl)))
              rw [if_pos (by rfl)]
              go_simp
              exact hK _ _ (hJ.val HOK 1 _ (by kernel_rfl) rfl (Below.refl _ _))
            case o18k1b_2 =>
              intro LX V aX wX K hl hp hcl hf hJ hK
              have t42 := hf.in (i := 1) (d := 42) (by kernel_rfl) (hp 1 (by kernel_rfl)) (hJ.vals 1 _ rfl (hp 1 (by kernel_rfl)))
              rw [if_pos (by rfl)]
              go_simp
              exact hK _ _ (hJ.val HOK 2 _ (by kernel_rfl) rfl (Below.refl _ _))
            case o18k1b_3 =>
              intro LX V aX wX K hl hp hcl hf hJ hK
              have t5 : aX.tmps[5]? = some (.int .i64 (i : Int)) := hf.old (by kernel_rfl) rfl
              have t43 := hf.in (i := 2) (d := 43) (by kernel_rfl) (hp 2 (by kernel_rfl)) (hJ.vals 2 _ rfl (hp 2 (by kernel_rfl)))
              rw [if_pos (wanted_of rfl rfl t43)]
              go_simp
              exact hK _ _ (hJ.val HOK 3 _ (by kernel_rfl) rfl (Below.refl _ _))
            case o18k1b_4 =>
              intro LX V aX wX K hl hp hcl hf hJ hK
              have t44 := hf.in (i := 3) (d := 44) (by kernel_rfl) (hp 3 (by kernel_rfl)) (hJ.vals 3 _ rfl (hp 3 (by kernel_rfl)))
              have t43 := hf.in (i := 2) (d := 43) (by kernel_rfl) (hp 2 (by kernel_rfl)) (hJ.vals 2 _ rfl (hp 2 (by kernel_rfl)))
              have hk0 := HK0.out
              have hk1 : decide ((0 : Int) < (i : Int)) = false := by simp; omega
              have hk2 : decide (0 < i) = false := by simp; omega
              clear hk0
              rw [if_pos (wanted_of rfl rfl t43)]
              go_simp
              exact hK _ _ (hJ.val HOK 4 _ (by kernel_rfl) rfl (Below.refl _ _))
            case o18k1b_5 =>
              intro LX V aX wX K hl hp hcl hf hJ hK
              have t45 := hf.in (i := 4) (d := 45) (by kernel_rfl) (hp 4 (by kernel_rfl)) (hJ.vals 4 _ rfl (hp 4 (by kernel_rfl)))
              have t43 := hf.in (i := 2) (d := 43) (by kernel_rfl) (hp 2 (by kernel_rfl)) (hJ.vals 2 _ rfl (hp 2 (by kernel_rfl)))
              rw [if_pos (wanted_of rfl rfl t43)]
              go_simp
              exact hK _ _ (hJ.val HOK 5 _ (by kernel_rfl) rfl (Below.refl _ _))
            case o18k1b_6 =>
              intro LX V aX wX K hl hp hcl hf hJ hK
              have t46 := hf.in (i := 5) (d := 46) (by kernel_rfl) (hp 5 (by kernel_rfl)) (hJ.vals 5 _ rfl (hp 5 (by kernel_rfl)))
              rw [if_neg (by rw [wanted_not (b := true) rfl rfl t46]; exact Bool.false_ne_true)]
              exact hK _ _ (hJ.val HOK 6 _ (by kernel_rfl) rfl (Below.refl _ _))
            case o18k1b_7 =>
              intro LX V aX wX K hl hp hcl hf hJ hK
              have t46 := hf.in (i := 5) (d := 46) (by kernel_rfl) (hp 5 (by kernel_rfl)) (hJ.vals 5 _ rfl (hp 5 (by kernel_rfl)))
              rw [if_neg (by rw [wanted_not (b := true) rfl rfl t46]; exact Bool.false_ne_true)]
              exact hK _ _ (hJ.val HOK 7 _ (by kernel_rfl) rfl (Below.refl _ _))
            case o18k1b_8 =>
              intro LX V aX wX K hl hp hcl hf hJ hK
              have t46 := hf.in (i := 5) (d := 46) (by kernel_rfl) (hp 5 (by kernel_rfl)) (hJ.vals 5 _ rfl (hp 5 (by kernel_rfl)))
              rw [if_neg (by rw [wanted_not (b := true) rfl rfl t46]; exact Bool.false_ne_true)]
              exact hK _ _ (hJ.val HOK 8 _ (by kernel_rfl) rfl (Below.refl _ _))
            case o18k1b_9 =>
              intro LX V aX wX K hl hp hcl hf hJ hK
              have t46 := hf.in (i := 5) (d := 46) (by kernel_rfl) (hp 5 (by kernel_rfl)) (hJ.vals 5 _ rfl (hp 5 (by kernel_rfl)))
              rw [if_neg (by rw [wanted_not (b := true) rfl rfl t46]; exact Bool.false_ne_true)]
              exact hK _ _ (hJ.val HOK 9 _ (by kernel_rfl) rfl (Below.refl _ _))
            case o18k1b_10 =>
              intro LX V aX wX K hl hp hcl hf hJ hK
              have t46 := hf.in (i := 5) (d := 46) (by kernel_rfl) (hp 5 (by kernel_rfl)) (hJ.vals 5 _ rfl (hp 5 (by kernel_rfl)))
              rw [if_neg (by rw [wanted_not (b := true) rfl rfl t46]; exact Bool.false_ne_true)]
              exact hK _ _ (hJ.val HOK 10 _ (by kernel_rfl) rfl (Below.refl _ _))
            case o18k1b_11 =>
              intro LX V aX wX K hl hp hcl hf hJ hK
              have t46 := hf.in (i := 5) (d := 46) (by kernel_rfl) (hp 5 (by kernel_rfl)) (hJ.vals 5 _ rfl (hp 5 (by kernel_rfl)))
              rw [if_neg (by rw [wanted_not (b := true) rfl rfl t46]; exact Bool.false_ne_true)]
              exact hK _ _ (hJ.val HOK 11 _ (by kernel_rfl) rfl (Below.refl _ _))
            case o18k1b_12 =>
              intro LX V aX wX K hl hp hcl hf hJ hK
              have t46 := hf.in (i := 5) (d := 46) (by kernel_rfl) (hp 5 (by kernel_rfl)) (hJ.vals 5 _ rfl (hp 5 (by kernel_rfl)))
              rw [if_neg (by rw [wanted_not (b := true) rfl rfl t46]; exact Bool.false_ne_true)]
              exact hK _ _ (hJ.val HOK 12 _ (by kernel_rfl) rfl (Below.refl _ _))
            case o18k1b_13 =>
              intro LX V aX wX K hl hp hcl hf hJ hK
              have t46 := hf.in (i := 5) (d := 46) (by kernel_rfl) (hp 5 (by kernel_rfl)) (hJ.vals 5 _ rfl (hp 5 (by kernel_rfl)))
              rw [if_neg (by rw [wanted_not (b := true) rfl rfl t46]; exact Bool.false_ne_true)]
              exact hK _ _ (hJ.val HOK 13 _ (by kernel_rfl) rfl (Below.refl _ _))
            case o18k1b_14 =>
              intro LX V aX wX K hl hp hcl hf hJ hK
              have t46 := hf.in (i := 5) (d := 46) (by kernel_rfl) (hp 5 (by kernel_rfl)) (hJ.vals 5 _ rfl (hp 5 (by kernel_rfl)))
              rw [if_neg (by rw [wanted_not (b := true) rfl rfl t46]; exact Bool.false_ne_true)]
              exact hK _ _ (hJ.val HOK 14 _ (by kernel_rfl) rfl (Below.refl _ _))
            case o18k1b_15 =>
              intro LX V aX wX K hl hp hcl hf hJ hK
              have t46 := hf.in (i := 5) (d := 46) (by kernel_rfl) (hp 5 (by kernel_rfl)) (hJ.vals 5 _ rfl (hp 5 (by kernel_rfl)))
              rw [if_neg (by rw [wanted_not (b := true) rfl rfl t46]; exact Bool.false_ne_true)]
              exact hK _ _ (hJ.val HOK 15 _ (by kernel_rfl) rfl (Below.refl _ _))
            case o18k1b_16 =>
              intro LX V aX wX K hl hp hcl hf hJ hK
              have t46 := hf.in (i := 5) (d := 46) (by kernel_rfl) (hp 5 (by kernel_rfl)) (hJ.vals 5 _ rfl (hp 5 (by kernel_rfl)))
              have t56 := hf.in (i := 15) (d := 56) (by kernel_rfl) (hp 15 (by kernel_rfl)) (hJ.vals 15 _ rfl (hp 15 (by kernel_rfl)))
              have t43 := hf.in (i := 2) (d := 43) (by kernel_rfl) (hp 2 (by kernel_rfl)) (hJ.vals 2 _ rfl (hp 2 (by kernel_rfl)))
              rw [if_pos (wanted_of rfl rfl t43)]
              go_simp
              exact hK _ _ (hJ.val HOK 16 _ (by kernel_rfl) rfl (Below.refl _ _))
            case o18k1b_17 =>
              intro LX V aX wX K hl hp hcl hf hJ hK
              have t43 := hf.in (i := 2) (d := 43) (by kernel_rfl) (hp 2 (by kernel_rfl)) (hJ.vals 2 _ rfl (hp 2 (by kernel_rfl)))
              have t57 := hf.in (i := 16) (d := 57) (by kernel_rfl) (hp 16 (by kernel_rfl)) (hJ.vals 16 _ rfl (hp 16 (by kernel_rfl)))
              rw [if_pos (by rfl)]
              go_simp
              exact hK _ _ (hJ.val HOK 17 _ (by kernel_rfl) rfl (Below.refl _ _))
          intro V wZ hJ
          have hv := hJ.vals 17 _ rfl (by kernel_rfl)
          have HBZ := Lib.hid hJ.below
          simp only [puts, Act.put, List.setIfInBounds_toArray, List.set_cons_zero, List.set_cons_succ]
          rw [hv]
          clear hJ HOK hv
          have HBX := Lib.hid (HBQ.out.trans (HBZ.out.mono HBQ.out.size))
          go_wp2_with fail
          go_loopw [8] (fun jv wr => ∃ j : Nat, j ≤ i ∧ jv = .int .i64 j ∧ Hid (Below w2.heap.size w2 wr)) (fun jv _ => i - (intOf jv).toNat)
          case atStart => exact ⟨0, by omega, rfl, HBX⟩
          case round =>
            obtain ⟨j, hj, rfl, hbj⟩ := hrel
            by_cases hltj : j < i
            · have hj5 : (j : Int) < (i : Int) := by omega
              have hj6 : (j : Int) < (20 : Int) := by omega
              have hj0 : (0 : Int) ≤ (j : Int) := by omega
              have hwj : IntKind.i64.wrap ((j : Int) + 1) = (j : Int) + 1 := IntWalk.i64_in _ (by omega)
              have cz := HAT.out wr hbj.out j (by omega)
              obtain ⟨ot, e9, e10⟩ := HLO.out j (by omega)
              obtain ⟨z, hz⟩ : ∃ z, z = sufS.getD j [] := ⟨_, rfl⟩
              rw [← hz] at cz e9
              have hne : ot ≠ lg := fun e => HDI.out j i hltj hlt ⟨lg, by rw [← hz, e9, e], HLG.out⟩
              have q9 : ((bs ot).toList == (bs lg).toList) = false := (bs_eq _ _).trans (decide_eq_false hne)
              have hl := HL.out z wr (HT2.out.later hbj.out)
              rw [e9] at hl
              have HLZ := Lib.hid hl
              clear e9 e10 hz hne hl
              go_wp2_with fail
              refine HLZ.out.mono ?_
              rintro e w4 ⟨rfl, hb4⟩
              have HB4 := Lib.hid (hbj.out.trans (hb4.mono hbj.out.size))
              clear hb4
              unfold foundV
              go_wp2_with fail
              go_roundw
              case rel => exact ⟨j + 1, by omega, by go_num, HB4⟩
              case measure => simp [intOf]; omega
            · have hji : i = j := by omega
              subst hji
              go_wp2_with fail
              go_roundw
              case rel => exact ⟨i + 1, by omega, by go_num, hbj⟩
              case measure => simp [intOf]; omega
      · have hin : i = 20 := by omega
        subst hin
        go_wp2_with fail
        refine (awake_any wr (HT2.out.later hbr.out)).mono ?_
        rintro e w5 ⟨rfl, hb5⟩
        have HB5 := Lib.hid (hbr.out.trans (hb5.mono hbr.out.size))
        clear hb5
        go_wp2_with fail
        go_ret
        exact ⟨rfl, HB2.out.trans (HB5.out.mono HB2.out.size)⟩
  by_cases h2 : k = 2
  · subst h2
    clear h1
    go_enter Tryd.func5, Tryd.ntmps5
    go_wp2_with fail
    have ha := All_kind 2 w HT.out
    rw [show kindS 2 = dirS from rfl, show dirS.length = 8 from rfl] at ha
    refine ha.mono ?_
    clear ha
    rintro e w2 ⟨ao, cap, rfl, hi, _, hb⟩
    have HB2 := Lib.hid hb
    have HT2 := Lib.hid (HT.out.later hb)
    obtain ⟨b, off, hao, _⟩ := hi.at (i := 0) (by omega)
    subst hao
    have hnc := hi.2.1
    have hcm : cap ≤ 9223372036854775807 := hi.2.2.1
    have HAT : Hid (∀ wX, Below w2.heap.size w2 wX → ∀ i, i < 8 → wX.cell? ⟨b, off + i, none⟩ = some (sV (dirS.getD i []))) := Lib.hid (fun wX hX i hi2 => by
      obtain ⟨b2, o2, e2, c2⟩ := (hi.later hX (Nat.le_refl _)).at hi2
      cases e2
      exact c2)
    have HL : Hid (∀ (x : Wd) (wX : World), Tb wX → Calls Tryd.prog 10 #[.int .i64 2, sV x] wX fun e w' => e = .returned (foundV (firstL (kindP 2) x)) ∧ Below wX.heap.size wX w') := Lib.hid (fun x wX hT => by
      have := Long_any 2 x wX hT
      rw [long_is] at this
      exact this)
    have HLO : Hid (∀ i, i < 8 → ∃ lg, firstL (kindP 2) (dirS.getD i []) = some lg ∧ True) := Lib.hid (fun i hi2 => by
      obtain ⟨lg, h⟩ := all_long 2 (i := i) (by rw [show (kindS 2).length = 8 from rfl]; exact hi2)
      exact ⟨lg, h, trivial⟩)
    have HDI : Hid (∀ j i, j < i → i < 8 → ¬ ∃ lg, firstL (kindP 2) (dirS.getD j []) = some lg ∧ firstL (kindP 2) (dirS.getD i []) = some lg) := Lib.hid (fun j i hj hi2 h => all_apart 2 hj (by rw [show (kindS 2).length = 8 from rfl]; exact hi2) h)
    have HRI : Hid (∀ i, i + 1 < 8 → dirS.getD i [] < dirS.getD (i + 1) []) := Lib.hid (fun i hi2 => all_rise 2 (by rw [show (kindS 2).length = 8 from rfl]; exact hi2))
    clear hi hb
    go_wp2_with fail
    go_loopw [5] (fun iv wr => ∃ i : Nat, i ≤ 8 ∧ iv = .int .i64 i ∧ Hid (Below w2.heap.size w2 wr)) (fun iv _ => 8 - (intOf iv).toNat)
    case atStart => exact ⟨0, by omega, rfl, Lib.hid (Below.refl _ _)⟩
    case round =>
      obtain ⟨i, hi, rfl, hbr⟩ := hrel
      by_cases hlt : i < 8
      · have hi5 : (i : Int) < (8 : Int) := by omega
        have hi0 : (0 : Int) ≤ (i : Int) := by omega
        have hwi : IntKind.i64.wrap ((i : Int) + 1) = (i : Int) + 1 := IntWalk.i64_in _ (by omega)
        have cx := HAT.out wr hbr.out i hlt
        obtain ⟨lg, e1, _⟩ := HLO.out i hlt
        have HLG := Lib.hid e1
        obtain ⟨x, hx⟩ : ∃ x, x = dirS.getD i [] := ⟨_, rfl⟩
        rw [← hx] at cx e1
        have HX := Lib.hid hx
        have hl := HL.out x wr (HT2.out.later hbr.out)
        rw [e1] at hl
        have HLX := Lib.hid hl
        clear e1 hx hl
        go_wp2_with fail
        refine HLX.out.mono ?_
        rintro e wq ⟨rfl, hb3⟩
        have HBQ := Lib.hid (hbr.out.trans (hb3.mono hbr.out.size))
        have HIX := Lib.hid (And.intro hi5 hi0)
        have HCX : Hid (∀ wX, Below wq.heap.size wq wX → wX.cell? ⟨b, off + i, none⟩ = some (sV x)) := Lib.hid (fun wX hX => by
          have := HAT.out wX (HBQ.out.trans (hX.mono HBQ.out.size)) i hlt
          rw [← HX.out] at this
          exact this)
        clear hb3 cx
        unfold foundV
        by_cases hp : 0 < i
        · obtain ⟨i1, hi1⟩ : ∃ i1 : Nat, i = i1 + 1 := ⟨i - 1, by omega⟩
          obtain ⟨y, hy⟩ : ∃ y, y = dirS.getD i1 [] := ⟨_, rfl⟩
          have hyx : y < x := by
            have := HRI.out i1 (by omega)
            rw [← hi1, ← hy, ← HX.out] at this
            exact this
          have HCY : Hid (∀ wX, Below wq.heap.size wq wX → wX.cell? ⟨b, off + i1, none⟩ = some (sV y)) := Lib.hid (fun wX hX => by
            have := HAT.out wX (HBQ.out.trans (hX.mono HBQ.out.size)) i1 (by omega)
            rw [← hy] at this
            exact this)
          have HLE : Hid (Op.bytesLess (bs x).toList (bs y).toList = false ∧ ((bs x).toList == (bs y).toList) = false) := Lib.hid (leq_no hyx)
          have HIX2 : Hid ((0 : Int) < (i : Int) ∧ 0 < i ∧ IntKind.i64.wrap ((i : Int) - 1) = (i1 : Int) ∧ (i1 : Int) < (8 : Int) ∧ (0 : Int) ≤ (i1 : Int)) := Lib.hid ⟨by omega, hp, by rw [IntWalk.i64_in _ (by omega)]; omega, by omega, by omega⟩
          clear hy hyx hi1 hp
          go_wp2_with fail
          have HOK : ∀ f ∈ ([] : List Fct), FctOk f := by
            intro f hf; cases hf
          refine wp_region_J (s := [(41, 0), (42, 1), (43, 2), (44, 3), (45, 4), (46, 5), (47, 6), (48, 7), (49, 8), (50, 9), (51, 10), (52, 11), (53, 12), (54, 13), (55, 14), (56, 15), (57, 16), (58, 17)]) (by kernel_rfl) (GrowJ wq (fun iX => match iX with | 0 => some (.bool true) | 1 => some (.bool false) | 2 => some (.bool false) | 3 => some (.int .i64 (i : Int)) | 4 => some (.bool true) | 5 => some (.bool true) | 6 => some (.slice (some ⟨b, off, none⟩) 8 cap) | 7 => some (.int .i64 (i : Int)) | 8 => some (.pointer (some ⟨b, off + i, none⟩)) | 9 => some (sV x) | 10 => some (.slice (some ⟨b, off, none⟩) 8 cap) | 11 => some (.int .i64 (i : Int)) | 12 => some (.int .i64 (i1 : Int)) | 13 => some (.pointer (some ⟨b, off + i1, none⟩)) | 14 => some (sV y) | 15 => some (.bool false) | 16 => some (.bool false) | 17 => some (.bool false) | _ => none) []) (by kernel_rfl) (by kernel_rfl) (by kernel_rfl) (by kernel_rfl) (fun _ => undef) ?start18k2a ?step18k2a ?done18k2a
          case start18k2a => exact GrowJ.start ((Below.refl _ _).drew)
          case step18k2a =>
            refine ⟨?o18k2a_0, ?o18k2a_1, ?o18k2a_2, ?o18k2a_3, ?o18k2a_4, ?o18k2a_5, ?o18k2a_6, ?o18k2a_7, ?o18k2a_8, ?o18k2a_9, ?o18k2a_10, ?o18k2a_11, ?o18k2a_12, ?o18k2a_13, ?o18k2a_14, ?o18k2a_15, ?o18k2a_16, ?o18k2a_17, trivial⟩
            case o18k2a_0 =>
              intro LX V aX wX K hl hp hcl hf hJ hK
              have t7 : aX.tmps[7]? = some (.bool true) := hf.old (by kernel_rfl) rfl
              rw [if_pos (by rfl)]
              go_simp
              exact hK _ _ (hJ.val HOK 0 _ (by kernel_rfl) rfl (Below.refl _ _))
            case o18k2a_1 =>
              intro LX V aX wX K hl hp hcl hf hJ hK
              have t41 := hf.in (i := 0) (d := 41) (by kernel_rfl) (hp 0 (by kernel_rfl)) (hJ.vals 0 _ rfl (hp 0 (by kernel_rfl)))
              rw [if_pos (by rfl)]
              go_simp
              exact hK _ _ (hJ.val HOK 1 _ (by kernel_rfl) rfl (Below.refl _ _))
            case o18k2a_2 =>
              intro LX V aX wX K hl hp hcl hf hJ hK
              have t42 := hf.in (i := 1) (d := 42) (by kernel_rfl) (hp 1 (by kernel_rfl)) (hJ.vals 1 _ rfl (hp 1 (by kernel_rfl)))
              rw [if_pos (by rfl)]
              go_simp
              exact hK _ _ (hJ.val HOK 2 _ (by kernel_rfl) rfl (Below.refl _ _))
            case o18k2a_3 =>
              intro LX V aX wX K hl hp hcl hf hJ hK
              have t5 : aX.tmps[5]? = some (.int .i64 (i : Int)) := hf.old (by kernel_rfl) rfl
              have t43 := hf.in (i := 2) (d := 43) (by kernel_rfl) (hp 2 (by kernel_rfl)) (hJ.vals 2 _ rfl (hp 2 (by kernel_rfl)))
              rw [if_pos (wanted_of rfl rfl t43)]
              go_simp
              exact hK _ _ (hJ.val HOK 3 _ (by kernel_rfl) rfl (Below.refl _ _))
            case o18k2a_4 =>
              intro LX V aX wX K hl hp hcl hf hJ hK
              have t44 := hf.in (i := 3) (d := 44) (by kernel_rfl) (hp 3 (by kernel_rfl)) (hJ.vals 3 _ rfl (hp 3 (by kernel_rfl)))
              have t43 := hf.in (i := 2) (d := 43) (by kernel_rfl) (hp 2 (by kernel_rfl)) (hJ.vals 2 _ rfl (hp 2 (by kernel_rfl)))
              obtain ⟨v1, v2, v3, v4, v5⟩ := HIX2.out
              rw [if_pos (wanted_of rfl rfl t43)]
              go_simp
              exact hK _ _ (hJ.val HOK 4 _ (by kernel_rfl) rfl (Below.refl _ _))
            case o18k2a_5 =>
              intro LX V aX wX K hl hp hcl hf hJ hK
              have t45 := hf.in (i := 4) (d := 45) (by kernel_rfl) (hp 4 (by kernel_rfl)) (hJ.vals 4 _ rfl (hp 4 (by kernel_rfl)))
              have t43 := hf.in (i := 2) (d := 43) (by kernel_rfl) (hp 2 (by kernel_rfl)) (hJ.vals 2 _ rfl (hp 2 (by kernel_rfl)))
              rw [if_pos (wanted_of rfl rfl t43)]
              go_simp
              exact hK _ _ (hJ.val HOK 5 _ (by kernel_rfl) rfl (Below.refl _ _))
            case o18k2a_6 =>
              intro LX V aX wX K hl hp hcl hf hJ hK
              have t3 : aX.tmps[3]? = some (.slice (some ⟨b, off, none⟩) 8 cap) := hf.old (by kernel_rfl) rfl
              have t46 := hf.in (i := 5) (d := 46) (by kernel_rfl) (hp 5 (by kernel_rfl)) (hJ.vals 5 _ rfl (hp 5 (by kernel_rfl)))
              rw [if_pos (wanted_of rfl rfl t46)]
              go_simp
              exact hK _ _ (hJ.val HOK 6 _ (by kernel_rfl) rfl (Below.refl _ _))
            case o18k2a_7 =>
              intro LX V aX wX K hl hp hcl hf hJ hK
              have t5 : aX.tmps[5]? = some (.int .i64 (i : Int)) := hf.old (by kernel_rfl) rfl
              have t46 := hf.in (i := 5) (d := 46) (by kernel_rfl) (hp 5 (by kernel_rfl)) (hJ.vals 5 _ rfl (hp 5 (by kernel_rfl)))
              rw [if_pos (wanted_of rfl rfl t46)]
              go_simp
              exact hK _ _ (hJ.val HOK 7 _ (by kernel_rfl) rfl (Below.refl _ _))
            case o18k2a_8 =>
              intro LX V aX wX K hl hp hcl hf hJ hK
              have t47 := hf.in (i := 6) (d := 47) (by kernel_rfl) (hp 6 (by kernel_rfl)) (hJ.vals 6 _ rfl (hp 6 (by kernel_rfl)))
              have t48 := hf.in (i := 7) (d := 48) (by kernel_rfl) (hp 7 (by kernel_rfl)) (hJ.vals 7 _ rfl (hp 7 (by kernel_rfl)))
              have t46 := hf.in (i := 5) (d := 46) (by kernel_rfl) (hp 5 (by kernel_rfl)) (hJ.vals 5 _ rfl (hp 5 (by kernel_rfl)))
              obtain ⟨u1, u2⟩ := HIX.out
              rw [if_pos (wanted_of rfl rfl t46)]
              go_simp
              exact hK _ _ (hJ.val HOK 8 _ (by kernel_rfl) rfl (Below.refl _ _))
            case o18k2a_9 =>
              intro LX V aX wX K hl hp hcl hf hJ hK
              have t49 := hf.in (i := 8) (d := 49) (by kernel_rfl) (hp 8 (by kernel_rfl)) (hJ.vals 8 _ rfl (hp 8 (by kernel_rfl)))
              have t46 := hf.in (i := 5) (d := 46) (by kernel_rfl) (hp 5 (by kernel_rfl)) (hJ.vals 5 _ rfl (hp 5 (by kernel_rfl)))
              have cx := HCX.out wX hJ.below
              rw [if_pos (wanted_of rfl rfl t46)]
              go_simp
              exact hK _ _ (hJ.val HOK 9 _ (by kernel_rfl) rfl (Below.refl _ _))
            case o18k2a_10 =>
              intro LX V aX wX K hl hp hcl hf hJ hK
              have t3 : aX.tmps[3]? = some (.slice (some ⟨b, off, none⟩) 8 cap) := hf.old (by kernel_rfl) rfl
              have t46 := hf.in (i := 5) (d := 46) (by kernel_rfl) (hp 5 (by kernel_rfl)) (hJ.vals 5 _ rfl (hp 5 (by kernel_rfl)))
              rw [if_pos (wanted_of rfl rfl t46)]
              go_simp
              exact hK _ _ (hJ.val HOK 10 _ (by kernel_rfl) rfl (Below.refl _ _))
            case o18k2a_11 =>
              intro LX V aX wX K hl hp hcl hf hJ hK
              have t5 : aX.tmps[5]? = some (.int .i64 (i : Int)) := hf.old (by kernel_rfl) rfl
              have t46 := hf.in (i := 5) (d := 46) (by kernel_rfl) (hp 5 (by kernel_rfl)) (hJ.vals 5 _ rfl (hp 5 (by kernel_rfl)))
              rw [if_pos (wanted_of rfl rfl t46)]
              go_simp
              exact hK _ _ (hJ.val HOK 11 _ (by kernel_rfl) rfl (Below.refl _ _))
            case o18k2a_12 =>
              intro LX V aX wX K hl hp hcl hf hJ hK
              have t52 := hf.in (i := 11) (d := 52) (by kernel_rfl) (hp 11 (by kernel_rfl)) (hJ.vals 11 _ rfl (hp 11 (by kernel_rfl)))
              have t46 := hf.in (i := 5) (d := 46) (by kernel_rfl) (hp 5 (by kernel_rfl)) (hJ.vals 5 _ rfl (hp 5 (by kernel_rfl)))
              obtain ⟨v1, v2, v3, v4, v5⟩ := HIX2.out
              rw [if_pos (wanted_of rfl rfl t46)]
              go_simp
              exact hK _ _ (hJ.val HOK 12 _ (by kernel_rfl) rfl (Below.refl _ _))
            case o18k2a_13 =>
              intro LX V aX wX K hl hp hcl hf hJ hK
              have t51 := hf.in (i := 10) (d := 51) (by kernel_rfl) (hp 10 (by kernel_rfl)) (hJ.vals 10 _ rfl (hp 10 (by kernel_rfl)))
              have t53 := hf.in (i := 12) (d := 53) (by kernel_rfl) (hp 12 (by kernel_rfl)) (hJ.vals 12 _ rfl (hp 12 (by kernel_rfl)))
              have t46 := hf.in (i := 5) (d := 46) (by kernel_rfl) (hp 5 (by kernel_rfl)) (hJ.vals 5 _ rfl (hp 5 (by kernel_rfl)))
              obtain ⟨v1, v2, v3, v4, v5⟩ := HIX2.out
              rw [if_pos (wanted_of rfl rfl t46)]
              go_simp
              exact hK _ _ (hJ.val HOK 13 _ (by kernel_rfl) rfl (Below.refl _ _))
            case o18k2a_14 =>
              intro LX V aX wX K hl hp hcl hf hJ hK
              have t54 := hf.in (i := 13) (d := 54) (by kernel_rfl) (hp 13 (by kernel_rfl)) (hJ.vals 13 _ rfl (hp 13 (by kernel_rfl)))
              have t46 := hf.in (i := 5) (d := 46) (by kernel_rfl) (hp 5 (by kernel_rfl)) (hJ.vals 5 _ rfl (hp 5 (by kernel_rfl)))
              have cy := HCY.out wX hJ.below
              rw [if_pos (wanted_of rfl rfl t46)]
              go_simp
              exact hK _ _ (hJ.val HOK 14 _ (by kernel_rfl) rfl (Below.refl _ _))
            case o18k2a_15 =>
              intro LX V aX wX K hl hp hcl hf hJ hK
              have t50 := hf.in (i := 9) (d := 50) (by kernel_rfl) (hp 9 (by kernel_rfl)) (hJ.vals 9 _ rfl (hp 9 (by kernel_rfl)))
              have t55 := hf.in (i := 14) (d := 55) (by kernel_rfl) (hp 14 (by kernel_rfl)) (hJ.vals 14 _ rfl (hp 14 (by kernel_rfl)))
              have t46 := hf.in (i := 5) (d := 46) (by kernel_rfl) (hp 5 (by kernel_rfl)) (hJ.vals 5 _ rfl (hp 5 (by kernel_rfl)))
              obtain ⟨l1, l2⟩ := HLE.out
              rw [if_pos (wanted_of rfl rfl t46)]
              go_simp
              exact hK _ _ (hJ.val HOK 15 _ (by kernel_rfl) rfl (Below.refl _ _))
            case o18k2a_16 =>
              intro LX V aX wX K hl hp hcl hf hJ hK
              have t46 := hf.in (i := 5) (d := 46) (by kernel_rfl) (hp 5 (by kernel_rfl)) (hJ.vals 5 _ rfl (hp 5 (by kernel_rfl)))
              have t56 := hf.in (i := 15) (d := 56) (by kernel_rfl) (hp 15 (by kernel_rfl)) (hJ.vals 15 _ rfl (hp 15 (by kernel_rfl)))
              have t43 := hf.in (i := 2) (d := 43) (by kernel_rfl) (hp 2 (by kernel_rfl)) (hJ.vals 2 _ rfl (hp 2 (by kernel_rfl)))
              rw [if_pos (wanted_of rfl rfl t43)]
              go_simp
              exact hK _ _ (hJ.val HOK 16 _ (by kernel_rfl) rfl (Below.refl _ _))
            case o18k2a_17 =>
              intro LX V aX wX K hl hp hcl hf hJ hK
              have t43 := hf.in (i := 2) (d := 43) (by kernel_rfl) (hp 2 (by kernel_rfl)) (hJ.vals 2 _ rfl (hp 2 (by kernel_rfl)))
              have t57 := hf.in (i := 16) (d := 57) (by kernel_rfl) (hp 16 (by kernel_rfl)) (hJ.vals 16 _ rfl (hp 16 (by kernel_rfl)))
              rw [if_pos (by rfl)]
              go_simp
              exact hK _ _ (hJ.val HOK 17 _ (by kernel_rfl) rfl (Below.refl _ _))
          intro V wZ hJ
          have hv := hJ.vals 17 _ rfl (by kernel_rfl)
          have HBZ := Lib.hid hJ.below
          simp only [puts, Act.put, List.setIfInBounds_toArray, List.set_cons_zero, List.set_cons_succ]
          rw [hv]
          clear hJ HOK hv
          have HBX := Lib.hid (HBQ.out.trans (HBZ.out.mono HBQ.out.size))
          go_wp2_with fail
          go_loopw [8] (fun jv wr => ∃ j : Nat, j ≤ i ∧ jv = .int .i64 j ∧ Hid (Below w2.heap.size w2 wr)) (fun jv _ => i - (intOf jv).toNat)
          case atStart => exact ⟨0, by omega, rfl, HBX⟩
          case round =>
            obtain ⟨j, hj, rfl, hbj⟩ := hrel
            by_cases hltj : j < i
            · have hj5 : (j : Int) < (i : Int) := by omega
              have hj6 : (j : Int) < (8 : Int) := by omega
              have hj0 : (0 : Int) ≤ (j : Int) := by omega
              have hwj : IntKind.i64.wrap ((j : Int) + 1) = (j : Int) + 1 := IntWalk.i64_in _ (by omega)
              have cz := HAT.out wr hbj.out j (by omega)
              obtain ⟨ot, e9, e10⟩ := HLO.out j (by omega)
              obtain ⟨z, hz⟩ : ∃ z, z = dirS.getD j [] := ⟨_, rfl⟩
              rw [← hz] at cz e9
              have hne : ot ≠ lg := fun e => HDI.out j i hltj hlt ⟨lg, by rw [← hz, e9, e], HLG.out⟩
              have q9 : ((bs ot).toList == (bs lg).toList) = false := (bs_eq _ _).trans (decide_eq_false hne)
              have hl := HL.out z wr (HT2.out.later hbj.out)
              rw [e9] at hl
              have HLZ := Lib.hid hl
              clear e9 e10 hz hne hl
              go_wp2_with fail
              refine HLZ.out.mono ?_
              rintro e w4 ⟨rfl, hb4⟩
              have HB4 := Lib.hid (hbj.out.trans (hb4.mono hbj.out.size))
              clear hb4
              unfold foundV
              go_wp2_with fail
              go_roundw
              case rel => exact ⟨j + 1, by omega, by go_num, HB4⟩
              case measure => simp [intOf]; omega
            · have hji : i = j := by omega
              subst hji
              go_wp2_with fail
              go_roundw
              case rel => exact ⟨i + 1, by omega, by go_num, hbj⟩
              case measure => simp [intOf]; omega
        · have HK0 : Hid (¬ (0 : Int) < (i : Int)) := Lib.hid (by omega)
          clear hp
          go_wp2_with fail
          have HOK : ∀ f ∈ ([] : List Fct), FctOk f := by
            intro f hf; cases hf
          refine wp_region_J (s := [(41, 0), (42, 1), (43, 2), (44, 3), (45, 4), (46, 5), (47, 6), (48, 7), (49, 8), (50, 9), (51, 10), (52, 11), (53, 12), (54, 13), (55, 14), (56, 15), (57, 16), (58, 17)]) (by kernel_rfl) (GrowJ wq (fun iX => match iX with | 0 => some (.bool true) | 1 => some (.bool false) | 2 => some (.bool false) | 3 => some (.int .i64 (i : Int)) | 4 => some (.bool false) | 5 => some (.bool false) | 6 => some (undef) | 7 => some (undef) | 8 => some (undef) | 9 => some (undef) | 10 => some (undef) | 11 => some (undef) | 12 => some (undef) | 13 => some (undef) | 14 => some (undef) | 15 => some (undef) | 16 => some (.bool false) | 17 => some (.bool false) | _ => none) []) (by kernel_rfl) (by kernel_rfl) (by kernel_rfl) (by kernel_rfl) (fun _ => undef) ?start18k2b ?step18k2b ?done18k2b
          case start18k2b => exact GrowJ.start ((Below.refl _ _).drew)
          case step18k2b =>
            refine ⟨?o18k2b_0, ?o18k2b_1, ?o18k2b_2, ?o18k2b_3, ?o18k2b_4, ?o18k2b_5, ?o18k2b_6, ?o18k2b_7, ?o18k2b_8, ?o18k2b_9, ?o18k2b_10, ?o18k2b_11, ?o18k2b_12, ?o18k2b_13, ?o18k2b_14, ?o18k2b_15, ?o18k2b_16, ?o18k2b_17, trivial⟩
            case o18k2b_0 =>
              intro LX V aX wX K hl hp hcl hf hJ hK
              have t7 : aX.tmps[7]? = some (.bool true) := hf.old (by kernel_rfl) rfl
              rw [if_pos (by rfl)]
              go_simp
              exact hK _ _ (hJ.val HOK 0 _ (by kernel_rfl) rfl (Below.refl _ _))
            case o18k2b_1 =>
              intro LX V aX wX K hl hp hcl hf hJ hK
              have t41 := hf.in (i := 0) (d := 41) (by kernel_rfl) (hp 0 (by kernel_rfl)) (hJ.vals 0 _ rfl (hp 0 (by kernel_rfl)))
              rw [if_pos (by rfl)]
              go_simp
              exact hK _ _ (hJ.val HOK 1 _ (by kernel_rfl) rfl (Below.refl _ _))
            case o18k2b_2 =>
              intro LX V aX wX K hl hp hcl hf hJ hK
              have t42 := hf.in (i := 1) (d := 42) (by kernel_rfl) (hp 1 (by kernel_rfl)) (hJ.vals 1 _ rfl (hp 1 (by kernel_rfl)))
              rw [if_pos (by rfl)]
              go_simp
              exact hK _ _ (hJ.val HOK 2 _ (by kernel_rfl) rfl (Below.refl _ _))
            case o18k2b_3 =>
              intro LX V aX wX K hl hp hcl hf hJ hK
              have t5 : aX.tmps[5]? = some (.int .i64 (i : Int)) := hf.old (by kernel_rfl) rfl
              have t43 := hf.in (i := 2) (d := 43) (by kernel_rfl) (hp 2 (by kernel_rfl)) (hJ.vals 2 _ rfl (hp 2 (by kernel_rfl)))
              rw [if_pos (wanted_of rfl rfl t43)]
              go_simp
              exact hK _ _ (hJ.val HOK 3 _ (by kernel_rfl) rfl (Below.refl _ _))
            case o18k2b_4 =>
              intro LX V aX wX K hl hp hcl hf hJ hK
              have t44 := hf.in (i := 3) (d := 44) (by kernel_rfl) (hp 3 (by kernel_rfl)) (hJ.vals 3 _ rfl (hp 3 (by kernel_rfl)))
              have t43 := hf.in (i := 2) (d := 43) (by kernel_rfl) (hp 2 (by kernel_rfl)) (hJ.vals 2 _ rfl (hp 2 (by kernel_rfl)))
              have hk0 := HK0.out
              have hk1 : decide ((0 : Int) < (i : Int)) = false := by simp; omega
              have hk2 : decide (0 < i) = false := by simp; omega
              clear hk0
              rw [if_pos (wanted_of rfl rfl t43)]
              go_simp
              exact hK _ _ (hJ.val HOK 4 _ (by kernel_rfl) rfl (Below.refl _ _))
            case o18k2b_5 =>
              intro LX V aX wX K hl hp hcl hf hJ hK
              have t45 := hf.in (i := 4) (d := 45) (by kernel_rfl) (hp 4 (by kernel_rfl)) (hJ.vals 4 _ rfl (hp 4 (by kernel_rfl)))
              have t43 := hf.in (i := 2) (d := 43) (by kernel_rfl) (hp 2 (by kernel_rfl)) (hJ.vals 2 _ rfl (hp 2 (by kernel_rfl)))
              rw [if_pos (wanted_of rfl rfl t43)]
              go_simp
              exact hK _ _ (hJ.val HOK 5 _ (by kernel_rfl) rfl (Below.refl _ _))
            case o18k2b_6 =>
              intro LX V aX wX K hl hp hcl hf hJ hK
              have t46 := hf.in (i := 5) (d := 46) (by kernel_rfl) (hp 5 (by kernel_rfl)) (hJ.vals 5 _ rfl (hp 5 (by kernel_rfl)))
              rw [if_neg (by rw [wanted_not (b := true) rfl rfl t46]; exact Bool.false_ne_true)]
              exact hK _ _ (hJ.val HOK 6 _ (by kernel_rfl) rfl (Below.refl _ _))
            case o18k2b_7 =>
              intro LX V aX wX K hl hp hcl hf hJ hK
              have t46 := hf.in (i := 5) (d := 46) (by kernel_rfl) (hp 5 (by kernel_rfl)) (hJ.vals 5 _ rfl (hp 5 (by kernel_rfl)))
              rw [if_neg (by rw [wanted_not (b := true) rfl rfl t46]; exact Bool.false_ne_true)]
              exact hK _ _ (hJ.val HOK 7 _ (by kernel_rfl) rfl (Below.refl _ _))
            case o18k2b_8 =>
              intro LX V aX wX K hl hp hcl hf hJ hK
              have t46 := hf.in (i := 5) (d := 46) (by kernel_rfl) (hp 5 (by kernel_rfl)) (hJ.vals 5 _ rfl (hp 5 (by kernel_rfl)))
              rw [if_neg (by rw [wanted_not (b := true) rfl rfl t46]; exact Bool.false_ne_true)]
              exact hK _ _ (hJ.val HOK 8 _ (by kernel_rfl) rfl (Below.refl _ _))
            case o18k2b_9 =>
              intro LX V aX wX K hl hp hcl hf hJ hK
              have t46 := hf.in (i := 5) (d := 46) (by kernel_rfl) (hp 5 (by kernel_rfl)) (hJ.vals 5 _ rfl (hp 5 (by kernel_rfl)))
              rw [if_neg (by rw [wanted_not (b := true) rfl rfl t46]; exact Bool.false_ne_true)]
              exact hK _ _ (hJ.val HOK 9 _ (by kernel_rfl) rfl (Below.refl _ _))
            case o18k2b_10 =>
              intro LX V aX wX K hl hp hcl hf hJ hK
              have t46 := hf.in (i := 5) (d := 46) (by kernel_rfl) (hp 5 (by kernel_rfl)) (hJ.vals 5 _ rfl (hp 5 (by kernel_rfl)))
              rw [if_neg (by rw [wanted_not (b := true) rfl rfl t46]; exact Bool.false_ne_true)]
              exact hK _ _ (hJ.val HOK 10 _ (by kernel_rfl) rfl (Below.refl _ _))
            case o18k2b_11 =>
              intro LX V aX wX K hl hp hcl hf hJ hK
              have t46 := hf.in (i := 5) (d := 46) (by kernel_rfl) (hp 5 (by kernel_rfl)) (hJ.vals 5 _ rfl (hp 5 (by kernel_rfl)))
              rw [if_neg (by rw [wanted_not (b := true) rfl rfl t46]; exact Bool.false_ne_true)]
              exact hK _ _ (hJ.val HOK 11 _ (by kernel_rfl) rfl (Below.refl _ _))
            case o18k2b_12 =>
              intro LX V aX wX K hl hp hcl hf hJ hK
              have t46 := hf.in (i := 5) (d := 46) (by kernel_rfl) (hp 5 (by kernel_rfl)) (hJ.vals 5 _ rfl (hp 5 (by kernel_rfl)))
              rw [if_neg (by rw [wanted_not (b := true) rfl rfl t46]; exact Bool.false_ne_true)]
              exact hK _ _ (hJ.val HOK 12 _ (by kernel_rfl) rfl (Below.refl _ _))
            case o18k2b_13 =>
              intro LX V aX wX K hl hp hcl hf hJ hK
              have t46 := hf.in (i := 5) (d := 46) (by kernel_rfl) (hp 5 (by kernel_rfl)) (hJ.vals 5 _ rfl (hp 5 (by kernel_rfl)))
              rw [if_neg (by rw [wanted_not (b := true) rfl rfl t46]; exact Bool.false_ne_true)]
              exact hK _ _ (hJ.val HOK 13 _ (by kernel_rfl) rfl (Below.refl _ _))
            case o18k2b_14 =>
              intro LX V aX wX K hl hp hcl hf hJ hK
              have t46 := hf.in (i := 5) (d := 46) (by kernel_rfl) (hp 5 (by kernel_rfl)) (hJ.vals 5 _ rfl (hp 5 (by kernel_rfl)))
              rw [if_neg (by rw [wanted_not (b := true) rfl rfl t46]; exact Bool.false_ne_true)]
              exact hK _ _ (hJ.val HOK 14 _ (by kernel_rfl) rfl (Below.refl _ _))
            case o18k2b_15 =>
              intro LX V aX wX K hl hp hcl hf hJ hK
              have t46 := hf.in (i := 5) (d := 46) (by kernel_rfl) (hp 5 (by kernel_rfl)) (hJ.vals 5 _ rfl (hp 5 (by kernel_rfl)))
              rw [if_neg (by rw [wanted_not (b := true) rfl rfl t46]; exact Bool.false_ne_true)]
              exact hK _ _ (hJ.val HOK 15 _ (by kernel_rfl) rfl (Below.refl _ _))
            case o18k2b_16 =>
              intro LX V aX wX K hl hp hcl hf hJ hK
              have t46 := hf.in (i := 5) (d := 46) (by kernel_rfl) (hp 5 (by kernel_rfl)) (hJ.vals 5 _ rfl (hp 5 (by kernel_rfl)))
              have t56 := hf.in (i := 15) (d := 56) (by kernel_rfl) (hp 15 (by kernel_rfl)) (hJ.vals 15 _ rfl (hp 15 (by kernel_rfl)))
              have t43 := hf.in (i := 2) (d := 43) (by kernel_rfl) (hp 2 (by kernel_rfl)) (hJ.vals 2 _ rfl (hp 2 (by kernel_rfl)))
              rw [if_pos (wanted_of rfl rfl t43)]
              go_simp
              exact hK _ _ (hJ.val HOK 16 _ (by kernel_rfl) rfl (Below.refl _ _))
            case o18k2b_17 =>
              intro LX V aX wX K hl hp hcl hf hJ hK
              have t43 := hf.in (i := 2) (d := 43) (by kernel_rfl) (hp 2 (by kernel_rfl)) (hJ.vals 2 _ rfl (hp 2 (by kernel_rfl)))
              have t57 := hf.in (i := 16) (d := 57) (by kernel_rfl) (hp 16 (by kernel_rfl)) (hJ.vals 16 _ rfl (hp 16 (by kernel_rfl)))
              rw [if_pos (by rfl)]
              go_simp
              exact hK _ _ (hJ.val HOK 17 _ (by kernel_rfl) rfl (Below.refl _ _))
          intro V wZ hJ
          have hv := hJ.vals 17 _ rfl (by kernel_rfl)
          have HBZ := Lib.hid hJ.below
          simp only [puts, Act.put, List.setIfInBounds_toArray, List.set_cons_zero, List.set_cons_succ]
          rw [hv]
          clear hJ HOK hv
          have HBX := Lib.hid (HBQ.out.trans (HBZ.out.mono HBQ.out.size))
          go_wp2_with fail
          go_loopw [8] (fun jv wr => ∃ j : Nat, j ≤ i ∧ jv = .int .i64 j ∧ Hid (Below w2.heap.size w2 wr)) (fun jv _ => i - (intOf jv).toNat)
          case atStart => exact ⟨0, by omega, rfl, HBX⟩
          case round =>
            obtain ⟨j, hj, rfl, hbj⟩ := hrel
            by_cases hltj : j < i
            · have hj5 : (j : Int) < (i : Int) := by omega
              have hj6 : (j : Int) < (8 : Int) := by omega
              have hj0 : (0 : Int) ≤ (j : Int) := by omega
              have hwj : IntKind.i64.wrap ((j : Int) + 1) = (j : Int) + 1 := IntWalk.i64_in _ (by omega)
              have cz := HAT.out wr hbj.out j (by omega)
              obtain ⟨ot, e9, e10⟩ := HLO.out j (by omega)
              obtain ⟨z, hz⟩ : ∃ z, z = dirS.getD j [] := ⟨_, rfl⟩
              rw [← hz] at cz e9
              have hne : ot ≠ lg := fun e => HDI.out j i hltj hlt ⟨lg, by rw [← hz, e9, e], HLG.out⟩
              have q9 : ((bs ot).toList == (bs lg).toList) = false := (bs_eq _ _).trans (decide_eq_false hne)
              have hl := HL.out z wr (HT2.out.later hbj.out)
              rw [e9] at hl
              have HLZ := Lib.hid hl
              clear e9 e10 hz hne hl
              go_wp2_with fail
              refine HLZ.out.mono ?_
              rintro e w4 ⟨rfl, hb4⟩
              have HB4 := Lib.hid (hbj.out.trans (hb4.mono hbj.out.size))
              clear hb4
              unfold foundV
              go_wp2_with fail
              go_roundw
              case rel => exact ⟨j + 1, by omega, by go_num, HB4⟩
              case measure => simp [intOf]; omega
            · have hji : i = j := by omega
              subst hji
              go_wp2_with fail
              go_roundw
              case rel => exact ⟨i + 1, by omega, by go_num, hbj⟩
              case measure => simp [intOf]; omega
      · have hin : i = 8 := by omega
        subst hin
        go_wp2_with fail
        refine (awake_any wr (HT2.out.later hbr.out)).mono ?_
        rintro e w5 ⟨rfl, hb5⟩
        have HB5 := Lib.hid (hbr.out.trans (hb5.mono hbr.out.size))
        clear hb5
        go_wp2_with fail
        go_ret
        exact ⟨rfl, HB2.out.trans (HB5.out.mono HB2.out.size)⟩
  by_cases h3 : k = 3
  · subst h3
    clear h1 h2
    go_enter Tryd.func5, Tryd.ntmps5
    go_wp2_with fail
    have ha := All_kind 3 w HT.out
    rw [show kindS 3 = staS from rfl, show staS.length = 51 from rfl] at ha
    refine ha.mono ?_
    clear ha
    rintro e w2 ⟨ao, cap, rfl, hi, _, hb⟩
    have HB2 := Lib.hid hb
    have HT2 := Lib.hid (HT.out.later hb)
    obtain ⟨b, off, hao, _⟩ := hi.at (i := 0) (by omega)
    subst hao
    have hnc := hi.2.1
    have hcm : cap ≤ 9223372036854775807 := hi.2.2.1
    have HAT : Hid (∀ wX, Below w2.heap.size w2 wX → ∀ i, i < 51 → wX.cell? ⟨b, off + i, none⟩ = some (sV (staS.getD i []))) := Lib.hid (fun wX hX i hi2 => by
      obtain ⟨b2, o2, e2, c2⟩ := (hi.later hX (Nat.le_refl _)).at hi2
      cases e2
      exact c2)
    have HL : Hid (∀ (x : Wd) (wX : World), Tb wX → Calls Tryd.prog 10 #[.int .i64 3, sV x] wX fun e w' => e = .returned (foundV (firstL (kindP 3) x)) ∧ Below wX.heap.size wX w') := Lib.hid (fun x wX hT => by
      have := Long_any 3 x wX hT
      rw [long_is] at this
      exact this)
    have HLO : Hid (∀ i, i < 51 → ∃ lg, firstL (kindP 3) (staS.getD i []) = some lg ∧ True) := Lib.hid (fun i hi2 => by
      obtain ⟨lg, h⟩ := all_long 3 (i := i) (by rw [show (kindS 3).length = 51 from rfl]; exact hi2)
      exact ⟨lg, h, trivial⟩)
    have HDI : Hid (∀ j i, j < i → i < 51 → ¬ ∃ lg, firstL (kindP 3) (staS.getD j []) = some lg ∧ firstL (kindP 3) (staS.getD i []) = some lg) := Lib.hid (fun j i hj hi2 h => all_apart 3 hj (by rw [show (kindS 3).length = 51 from rfl]; exact hi2) h)
    have HRI : Hid (∀ i, i + 1 < 51 → staS.getD i [] < staS.getD (i + 1) []) := Lib.hid (fun i hi2 => all_rise 3 (by rw [show (kindS 3).length = 51 from rfl]; exact hi2))
    clear hi hb
    go_wp2_with fail
    go_loopw [5] (fun iv wr => ∃ i : Nat, i ≤ 51 ∧ iv = .int .i64 i ∧ Hid (Below w2.heap.size w2 wr)) (fun iv _ => 51 - (intOf iv).toNat)
    case atStart => exact ⟨0, by omega, rfl, Lib.hid (Below.refl _ _)⟩
    case round =>
      obtain ⟨i, hi, rfl, hbr⟩ := hrel
      by_cases hlt : i < 51
      · have hi5 : (i : Int) < (51 : Int) := by omega
        have hi0 : (0 : Int) ≤ (i : Int) := by omega
        have hwi : IntKind.i64.wrap ((i : Int) + 1) = (i : Int) + 1 := IntWalk.i64_in _ (by omega)
        have cx := HAT.out wr hbr.out i hlt
        obtain ⟨lg, e1, _⟩ := HLO.out i hlt
        have HLG := Lib.hid e1
        obtain ⟨x, hx⟩ : ∃ x, x = staS.getD i [] := ⟨_, rfl⟩
        rw [← hx] at cx e1
        have HX := Lib.hid hx
        have hl := HL.out x wr (HT2.out.later hbr.out)
        rw [e1] at hl
        have HLX := Lib.hid hl
        clear e1 hx hl
        go_wp2_with fail
        refine HLX.out.mono ?_
        rintro e wq ⟨rfl, hb3⟩
        have HBQ := Lib.hid (hbr.out.trans (hb3.mono hbr.out.size))
        have HIX := Lib.hid (And.intro hi5 hi0)
        have HCX : Hid (∀ wX, Below wq.heap.size wq wX → wX.cell? ⟨b, off + i, none⟩ = some (sV x)) := Lib.hid (fun wX hX => by
          have := HAT.out wX (HBQ.out.trans (hX.mono HBQ.out.size)) i hlt
          rw [← HX.out] at this
          exact this)
        clear hb3 cx
        unfold foundV
        by_cases hp : 0 < i
        · obtain ⟨i1, hi1⟩ : ∃ i1 : Nat, i = i1 + 1 := ⟨i - 1, by omega⟩
          obtain ⟨y, hy⟩ : ∃ y, y = staS.getD i1 [] := ⟨_, rfl⟩
          have hyx : y < x := by
            have := HRI.out i1 (by omega)
            rw [← hi1, ← hy, ← HX.out] at this
            exact this
          have HCY : Hid (∀ wX, Below wq.heap.size wq wX → wX.cell? ⟨b, off + i1, none⟩ = some (sV y)) := Lib.hid (fun wX hX => by
            have := HAT.out wX (HBQ.out.trans (hX.mono HBQ.out.size)) i1 (by omega)
            rw [← hy] at this
            exact this)
          have HLE : Hid (Op.bytesLess (bs x).toList (bs y).toList = false ∧ ((bs x).toList == (bs y).toList) = false) := Lib.hid (leq_no hyx)
          have HIX2 : Hid ((0 : Int) < (i : Int) ∧ 0 < i ∧ IntKind.i64.wrap ((i : Int) - 1) = (i1 : Int) ∧ (i1 : Int) < (51 : Int) ∧ (0 : Int) ≤ (i1 : Int)) := Lib.hid ⟨by omega, hp, by rw [IntWalk.i64_in _ (by omega)]; omega, by omega, by omega⟩
          clear hy hyx hi1 hp
          go_wp2_with fail
          have HOK : ∀ f ∈ ([] : List Fct), FctOk f := by
            intro f hf; cases hf
          refine wp_region_J (s := [(41, 0), (42, 1), (43, 2), (44, 3), (45, 4), (46, 5), (47, 6), (48, 7), (49, 8), (50, 9), (51, 10), (52, 11), (53, 12), (54, 13), (55, 14), (56, 15), (57, 16), (58, 17)]) (by kernel_rfl) (GrowJ wq (fun iX => match iX with | 0 => some (.bool true) | 1 => some (.bool false) | 2 => some (.bool false) | 3 => some (.int .i64 (i : Int)) | 4 => some (.bool true) | 5 => some (.bool true) | 6 => some (.slice (some ⟨b, off, none⟩) 51 cap) | 7 => some (.int .i64 (i : Int)) | 8 => some (.pointer (some ⟨b, off + i, none⟩)) | 9 => some (sV x) | 10 => some (.slice (some ⟨b, off, none⟩) 51 cap) | 11 => some (.int .i64 (i : Int)) | 12 => some (.int .i64 (i1 : Int)) | 13 => some (.pointer (some ⟨b, off + i1, none⟩)) | 14 => some (sV y) | 15 => some (.bool false) | 16 => some (.bool false) | 17 => some (.bool false) | _ => none) []) (by kernel_rfl) (by kernel_rfl) (by kernel_rfl) (by kernel_rfl) (fun _ => undef) ?start18k3a ?step18k3a ?done18k3a
          case start18k3a => exact GrowJ.start ((Below.refl _ _).drew)
          case step18k3a =>
            refine ⟨?o18k3a_0, ?o18k3a_1, ?o18k3a_2, ?o18k3a_3, ?o18k3a_4, ?o18k3a_5, ?o18k3a_6, ?o18k3a_7, ?o18k3a_8, ?o18k3a_9, ?o18k3a_10, ?o18k3a_11, ?o18k3a_12, ?o18k3a_13, ?o18k3a_14, ?o18k3a_15, ?o18k3a_16, ?o18k3a_17, trivial⟩
            case o18k3a_0 =>
              intro LX V aX wX K hl hp hcl hf hJ hK
              have t7 : aX.tmps[7]? = some (.bool true) := hf.old (by kernel_rfl) rfl
              rw [if_pos (by rfl)]
              go_simp
              exact hK _ _ (hJ.val HOK 0 _ (by kernel_rfl) rfl (Below.refl _ _))
            case o18k3a_1 =>
              intro LX V aX wX K hl hp hcl hf hJ hK
              have t41 := hf.in (i := 0) (d := 41) (by kernel_rfl) (hp 0 (by kernel_rfl)) (hJ.vals 0 _ rfl (hp 0 (by kernel_rfl)))
              rw [if_pos (by rfl)]
              go_simp
              exact hK _ _ (hJ.val HOK 1 _ (by kernel_rfl) rfl (Below.refl _ _))
            case o18k3a_2 =>
              intro LX V aX wX K hl hp hcl hf hJ hK
              have t42 := hf.in (i := 1) (d := 42) (by kernel_rfl) (hp 1 (by kernel_rfl)) (hJ.vals 1 _ rfl (hp 1 (by kernel_rfl)))
              rw [if_pos (by rfl)]
              go_simp
              exact hK _ _ (hJ.val HOK 2 _ (by kernel_rfl) rfl (Below.refl _ _))
            case o18k3a_3 =>
              intro LX V aX wX K hl hp hcl hf hJ hK
              have t5 : aX.tmps[5]? = some (.int .i64 (i : Int)) := hf.old (by kernel_rfl) rfl
              have t43 := hf.in (i := 2) (d := 43) (by kernel_rfl) (hp 2 (by kernel_rfl)) (hJ.vals 2 _ rfl (hp 2 (by kernel_rfl)))
              rw [if_pos (wanted_of rfl rfl t43)]
              go_simp
              exact hK _ _ (hJ.val HOK 3 _ (by kernel_rfl) rfl (Below.refl _ _))
            case o18k3a_4 =>
              intro LX V aX wX K hl hp hcl hf hJ hK
              have t44 := hf.in (i := 3) (d := 44) (by kernel_rfl) (hp 3 (by kernel_rfl)) (hJ.vals 3 _ rfl (hp 3 (by kernel_rfl)))
              have t43 := hf.in (i := 2) (d := 43) (by kernel_rfl) (hp 2 (by kernel_rfl)) (hJ.vals 2 _ rfl (hp 2 (by kernel_rfl)))
              obtain ⟨v1, v2, v3, v4, v5⟩ := HIX2.out
              rw [if_pos (wanted_of rfl rfl t43)]
              go_simp
              exact hK _ _ (hJ.val HOK 4 _ (by kernel_rfl) rfl (Below.refl _ _))
            case o18k3a_5 =>
              intro LX V aX wX K hl hp hcl hf hJ hK
              have t45 := hf.in (i := 4) (d := 45) (by kernel_rfl) (hp 4 (by kernel_rfl)) (hJ.vals 4 _ rfl (hp 4 (by kernel_rfl)))
              have t43 := hf.in (i := 2) (d := 43) (by kernel_rfl) (hp 2 (by kernel_rfl)) (hJ.vals 2 _ rfl (hp 2 (by kernel_rfl)))
              rw [if_pos (wanted_of rfl rfl t43)]
              go_simp
              exact hK _ _ (hJ.val HOK 5 _ (by kernel_rfl) rfl (Below.refl _ _))
            case o18k3a_6 =>
              intro LX V aX wX K hl hp hcl hf hJ hK
              have t3 : aX.tmps[3]? = some (.slice (some ⟨b, off, none⟩) 51 cap) := hf.old (by kernel_rfl) rfl
              have t46 := hf.in (i := 5) (d := 46) (by kernel_rfl) (hp 5 (by kernel_rfl)) (hJ.vals 5 _ rfl (hp 5 (by kernel_rfl)))
              rw [if_pos (wanted_of rfl rfl t46)]
              go_simp
              exact hK _ _ (hJ.val HOK 6 _ (by kernel_rfl) rfl (Below.refl _ _))
            case o18k3a_7 =>
              intro LX V aX wX K hl hp hcl hf hJ hK
              have t5 : aX.tmps[5]? = some (.int .i64 (i : Int)) := hf.old (by kernel_rfl) rfl
              have t46 := hf.in (i := 5) (d := 46) (by kernel_rfl) (hp 5 (by kernel_rfl)) (hJ.vals 5 _ rfl (hp 5 (by kernel_rfl)))
              rw [if_pos (wanted_of rfl rfl t46)]
              go_simp
              exact hK _ _ (hJ.val HOK 7 _ (by kernel_rfl) rfl (Below.refl _ _))
            case o18k3a_8 =>
              intro LX V aX wX K hl hp hcl hf hJ hK
              have t47 := hf.in (i := 6) (d := 47) (by kernel_rfl) (hp 6 (by kernel_rfl)) (hJ.vals 6 _ rfl (hp 6 (by kernel_rfl)))
              have t48 := hf.in (i := 7) (d := 48) (by kernel_rfl) (hp 7 (by kernel_rfl)) (hJ.vals 7 _ rfl (hp 7 (by kernel_rfl)))
              have t46 := hf.in (i := 5) (d := 46) (by kernel_rfl) (hp 5 (by kernel_rfl)) (hJ.vals 5 _ rfl (hp 5 (by kernel_rfl)))
              obtain ⟨u1, u2⟩ := HIX.out
              rw [if_pos (wanted_of rfl rfl t46)]
              go_simp
              exact hK _ _ (hJ.val HOK 8 _ (by kernel_rfl) rfl (Below.refl _ _))
            case o18k3a_9 =>
              intro LX V aX wX K hl hp hcl hf hJ hK
              have t49 := hf.in (i := 8) (d := 49) (by kernel_rfl) (hp 8 (by kernel_rfl)) (hJ.vals 8 _ rfl (hp 8 (by kernel_rfl)))
              have t46 := hf.in (i := 5) (d := 46) (by kernel_rfl) (hp 5 (by kernel_rfl)) (hJ.vals 5 _ rfl (hp 5 (by kernel_rfl)))
              have cx := HCX.out wX hJ.below
              rw [if_pos (wanted_of rfl rfl t46)]
              go_simp
              exact hK _ _ (hJ.val HOK 9 _ (by kernel_rfl) rfl (Below.refl _ _))
            case o18k3a_10 =>
              intro LX V aX wX K hl hp hcl hf hJ hK
              have t3 : aX.tmps[3]? = some (.slice (some ⟨b, off, none⟩) 51 cap) := hf.old (by kernel_rfl) rfl
              have t46 := hf.in (i := 5) (d := 46) (by kernel_rfl) (hp 5 (by kernel_rfl)) (hJ.vals 5 _ rfl (hp 5 (by kernel_rfl)))
              rw [if_pos (wanted_of rfl rfl t46)]
              go_simp
              exact hK _ _ (hJ.val HOK 10 _ (by kernel_rfl) rfl (Below.refl _ _))
            case o18k3a_11 =>
              intro LX V aX wX K hl hp hcl hf hJ hK
              have t5 : aX.tmps[5]? = some (.int .i64 (i : Int)) := hf.old (by kernel_rfl) rfl
              have t46 := hf.in (i := 5) (d := 46) (by kernel_rfl) (hp 5 (by kernel_rfl)) (hJ.vals 5 _ rfl (hp 5 (by kernel_rfl)))
              rw [if_pos (wanted_of rfl rfl t46)]
              go_simp
              exact hK _ _ (hJ.val HOK 11 _ (by kernel_rfl) rfl (Below.refl _ _))
            case o18k3a_12 =>
              intro LX V aX wX K hl hp hcl hf hJ hK
              have t52 := hf.in (i := 11) (d := 52) (by kernel_rfl) (hp 11 (by kernel_rfl)) (hJ.vals 11 _ rfl (hp 11 (by kernel_rfl)))
              have t46 := hf.in (i := 5) (d := 46) (by kernel_rfl) (hp 5 (by kernel_rfl)) (hJ.vals 5 _ rfl (hp 5 (by kernel_rfl)))
              obtain ⟨v1, v2, v3, v4, v5⟩ := HIX2.out
              rw [if_pos (wanted_of rfl rfl t46)]
              go_simp
              exact hK _ _ (hJ.val HOK 12 _ (by kernel_rfl) rfl (Below.refl _ _))
            case o18k3a_13 =>
              intro LX V aX wX K hl hp hcl hf hJ hK
              have t51 := hf.in (i := 10) (d := 51) (by kernel_rfl) (hp 10 (by kernel_rfl)) (hJ.vals 10 _ rfl (hp 10 (by kernel_rfl)))
              have t53 := hf.in (i := 12) (d := 53) (by kernel_rfl) (hp 12 (by kernel_rfl)) (hJ.vals 12 _ rfl (hp 12 (by kernel_rfl)))
              have t46 := hf.in (i := 5) (d := 46) (by kernel_rfl) (hp 5 (by kernel_rfl)) (hJ.vals 5 _ rfl (hp 5 (by kernel_rfl)))
              obtain ⟨v1, v2, v3, v4, v5⟩ := HIX2.out
              rw [if_pos (wanted_of rfl rfl t46)]
              go_simp
              exact hK _ _ (hJ.val HOK 13 _ (by kernel_rfl) rfl (Below.refl _ _))
            case o18k3a_14 =>
              intro LX V aX wX K hl hp hcl hf hJ hK
              have t54 := hf.in (i := 13) (d := 54) (by kernel_rfl) (hp 13 (by kernel_rfl)) (hJ.vals 13 _ rfl (hp 13 (by kernel_rfl)))
              have t46 := hf.in (i := 5) (d := 46) (by kernel_rfl) (hp 5 (by kernel_rfl)) (hJ.vals 5 _ rfl (hp 5 (by kernel_rfl)))
              have cy := HCY.out wX hJ.below
              rw [if_pos (wanted_of rfl rfl t46)]
              go_simp
              exact hK _ _ (hJ.val HOK 14 _ (by kernel_rfl) rfl (Below.refl _ _))
            case o18k3a_15 =>
              intro LX V aX wX K hl hp hcl hf hJ hK
              have t50 := hf.in (i := 9) (d := 50) (by kernel_rfl) (hp 9 (by kernel_rfl)) (hJ.vals 9 _ rfl (hp 9 (by kernel_rfl)))
              have t55 := hf.in (i := 14) (d := 55) (by kernel_rfl) (hp 14 (by kernel_rfl)) (hJ.vals 14 _ rfl (hp 14 (by kernel_rfl)))
              have t46 := hf.in (i := 5) (d := 46) (by kernel_rfl) (hp 5 (by kernel_rfl)) (hJ.vals 5 _ rfl (hp 5 (by kernel_rfl)))
              obtain ⟨l1, l2⟩ := HLE.out
              rw [if_pos (wanted_of rfl rfl t46)]
              go_simp
              exact hK _ _ (hJ.val HOK 15 _ (by kernel_rfl) rfl (Below.refl _ _))
            case o18k3a_16 =>
              intro LX V aX wX K hl hp hcl hf hJ hK
              have t46 := hf.in (i := 5) (d := 46) (by kernel_rfl) (hp 5 (by kernel_rfl)) (hJ.vals 5 _ rfl (hp 5 (by kernel_rfl)))
              have t56 := hf.in (i := 15) (d := 56) (by kernel_rfl) (hp 15 (by kernel_rfl)) (hJ.vals 15 _ rfl (hp 15 (by kernel_rfl)))
              have t43 := hf.in (i := 2) (d := 43) (by kernel_rfl) (hp 2 (by kernel_rfl)) (hJ.vals 2 _ rfl (hp 2 (by kernel_rfl)))
              rw [if_pos (wanted_of rfl rfl t43)]
              go_simp
              exact hK _ _ (hJ.val HOK 16 _ (by kernel_rfl) rfl (Below.refl _ _))
            case o18k3a_17 =>
              intro LX V aX wX K hl hp hcl hf hJ hK
              have t43 := hf.in (i := 2) (d := 43) (by kernel_rfl) (hp 2 (by kernel_rfl)) (hJ.vals 2 _ rfl (hp 2 (by kernel_rfl)))
              have t57 := hf.in (i := 16) (d := 57) (by kernel_rfl) (hp 16 (by kernel_rfl)) (hJ.vals 16 _ rfl (hp 16 (by kernel_rfl)))
              rw [if_pos (by rfl)]
              go_simp
              exact hK _ _ (hJ.val HOK 17 _ (by kernel_rfl) rfl (Below.refl _ _))
          intro V wZ hJ
          have hv := hJ.vals 17 _ rfl (by kernel_rfl)
          have HBZ := Lib.hid hJ.below
          simp only [puts, Act.put, List.setIfInBounds_toArray, List.set_cons_zero, List.set_cons_succ]
          rw [hv]
          clear hJ HOK hv
          have HBX := Lib.hid (HBQ.out.trans (HBZ.out.mono HBQ.out.size))
          go_wp2_with fail
          go_loopw [8] (fun jv wr => ∃ j : Nat, j ≤ i ∧ jv = .int .i64 j ∧ Hid (Below w2.heap.size w2 wr)) (fun jv _ => i - (intOf jv).toNat)
          case atStart => exact ⟨0, by omega, rfl, HBX⟩
          case round =>
            obtain ⟨j, hj, rfl, hbj⟩ := hrel
            by_cases hltj : j < i
            · have hj5 : (j : Int) < (i : Int) := by omega
              have hj6 : (j : Int) < (51 : Int) := by omega
              have hj0 : (0 : Int) ≤ (j : Int) := by omega
              have hwj : IntKind.i64.wrap ((j : Int) + 1) = (j : Int) + 1 := IntWalk.i64_in _ (by omega)
              have cz := HAT.out wr hbj.out j (by omega)
              obtain ⟨ot, e9, e10⟩ := HLO.out j (by omega)
              obtain ⟨z, hz⟩ : ∃ z, z = staS.getD j [] := ⟨_, rfl⟩
              rw [← hz] at cz e9
              have hne : ot ≠ lg := fun e => HDI.out j i hltj hlt ⟨lg, by rw [← hz, e9, e], HLG.out⟩
              have q9 : ((bs ot).toList == (bs lg).toList) = false := (bs_eq _ _).trans (decide_eq_false hne)
              have hl := HL.out z wr (HT2.out.later hbj.out)
              rw [e9] at hl
              have HLZ := Lib.hid hl
              clear e9 e10 hz hne hl
              go_wp2_with fail
              refine HLZ.out.mono ?_
              rintro e w4 ⟨rfl, hb4⟩
              have HB4 := Lib.hid (hbj.out.trans (hb4.mono hbj.out.size))
              clear hb4
              unfold foundV
              go_wp2_with fail
              go_roundw
              case rel => exact ⟨j + 1, by omega, by go_num, HB4⟩
              case measure => simp [intOf]; omega
            · have hji : i = j := by omega
              subst hji
              go_wp2_with fail
              go_roundw
              case rel => exact ⟨i + 1, by omega, by go_num, hbj⟩
              case measure => simp [intOf]; omega
        · have HK0 : Hid (¬ (0 : Int) < (i : Int)) := Lib.hid (by omega)
          clear hp
          go_wp2_with fail
          have HOK : ∀ f ∈ ([] : List Fct), FctOk f := by
            intro f hf; cases hf
          refine wp_region_J (s := [(41, 0), (42, 1), (43, 2), (44, 3), (45, 4), (46, 5), (47, 6), (48, 7), (49, 8), (50, 9), (51, 10), (52, 11), (53, 12), (54, 13), (55, 14), (56, 15), (57, 16), (58, 17)]) (by kernel_rfl) (GrowJ wq (fun iX => match iX with | 0 => some (.bool true) | 1 => some (.bool false) | 2 => some (.bool false) | 3 => some (.int .i64 (i : Int)) | 4 => some (.bool false) | 5 => some (.bool false) | 6 => some (undef) | 7 => some (undef) | 8 => some (undef) | 9 => some (undef) | 10 => some (undef) | 11 => some (undef) | 12 => some (undef) | 13 => some (undef) | 14 => some (undef) | 15 => some (undef) | 16 => some (.bool false) | 17 => some (.bool false) | _ => none) []) (by kernel_rfl) (by kernel_rfl) (by kernel_rfl) (by kernel_rfl) (fun _ => undef) ?start18k3b ?step18k3b ?done18k3b
          case start18k3b => exact GrowJ.start ((Below.refl _ _).drew)
          case step18k3b =>
            refine ⟨?o18k3b_0, ?o18k3b_1, ?o18k3b_2, ?o18k3b_3, ?o18k3b_4, ?o18k3b_5, ?o18k3b_6, ?o18k3b_7, ?o18k3b_8, ?o18k3b_9, ?o18k3b_10, ?o18k3b_11, ?o18k3b_12, ?o18k3b_13, ?o18k3b_14, ?o18k3b_15, ?o18k3b_16, ?o18k3b_17, trivial⟩
            case o18k3b_0 =>
              intro LX V aX wX K hl hp hcl hf hJ hK
              have t7 : aX.tmps[7]? = some (.bool true) := hf.old (by kernel_rfl) rfl
              rw [if_pos (by rfl)]
              go_simp
              exact hK _ _ (hJ.val HOK 0 _ (by kernel_rfl) rfl (Below.refl _ _))
            case o18k3b_1 =>
              intro LX V aX wX K hl hp hcl hf hJ hK
              have t41 := hf.in (i := 0) (d := 41) (by kernel_rfl) (hp 0 (by kernel_rfl)) (hJ.vals 0 _ rfl (hp 0 (by kernel_rfl)))
              rw [if_pos (by rfl)]
              go_simp
              exact hK _ _ (hJ.val HOK 1 _ (by kernel_rfl) rfl (Below.refl _ _))
            case o18k3b_2 =>
              intro LX V aX wX K hl hp hcl hf hJ hK
              have t42 := hf.in (i := 1) (d := 42) (by kernel_rfl) (hp 1 (by kernel_rfl)) (hJ.vals 1 _ rfl (hp 1 (by kernel_rfl)))
              rw [if_pos (by rfl)]
              go_simp
              exact hK _ _ (hJ.val HOK 2 _ (by kernel_rfl) rfl (Below.refl _ _))
            case o18k3b_3 =>
              intro LX V aX wX K hl hp hcl hf hJ hK
              have t5 : aX.tmps[5]? = some (.int .i64 (i : Int)) := hf.old (by kernel_rfl) rfl
              have t43 := hf.in (i := 2) (d := 43) (by kernel_rfl) (hp 2 (by kernel_rfl)) (hJ.vals 2 _ rfl (hp 2 (by kernel_rfl)))
              rw [if_pos (wanted_of rfl rfl t43)]
              go_simp
              exact hK _ _ (hJ.val HOK 3 _ (by kernel_rfl) rfl (Below.refl _ _))
            case o18k3b_4 =>
              intro LX V aX wX K hl hp hcl hf hJ hK
              have t44 := hf.in (i := 3) (d := 44) (by kernel_rfl) (hp 3 (by kernel_rfl)) (hJ.vals 3 _ rfl (hp 3 (by kernel_rfl)))
              have t43 := hf.in (i := 2) (d := 43) (by kernel_rfl) (hp 2 (by kernel_rfl)) (hJ.vals 2 _ rfl (hp 2 (by kernel_rfl)))
              have hk0 := HK0.out
              have hk1 : decide ((0 : Int) < (i : Int)) = false := by simp; omega
              have hk2 : decide (0 < i) = false := by simp; omega
              clear hk0
              rw [if_pos (wanted_of rfl rfl t43)]
              go_simp
              exact hK _ _ (hJ.val HOK 4 _ (by kernel_rfl) rfl (Below.refl _ _))
            case o18k3b_5 =>
              intro LX V aX wX K hl hp hcl hf hJ hK
              have t45 := hf.in (i := 4) (d := 45) (by kernel_rfl) (hp 4 (by kernel_rfl)) (hJ.vals 4 _ rfl (hp 4 (by kernel_rfl)))
              have t43 := hf.in (i := 2) (d := 43) (by kernel_rfl) (hp 2 (by kernel_rfl)) (hJ.vals 2 _ rfl (hp 2 (by kernel_rfl)))
              rw [if_pos (wanted_of rfl rfl t43)]
              go_simp
              exact hK _ _ (hJ.val HOK 5 _ (by kernel_rfl) rfl (Below.refl _ _))
            case o18k3b_6 =>
              intro LX V aX wX K hl hp hcl hf hJ hK
              have t46 := hf.in (i := 5) (d := 46) (by kernel_rfl) (hp 5 (by kernel_rfl)) (hJ.vals 5 _ rfl (hp 5 (by kernel_rfl)))
              rw [if_neg (by rw [wanted_not (b := true) rfl rfl t46]; exact Bool.false_ne_true)]
              exact hK _ _ (hJ.val HOK 6 _ (by kernel_rfl) rfl (Below.refl _ _))
            case o18k3b_7 =>
              intro LX V aX wX K hl hp hcl hf hJ hK
              have t46 := hf.in (i := 5) (d := 46) (by kernel_rfl) (hp 5 (by kernel_rfl)) (hJ.vals 5 _ rfl (hp 5 (by kernel_rfl)))
              rw [if_neg (by rw [wanted_not (b := true) rfl rfl t46]; exact Bool.false_ne_true)]
              exact hK _ _ (hJ.val HOK 7 _ (by kernel_rfl) rfl (Below.refl _ _))
            case o18k3b_8 =>
              intro LX V aX wX K hl hp hcl hf hJ hK
              have t46 := hf.in (i := 5) (d := 46) (by kernel_rfl) (hp 5 (by kernel_rfl)) (hJ.vals 5 _ rfl (hp 5 (by kernel_rfl)))
              rw [if_neg (by rw [wanted_not (b := true) rfl rfl t46]; exact Bool.false_ne_true)]
              exact hK _ _ (hJ.val HOK 8 _ (by kernel_rfl) rfl (Below.refl _ _))
            case o18k3b_9 =>
              intro LX V aX wX K hl hp hcl hf hJ hK
              have t46 := hf.in (i := 5) (d := 46) (by kernel_rfl) (hp 5 (by kernel_rfl)) (hJ.vals 5 _ rfl (hp 5 (by kernel_rfl)))
              rw [if_neg (by rw [wanted_not (b := true) rfl rfl t46]; exact Bool.false_ne_true)]
              exact hK _ _ (hJ.val HOK 9 _ (by kernel_rfl) rfl (Below.refl _ _))
            case o18k3b_10 =>
              intro LX V aX wX K hl hp hcl hf hJ hK
              have t46 := hf.in (i := 5) (d := 46) (by kernel_rfl) (hp 5 (by kernel_rfl)) (hJ.vals 5 _ rfl (hp 5 (by kernel_rfl)))
              rw [if_neg (by rw [wanted_not (b := true) rfl rfl t46]; exact Bool.false_ne_true)]
              exact hK _ _ (hJ.val HOK 10 _ (by kernel_rfl) rfl (Below.refl _ _))
            case o18k3b_11 =>
              intro LX V aX wX K hl hp hcl hf hJ hK
              have t46 := hf.in (i := 5) (d := 46) (by kernel_rfl) (hp 5 (by kernel_rfl)) (hJ.vals 5 _ rfl (hp 5 (by kernel_rfl)))
              rw [if_neg (by rw [wanted_not (b := true) rfl rfl t46]; exact Bool.false_ne_true)]
              exact hK _ _ (hJ.val HOK 11 _ (by kernel_rfl) rfl (Below.refl _ _))
            case o18k3b_12 =>
              intro LX V aX wX K hl hp hcl hf hJ hK
              have t46 := hf.in (i := 5) (d := 46) (by kernel_rfl) (hp 5 (by kernel_rfl)) (hJ.vals 5 _ rfl (hp 5 (by kernel_rfl)))
              rw [if_neg (by rw [wanted_not (b := true) rfl rfl t46]; exact Bool.false_ne_true)]
              exact hK _ _ (hJ.val HOK 12 _ (by kernel_rfl) rfl (Below.refl _ _))
            case o18k3b_13 =>
              intro LX V aX wX K hl hp hcl hf hJ hK
              have t46 := hf.in (i := 5) (d := 46) (by kernel_rfl) (hp 5 (by kernel_rfl)) (hJ.vals 5 _ rfl (hp 5 (by kernel_rfl)))
              rw [if_neg (by rw [wanted_not (b := true) rfl rfl t46]; exact Bool.false_ne_true)]
              exact hK _ _ (hJ.val HOK 13 _ (by kernel_rfl) rfl (Below.refl _ _))
            case o18k3b_14 =>
              intro LX V aX wX K hl hp hcl hf hJ hK
              have t46 := hf.in (i := 5) (d := 46) (by kernel_rfl) (hp 5 (by kernel_rfl)) (hJ.vals 5 _ rfl (hp 5 (by kernel_rfl)))
              rw [if_neg (by rw [wanted_not (b := true) rfl rfl t46]; exact Bool.false_ne_true)]
              exact hK _ _ (hJ.val HOK 14 _ (by kernel_rfl) rfl (Below.refl _ _))
            case o18k3b_15 =>
              intro LX V aX wX K hl hp hcl hf hJ hK
              have t46 := hf.in (i := 5) (d := 46) (by kernel_rfl) (hp 5 (by kernel_rfl)) (hJ.vals 5 _ rfl (hp 5 (by kernel_rfl)))
              rw [if_neg (by rw [wanted_not (b := true) rfl rfl t46]; exact Bool.false_ne_true)]
              exact hK _ _ (hJ.val HOK 15 _ (by kernel_rfl) rfl (Below.refl _ _))
            case o18k3b_16 =>
              intro LX V aX wX K hl hp hcl hf hJ hK
              have t46 := hf.in (i := 5) (d := 46) (by kernel_rfl) (hp 5 (by kernel_rfl)) (hJ.vals 5 _ rfl (hp 5 (by kernel_rfl)))
              have t56 := hf.in (i := 15) (d := 56) (by kernel_rfl) (hp 15 (by kernel_rfl)) (hJ.vals 15 _ rfl (hp 15 (by kernel_rfl)))
              have t43 := hf.in (i := 2) (d := 43) (by kernel_rfl) (hp 2 (by kernel_rfl)) (hJ.vals 2 _ rfl (hp 2 (by kernel_rfl)))
              rw [if_pos (wanted_of rfl rfl t43)]
              go_simp
              exact hK _ _ (hJ.val HOK 16 _ (by kernel_rfl) rfl (Below.refl _ _))
            case o18k3b_17 =>
              intro LX V aX wX K hl hp hcl hf hJ hK
              have t43 := hf.in (i := 2) (d := 43) (by kernel_rfl) (hp 2 (by kernel_rfl)) (hJ.vals 2 _ rfl (hp 2 (by kernel_rfl)))
              have t57 := hf.in (i := 16) (d := 57) (by kernel_rfl) (hp 16 (by kernel_rfl)) (hJ.vals 16 _ rfl (hp 16 (by kernel_rfl)))
              rw [if_pos (by rfl)]
              go_simp
              exact hK _ _ (hJ.val HOK 17 _ (by kernel_rfl) rfl (Below.refl _ _))
          intro V wZ hJ
          have hv := hJ.vals 17 _ rfl (by kernel_rfl)
          have HBZ := Lib.hid hJ.below
          simp only [puts, Act.put, List.setIfInBounds_toArray, List.set_cons_zero, List.set_cons_succ]
          rw [hv]
          clear hJ HOK hv
          have HBX := Lib.hid (HBQ.out.trans (HBZ.out.mono HBQ.out.size))
          go_wp2_with fail
          go_loopw [8] (fun jv wr => ∃ j : Nat, j ≤ i ∧ jv = .int .i64 j ∧ Hid (Below w2.heap.size w2 wr)) (fun jv _ => i - (intOf jv).toNat)
          case atStart => exact ⟨0, by omega, rfl, HBX⟩
          case round =>
            obtain ⟨j, hj, rfl, hbj⟩ := hrel
            by_cases hltj : j < i
            · have hj5 : (j : Int) < (i : Int) := by omega
              have hj6 : (j : Int) < (51 : Int) := by omega
              have hj0 : (0 : Int) ≤ (j : Int) := by omega
              have hwj : IntKind.i64.wrap ((j : Int) + 1) = (j : Int) + 1 := IntWalk.i64_in _ (by omega)
              have cz := HAT.out wr hbj.out j (by omega)
              obtain ⟨ot, e9, e10⟩ := HLO.out j (by omega)
              obtain ⟨z, hz⟩ : ∃ z, z = staS.getD j [] := ⟨_, rfl⟩
              rw [← hz] at cz e9
              have hne : ot ≠ lg := fun e => HDI.out j i hltj hlt ⟨lg, by rw [← hz, e9, e], HLG.out⟩
              have q9 : ((bs ot).toList == (bs lg).toList) = false := (bs_eq _ _).trans (decide_eq_false hne)
              have hl := HL.out z wr (HT2.out.later hbj.out)
              rw [e9] at hl
              have HLZ := Lib.hid hl
              clear e9 e10 hz hne hl
              go_wp2_with fail
              refine HLZ.out.mono ?_
              rintro e w4 ⟨rfl, hb4⟩
              have HB4 := Lib.hid (hbj.out.trans (hb4.mono hbj.out.size))
              clear hb4
              unfold foundV
              go_wp2_with fail
              go_roundw
              case rel => exact ⟨j + 1, by omega, by go_num, HB4⟩
              case measure => simp [intOf]; omega
            · have hji : i = j := by omega
              subst hji
              go_wp2_with fail
              go_roundw
              case rel => exact ⟨i + 1, by omega, by go_num, hbj⟩
              case measure => simp [intOf]; omega
      · have hin : i = 51 := by omega
        subst hin
        go_wp2_with fail
        refine (awake_any wr (HT2.out.later hbr.out)).mono ?_
        rintro e w5 ⟨rfl, hb5⟩
        have HB5 := Lib.hid (hbr.out.trans (hb5.mono hbr.out.size))
        clear hb5
        go_wp2_with fail
        go_ret
        exact ⟨rfl, HB2.out.trans (HB5.out.mono HB2.out.size)⟩
  by_cases h4 : k = 4
  · subst h4
    clear h1 h2 h3
    go_enter Tryd.func5, Tryd.ntmps5
    go_wp2_with fail
    have ha := All_kind 4 w HT.out
    rw [show kindS 4 = uniS from rfl, show uniS.length = 6 from rfl] at ha
    refine ha.mono ?_
    clear ha
    rintro e w2 ⟨ao, cap, rfl, hi, _, hb⟩
    have HB2 := Lib.hid hb
    have HT2 := Lib.hid (HT.out.later hb)
    obtain ⟨b, off, hao, _⟩ := hi.at (i := 0) (by omega)
    subst hao
    have hnc := hi.2.1
    have hcm : cap ≤ 9223372036854775807 := hi.2.2.1
    have HAT : Hid (∀ wX, Below w2.heap.size w2 wX → ∀ i, i < 6 → wX.cell? ⟨b, off + i, none⟩ = some (sV (uniS.getD i []))) := Lib.hid (fun wX hX i hi2 => by
      obtain ⟨b2, o2, e2, c2⟩ := (hi.later hX (Nat.le_refl _)).at hi2
      cases e2
      exact c2)
    have HL : Hid (∀ (x : Wd) (wX : World), Tb wX → Calls Tryd.prog 10 #[.int .i64 4, sV x] wX fun e w' => e = .returned (foundV (firstL (kindP 4) x)) ∧ Below wX.heap.size wX w') := Lib.hid (fun x wX hT => by
      have := Long_any 4 x wX hT
      rw [long_is] at this
      exact this)
    have HLO : Hid (∀ i, i < 6 → ∃ lg, firstL (kindP 4) (uniS.getD i []) = some lg ∧ True) := Lib.hid (fun i hi2 => by
      obtain ⟨lg, h⟩ := all_long 4 (i := i) (by rw [show (kindS 4).length = 6 from rfl]; exact hi2)
      exact ⟨lg, h, trivial⟩)
    have HDI : Hid (∀ j i, j < i → i < 6 → ¬ ∃ lg, firstL (kindP 4) (uniS.getD j []) = some lg ∧ firstL (kindP 4) (uniS.getD i []) = some lg) := Lib.hid (fun j i hj hi2 h => all_apart 4 hj (by rw [show (kindS 4).length = 6 from rfl]; exact hi2) h)
    have HRI : Hid (∀ i, i + 1 < 6 → uniS.getD i [] < uniS.getD (i + 1) []) := Lib.hid (fun i hi2 => all_rise 4 (by rw [show (kindS 4).length = 6 from rfl]; exact hi2))
    clear hi hb
    go_wp2_with fail
    go_loopw [5] (fun iv wr => ∃ i : Nat, i ≤ 6 ∧ iv = .int .i64 i ∧ Hid (Below w2.heap.size w2 wr)) (fun iv _ => 6 - (intOf iv).toNat)
    case atStart => exact ⟨0, by omega, rfl, Lib.hid (Below.refl _ _)⟩
    case round =>
      obtain ⟨i, hi, rfl, hbr⟩ := hrel
      by_cases hlt : i < 6
      · have hi5 : (i : Int) < (6 : Int) := by omega
        have hi0 : (0 : Int) ≤ (i : Int) := by omega
        have hwi : IntKind.i64.wrap ((i : Int) + 1) = (i : Int) + 1 := IntWalk.i64_in _ (by omega)
        have cx := HAT.out wr hbr.out i hlt
        obtain ⟨lg, e1, _⟩ := HLO.out i hlt
        have HLG := Lib.hid e1
        obtain ⟨x, hx⟩ : ∃ x, x = uniS.getD i [] := ⟨_, rfl⟩
        rw [← hx] at cx e1
        have HX := Lib.hid hx
        have hl := HL.out x wr (HT2.out.later hbr.out)
        rw [e1] at hl
        have HLX := Lib.hid hl
        clear e1 hx hl
        go_wp2_with fail
        refine HLX.out.mono ?_
        rintro e wq ⟨rfl, hb3⟩
        have HBQ := Lib.hid (hbr.out.trans (hb3.mono hbr.out.size))
        have HIX := Lib.hid (And.intro hi5 hi0)
        have HCX : Hid (∀ wX, Below wq.heap.size wq wX → wX.cell? ⟨b, off + i, none⟩ = some (sV x)) := Lib.hid (fun wX hX => by
          have := HAT.out wX (HBQ.out.trans (hX.mono HBQ.out.size)) i hlt
          rw [← HX.out] at this
          exact this)
        clear hb3 cx
        unfold foundV
        by_cases hp : 0 < i
        · obtain ⟨i1, hi1⟩ : ∃ i1 : Nat, i = i1 + 1 := ⟨i - 1, by omega⟩
          obtain ⟨y, hy⟩ : ∃ y, y = uniS.getD i1 [] := ⟨_, rfl⟩
          have hyx : y < x := by
            have := HRI.out i1 (by omega)
            rw [← hi1, ← hy, ← HX.out] at this
            exact this
          have HCY : Hid (∀ wX, Below wq.heap.size wq wX → wX.cell? ⟨b, off + i1, none⟩ = some (sV y)) := Lib.hid (fun wX hX => by
            have := HAT.out wX (HBQ.out.trans (hX.mono HBQ.out.size)) i1 (by omega)
            rw [← hy] at this
            exact this)
          have HLE : Hid (Op.bytesLess (bs x).toList (bs y).toList = false ∧ ((bs x).toList == (bs y).toList) = false) := Lib.hid (leq_no hyx)
          have HIX2 : Hid ((0 : Int) < (i : Int) ∧ 0 < i ∧ IntKind.i64.wrap ((i : Int) - 1) = (i1 : Int) ∧ (i1 : Int) < (6 : Int) ∧ (0 : Int) ≤ (i1 : Int)) := Lib.hid ⟨by omega, hp, by rw [IntWalk.i64_in _ (by omega)]; omega, by omega, by omega⟩
          clear hy hyx hi1 hp
          go_wp2_with fail
          have HOK : ∀ f ∈ ([] : List Fct), FctOk f := by
            intro f hf; cases hf
          refine wp_region_J (s := [(41, 0), (42, 1), (43, 2), (44, 3), (45, 4), (46, 5), (47, 6), (48, 7), (49, 8), (50, 9), (51, 10), (52, 11), (53, 12), (54, 13), (55, 14), (56, 15), (57, 16), (58, 17)]) (by kernel_rfl) (GrowJ wq (fun iX => match iX with | 0 => some (.bool true) | 1 => some (.bool false) | 2 => some (.bool false) | 3 => some (.int .i64 (i : Int)) | 4 => some (.bool true) | 5 => some (.bool true) | 6 => some (.slice (some ⟨b, off, none⟩) 6 cap) | 7 => some (.int .i64 (i : Int)) | 8 => some (.pointer (some ⟨b, off + i, none⟩)) | 9 => some (sV x) | 10 => some (.slice (some ⟨b, off, none⟩) 6 cap) | 11 => some (.int .i64 (i : Int)) | 12 => some (.int .i64 (i1 : Int)) | 13 => some (.pointer (some ⟨b, off + i1, none⟩)) | 14 => some (sV y) | 15 => some (.bool false) | 16 => some (.bool false) | 17 => some (.bool false) | _ => none) []) (by kernel_rfl) (by kernel_rfl) (by kernel_rfl) (by kernel_rfl) (fun _ => undef) ?start18k4a ?step18k4a ?done18k4a
          case start18k4a => exact GrowJ.start ((Below.refl _ _).drew)
          case step18k4a =>
            refine ⟨?o18k4a_0, ?o18k4a_1, ?o18k4a_2, ?o18k4a_3, ?o18k4a_4, ?o18k4a_5, ?o18k4a_6, ?o18k4a_7, ?o18k4a_8, ?o18k4a_9, ?o18k4a_10, ?o18k4a_11, ?o18k4a_12, ?o18k4a_13, ?o18k4a_14, ?o18k4a_15, ?o18k4a_16, ?o18k4a_17, trivial⟩
            case o18k4a_0 =>
              intro LX V aX wX K hl hp hcl hf hJ hK
              have t7 : aX.tmps[7]? = some (.bool true) := hf.old (by kernel_rfl) rfl
              rw [if_pos (by rfl)]
              go_simp
              exact hK _ _ (hJ.val HOK 0 _ (by kernel_rfl) rfl (Below.refl _ _))
            case o18k4a_1 =>
              intro LX V aX wX K hl hp hcl hf hJ hK
              have t41 := hf.in (i := 0) (d := 41) (by kernel_rfl) (hp 0 (by kernel_rfl)) (hJ.vals 0 _ rfl (hp 0 (by kernel_rfl)))
              rw [if_pos (by rfl)]
              go_simp
              exact hK _ _ (hJ.val HOK 1 _ (by kernel_rfl) rfl (Below.refl _ _))
            case o18k4a_2 =>
              intro LX V aX wX K hl hp hcl hf hJ hK
              have t42 := hf.in (i := 1) (d := 42) (by kernel_rfl) (hp 1 (by kernel_rfl)) (hJ.vals 1 _ rfl (hp 1 (by kernel_rfl)))
              rw [if_pos (by rfl)]
              go_simp
              exact hK _ _ (hJ.val HOK 2 _ (by kernel_rfl) rfl (Below.refl _ _))
            case o18k4a_3 =>
              intro LX V aX wX K hl hp hcl hf hJ hK
              have t5 : aX.tmps[5]? = some (.int .i64 (i : Int)) := hf.old (by kernel_rfl) rfl
              have t43 := hf.in (i := 2) (d := 43) (by kernel_rfl) (hp 2 (by kernel_rfl)) (hJ.vals 2 _ rfl (hp 2 (by kernel_rfl)))
              rw [if_pos (wanted_of rfl rfl t43)]
              go_simp
              exact hK _ _ (hJ.val HOK 3 _ (by kernel_rfl) rfl (Below.refl _ _))
            case o18k4a_4 =>
              intro LX V aX wX K hl hp hcl hf hJ hK
              have t44 := hf.in (i := 3) (d := 44) (by kernel_rfl) (hp 3 (by kernel_rfl)) (hJ.vals 3 _ rfl (hp 3 (by kernel_rfl)))
              have t43 := hf.in (i := 2) (d := 43) (by kernel_rfl) (hp 2 (by kernel_rfl)) (hJ.vals 2 _ rfl (hp 2 (by kernel_rfl)))
              obtain ⟨v1, v2, v3, v4, v5⟩ := HIX2.out
              rw [if_pos (wanted_of rfl rfl t43)]
              go_simp
              exact hK _ _ (hJ.val HOK 4 _ (by kernel_rfl) rfl (Below.refl _ _))
            case o18k4a_5 =>
              intro LX V aX wX K hl hp hcl hf hJ hK
              have t45 := hf.in (i := 4) (d := 45) (by kernel_rfl) (hp 4 (by kernel_rfl)) (hJ.vals 4 _ rfl (hp 4 (by kernel_rfl)))
              have t43 := hf.in (i := 2) (d := 43) (by kernel_rfl) (hp 2 (by kernel_rfl)) (hJ.vals 2 _ rfl (hp 2 (by kernel_rfl)))
              rw [if_pos (wanted_of rfl rfl t43)]
              go_simp
              exact hK _ _ (hJ.val HOK 5 _ (by kernel_rfl) rfl (Below.refl _ _))
            case o18k4a_6 =>
              intro LX V aX wX K hl hp hcl hf hJ hK
              have t3 : aX.tmps[3]? = some (.slice (some ⟨b, off, none⟩) 6 cap) := hf.old (by kernel_rfl) rfl
              have t46 := hf.in (i := 5) (d := 46) (by kernel_rfl) (hp 5 (by kernel_rfl)) (hJ.vals 5 _ rfl (hp 5 (by kernel_rfl)))
              rw [if_pos (wanted_of rfl rfl t46)]
              go_simp
              exact hK _ _ (hJ.val HOK 6 _ (by kernel_rfl) rfl (Below.refl _ _))
            case o18k4a_7 =>
              intro LX V aX wX K hl hp hcl hf hJ hK
              have t5 : aX.tmps[5]? = some (.int .i64 (i : Int)) := hf.old (by kernel_rfl) rfl
              have t46 := hf.in (i := 5) (d := 46) (by kernel_rfl) (hp 5 (by kernel_rfl)) (hJ.vals 5 _ rfl (hp 5 (by kernel_rfl)))
              rw [if_pos (wanted_of rfl rfl t46)]
              go_simp
              exact hK _ _ (hJ.val HOK 7 _ (by kernel_rfl) rfl (Below.refl _ _))
            case o18k4a_8 =>
              intro LX V aX wX K hl hp hcl hf hJ hK
              have t47 := hf.in (i := 6) (d := 47) (by kernel_rfl) (hp 6 (by kernel_rfl)) (hJ.vals 6 _ rfl (hp 6 (by kernel_rfl)))
              have t48 := hf.in (i := 7) (d := 48) (by kernel_rfl) (hp 7 (by kernel_rfl)) (hJ.vals 7 _ rfl (hp 7 (by kernel_rfl)))
              have t46 := hf.in (i := 5) (d := 46) (by kernel_rfl) (hp 5 (by kernel_rfl)) (hJ.vals 5 _ rfl (hp 5 (by kernel_rfl)))
              obtain ⟨u1, u2⟩ := HIX.out
              rw [if_pos (wanted_of rfl rfl t46)]
              go_simp
              exact hK _ _ (hJ.val HOK 8 _ (by kernel_rfl) rfl (Below.refl _ _))
            case o18k4a_9 =>
              intro LX V aX wX K hl hp hcl hf hJ hK
              have t49 := hf.in (i := 8) (d := 49) (by kernel_rfl) (hp 8 (by kernel_rfl)) (hJ.vals 8 _ rfl (hp 8 (by kernel_rfl)))
              have t46 := hf.in (i := 5) (d := 46) (by kernel_rfl) (hp 5 (by kernel_rfl)) (hJ.vals 5 _ rfl (hp 5 (by kernel_rfl)))
              have cx := HCX.out wX hJ.below
              rw [if_pos (wanted_of rfl rfl t46)]
              go_simp
              exact hK _ _ (hJ.val HOK 9 _ (by kernel_rfl) rfl (Below.refl _ _))
            case o18k4a_10 =>
              intro LX V aX wX K hl hp hcl hf hJ hK
              have t3 : aX.tmps[3]? = some (.slice (some ⟨b, off, none⟩) 6 cap) := hf.old (by kernel_rfl) rfl
              have t46 := hf.in (i := 5) (d := 46) (by kernel_rfl) (hp 5 (by kernel_rfl)) (hJ.vals 5 _ rfl (hp 5 (by kernel_rfl)))
              rw [if_pos (wanted_of rfl rfl t46)]
              go_simp
              exact hK _ _ (hJ.val HOK 10 _ (by kernel_rfl) rfl (Below.refl _ _))
            case o18k4a_11 =>
              intro LX V aX wX K hl hp hcl hf hJ hK
              have t5 : aX.tmps[5]? = some (.int .i64 (i : Int)) := hf.old (by kernel_rfl) rfl
              have t46 := hf.in (i := 5) (d := 46) (by kernel_rfl) (hp 5 (by kernel_rfl)) (hJ.vals 5 _ rfl (hp 5 (by kernel_rfl)))
              rw [if_pos (wanted_of rfl rfl t46)]
              go_simp
              exact hK _ _ (hJ.val HOK 11 _ (by kernel_rfl) rfl (Below.refl _ _))
            case o18k4a_12 =>
              intro LX V aX wX K hl hp hcl hf hJ hK
              have t52 := hf.in (i := 11) (d := 52) (by kernel_rfl) (hp 11 (by kernel_rfl)) (hJ.vals 11 _ rfl (hp 11 (by kernel_rfl)))
              have t46 := hf.in (i := 5) (d := 46) (by kernel_rfl) (hp 5 (by kernel_rfl)) (hJ.vals 5 _ rfl (hp 5 (by kernel_rfl)))
              obtain ⟨v1, v2, v3, v4, v5⟩ := HIX2.out
              rw [if_pos (wanted_of rfl rfl t46)]
              go_simp
              exact hK _ _ (hJ.val HOK 12 _ (by kernel_rfl) rfl (Below.refl _ _))
            case o18k4a_13 =>
              intro LX V aX wX K hl hp hcl hf hJ hK
              have t51 := hf.in (i := 10) (d := 51) (by kernel_rfl) (hp 10 (by kernel_rfl)) (hJ.vals 10 _ rfl (hp 10 (by kernel_rfl)))
              have t53 := hf.in (i := 12) (d := 53) (by kernel_rfl) (hp 12 (by kernel_rfl)) (hJ.vals 12 _ rfl (hp 12 (by kernel_rfl)))
              have t46 := hf.in (i := 5) (d := 46) (by kernel_rfl) (hp 5 (by kernel_rfl)) (hJ.vals 5 _ rfl (hp 5 (by kernel_rfl)))
              obtain ⟨v1, v2, v3, v4, v5⟩ := HIX2.out
              rw [if_pos (wanted_of rfl rfl t46)]
              go_simp
              exact hK _ _ (hJ.val HOK 13 _ (by kernel_rfl) rfl (Below.refl _ _))
            case o18k4a_14 =>
              intro LX V aX wX K hl hp hcl hf hJ hK
              have t54 := hf.in (i := 13) (d := 54) (by kernel_rfl) (hp 13 (by kernel_rfl)) (hJ.vals 13 _ rfl (hp 13 (by kernel_rfl)))
              have t46 := hf.in (i := 5) (d := 46) (by kernel_rfl) (hp 5 (by kernel_rfl)) (hJ.vals 5 _ rfl (hp 5 (by kernel_rfl)))
              have cy := HCY.out wX hJ.below
              rw [if_pos (wanted_of rfl rfl t46)]
              go_simp
              exact hK _ _ (hJ.val HOK 14 _ (by kernel_rfl) rfl (Below.refl _ _))
            case o18k4a_15 =>
              intro LX V aX wX K hl hp hcl hf hJ hK
              have t50 := hf.in (i := 9) (d := 50) (by kernel_rfl) (hp 9 (by kernel_rfl)) (hJ.vals 9 _ rfl (hp 9 (by kernel_rfl)))
              have t55 := hf.in (i := 14) (d := 55) (by kernel_rfl) (hp 14 (by kernel_rfl)) (hJ.vals 14 _ rfl (hp 14 (by kernel_rfl)))
              have t46 := hf.in (i := 5) (d := 46) (by kernel_rfl) (hp 5 (by kernel_rfl)) (hJ.vals 5 _ rfl (hp 5 (by kernel_rfl)))
              obtain ⟨l1, l2⟩ := HLE.out
              rw [if_pos (wanted_of rfl rfl t46)]
              go_simp
              exact hK _ _ (hJ.val HOK 15 _ (by kernel_rfl) rfl (Below.refl _ _))
            case o18k4a_16 =>
              intro LX V aX wX K hl hp hcl hf hJ hK
              have t46 := hf.in (i := 5) (d := 46) (by kernel_rfl) (hp 5 (by kernel_rfl)) (hJ.vals 5 _ rfl (hp 5 (by kernel_rfl)))
              have t56 := hf.in (i := 15) (d := 56) (by kernel_rfl) (hp 15 (by kernel_rfl)) (hJ.vals 15 _ rfl (hp 15 (by kernel_rfl)))
              have t43 := hf.in (i := 2) (d := 43) (by kernel_rfl) (hp 2 (by kernel_rfl)) (hJ.vals 2 _ rfl (hp 2 (by kernel_rfl)))
              rw [if_pos (wanted_of rfl rfl t43)]
              go_simp
              exact hK _ _ (hJ.val HOK 16 _ (by kernel_rfl) rfl (Below.refl _ _))
            case o18k4a_17 =>
              intro LX V aX wX K hl hp hcl hf hJ hK
              have t43 := hf.in (i := 2) (d := 43) (by kernel_rfl) (hp 2 (by kernel_rfl)) (hJ.vals 2 _ rfl (hp 2 (by kernel_rfl)))
              have t57 := hf.in (i := 16) (d := 57) (by kernel_rfl) (hp 16 (by kernel_rfl)) (hJ.vals 16 _ rfl (hp 16 (by kernel_rfl)))
              rw [if_pos (by rfl)]
              go_simp
              exact hK _ _ (hJ.val HOK 17 _ (by kernel_rfl) rfl (Below.refl _ _))
          intro V wZ hJ
          have hv := hJ.vals 17 _ rfl (by kernel_rfl)
          have HBZ := Lib.hid hJ.below
          simp only [puts, Act.put, List.setIfInBounds_toArray, List.set_cons_zero, List.set_cons_succ]
          rw [hv]
          clear hJ HOK hv
          have HBX := Lib.hid (HBQ.out.trans (HBZ.out.mono HBQ.out.size))
          go_wp2_with fail
          go_loopw [8] (fun jv wr => ∃ j : Nat, j ≤ i ∧ jv = .int .i64 j ∧ Hid (Below w2.heap.size w2 wr)) (fun jv _ => i - (intOf jv).toNat)
          case atStart => exact ⟨0, by omega, rfl, HBX⟩
          case round =>
            obtain ⟨j, hj, rfl, hbj⟩ := hrel
            by_cases hltj : j < i
            · have hj5 : (j : Int) < (i : Int) := by omega
              have hj6 : (j : Int) < (6 : Int) := by omega
              have hj0 : (0 : Int) ≤ (j : Int) := by omega
              have hwj : IntKind.i64.wrap ((j : Int) + 1) = (j : Int) + 1 := IntWalk.i64_in _ (by omega)
              have cz := HAT.out wr hbj.out j (by omega)
              obtain ⟨ot, e9, e10⟩ := HLO.out j (by omega)
              obtain ⟨z, hz⟩ : ∃ z, z = uniS.getD j [] := ⟨_, rfl⟩
              rw [← hz] at cz e9
              have hne : ot ≠ lg := fun e => HDI.out j i hltj hlt ⟨lg, by rw [← hz, e9, e], HLG.out⟩
              have q9 : ((bs ot).toList == (bs lg).toList) = false := (bs_eq _ _).trans (decide_eq_false hne)
              have hl := HL.out z wr (HT2.out.later hbj.out)
              rw [e9] at hl
              have HLZ := Lib.hid hl
              clear e9 e10 hz hne hl
              go_wp2_with fail
              refine HLZ.out.mono ?_
              rintro e w4 ⟨rfl, hb4⟩
              have HB4 := Lib.hid (hbj.out.trans (hb4.mono hbj.out.size))
              clear hb4
              unfold foundV
              go_wp2_with fail
              go_roundw
              case rel => exact ⟨j + 1, by omega, by go_num, HB4⟩
              case measure => simp [intOf]; omega
            · have hji : i = j := by omega
              subst hji
              go_wp2_with fail
              go_roundw
              case rel => exact ⟨i + 1, by omega, by go_num, hbj⟩
              case measure => simp [intOf]; omega
        · have HK0 : Hid (¬ (0 : Int) < (i : Int)) := Lib.hid (by omega)
          clear hp
          go_wp2_with fail
          have HOK : ∀ f ∈ ([] : List Fct), FctOk f := by
            intro f hf; cases hf
          refine wp_region_J (s := [(41, 0), (42, 1), (43, 2), (44, 3), (45, 4), (46, 5), (47, 6), (48, 7), (49, 8), (50, 9), (51, 10), (52, 11), (53, 12), (54, 13), (55, 14), (56, 15), (57, 16), (58, 17)]) (by kernel_rfl) (GrowJ wq (fun iX => match iX with | 0 => some (.bool true) | 1 => some (.bool false) | 2 => some (.bool false) | 3 => some (.int .i64 (i : Int)) | 4 => some (.bool false) | 5 => some (.bool false) | 6 => some (undef) | 7 => some (undef) | 8 => some (undef) | 9 => some (undef) | 10 => some (undef) | 11 => some (undef) | 12 => some (undef) | 13 => some (undef) | 14 => some (undef) | 15 => some (undef) | 16 => some (.bool false) | 17 => some (.bool false) | _ => none) []) (by kernel_rfl) (by kernel_rfl) (by kernel_rfl) (by kernel_rfl) (fun _ => undef) ?start18k4b ?step18k4b ?done18k4b
          case start18k4b => exact GrowJ.start ((Below.refl _ _).drew)
          case step18k4b =>
            refine ⟨?o18k4b_0, ?o18k4b_1, ?o18k4b_2, ?o18k4b_3, ?o18k4b_4, ?o18k4b_5, ?o18k4b_6, ?o18k4b_7, ?o18k4b_8, ?o18k4b_9, ?o18k4b_10, ?o18k4b_11, ?o18k4b_12, ?o18k4b_13, ?o18k4b_14, ?o18k4b_15, ?o18k4b_16, ?o18k4b_17, trivial⟩
            case o18k4b_0 =>
              intro LX V aX wX K hl hp hcl hf hJ hK
              have t7 : aX.tmps[7]? = some (.bool true) := hf.old (by kernel_rfl) rfl
              rw [if_pos (by rfl)]
              go_simp
              exact hK _ _ (hJ.val HOK 0 _ (by kernel_rfl) rfl (Below.refl _ _))
            case o18k4b_1 =>
              intro LX V aX wX K hl hp hcl hf hJ hK
              have t41 := hf.in (i := 0) (d := 41) (by kernel_rfl) (hp 0 (by kernel_rfl)) (hJ.vals 0 _ rfl (hp 0 (by kernel_rfl)))
              rw [if_pos (by rfl)]
              go_simp
              exact hK _ _ (hJ.val HOK 1 _ (by kernel_rfl) rfl (Below.refl _ _))
            case o18k4b_2 =>
              intro LX V aX wX K hl hp hcl hf hJ hK
              have t42 := hf.in (i := 1) (d := 42) (by kernel_rfl) (hp 1 (by kernel_rfl)) (hJ.vals 1 _ rfl (hp 1 (by kernel_rfl)))
              rw [if_pos (by rfl)]
              go_simp
              exact hK _ _ (hJ.val HOK 2 _ (by kernel_rfl) rfl (Below.refl _ _))
            case o18k4b_3 =>
              intro LX V aX wX K hl hp hcl hf hJ hK
              have t5 : aX.tmps[5]? = some (.int .i64 (i : Int)) := hf.old (by kernel_rfl) rfl
              have t43 := hf.in (i := 2) (d := 43) (by kernel_rfl) (hp 2 (by kernel_rfl)) (hJ.vals 2 _ rfl (hp 2 (by kernel_rfl)))
              rw [if_pos (wanted_of rfl rfl t43)]
              go_simp
              exact hK _ _ (hJ.val HOK 3 _ (by kernel_rfl) rfl (Below.refl _ _))
            case o18k4b_4 =>
              intro LX V aX wX K hl hp hcl hf hJ hK
              have t44 := hf.in (i := 3) (d := 44) (by kernel_rfl) (hp 3 (by kernel_rfl)) (hJ.vals 3 _ rfl (hp 3 (by kernel_rfl)))
              have t43 := hf.in (i := 2) (d := 43) (by kernel_rfl) (hp 2 (by kernel_rfl)) (hJ.vals 2 _ rfl (hp 2 (by kernel_rfl)))
              have hk0 := HK0.out
              have hk1 : decide ((0 : Int) < (i : Int)) = false := by simp; omega
              have hk2 : decide (0 < i) = false := by simp; omega
              clear hk0
              rw [if_pos (wanted_of rfl rfl t43)]
              go_simp
              exact hK _ _ (hJ.val HOK 4 _ (by kernel_rfl) rfl (Below.refl _ _))
            case o18k4b_5 =>
              intro LX V aX wX K hl hp hcl hf hJ hK
              have t45 := hf.in (i := 4) (d := 45) (by kernel_rfl) (hp 4 (by kernel_rfl)) (hJ.vals 4 _ rfl (hp 4 (by kernel_rfl)))
              have t43 := hf.in (i := 2) (d := 43) (by kernel_rfl) (hp 2 (by kernel_rfl)) (hJ.vals 2 _ rfl (hp 2 (by kernel_rfl)))
              rw [if_pos (wanted_of rfl rfl t43)]
              go_simp
              exact hK _ _ (hJ.val HOK 5 _ (by kernel_rfl) rfl (Below.refl _ _))
            case o18k4b_6 =>
              intro LX V aX wX K hl hp hcl hf hJ hK
              have t46 := hf.in (i := 5) (d := 46) (by kernel_rfl) (hp 5 (by kernel_rfl)) (hJ.vals 5 _ rfl (hp 5 (by kernel_rfl)))
              rw [if_neg (by rw [wanted_not (b := true) rfl rfl t46]; exact Bool.false_ne_true)]
              exact hK _ _ (hJ.val HOK 6 _ (by kernel_rfl) rfl (Below.refl _ _))
            case o18k4b_7 =>
              intro LX V aX wX K hl hp hcl hf hJ hK
              have t46 := hf.in (i := 5) (d := 46) (by kernel_rfl) (hp 5 (by kernel_rfl)) (hJ.vals 5 _ rfl (hp 5 (by kernel_rfl)))
              rw [if_neg (by rw [wanted_not (b := true) rfl rfl t46]; exact Bool.false_ne_true)]
              exact hK _ _ (hJ.val HOK 7 _ (by kernel_rfl) rfl (Below.refl _ _))
            case o18k4b_8 =>
              intro LX V aX wX K hl hp hcl hf hJ hK
              have t46 := hf.in (i := 5) (d := 46) (by kernel_rfl) (hp 5 (by kernel_rfl)) (hJ.vals 5 _ rfl (hp 5 (by kernel_rfl)))
              rw [if_neg (by rw [wanted_not (b := true) rfl rfl t46]; exact Bool.false_ne_true)]
              exact hK _ _ (hJ.val HOK 8 _ (by kernel_rfl) rfl (Below.refl _ _))
            case o18k4b_9 =>
              intro LX V aX wX K hl hp hcl hf hJ hK
              have t46 := hf.in (i := 5) (d := 46) (by kernel_rfl) (hp 5 (by kernel_rfl)) (hJ.vals 5 _ rfl (hp 5 (by kernel_rfl)))
              rw [if_neg (by rw [wanted_not (b := true) rfl rfl t46]; exact Bool.false_ne_true)]
              exact hK _ _ (hJ.val HOK 9 _ (by kernel_rfl) rfl (Below.refl _ _))
            case o18k4b_10 =>
              intro LX V aX wX K hl hp hcl hf hJ hK
              have t46 := hf.in (i := 5) (d := 46) (by kernel_rfl) (hp 5 (by kernel_rfl)) (hJ.vals 5 _ rfl (hp 5 (by kernel_rfl)))
              rw [if_neg (by rw [wanted_not (b := true) rfl rfl t46]; exact Bool.false_ne_true)]
              exact hK _ _ (hJ.val HOK 10 _ (by kernel_rfl) rfl (Below.refl _ _))
            case o18k4b_11 =>
              intro LX V aX wX K hl hp hcl hf hJ hK
              have t46 := hf.in (i := 5) (d := 46) (by kernel_rfl) (hp 5 (by kernel_rfl)) (hJ.vals 5 _ rfl (hp 5 (by kernel_rfl)))
              rw [if_neg (by rw [wanted_not (b := true) rfl rfl t46]; exact Bool.false_ne_true)]
              exact hK _ _ (hJ.val HOK 11 _ (by kernel_rfl) rfl (Below.refl _ _))
            case o18k4b_12 =>
              intro LX V aX wX K hl hp hcl hf hJ hK
              have t46 := hf.in (i := 5) (d := 46) (by kernel_rfl) (hp 5 (by kernel_rfl)) (hJ.vals 5 _ rfl (hp 5 (by kernel_rfl)))
              rw [if_neg (by rw [wanted_not (b := true) rfl rfl t46]; exact Bool.false_ne_true)]
              exact hK _ _ (hJ.val HOK 12 _ (by kernel_rfl) rfl (Below.refl _ _))
            case o18k4b_13 =>
              intro LX V aX wX K hl hp hcl hf hJ hK
              have t46 := hf.in (i := 5) (d := 46) (by kernel_rfl) (hp 5 (by kernel_rfl)) (hJ.vals 5 _ rfl (hp 5 (by kernel_rfl)))
              rw [if_neg (by rw [wanted_not (b := true) rfl rfl t46]; exact Bool.false_ne_true)]
              exact hK _ _ (hJ.val HOK 13 _ (by kernel_rfl) rfl (Below.refl _ _))
            case o18k4b_14 =>
              intro LX V aX wX K hl hp hcl hf hJ hK
              have t46 := hf.in (i := 5) (d := 46) (by kernel_rfl) (hp 5 (by kernel_rfl)) (hJ.vals 5 _ rfl (hp 5 (by kernel_rfl)))
              rw [if_neg (by rw [wanted_not (b := true) rfl rfl t46]; exact Bool.false_ne_true)]
              exact hK _ _ (hJ.val HOK 14 _ (by kernel_rfl) rfl (Below.refl _ _))
            case o18k4b_15 =>
              intro LX V aX wX K hl hp hcl hf hJ hK
              have t46 := hf.in (i := 5) (d := 46) (by kernel_rfl) (hp 5 (by kernel_rfl)) (hJ.vals 5 _ rfl (hp 5 (by kernel_rfl)))
              rw [if_neg (by rw [wanted_not (b := true) rfl rfl t46]; exact Bool.false_ne_true)]
              exact hK _ _ (hJ.val HOK 15 _ (by kernel_rfl) rfl (Below.refl _ _))
            case o18k4b_16 =>
              intro LX V aX wX K hl hp hcl hf hJ hK
              have t46 := hf.in (i := 5) (d := 46) (by kernel_rfl) (hp 5 (by kernel_rfl)) (hJ.vals 5 _ rfl (hp 5 (by kernel_rfl)))
              have t56 := hf.in (i := 15) (d := 56) (by kernel_rfl) (hp 15 (by kernel_rfl)) (hJ.vals 15 _ rfl (hp 15 (by kernel_rfl)))
              have t43 := hf.in (i := 2) (d := 43) (by kernel_rfl) (hp 2 (by kernel_rfl)) (hJ.vals 2 _ rfl (hp 2 (by kernel_rfl)))
              rw [if_pos (wanted_of rfl rfl t43)]
              go_simp
              exact hK _ _ (hJ.val HOK 16 _ (by kernel_rfl) rfl (Below.refl _ _))
            case o18k4b_17 =>
              intro LX V aX wX K hl hp hcl hf hJ hK
              have t43 := hf.in (i := 2) (d := 43) (by kernel_rfl) (hp 2 (by kernel_rfl)) (hJ.vals 2 _ rfl (hp 2 (by kernel_rfl)))
              have t57 := hf.in (i := 16) (d := 57) (by kernel_rfl) (hp 16 (by kernel_rfl)) (hJ.vals 16 _ rfl (hp 16 (by kernel_rfl)))
              rw [if_pos (by rfl)]
              go_simp
              exact hK _ _ (hJ.val HOK 17 _ (by kernel_rfl) rfl (Below.refl _ _))
          intro V wZ hJ
          have hv := hJ.vals 17 _ rfl (by kernel_rfl)
          have HBZ := Lib.hid hJ.below
          simp only [puts, Act.put, List.setIfInBounds_toArray, List.set_cons_zero, List.set_cons_succ]
          rw [hv]
          clear hJ HOK hv
          have HBX := Lib.hid (HBQ.out.trans (HBZ.out.mono HBQ.out.size))
          go_wp2_with fail
          go_loopw [8] (fun jv wr => ∃ j : Nat, j ≤ i ∧ jv = .int .i64 j ∧ Hid (Below w2.heap.size w2 wr)) (fun jv _ => i - (intOf jv).toNat)
          case atStart => exact ⟨0, by omega, rfl, HBX⟩
          case round =>
            obtain ⟨j, hj, rfl, hbj⟩ := hrel
            by_cases hltj : j < i
            · have hj5 : (j : Int) < (i : Int) := by omega
              have hj6 : (j : Int) < (6 : Int) := by omega
              have hj0 : (0 : Int) ≤ (j : Int) := by omega
              have hwj : IntKind.i64.wrap ((j : Int) + 1) = (j : Int) + 1 := IntWalk.i64_in _ (by omega)
              have cz := HAT.out wr hbj.out j (by omega)
              obtain ⟨ot, e9, e10⟩ := HLO.out j (by omega)
              obtain ⟨z, hz⟩ : ∃ z, z = uniS.getD j [] := ⟨_, rfl⟩
              rw [← hz] at cz e9
              have hne : ot ≠ lg := fun e => HDI.out j i hltj hlt ⟨lg, by rw [← hz, e9, e], HLG.out⟩
              have q9 : ((bs ot).toList == (bs lg).toList) = false := (bs_eq _ _).trans (decide_eq_false hne)
              have hl := HL.out z wr (HT2.out.later hbj.out)
              rw [e9] at hl
              have HLZ := Lib.hid hl
              clear e9 e10 hz hne hl
              go_wp2_with fail
              refine HLZ.out.mono ?_
              rintro e w4 ⟨rfl, hb4⟩
              have HB4 := Lib.hid (hbj.out.trans (hb4.mono hbj.out.size))
              clear hb4
              unfold foundV
              go_wp2_with fail
              go_roundw
              case rel => exact ⟨j + 1, by omega, by go_num, HB4⟩
              case measure => simp [intOf]; omega
            · have hji : i = j := by omega
              subst hji
              go_wp2_with fail
              go_roundw
              case rel => exact ⟨i + 1, by omega, by go_num, hbj⟩
              case measure => simp [intOf]; omega
      · have hin : i = 6 := by omega
        subst hin
        go_wp2_with fail
        refine (awake_any wr (HT2.out.later hbr.out)).mono ?_
        rintro e w5 ⟨rfl, hb5⟩
        have HB5 := Lib.hid (hbr.out.trans (hb5.mono hbr.out.size))
        clear hb5
        go_wp2_with fail
        go_ret
        exact ⟨rfl, HB2.out.trans (HB5.out.mono HB2.out.size)⟩
  have hS : kindS k = [] := by unfold kindS; rw [if_neg h1, if_neg h2, if_neg h3, if_neg h4]
  have ha := All_kind k w HT.out
  rw [hS, show ([] : List Wd).length = 0 from rfl] at ha
  have HA := Lib.hid ha
  have hk1 : (k == 1) = false := by simp [h1]
  have hk2 : (k == 2) = false := by simp [h2]
  have hk3 : (k == 3) = false := by simp [h3]
  have hk4 : (k == 4) = false := by simp [h4]
  clear hS ha h1 h2 h3 h4
  go_enter Tryd.func5, Tryd.ntmps5
  go_wp2_with fail
  refine HA.out.mono ?_
  rintro e w2 ⟨ao, cap, rfl, _, _, hb⟩
  have HB2 := Lib.hid hb
  have HT2 := Lib.hid (HT.out.later hb)
  clear hb
  go_wp2_with fail
  go_loopw [5] (fun iv wr => iv = .int .i64 0 ∧ wr = w2) (fun iv _ => 0)
  case atStart => exact ⟨rfl, rfl⟩
  case round =>
    obtain ⟨rfl, rfl⟩ := hrel
    go_wp2_with fail
    refine (awake_any _ HT2.out).mono ?_
    rintro e w5 ⟨rfl, hb5⟩
    have HB5 := Lib.hid (HB2.out.trans (hb5.mono HB2.out.size))
    clear hb5
    go_wp2_with fail
    go_ret
    exact ⟨rfl, HB5.out⟩
end Go.Proofs.YtbgihfjagfbfgaaDoor

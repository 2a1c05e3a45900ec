/- layer 16: the reference's All, walked (printed by mkrefall16.py) -/
import Derived.Test.YtbgihfjagfbfgaaDoorMWRef3
import Derived.Laws.Cover1
set_option linter.unusedSimpArgs false
set_option linter.unusedVariables false
namespace Go.Proofs.YtbgihfjagfbfgaaDoor
open Go.RowKit Go.Words
attribute [local go_sem] Oper.semAt_some
theorem leq_yes {s y : Wd} (h : ¬ y < s) : (Op.bytesLess (bs s).toList (bs y).toList || (bs s).toList == (bs y).toList) = true := by
  rw [less_bs, bs_eq]
  by_cases e : s = y
  · simp [e]
  · have : s < y := by
      rcases List.le_iff_lt_or_eq.1 (List.not_lt.1 h) with h2 | h2
      · exact h2
      · exact absurd h2 e
    simp [this]
set_option maxRecDepth 100000 in
set_option maxHeartbeats 8000000 in
theorem rAll_any (k : Int) (w : World) : Calls Tryd.prog 14 #[.int .i64 k] w fun e w' => ∃ v, e = .returned v ∧ OwnS w' w.heap.size v (kindS k) ∧ Below w.heap.size w w' := by
  have hPA := pairs_any k w
  obtain ⟨P, hP⟩ : ∃ P, P = kindP k := ⟨_, rfl⟩
  rw [← hP] at hPA
  have HPA := Lib.hid hPA
  obtain ⟨S, hS⟩ : ∃ S, S = kindS k := ⟨_, rfl⟩
  rw [← hS]
  have hSP : S.length = P.length := by rw [hS, hP]; exact kindS_lenP k
  have hln : P.length ≤ 51 := by rw [hP]; exact kindP_len k
  have HMEM0 : Hid (∀ j, j < P.length → (P.getD j pr0).2 ∈ S) := Lib.hid (fun j hj => by
    rw [hS]
    refine kindS_mem.2 ⟨P.getD j pr0, ?_, rfl⟩
    rw [← hP, List.getD_eq_getElem?_getD, List.getElem?_eq_getElem hj]
    exact List.getElem_mem _)
  have HNE : Hid (∀ s ∈ S, s ≠ []) := Lib.hid (fun s hs => by
    rw [hS] at hs
    exact of_decide_eq_true (List.all_eq_true.1 (kindS_ne k) s hs))
  have HDONE0 : Hid (∀ m, m < S.length → ∀ b, BestP S m P P.length b → b = S.getD m []) := Lib.hid (fun m hm b h => by
    rw [hS] at hm h ⊢
    rw [hP] at h
    exact h.done hm)
  clear hPA hP hS
  go_enter Tryd.func14, Tryd.ntmps14
  go_wp2_with fail
  refine HPA.out.mono ?_
  rintro e w1 ⟨ao, rfl, hi, hb⟩
  have HI := Lib.hid hi
  have HB1 := Lib.hid hb
  obtain ⟨n, hn⟩ : ∃ n, n = P.length := ⟨_, rfl⟩
  rw [← hn] at HI hln hSP ⊢
  have HMEM : Hid (∀ j, j < n → (P.getD j pr0).2 ∈ S) := Lib.hid (by rw [hn]; exact HMEM0.out)
  have HDONE : Hid (∀ m, m < n → ∀ b, BestP S m P n b → b = S.getD m []) := Lib.hid (fun m hm b h => HDONE0.out m (by rw [hSP]; exact hm) b (by rw [hn] at h; exact h))
  clear hi hb hn HMEM0 HDONE0
  go_wp2_with fail
  go_loopw [4, 5] (fun ov mv wr => ∃ m : Nat, m ≤ n ∧ mv = .int .i64 m ∧ Hid (OwnS wr w1.heap.size ov (S.take m) ∧ Below w1.heap.size w1 wr)) (fun _ mv _ => n - (intOf mv).toNat)
  case atStart => exact ⟨0, by omega, rfl, Lib.hid ⟨OwnS.nil _ _, Below.refl _ _⟩⟩
  case round =>
    rename_i ov mv
    obtain ⟨m, hm, rfl, hst⟩ := hrel
    have HO := Lib.hid hst.out.1
    have HB2 := Lib.hid hst.out.2
    clear hst
    by_cases hlt : m < n
    · have hi5 : (m : Int) < (n : Int) := by omega
      have hwi : IntKind.i64.wrap ((m : Int) + 1) = (m : Int) + 1 := IntWalk.i64_in _ (by omega)
      by_cases h0 : m = 0
      · subst h0
        go_wp2_with fail
        go_loopw [6, 7] (fun bv jv wr2 => ∃ (j : Nat) (b : Wd), j ≤ n ∧ bv = sV b ∧ jv = .int .i64 j ∧ Hid (BestP S 0 P j b) ∧ wr2 = wr) (fun _ jv _ => n - (intOf jv).toNat)
        case atStart => exact ⟨0, [], by omega, rfl, rfl, Lib.hid (BestP.start _ _ _), rfl⟩
        case round =>
          obtain ⟨j, b, hj, rfl, rfl, hbest, rfl⟩ := hrel
          by_cases hltj : j < n
          · have hj0 : (0 : Int) ≤ (j : Int) := by omega
            have hj5 : (j : Int) < (n : Int) := by omega
            have hwj : IntKind.i64.wrap ((j : Int) + 1) = (j : Int) + 1 := IntWalk.i64_in _ (by omega)
            obtain ⟨pb, hpb, _, c1⟩ := (HI.out.later HB2.out).at hltj
            subst hpb
            obtain ⟨s, hs⟩ : ∃ s, s = (P.getD j pr0).2 := ⟨_, rfl⟩
            rw [← hs] at c1
            have HSV := Lib.hid hs
            have HSM : Hid (s ∈ S) := Lib.hid (by rw [hs]; exact HMEM.out j hltj)
            have HSN : Hid (s ≠ []) := Lib.hid (HNE.out s HSM.out)
            clear hs
            have HCD : Hid (cand S 0 s) := Lib.hid (.inl rfl)
            by_cases hb0 : b = []
            · have q1 : ((bs b).toList == []) = true := (bs_lit _ _).trans (decide_eq_true hb0)
              have HB0 := Lib.hid hb0
              clear hb0
              go_wp2_with fail
              go_roundw
              case rel => exact ⟨j + 1, s, by omega, rfl, by go_num, Lib.hid (hbest.out.take HSV.out HSM.out HSN.out HCD.out (.inl HB0.out)), by first | trivial | rfl⟩
              case measure => simp [intOf]; omega
            · have q1 : ((bs b).toList == []) = false := (bs_lit _ _).trans (decide_eq_false hb0)
              by_cases hsb : s < b
              · have q2 : Op.bytesLess (bs s).toList (bs b).toList = true := (less_bs _ _).trans (decide_eq_true hsb)
                have HSB := Lib.hid hsb
                clear hb0 hsb
                go_wp2_with fail
                go_roundw
                case rel => exact ⟨j + 1, s, by omega, rfl, by go_num, Lib.hid (hbest.out.take HSV.out HSM.out HSN.out HCD.out (.inr HSB.out)), by first | trivial | rfl⟩
                case measure => simp [intOf]; omega
              · have q2 : Op.bytesLess (bs s).toList (bs b).toList = false := (less_bs _ _).trans (decide_eq_false hsb)
                have HBS := Lib.hid (And.intro hb0 hsb)
                clear hb0 hsb
                go_wp2_with fail
                go_roundw
                case rel => exact ⟨j + 1, b, by omega, rfl, by go_num, Lib.hid (hbest.out.pass HSV.out (fun h => h.2.elim HBS.out.1 HBS.out.2)), by first | trivial | rfl⟩
                case measure => simp [intOf]; omega
          · have hjn : n = j := by omega
            subst hjn
            have hbx : b = S.getD 0 [] := HDONE.out 0 (by omega) b hbest.out
            have HBX := Lib.hid hbx
            have HOW := Lib.hid (HO.out.later ((Below.refl _ _).alloc (Nat.le_refl _) (Obj.cells #[sV b] 9)))
            have HSZ := Lib.hid HB2.out.size
            have HKL : Hid ((S.take 0).length + 1 ≤ 1000000000) := Lib.hid (by rw [List.length_take]; omega)
            clear hbx
            go_wp2_with (at_builtin; refine wpList_append_strs rfl _ _ rfl w1.heap.size _ (S.take 0) rfl HOW.out _ _ _ [b] rfl (one_strs wr b) HKL.out (by have := HSZ.out; simp; omega) ?_
                         intro v7 w7 hown7 hg7
                         have hb7 : Below w1.heap.size w1 w7 := (HB2.out.alloc HB2.out.size (Obj.cells #[sV b] 9)).grown hg7 (by have := HSZ.out; simp; omega) (fun q hq => (HOW.out.lt q hq).1)
                         have H7 := Lib.hid (And.intro hown7 hb7)
                         clear hown7 hg7 hb7)
            go_roundw
            case rel => exact ⟨0 + 1, by omega, by go_num, Lib.hid ⟨by rw [takeP (d := []) (by omega), ← HBX.out]; exact H7.out.1, H7.out.2⟩⟩
            case measure => simp [intOf]; omega
      · have hmp : 0 < m := by omega
        clear h0
        obtain ⟨y, hy⟩ : ∃ y, y = S.getD (m - 1) [] := ⟨_, rfl⟩
        obtain ⟨m1, hm1⟩ : ∃ m1 : Nat, m = m1 + 1 := ⟨m - 1, by omega⟩
        obtain ⟨oa, oc, hov, hio⟩ := HO.out.strs
        have htl : (S.take m).length = m := by rw [List.length_take]; omega
        rw [htl] at hov hio
        obtain ⟨ob, oo, hoa, _⟩ := hio.at (i := 0) (by omega)
        subst hoa
        subst hov
        have cy : wr.cell? ⟨ob, oo + m1, none⟩ = some (sV y) := by
          obtain ⟨b2, o2, e2, c2⟩ := hio.at (i := m1) (by omega)
          cases e2
          rw [List.getD_eq_getElem?_getD, List.getElem?_take, if_pos (by omega), ← List.getD_eq_getElem?_getD] at c2
          rw [hy, show m - 1 = m1 by omega]
          exact c2
        have HY := Lib.hid hy
        have HM1 := Lib.hid hm1
        have hoc := hio.2.1
        have hocm : oc ≤ 9223372036854775807 := hio.2.2.1
        have hm0 : ¬ (m : Int) = 0 := by omega
        have hm0b : ((m : Int) == 0) = false := by simp; omega
        have hwm : IntKind.i64.wrap ((m : Int) - 1) = (m1 : Int) := by rw [IntWalk.i64_in _ (by omega)]; omega
        have hm1a : (0 : Int) ≤ (m1 : Int) := by omega
        have hm1b : (m1 : Int) < (m : Int) := by omega
        clear hy hm1 htl hio
        go_wp2_with fail
        go_loopw [6, 7] (fun bv jv wr2 => ∃ (j : Nat) (b : Wd), j ≤ n ∧ bv = sV b ∧ jv = .int .i64 j ∧ Hid (BestP S m P j b) ∧ wr2 = wr) (fun _ jv _ => n - (intOf jv).toNat)
        case atStart => exact ⟨0, [], by omega, rfl, rfl, Lib.hid (BestP.start _ _ _), rfl⟩
        case round =>
          obtain ⟨j, b, hj, rfl, rfl, hbest, rfl⟩ := hrel
          by_cases hltj : j < n
          · have hj0 : (0 : Int) ≤ (j : Int) := by omega
            have hj5 : (j : Int) < (n : Int) := by omega
            have hwj : IntKind.i64.wrap ((j : Int) + 1) = (j : Int) + 1 := IntWalk.i64_in _ (by omega)
            obtain ⟨pb, hpb, _, c1⟩ := (HI.out.later HB2.out).at hltj
            subst hpb
            obtain ⟨s, hs⟩ : ∃ s, s = (P.getD j pr0).2 := ⟨_, rfl⟩
            rw [← hs] at c1
            have HSV := Lib.hid hs
            have HSM : Hid (s ∈ S) := Lib.hid (by rw [hs]; exact HMEM.out j hltj)
            have HSN : Hid (s ≠ []) := Lib.hid (HNE.out s HSM.out)
            clear hs
            by_cases hcs : y < s
            · obtain ⟨l1, l2⟩ := leq_no hcs
              have HCD : Hid (cand S m s) := Lib.hid (.inr (by rw [← HY.out]; exact hcs))
              clear hcs
              by_cases hb0 : b = []
              · have q1 : ((bs b).toList == []) = true := (bs_lit _ _).trans (decide_eq_true hb0)
                have HB0 := Lib.hid hb0
                clear hb0
                go_wp2_with fail
                go_roundw
                case rel => exact ⟨j + 1, s, by omega, rfl, by go_num, Lib.hid (hbest.out.take HSV.out HSM.out HSN.out HCD.out (.inl HB0.out)), by first | trivial | rfl⟩
                case measure => simp [intOf]; omega
              · have q1 : ((bs b).toList == []) = false := (bs_lit _ _).trans (decide_eq_false hb0)
                by_cases hsb : s < b
                · have q2 : Op.bytesLess (bs s).toList (bs b).toList = true := (less_bs _ _).trans (decide_eq_true hsb)
                  have HSB := Lib.hid hsb
                  clear hb0 hsb
                  go_wp2_with fail
                  go_roundw
                  case rel => exact ⟨j + 1, s, by omega, rfl, by go_num, Lib.hid (hbest.out.take HSV.out HSM.out HSN.out HCD.out (.inr HSB.out)), by first | trivial | rfl⟩
                  case measure => simp [intOf]; omega
                · have q2 : Op.bytesLess (bs s).toList (bs b).toList = false := (less_bs _ _).trans (decide_eq_false hsb)
                  have HBS := Lib.hid (And.intro hb0 hsb)
                  clear hb0 hsb
                  go_wp2_with fail
                  go_roundw
                  case rel => exact ⟨j + 1, b, by omega, rfl, by go_num, Lib.hid (hbest.out.pass HSV.out (fun h => h.2.elim HBS.out.1 HBS.out.2)), by first | trivial | rfl⟩
                  case measure => simp [intOf]; omega
            · have HCD : Hid (¬ cand S m s) := Lib.hid (fun h => h.elim (fun e => by have := HM1.out; omega) (fun h => hcs (by rw [HY.out]; exact h)))
              have l3 := leq_yes hcs
              clear hcs
              go_wp2_with fail
              go_roundw
              case rel => exact ⟨j + 1, b, by omega, rfl, by go_num, Lib.hid (hbest.out.pass HSV.out (fun h => HCD.out h.1)), by first | trivial | rfl⟩
              case measure => simp [intOf]; omega
          · have hjn : n = j := by omega
            subst hjn
            have hbx : b = S.getD m [] := HDONE.out m (by omega) b hbest.out
            have HBX := Lib.hid hbx
            have HOW := Lib.hid (HO.out.later ((Below.refl _ _).alloc (Nat.le_refl _) (Obj.cells #[sV b] 9)))
            have HSZ := Lib.hid HB2.out.size
            have HKL : Hid ((S.take m).length + 1 ≤ 1000000000) := Lib.hid (by rw [List.length_take]; omega)
            clear hbx
            go_wp2_with (at_builtin; refine wpList_append_strs rfl _ _ rfl w1.heap.size _ (S.take m) rfl HOW.out _ _ _ [b] rfl (one_strs wr b) HKL.out (by have := HSZ.out; simp; omega) ?_
                         intro v7 w7 hown7 hg7
                         have hb7 : Below w1.heap.size w1 w7 := (HB2.out.alloc HB2.out.size (Obj.cells #[sV b] 9)).grown hg7 (by have := HSZ.out; simp; omega) (fun q hq => (HOW.out.lt q hq).1)
                         have H7 := Lib.hid (And.intro hown7 hb7)
                         clear hown7 hg7 hb7)
            go_roundw
            case rel => exact ⟨m + 1, by omega, by go_num, Lib.hid ⟨by rw [takeP (d := []) (by omega), ← HBX.out]; exact H7.out.1, H7.out.2⟩⟩
            case measure => simp [intOf]; omega
    · have hmn : n = m := by omega
      subst hmn
      have hall : S.take n = S := List.take_of_length_le (by omega)
      rw [hall] at HO
      clear hall
      go_wp2_with fail
      go_ret
      exact ⟨_, rfl, HO.out.base HB1.out.size, HB1.out.trans (HB2.out.mono HB1.out.size)⟩
end Go.Proofs.YtbgihfjagfbfgaaDoor

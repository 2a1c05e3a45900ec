/- the document's answer: Stack, walked -/
import Derived.Test.YtbidappkmnedaaaJRef3
import Derived.Deep.QuietTactic
namespace Go.Proofs.Ytbidappkmnedaaa
open Go.RowKit
theorem IsInts.take {w : World} {b off m c : Nat} {L : List Int} (h : IsInts w (some ⟨b, off, none⟩) m c L) {k : Nat} (hk : k ≤ m) : IsInts w (some ⟨b, off, none⟩) k c (L.take k) := by
  obtain ⟨h1, h2, h3, h4, h5⟩ := h
  refine ⟨by rw [List.length_take, h1]; omega, by omega, h3, fun hp => ?_, fun h => by cases h⟩
  obtain ⟨b', off', e, hc⟩ := h4 (by omega)
  cases e
  refine ⟨b, off, rfl, fun i hi => ?_⟩
  rw [hc i (by omega), List.getD_eq_getElem?_getD, List.getD_eq_getElem?_getD, List.getElem?_take, if_pos hi]
theorem take_no {L : List Int} {k : Nat} (hk : k < L.length) (h : (L.take k).contains (L.getD k 0) = false) : ∀ i, i < k → L.getD i 0 ≠ L.getD k 0 := by
  intro i hi e
  have : (L.take k).contains (L.getD k 0) = true := contains_at (k := i) (by rw [List.length_take]; omega) (by rw [← e, List.getD_eq_getElem?_getD, List.getD_eq_getElem?_getD, List.getElem?_take, if_pos hi])
  rw [h] at this
  cases this
theorem take_yes {L : List Int} {k : Nat} (hk : k < L.length) (h : (L.take k).contains (L.getD k 0) = true) : ¬ L.Nodup := by
  rw [List.contains_iff_mem] at h
  obtain ⟨i, hi, e⟩ := mem_getDI h
  rw [List.length_take] at hi
  rw [List.getD_eq_getElem?_getD, List.getElem?_take, if_pos (by omega), ← List.getD_eq_getElem?_getD] at e
  intro hn
  exact nodup_getD.1 hn i k (by omega) hk e
set_option maxRecDepth 100000 in
set_option maxHeartbeats 4000000 in
theorem StackR_any (ao : Option Addr) (n cap : Nat) (L : List Jur) (bo : Option Addr) (m c1 : Nat) (ids : List Int) (w : World) (h : IsJurs w ao n cap L) (h2 : IsInts w bo m c1 ids) :
    Calls Try.prog 20 #[.slice ao n cap, .slice bo m c1] w fun e w' => ∃ v r M, e = .returned (.tuple #[v, .int .i64 r]) ∧ StackIs L ids r M ∧ OwnI w' w.heap.size v M ∧ Below w.heap.size w w' := by
  have HJ := Lib.hid h
  have HI := Lib.hid h2
  have HL : Hid (L.length = n) := h.1
  have HLI : Hid (ids.length = m) := h2.1
  have hmc := h2.2.1
  have hmm := h2.2.2.1
  unfold maxLen at hmm
  obtain ⟨ce, hce⟩ : ∃ c, c = (checkP L).1 := ⟨_, rfl⟩
  obtain ⟨ci, hci⟩ : ∃ c, c = (checkP L).2 := ⟨_, rfl⟩
  have hck := CheckR_any ao n cap L w h
  rw [← hce, ← hci] at hck
  have HCK := Lib.hid hck
  have HCE := Lib.hid hce
  by_cases hc0 : ce = 0
  · subst hc0
    have hn64 : n ≤ 64 := by rw [← h.1]; exact (check_ok hce.symm).1
    clear h h2 hck hce hci
    go_enter Try.func20, Try.ntmps20
    go_wp2_with fail
    refine HCK.out.mono ?_
    rintro e w1 ⟨rfl, hg1⟩
    have HG1 := Lib.hid hg1
    clear hg1
    go_wp2_with fail
    go_loopw [8] (fun i wr => ∃ k : Nat, k ≤ m ∧ i = .int .i64 k ∧ Hid (∀ j, j < k → atJ L (ids.getD j 0) ≠ none) ∧ Hid (Grew w wr)) (fun i _ => m - (intOf i).toNat)
    case atStart => exact ⟨0, by omega, rfl, fun j hj => absurd hj (by omega), HG1.out⟩
    case round =>
      obtain ⟨k, hk, rfl, hall, hgr⟩ := hrel
      by_cases hlt : k < m
      · have hi0 : (0 : Int) ≤ (k : Int) := by omega
        have hi1 : (k : Int) < (m : Int) := by omega
        obtain ⟨b, off, rfl, hcs⟩ := (HI.out.grew hgr.out).2.2.2.1 (by omega)
        have hc := hcs k hlt
        obtain ⟨x, hx⟩ : ∃ x, x = ids.getD k 0 := ⟨_, rfl⟩
        rw [← hx] at hc
        have HP := Lib.hid (atR_any ao n cap L x wr (HJ.out.grew hgr.out))
        have HX := Lib.hid hx
        clear hcs hx
        cases ha : atJ L x with
        | none =>
          have hp : placeJ L x = -1 := by unfold placeJ; rw [ha]
          rw [hp] at HP
          have HA := Lib.hid ha
          clear hp ha
          go_wp2_with fail
          refine HP.out.mono ?_
          rintro e w2 ⟨rfl, hg2⟩
          go_wp2_with fail
          go_ret2
          refine ⟨_, _, [], rfl, ⟨fun h => absurd HCE.out.symm h, fun _ _ => ⟨rfl, rfl⟩, fun _ h => absurd HA.out (by rw [HX.out]; exact h _ (getD_memI (by rw [HLI.out]; exact hlt))), fun _ h => absurd HA.out (by rw [HX.out]; exact h _ (getD_memI (by rw [HLI.out]; exact hlt)))⟩, OwnI.nil _ _, (hgr.out.trans hg2).1⟩
        | some i =>
          have hp : placeJ L x = (i : Int) := by unfold placeJ; rw [ha]
          rw [hp] at HP
          have hin : ¬ ((i : Int) < 0) := by omega
          have HA := Lib.hid ha
          clear hp ha
          go_wp2_with fail
          refine HP.out.mono ?_
          rintro e w2 ⟨rfl, hg2⟩
          go_wp2_with fail
          go_roundw
          case rel =>
            refine ⟨k + 1, by omega, by go_num, fun j hj => ?_, hgr.out.trans hg2⟩
            by_cases hjk : j < k
            · exact hall.out j hjk
            · obtain rfl : j = k := by omega
              rw [← HX.out, HA.out]; simp
          case measure => simp [intOf]; omega
      · obtain rfl : k = m := by omega
        have hmem : ∀ x ∈ ids, atJ L x ≠ none := fun x hx => by
          obtain ⟨i, hi, rfl⟩ := mem_getDI hx
          exact hall.out i (by rw [← HLI.out]; exact hi)
        have HME := Lib.hid hmem
        have HGR := Lib.hid hgr.out
        clear hmem hall
        go_wp2_with fail
        generalize wr = wz at HGR ⊢
        go_loopw [9] (fun i wr => ∃ j : Nat, j ≤ k ∧ i = .int .i64 j ∧ Hid (∀ a, a < j → ∀ b, b < a → ids.getD b 0 ≠ ids.getD a 0) ∧ Hid (Grew w wr)) (fun i _ => k - (intOf i).toNat)
        case atStart => exact ⟨0, by omega, rfl, fun j hj => absurd hj (by omega), HGR.out⟩
        case round =>
          obtain ⟨j, hj, rfl, hall, hgr⟩ := hrel
          by_cases hlt : j < k
          · have hi0 : (0 : Int) ≤ (j : Int) := by omega
            have hi1 : (j : Int) < (k : Int) := by omega
            have hi2 : (j : Int) ≤ (c1 : Int) := by omega
            obtain ⟨b, off, rfl, hcs⟩ := (HI.out.grew hgr.out).2.2.2.1 (by omega)
            have hc := hcs j hlt
            obtain ⟨x, hx⟩ : ∃ x, x = ids.getD j 0 := ⟨_, rfl⟩
            rw [← hx] at hc
            obtain ⟨r, hr⟩ : ∃ r, r = (ids.take j).contains x := ⟨_, rfl⟩
            have hcall : ∀ q', Calls Try.prog 41 #[.slice (some ⟨b, off, none⟩) j c1, .int .i64 x] (wr.drewN q') fun e w' => e = .returned (.bool r) ∧ w' = wr.drewN q' := fun q' => by
              rw [hr]; exact amongR_any _ j c1 (ids.take j) x _ ((HI.out.grew (hgr.out.drewN q')).take (by omega))
            have HC := Lib.hid hcall
            have HX := Lib.hid (And.intro hx hr)
            clear hcs hx hr hcall
            cases r with
            | true =>
              have HNN := Lib.hid (take_yes (L := ids) (k := j) (by rw [HLI.out]; exact hlt) (by rw [← HX.out.1]; exact HX.out.2.symm))
              go_wp2_with fail
              go_quiet ((go_at_call 41; exact Calls.quiet_of_same (HC.out _)))
              go_wp2_with fail
              go_ret2
              refine ⟨_, _, [], rfl, ⟨fun h => absurd HCE.out.symm h, fun _ ⟨x, hx, hn⟩ => absurd hn (HME.out x hx), fun _ _ _ => ⟨rfl, rfl⟩, fun _ _ h => absurd h HNN.out⟩, OwnI.nil _ _, below_drewN hgr.out.1 _⟩
            | false =>
              have HNO := Lib.hid (take_no (L := ids) (k := j) (by rw [HLI.out]; exact hlt) (by rw [← HX.out.1]; exact HX.out.2.symm))
              go_wp2_with fail
              go_quiet ((go_at_call 41; exact Calls.quiet_of_same (HC.out _)))
              go_wp2_with fail
              go_roundw
              case rel =>
                refine ⟨j + 1, by omega, by go_num, fun a ha => ?_, hgr.out.drewN _⟩
                by_cases haj : a < j
                · exact hall.out a haj
                · obtain rfl : a = j := by omega
                  exact HNO.out
              case measure => simp [intOf]; omega
          · obtain rfl : j = k := by omega
            have hnd : ids.Nodup := nodup_getD.2 (fun i a hia ha => hall.out a (by rw [← HLI.out]; exact ha) i hia)
            have HST := Lib.hid (ref_stack HCE.out.symm HME.out hnd)
            have HW0 := Lib.hid hgr.out
            obtain ⟨base, hbase⟩ : ∃ b, b = w.heap.size := ⟨_, rfl⟩
            have HB := Lib.hid hbase
            have HBL : Hid (w.heap.size ≤ base) := by rw [hbase]; exact Nat.le_refl _
            have HB0 : Hid (Below base w wr) := by rw [hbase]; exact Lib.hid hgr.out.1
            clear hnd hall hbase
            go_wp2_with fail
            generalize wr = wy at HB0 ⊢
            go_loopw [10, 11] (fun v c wr => ∃ q : Nat, 1 ≤ q ∧ q ≤ 5 ∧ c = .int .i64 q ∧ Hid (OwnI wr base v (refUp L ids (q - 1))) ∧ Hid (Below base w wr)) (fun _ c _ => 5 - (intOf c).toNat)
            case atStart => exact ⟨1, by omega, by omega, rfl, OwnI.nil _ _, HB0.out⟩
            case round =>
              obtain ⟨q, hq1, hq5, rfl, hown, hbl⟩ := hrel
              by_cases hq4 : q ≤ 4
              · have hq4i : (q : Int) ≤ 4 := by omega
                have HO0 := Lib.hid hown.out
                have HBL0 := Lib.hid hbl.out
                go_wp2_with fail
                generalize wr = wx at HO0 HBL0 ⊢
                go_loopw [10, 12] (fun v i wr => ∃ t : Nat, t ≤ n ∧ i = .int .i64 t ∧ Hid (OwnI wr base v (refUp L ids (q - 1) ++ refK L ids q t)) ∧ Hid (Below base w wr)) (fun _ i _ => n - (intOf i).toNat)
                case atStart => exact ⟨0, by omega, rfl, Lib.hid (by rw [refK, List.append_nil]; exact HO0.out), HBL0.out⟩
                case round =>
                  obtain ⟨t, ht, rfl, hown, hbl⟩ := hrel
                  by_cases hlt : t < n
                  · have ht0 : (0 : Int) ≤ (t : Int) := by omega
                    have ht1 : (t : Int) < (n : Int) := by omega
                    obtain ⟨b, off, rfl, hcs⟩ := (HJ.out.later hbl.out HBL.out).2.2.2.1 (by omega)
                    have hk0 := hcs t hlt
                    obtain ⟨y, hy⟩ : ∃ y, y = L.getD t j0 := ⟨_, rfl⟩
                    rw [← hy] at hk0
                    obtain ⟨y0, y1, y2, y3, y4, y5, y6⟩ := y
                    have e0 : wr.cell? ⟨b, off + t * 5, none⟩ = some (.int .i64 y0) := hk0 0 (by omega)
                    have e1 : wr.cell? ⟨b, off + t * 5 + 1, none⟩ = some (.int .i64 y1) := hk0 1 (by omega)
                    obtain ⟨r, hr⟩ : ∃ r, r = ids.contains y0 := ⟨_, rfl⟩
                    have hcall : Calls Try.prog 41 #[.slice bo j c1, .int .i64 y0] wr fun e w' => e = .returned (.bool r) ∧ w' = wr := by
                      rw [hr]; exact amongR_any _ j c1 ids y0 _ (HI.out.later hbl.out HBL.out)
                    have HC := Lib.hid hcall
                    have HRK : Hid (refK L ids q (t + 1) = refK L ids q t ++ if y1 = (q : Int) ∧ r = true then [y0] else []) := Lib.hid (by rw [refK, ← hy, hr])
                    have HBZ : Hid (base ≤ wr.heap.size) := by have := hbl.out.size; rw [HB.out]; exact this
                    clear hcs hk0 hy hr hcall
                    by_cases hyq : y1 = (q : Int)
                    · cases r with
                      | true =>
                        have hal : Below wr.heap.size wr (wr.alloc (Obj.cells #[.int .i64 y0] 3)) := (Below.refl _ _).alloc (Nat.le_refl _) _
                        have HAL := Lib.hid hal
                        have HPL : Hid ((refUp L ids (q - 1) ++ refK L ids q t).length + 1 ≤ 1000000000) := by
                          have a1 := refUp_len (L := L) (ids := ids) (q - 1)
                          have a2 := refK_len (L := L) (ids := ids) (k := q) t
                          have a3 : (q - 1) * L.length ≤ 4 * 64 := Nat.mul_le_mul (by omega) (by rw [HL.out]; exact hn64)
                          exact Lib.hid (by rw [List.length_append]; omega)
                        have HRE : Hid (refUp L ids (q - 1) ++ refK L ids q (t + 1) = (refUp L ids (q - 1) ++ refK L ids q t) ++ [y0]) := Lib.hid (by rw [HRK.out, if_pos ⟨hyq, rfl⟩, List.append_assoc])
                        generalize refUp L ids (q - 1) ++ refK L ids q t = pre at hown HPL HRE
                        clear hal
                        go_wp2_with fail
                        refine HC.out.mono ?_
                        rintro e w2 ⟨rfl, rfl⟩
                        go_wp2_with (at_builtin; refine wpList_append_ints rfl _ _ rfl base _ pre rfl (hown.out.later HAL.out) _ _ _ [y0] rfl (one_ints _ y0) HPL.out (Nat.le_trans HBZ.out HAL.out.size) ?_
                                     intro v5 w5 hown5 hg5
                                     have hb5 := (hbl.out.trans (HAL.out.mono HBZ.out)).grown hg5 (Nat.le_trans HBZ.out HAL.out.size) (fun k hk => (hown.out.lt k hk).1)
                                     have H5 := Lib.hid (And.intro hown5 hb5)
                                     clear hown5 hg5 hb5)
                        go_roundw
                        case rel => exact ⟨t + 1, by omega, by go_num, Lib.hid (by rw [HRE.out]; exact H5.out.1), H5.out.2⟩
                        case measure => simp [intOf]; omega
                      | false =>
                        have HRE : Hid (refK L ids q (t + 1) = refK L ids q t) := Lib.hid (by rw [HRK.out, if_neg (fun h => by cases h.2), List.append_nil])
                        go_wp2_with fail
                        refine HC.out.mono ?_
                        rintro e w2 ⟨rfl, rfl⟩
                        go_wp2_with fail
                        go_roundw
                        case rel => exact ⟨t + 1, by omega, by go_num, Lib.hid (by rw [HRE.out]; exact hown.out), hbl.out⟩
                        case measure => simp [intOf]; omega
                    · have hyb : (y1 == (q : Int)) = false := by simpa using hyq
                      have HRE : Hid (refK L ids q (t + 1) = refK L ids q t) := Lib.hid (by rw [HRK.out, if_neg (fun h => hyq h.1), List.append_nil])
                      go_wp2_with fail
                      go_roundw
                      case rel => exact ⟨t + 1, by omega, by go_num, Lib.hid (by rw [HRE.out]; exact hown.out), hbl.out⟩
                      case measure => simp [intOf]; omega
                  · obtain rfl : t = n := by omega
                    have HRE := Lib.hid (refUp_step (L := L) (ids := ids) hq1)
                    go_wp2_with fail
                    go_roundw
                    case rel => exact ⟨q + 1, by omega, by omega, by go_num, Lib.hid (by rw [Nat.add_sub_cancel, HRE.out, HL.out]; exact hown.out), hbl.out⟩
                    case measure => simp [intOf]; omega
              · obtain rfl : q = 5 := by omega
                have hq4i : ¬ ((5 : Nat) : Int) ≤ 4 := by omega
                have hown5 : OwnI wr base _ (refUp L ids 4) := hown.out
                have HO5 := Lib.hid hown5
                clear hown5
                go_wp2_with fail
                go_ret2
                first | refine ⟨_, _, refUp L ids 4, rfl, HST.out, ?_, ?_⟩ | refine ⟨_, _, rfl, refUp L ids 4, HST.out, ?_, ?_⟩
                · rw [← HB.out]; exact HO5.out
                · rw [← HB.out]; exact hbl.out
  · have hcb : (ce == 0) = false := by simpa using hc0
    have hcn : (ce != 0) = true := by simpa using hc0
    have HC0 := Lib.hid hc0
    clear h h2 hck hce hci hc0
    go_enter Try.func20, Try.ntmps20
    go_wp2_with fail
    refine HCK.out.mono ?_
    rintro e w1 ⟨rfl, hg1⟩
    go_wp2_with fail
    go_ret2
    have hx := HC0.out
    exact ⟨_, _, [], rfl, ⟨fun _ => ⟨HCE.out, rfl⟩, fun h => absurd h (by rw [← HCE.out]; exact hx), fun h => absurd h (by rw [← HCE.out]; exact hx), fun h => absurd h (by rw [← HCE.out]; exact hx)⟩, OwnI.nil _ _, hg1.1⟩
end Go.Proofs.Ytbidappkmnedaaa

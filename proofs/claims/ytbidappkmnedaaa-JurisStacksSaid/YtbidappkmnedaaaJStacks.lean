/- law 20: JurisStacks, walked -/
import Derived.Test.YtbidappkmnedaaaJRefS
import Derived.Test.YtbidappkmnedaaaJChecks
import Derived.Test.YtbidappkmnedaaaJStackW
namespace Go.Proofs.Ytbidappkmnedaaa
open Go.RowKit
theorem ki_alike {L S : List Jur} (hl : L.length = S.length) (h : ∀ i, Alike (L.getD i j0) (S.getD i j0)) (x : Int) : kiOf S x = kiOf L x := by
  unfold kiOf
  rw [atJ_alike hl h]
  cases atJ L x with
  | none => rfl
  | some k => exact (h k).2.1.symm
theorem sorted_alike {L S : List Jur} (hl : L.length = S.length) (h : ∀ i, Alike (L.getD i j0) (S.getD i j0)) {M : List Int} (hs : SortedJ S M) : SortedJ L M := by
  rw [sortedJ_iff] at hs ⊢
  exact hs.imp (fun {a b} hab hc => hab (by rw [ordJ_lt] at hc ⊢; rw [ki_alike hl h, ki_alike hl h]; exact hc))
theorem stack_alike {L S : List Jur} (hl : L.length = S.length) (h : ∀ i, Alike (L.getD i j0) (S.getD i j0)) {ids M : List Int} {e : Int} (hs : StackIs S ids e M) : StackIs L ids e M := by
  obtain ⟨h1, h2, h3, h4⟩ := hs
  rw [check_alike hl h] at h1 h2 h3 h4
  refine ⟨h1, fun hc ⟨x, hx, hn⟩ => h2 hc ⟨x, hx, by rw [atJ_alike hl h]; exact hn⟩, fun hc ha hn => h3 hc (fun x hx => by rw [atJ_alike hl h]; exact ha x hx) hn, fun hc ha hn => ?_⟩
  obtain ⟨e1, e2, e3⟩ := h4 hc (fun x hx => by rw [atJ_alike hl h]; exact ha x hx) hn
  exact ⟨e1, e2, sorted_alike hl h e3⟩
theorem chain_alike {L S : List Jur} (hl : L.length = S.length) (h : ∀ i, Alike (L.getD i j0) (S.getD i j0)) {x : Int} {ys : List Int} (hc : Chain S x ys) : Chain L x ys := by
  induction hc with
  | none ha => exact .none (by rw [← atJ_alike hl h]; exact ha)
  | @top x i ha hp => exact .top (i := i) (by rw [← atJ_alike hl h]; exact ha) (by rw [(h i).2.2.1]; exact hp)
  | @on x i ys ha hp _ ih =>
    have e := (h i).2.2.1
    rw [← e] at ih ⊢
    exact .on (by rw [← atJ_alike hl h]; exact ha) (by rw [e]; exact hp) ih
theorem whole_alike {L S : List Jur} (hl : L.length = S.length) (h : ∀ i, Alike (L.getD i j0) (S.getD i j0)) (ids : List Int) : wholeP S ids = wholeP L ids := by
  have : wholeAt S ids = wholeAt L ids := funext fun x => by
    unfold wholeAt
    rw [atJ_alike hl h]
    cases atJ L x with
    | none => rfl
    | some k => dsimp only; rw [(h k).2.2.1]
  unfold wholeP
  rw [check_alike hl h, this]
/-- a store into one's own row, ahead of another one's. -/
theorem OwnI.past {w : World} {base : Nat} {v : Value} {L : List Int} (h : OwnI w base v L) {g o : Nat} (hg : g < base) (u : Value) : OwnI (w.setCell ⟨g, o, none⟩ u) base v L := ownsRow_setCell_below h (a := ⟨g, o, none⟩) hg u
set_option maxRecDepth 100000 in
set_option maxHeartbeats 8000000 in
theorem JurisStacks_any (ao : Option Addr) (n cap : Nat) (L : List Jur) (RR : List (List (List (Int × Int)))) (bo : Option Addr) (m c1 : Nat) (ids : List Int) (x : Int) (w : World) (h : IsJurs w ao n cap L) (hd : JursD w L RR) (hkp : ∀ i, i < n → Kept (RR.getD i [])) (hi : IsInts w bo m c1 ids) :
    Calls Try.prog 5 #[.slice ao n cap, .slice bo m c1, .int .i64 x] w fun e w' => e = .returned (.bool true) ∧ Below w.heap.size w w' := by
  have HJ := Lib.hid h
  have HD := Lib.hid hd
  have HK := Lib.hid hkp
  have HI := Lib.hid hi
  have HL : Hid (L.length = n) := h.1
  have HLI : Hid (ids.length = m) := hi.1
  have hmc := hi.2.1
  have hmm := hi.2.2.1
  unfold maxLen at hmm
  clear h hd hkp hi
  go_enter Try.func5, Try.ntmps5
  go_wp2_with fail
  refine (BigJuris2_any ao n cap L RR 80 w HJ.out HD.out HK.out).mono ?_
  rintro e w1 ⟨⟨b, rfl, hsm⟩, rfl⟩
  cases b with
  | true =>
    clear hsm
    go_wp2_with fail
    refine (awake_any w).mono ?_
    rintro e w2 ⟨rfl, hb2⟩
    go_wp2_with fail
    go_ret
    exact ⟨rfl, hb2⟩
  | false =>
    by_cases hm100 : (100 : Int) < (m : Int)
    · clear hsm
      go_wp2_with fail
      refine (awake_any w).mono ?_
      rintro e w2 ⟨rfl, hb2⟩
      go_wp2_with fail
      go_ret
      exact ⟨rfl, hb2⟩
    · obtain ⟨hn80, hsmall⟩ := hsm rfl
      have HCP := Lib.hid (CopyJuris_any ao n cap L RR w HJ.out HD.out (by omega) hsmall)
      have HM := Lib.hid (show m ≤ 100 by omega)
      clear hsm hsmall
      go_wp2_with fail
      refine HCP.out.mono ?_
      rintro e w2 ⟨a2, c2, S, rfl, hj2, hd2, hal2, _, hb2⟩
      have HALL := Lib.hid (alike_all HL.out hj2.1 hal2)
      have HLS : Hid (L.length = S.length) := Lib.hid (by rw [hj2.1]; exact HL.out)
      have HAL2 := Lib.hid hal2
      have HJ2 := Lib.hid hj2
      have HD2 := Lib.hid hd2
      have HB2 := Lib.hid hb2
      have hal : Below w2.heap.size w2 (w2.alloc (Obj.cells #[] 3)) := (Below.refl _ _).alloc (Nat.le_refl _) _
      have HAL := Lib.hid hal
      have HI2 := Lib.hid (HI.out.later hb2 (Nat.le_refl _))
      clear hj2 hd2 hal2 hb2 hal HCP
      go_wp2_with (at_builtin; refine wpList_append_ints rfl _ _ rfl w2.heap.size (.slice (some ⟨w2.heap.size, 0, none⟩) 0 0) [] rfl (OwnI.none_new w2 _ (Nat.le_refl _)) _ _ _ ids rfl (HI2.out.later HAL.out (Nat.le_refl _)) (by have := HM.out; simp; omega) HAL.out.size ?_
                   intro v3 w3 hown3 hg3
                   have hb3 := HAL.out.grown hg3 HAL.out.size (fun k hk => by simp only [Value.ownBlock, Option.some.injEq] at hk; omega)
                   have ho3 : OwnI w3 w2.heap.size v3 ids := hown3
                   obtain ⟨a3, c3, hv3, hi3⟩ := ho3.ints
                   rw [HLI.out] at hv3 hi3
                   subst hv3
                   have HB3 := Lib.hid hb3
                   have HI3 := Lib.hid hi3
                   clear hown3 hg3 hb3 ho3 hi3)
      have HJS := Lib.hid (HJ2.out.later HB3.out (Nat.le_refl _))
      have HDS := Lib.hid (HD2.out.later HB3.out (Nat.le_refl _))
      have HB03 := Lib.hid (HB2.out.trans (HB3.out.mono HB2.out.size))
      have HJL := Lib.hid (HJ.out.later HB03.out (Nat.le_refl _))
      have HDL := Lib.hid (HD.out.later HB03.out (Nat.le_refl _))
      have HIL := Lib.hid (HI.out.later HB03.out (Nat.le_refl _))
      clear HJ2 HD2 HI2 HAL HB2 HB3
      refine (Stack_any a2 n c2 S a3 m c3 ids w3 HJS.out HI3.out (by have := HM.out; omega)).mono ?_
      rintro e w4 ⟨v4, e4, M, rfl, hst4, hown4, hb4⟩
      obtain ⟨a4, d4, hv4, hi4⟩ := hown4.ints
      obtain ⟨lm, hlm⟩ : ∃ lm, M.length = lm := ⟨_, rfl⟩
      rw [hlm] at hv4 hi4
      subst hv4
      have HST := Lib.hid (stack_alike HLS.out HALL.out hst4)
      have HO4 := Lib.hid hown4
      have HI4 := Lib.hid hi4
      have HB4 := Lib.hid hb4
      have HLM := Lib.hid hlm
      clear hst4 hown4 hi4 hb4 hlm
      go_wp2_with fail
      refine (StackR_any ao n cap L bo m c1 ids w4 (HJL.out.later HB4.out (Nat.le_refl _)) (HIL.out.later HB4.out (Nat.le_refl _))).mono ?_
      rintro e w5 ⟨v5, e5, N, rfl, hst5, hown5, hb5⟩
      obtain ⟨he5, hM5⟩ := stack_perm HST.out hst5 (List.Perm.refl _)
      subst he5 hM5
      obtain ⟨a5, d5, hv5, hi5⟩ := hown5.ints
      rw [HLM.out] at hv5 hi5
      subst hv5
      have HI5 := Lib.hid hi5
      have HB45 := Lib.hid hb5
      have HB5 := Lib.hid (HB4.out.trans (hb5.mono HB4.out.size))
      clear hst5 hown5 hi5 hb5
      go_wp2_with fail
      refine (Above_any a2 n c2 S x w5 (HJS.out.later HB5.out (Nat.le_refl _))).mono ?_
      rintro e w6 ⟨v6, zs, rfl, hab, hown6, hb6⟩
      have hz : (checkP L).1 = 0 → Chain L x zs := fun hc => chain_alike HLS.out HALL.out (hab.2 (by rw [check_alike HLS.out HALL.out]; exact hc))
      have hz0 : (checkP L).1 ≠ 0 → zs = [] := fun hc => hab.1 (by rw [check_alike HLS.out HALL.out]; exact hc)
      have hzl : zs.length ≤ 1000 := by
        by_cases hc : (checkP L).1 = 0
        · obtain ⟨ys, hy, hyl⟩ := chain_ex hc x
          rw [(hz hc).unique hy]; omega
        · rw [hz0 hc]; simp
      have HAR : Hid (∀ W, Below w3.heap.size w3 W → Calls Try.prog 22 #[.slice ao n cap, .int .i64 x] W fun e w' => ∃ v, e = .returned v ∧ OwnI w' W.heap.size v zs ∧ Below W.heap.size W w') := Lib.hid fun W hW =>
        AboveR_any ao n cap L x zs W (HJL.out.later hW (Nat.le_refl _)) hz hz0 hzl
      obtain ⟨a6, d6, hv6, hi6⟩ := hown6.ints
      obtain ⟨lz, hlz⟩ : ∃ lz, zs.length = lz := ⟨_, rfl⟩
      rw [hlz] at hv6 hi6
      subst hv6
      have HO6 := Lib.hid hown6
      have HI6 := Lib.hid hi6
      have HB56 := Lib.hid hb6
      have HB6 := Lib.hid (HB5.out.trans (hb6.mono HB5.out.size))
      have HLZ := Lib.hid hlz
      have hmm2 : (M == M) = true := by simp
      have hs1 := SameInts_any a4 a5 lm lm d4 d5 M M w6 ((HI4.out.later HB45.out (Nat.le_refl _)).later hb6 (Nat.le_refl _)) (HI5.out.later hb6 (Nat.le_refl _))
      rw [hmm2] at hs1
      have HS1 := Lib.hid hs1
      clear hab hz hz0 hzl hown6 hi6 hb6 hlz hmm2 hs1
      go_wp2_with fail
      refine HS1.out.mono ?_
      rintro e w7 ⟨rfl, hg7⟩
      have HG67 := Lib.hid hg7
      have HB7 := Lib.hid (HB6.out.trans (hg7.1.mono HB6.out.size))
      clear hg7
      go_wp2_with fail
      refine (HAR.out _ HB7.out).mono ?_
      rintro e w8 ⟨v8, rfl, hown8, hb8⟩
      obtain ⟨a8, d8, hv8, hi8⟩ := hown8.ints
      rw [HLZ.out] at hv8 hi8
      subst hv8
      have HB78 := Lib.hid hb8
      have HB8 := Lib.hid (HB7.out.trans (hb8.mono HB7.out.size))
      have hzz : (zs == zs) = true := by simp
      have hs2 := SameInts_any a6 a8 lz lz d6 d8 zs zs w8 ((HI6.out.grew HG67.out).later hb8 (Nat.le_refl _)) hi8
      rw [hzz] at hs2
      have HS2 := Lib.hid hs2
      clear hown8 hi8 hb8 hzz hs2
      go_wp2_with fail
      refine HS2.out.mono ?_
      rintro e w9 ⟨rfl, hg9⟩
      have HG89 := Lib.hid hg9
      have HB9 := Lib.hid (HB8.out.trans (hg9.1.mono HB8.out.size))
      obtain ⟨wb, hwb⟩ : ∃ wb, wb = wholeP L ids := ⟨_, rfl⟩
      have hw1 := Whole_any a2 n c2 S a3 m c3 ids w9 (HJS.out.later HB9.out (Nat.le_refl _)) (HI3.out.later HB9.out (Nat.le_refl _))
      rw [whole_alike HLS.out HALL.out, ← hwb] at hw1
      have HW1 := Lib.hid hw1
      have HW2 : Hid (∀ W, Below w3.heap.size w3 W → Calls Try.prog 24 #[.slice ao n cap, .slice bo m c1] W fun e w' => e = .returned (.bool wb) ∧ Grew W w') := Lib.hid fun W hW => by
        rw [hwb]; exact WholeR_any ao n cap L bo m c1 ids W (HJL.out.later hW (Nat.le_refl _)) (HIL.out.later hW (Nat.le_refl _))
      have hbb : (wb == wb) = true := by simp
      clear hg9 hwb hw1
      go_wp2_with fail
      refine HW1.out.mono ?_
      rintro e w10 ⟨rfl, hg10⟩
      have HG910 := Lib.hid hg10
      have HB10 := Lib.hid (HB9.out.trans (hg10.1.mono HB9.out.size))
      clear hg10
      go_wp2_with fail
      refine (HW2.out _ HB10.out).mono ?_
      rintro e w11 ⟨rfl, hg11⟩
      have hB611 : Below w6.heap.size w6 w11 := HG67.out.1.trans ((HB78.out.trans ((HG89.out.1.trans ((HG910.out.1.trans (hg11.1.mono HG910.out.size)).mono HG89.out.size)).mono HB78.out.size)).mono HG67.out.size)
      have HB11 := Lib.hid (HB10.out.trans (hg11.1.mono HB10.out.size))
      have HX11 : Hid (OwnI w11 w3.heap.size (.slice a4 lm d4) M) := Lib.hid ((HO4.out.later HB45.out).laterB (B := w5.heap.size) (HB56.out.trans (hB611.mono HB56.out.size)) (Nat.le_refl _))
      have HZ11 : Hid (OwnI w11 w5.heap.size (.slice a6 lz d6) zs) := Lib.hid (HO6.out.later hB611)
      have HGX : Hid (∀ g, a4 = some ⟨g, 0, none⟩ → g < w5.heap.size) := Lib.hid fun g hg => by
        subst hg
        exact Nat.lt_of_lt_of_le (HO4.out.lt g rfl).2 HB45.out.size
      have HB35 : Hid (w3.heap.size ≤ w5.heap.size) := HB5.out.size
      clear hg11 hB611
      have hlmb : lm ≤ 9223372036854775807 := by
        have h1 := HI4.out.2.1
        have h2 := HI4.out.2.2.1
        unfold maxLen at h2
        omega
      have hlzb : lz ≤ 9223372036854775807 := by
        have h1 := HI6.out.2.1
        have h2 := HI6.out.2.2.1
        unfold maxLen at h2
        omega
      have hii : (ids == ids) = true := by simp
      have HS3 : Hid (∀ W, Below w3.heap.size w3 W → Calls Try.prog 19 #[.slice a3 m c3, .slice bo m c1] W fun e w' => e = .returned (.bool true) ∧ Grew W w') := Lib.hid fun W hW => by
        have := SameInts_any a3 bo m m c3 c1 ids ids W (HI3.out.later hW (Nat.le_refl _)) (HIL.out.later hW (Nat.le_refl _))
        rw [hii] at this
        exact this
      have HS4 : Hid (∀ W, Below w3.heap.size w3 W → Calls Try.prog 16 #[.slice a2 n c2, .slice ao n cap] W fun e w' => e = .returned (.bool true) ∧ Grew W w') := Lib.hid fun W hW =>
        SameJuris_any a2 n c2 ao cap S L RR W (HJS.out.later hW (Nat.le_refl _)) (HJL.out.later hW (Nat.le_refl _)) (HDS.out.later hW (Nat.le_refl _)) (HDL.out.later hW (Nat.le_refl _)) (fun i hi => (HAL2.out i hi).symm)
      clear hii HW1 HW2 HS1 HS2 HAR
      go_wp2_with fail
      go_loopw [15] (fun i wr => ∃ (k : Nat) (ms : List Int), k ≤ lm ∧ i = .int .i64 k ∧ Hid (OwnI wr w3.heap.size (.slice a4 lm d4) ms) ∧ Hid (OwnI wr w5.heap.size (.slice a6 lz d6) zs) ∧ Hid (Below w3.heap.size w3 wr)) (fun i _ => lm - (intOf i).toNat)
      case atStart => exact ⟨0, M, by omega, rfl, HX11.out, HZ11.out, HB11.out⟩
      case round =>
        obtain ⟨k, ms, hk, rfl, hox, hoz, hbl⟩ := hrel
        by_cases hlt : k < lm
        · have hk0 : (0 : Int) ≤ (k : Int) := by omega
          have hk1 : (k : Int) < (lm : Int) := by omega
          obtain ⟨g, rfl, hg⟩ := own_form hox.out (by omega)
          have hml : ms.length = lm := (own_ints hox.out).1
          have hfz := hox.out.notFrozen k
          have hat := hox.out.at (j := k) (by omega)
          have HREL := Lib.hid (And.intro (hox.out.put k (-7)) (And.intro (hoz.out.past (o := k) (HGX.out g rfl) (.int .i64 (-7))) (hbl.out.setCell (p := ⟨g, k, none⟩) hg (.int .i64 (-7)))))
          clear hml
          go_wp2_with fail
          go_roundw
          case rel => exact ⟨k + 1, _, by omega, by go_num, HREL.out.1, HREL.out.2.1, HREL.out.2.2⟩
          case measure => simp [intOf]; omega
        · obtain rfl : k = lm := by omega
          have HZ12 := Lib.hid hoz.out
          have HB12 := Lib.hid hbl.out
          clear hox hoz hbl HX11 HZ11 HB11
          go_wp2_with fail
          generalize wr = wy at HZ12 HB12 ⊢
          go_loopw [16] (fun i wr => ∃ (p : Nat) (ms : List Int), p ≤ lz ∧ i = .int .i64 p ∧ Hid (OwnI wr w5.heap.size (.slice a6 lz d6) ms) ∧ Hid (Below w3.heap.size w3 wr)) (fun i _ => lz - (intOf i).toNat)
          case atStart => exact ⟨0, zs, by omega, rfl, HZ12.out, HB12.out⟩
          case round =>
            obtain ⟨p, ms, hp, rfl, hox, hbl⟩ := hrel
            by_cases hlt : p < lz
            · have hp0 : (0 : Int) ≤ (p : Int) := by omega
              have hp1 : (p : Int) < (lz : Int) := by omega
              obtain ⟨g, rfl, hg⟩ := own_form hox.out (by omega)
              have hml : ms.length = lz := (own_ints hox.out).1
              have hfz := hox.out.notFrozen p
              have hat := hox.out.at (j := p) (by omega)
              have HREL := Lib.hid (And.intro (hox.out.put p (-7)) (hbl.out.setCell (p := ⟨g, p, none⟩) (Nat.le_trans HB35.out hg) (.int .i64 (-7))))
              clear hml
              go_wp2_with fail
              go_roundw
              case rel => exact ⟨p + 1, _, by omega, by go_num, HREL.out.1, HREL.out.2⟩
              case measure => simp [intOf]; omega
            · obtain rfl : p = lz := by omega
              have HB13 := Lib.hid hbl.out
              clear hox hbl
              go_wp2_with fail
              refine (HS4.out _ HB13.out).mono ?_
              rintro e w14 ⟨rfl, hg14⟩
              have HB14 := Lib.hid (HB13.out.trans (hg14.1.mono HB13.out.size))
              clear hg14
              go_wp2_with fail
              refine (HS3.out _ HB14.out).mono ?_
              rintro e w15 ⟨rfl, hg15⟩
              have HB15 := Lib.hid (HB14.out.trans (hg15.1.mono HB14.out.size))
              clear hg15
              go_wp2_with fail
              refine (awake_any _).mono ?_
              rintro e w16 ⟨rfl, hb16⟩
              have HB16 := Lib.hid (HB03.out.trans ((HB15.out.trans (hb16.mono HB15.out.size)).mono HB03.out.size))
              clear hb16
              go_wp2_with fail
              go_ret
              exact ⟨rfl, HB16.out⟩
theorem JurisStacks_z (ao : Option Addr) (n cap : Nat) (L : List Jur) (bo : Option Addr) (m c1 : Nat) (ids : List Int) (x : Int) (w : World) (h : IsJursZ w ao n cap L) (hi : IsInts w bo m c1 ids) :
    Calls Try.prog 5 #[.slice ao n cap, .slice bo m c1, .int .i64 x] w fun e w' => e = .returned (.bool true) ∧ Below w.heap.size w w' := by
  obtain ⟨h1, RR, h2, h3⟩ := h
  exact JurisStacks_any ao n cap L RR bo m c1 ids x w h1 h2 (fun i hi => h3 i (by rw [h1.1]; exact hi)) hi
end Go.Proofs.Ytbidappkmnedaaa

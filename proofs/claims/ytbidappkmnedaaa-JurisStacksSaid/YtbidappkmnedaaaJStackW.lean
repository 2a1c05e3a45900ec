/- law 20: JurisStack, walked -/
import Derived.Test.YtbidappkmnedaaaJStackL
import Derived.Test.YtbidappkmnedaaaJAboveL
import Derived.Deep.DeepCutAuto
import Derived.Deep.CutBlock
import Derived.BigRegion
import Derived.Deep.QuietTactic
namespace Go.Proofs.Ytbidappkmnedaaa
open Go.RowKit
theorem jursR_later {w w' : World} {B : Nat} {L : List Jur} (h : JursR w L) (hb : Below B w w') (hB : w.heap.size ≤ B) : JursR w' L := fun i hi => by
  obtain ⟨q1, q2⟩ := h i hi
  refine ⟨q1, fun k hk => ?_⟩
  obtain ⟨b, off, y1, y2, y3, e, hc⟩ := q2 k hk
  exact ⟨b, off, y1, y2, y3, e, (hb.cell (p := ⟨b, off + k, none⟩) (Nat.lt_of_lt_of_le (block_lt_of_cell hc) hB)).trans hc⟩
theorem own_form {w : World} {base n c : Nat} {a : Option Addr} {L : List Int} (h : OwnI w base (.slice a n c) L) (hn : 0 < n) : ∃ g, a = some ⟨g, 0, none⟩ ∧ base ≤ g := by
  rcases h.2 with ⟨e, _⟩ | ⟨g, cap, cur, e, hb, _⟩
  · injection e with _ e2 _; omega
  · injection e with e1 _ _; exact ⟨g, e1, hb⟩
theorem own_ints {w : World} {base n c : Nat} {a : Option Addr} {L : List Int} (h : OwnI w base (.slice a n c) L) : IsInts w a n c L := by
  obtain ⟨ao, cap, e, hi⟩ := h.ints
  cases e
  exact hi
/-- one turn of two places. -/
structure Turned (w : World) (base g n c : Nat) (ids ms : List Int) (W : World) : Prop where
  perm : ms.Perm ids
  own : OwnI W base (.slice (some ⟨g, 0, none⟩) n c) ms
  low : Below base w W
theorem find_of {L : List Jur} {x : Int} {i : Nat} (h : atJ L x = some i) : findP L x = (L.getD i j0, true) := by unfold findP; rw [h]
set_option maxRecDepth 100000 in
set_option maxHeartbeats 8000000 in
theorem JurisStack_any (ao : Option Addr) (n cap : Nat) (L : List Jur) (bo : Option Addr) (m c1 : Nat) (ids : List Int) (co : Option Addr) (t c2 : Nat) (ts : List Int) (w : World) (h : IsJurs w ao n cap L) (hr : JursR w L) (hi : IsInts w bo m c1 ids) (ht : IsInts w co t c2 ts) (htw : ∀ x ∈ ts, -9223372036854775808 ≤ x ∧ x ≤ 9223372036854775807) :
    Calls Try.prog 4 #[.slice ao n cap, .slice bo m c1, .slice co t c2] w fun e w' => e = .returned (.bool true) ∧ Below w.heap.size w w' := by
  have hmc := hi.2.1
  have hmm := hi.2.2.1
  have htc := ht.2.1
  have htm := ht.2.2.1
  unfold maxLen at hmm htm
  have HLI : Hid (ids.length = m) := hi.1
  have HLT : Hid (ts.length = t) := ht.1
  have HJ := Lib.hid h
  have HR := Lib.hid hr
  have HI := Lib.hid hi
  have HT := Lib.hid ht
  have HTW := Lib.hid htw
  obtain ⟨base, hbase⟩ : ∃ b, b = w.heap.size := ⟨_, rfl⟩
  have HBASE := Lib.hid hbase
  have HLE : Hid (w.heap.size ≤ base) := by rw [hbase]; exact Nat.le_refl _
  clear h hr hi ht htw hbase
  go_enter Try.func4, Try.ntmps4
  go_wp2_with fail
  refine (awake_any w).mono ?_
  rintro e w1 ⟨rfl, hb1⟩
  rw [← HBASE.out] at hb1
  have HB1 := Lib.hid hb1
  have HBZ1 : Hid (base ≤ w1.heap.size) := by rw [HBASE.out]; rw [HBASE.out] at hb1; exact hb1.size
  clear hb1
  go_wp2_with fail
  refine (BigJuris_any ao n cap L 64 w1 (HJ.out.later HB1.out HLE.out) (jursR_later HR.out HB1.out HLE.out)).mono ?_
  rintro e w2 ⟨⟨b, rfl, _⟩, rfl⟩
  cases b with
  | true =>
    go_wp2_with fail
    go_ret
    exact ⟨rfl, by rw [← HBASE.out]; exact HB1.out⟩
  | false =>
    by_cases hm : (64 : Int) < (m : Int)
    · go_wp2_with fail
      go_ret
      exact ⟨rfl, by rw [← HBASE.out]; exact HB1.out⟩
    · by_cases ht100 : (100 : Int) < (t : Int)
      · go_wp2_with fail
        go_ret
        exact ⟨rfl, by rw [← HBASE.out]; exact HB1.out⟩
      · have HS1 := Lib.hid (Stack_any ao n cap L bo m c1 ids w1 (HJ.out.later HB1.out HLE.out) (HI.out.later HB1.out HLE.out) (by omega))
        go_wp2_with fail
        refine HS1.out.mono ?_
        rintro e w3 ⟨v3, e3, M, rfl, hst3, hown3, hb3⟩
        obtain ⟨lm, hlm⟩ : ∃ lm, M.length = lm := ⟨_, rfl⟩
        obtain ⟨a3, c3, hv3, hi3⟩ := hown3.ints
        rw [hlm] at hv3 hi3
        subst hv3
        have HST := Lib.hid hst3
        have HM3 := Lib.hid hi3
        have HB3 := Lib.hid (HB1.out.trans (hb3.mono HBZ1.out))
        have HBZ3 : Hid (base ≤ w3.heap.size) := Nat.le_trans HBZ1.out hb3.size
        have HI3 := Lib.hid (HI.out.later HB3.out HLE.out)
        have HLM := Lib.hid hlm
        have hal : Below w3.heap.size w3 (w3.alloc (Obj.cells #[] 3)) := (Below.refl _ _).alloc (Nat.le_refl _) _
        have HAL := Lib.hid hal
        clear hst3 hown3 hb3 hi3 hlm hal HS1
        go_upto_region 5 with fail
        obtain ⟨B3, hB3⟩ : ∃ B, B = w3.heap.size := ⟨_, rfl⟩
        have HB3E := Lib.hid hB3
        clear hB3
        go_cut [10] (fun s wc => ∃ a4 c4, s = .slice a4 m c4 ∧ Hid (OwnI wc B3 (.slice a4 m c4) ids) ∧ Hid (Below B3 w3 wc))
        case first =>
          go_wp2_with (at_builtin; refine wpList_append_ints rfl _ _ rfl w3.heap.size (.slice (some ⟨w3.heap.size, 0, none⟩) 0 0) [] rfl (OwnI.none_new w3 _ (Nat.le_refl _)) _ _ _ ids rfl (HI3.out.later HAL.out (Nat.le_refl _)) (by simp; omega) HAL.out.size ?_; intro v4 w4 hown4 hg4; have HG4 := Lib.hid (And.intro (show OwnI w4 w3.heap.size v4 ids from hown4) (HAL.out.grown hg4 HAL.out.size (fun k hk => by simp only [Value.ownBlock, Option.some.injEq] at hk; omega))); clear hown4 hg4)
          go_meet
          obtain ⟨a4, c4, hv4, _⟩ := HG4.out.1.ints
          rw [HLI.out] at hv4
          subst hv4
          refine ⟨a4, c4, rfl, ?_, ?_⟩
          · rw [HB3E.out]; exact HG4.out.1
          · rw [HB3E.out]; exact HG4.out.2
        case rest =>
          obtain ⟨a4, c4, rfl, hown4, hbl4⟩ := hcut
          go_upto_block 0 with fail
          go_cut [11, 12, 13] (fun s1 s2 s3 wd => ∃ ms, Hid (ms.Perm ids) ∧ Hid (OwnI wd B3 (.slice a4 m c4) ms) ∧ Hid (Below B3 w3 wd))
          case first =>
            go_wp2_with fail
            go_loopw [11] (fun i wr => ∃ (k : Nat) (ms : List Int), k ≤ t ∧ i = .int .i64 k ∧ Hid (ms.Perm ids) ∧ Hid (OwnI wr B3 (.slice a4 m c4) ms) ∧ Hid (Below B3 w3 wr)) (fun i _ => t - (intOf i).toNat)
            case atStart => exact ⟨0, ids, by omega, rfl, List.Perm.refl _, hown4.out, hbl4.out⟩
            case round =>
              obtain ⟨k, ms, hk, rfl, hpm, hown, hbl⟩ := hrel
              by_cases hlt : k < t
              · by_cases hm0 : 0 < m
                · have hk0 : (0 : Int) ≤ (k : Int) := by omega
                  have hk1 : (k : Int) < (t : Int) := by omega
                  have hmI : (0 : Int) < (m : Int) := by omega
                  have hmz : ¬ (m : Int) = 0 := by omega
                  have hmb : ((m : Int) == 0) = false := by simp; omega
                  obtain ⟨g, rfl, hg⟩ := own_form hown.out hm0
                  have hlen : ms.length = m := hpm.out.length_eq.trans HLI.out
                  obtain ⟨tb, toff, rfl, hts⟩ := (HT.out.later (HB3.out.trans (show Below base w3 wr from hbl.out.mono (by rw [HB3E.out]; exact HBZ3.out))) HLE.out).2.2.2.1 (by omega)
                  have htk := hts k hlt
                  obtain ⟨tx, htx⟩ : ∃ x, x = ts.getD k 0 := ⟨_, rfl⟩
                  rw [← htx] at htk
                  have hwf := HTW.out tx (by rw [htx]; exact getD_memI (by rw [HLT.out]; exact hlt))
                  obtain ⟨q, hq⟩ : ∃ q : Nat, tx % (m : Int) = (q : Int) := ⟨(tx % (m : Int)).toNat, by have := Int.emod_nonneg tx hmz; omega⟩
                  have hqm : q < m := by have := Int.emod_lt_of_pos tx hmI; omega
                  obtain ⟨p, hp⟩ : ∃ p : Nat, p = k % m := ⟨_, rfl⟩
                  have hpm2 : p < m := by rw [hp]; exact Nat.mod_lt _ hm0
                  have hpt : ((k : Int)).tmod (m : Int) = (p : Int) := by rw [Int.tmod_eq_emod_of_nonneg hk0, hp]; rfl
                  have hwp : IntKind.i64.wrap (p : Int) = (p : Int) := IntWalk.i64_in _ (by omega)
                  have hp0 : (0 : Int) ≤ (p : Int) := by omega
                  have hp1 : (p : Int) < (m : Int) := by omega
                  have hq0 : (0 : Int) ≤ (q : Int) := by omega
                  have hq1 : (q : Int) < (m : Int) := by omega
                  have hcall : ∀ q', Calls Try.prog 18 #[.int .i64 tx, .int .i64 (m : Int)] (wr.drewN q') fun e w' => e = .returned (.int .i64 (q : Int)) ∧ w' = wr.drewN q' := fun q' =>
                    (Pick_any tx (m : Int) _ hwf.1 hwf.2 (by omega) (by omega)).mono fun e w' h => ⟨by rw [h.1, hq], h.2.symm⟩
                  have HC := Lib.hid hcall
                  have HG := Lib.hid hg
                  have HLN := Lib.hid hlen
                  clear hts htx hwf hq hp hcall hg hlen
                  go_wp2_with fail
                  go_quiet ((go_at_call 18; exact Calls.quiet_of_same (HC.out _)))
                  go_upto_region 10 with fail
                  generalize hwq : wr.drewN _ = wq
                  have hoq : OwnI wq B3 (.slice (some ⟨g, 0, none⟩) m c4) ms := by rw [← hwq]; exact hown.out.later ((Grew.refl _).drewN _).1
                  have hbq : Below B3 w3 wq := by rw [← hwq]; exact below_drewN hbl.out _
                  clear hwq
                  have y1 := hoq.notFrozen p
                  have y2 := hoq.notFrozen q
                  have z1 := hoq.at (show p < ms.length by rw [HLN.out]; exact hpm2)
                  have z2 := hoq.at (show q < ms.length by rw [HLN.out]; exact hqm)
                  obtain ⟨xp, hxp⟩ : ∃ x, x = ms.getD p 0 := ⟨_, rfl⟩
                  obtain ⟨xq, hxq⟩ : ∃ x, x = ms.getD q 0 := ⟨_, rfl⟩
                  rw [← hxp] at z1
                  rw [← hxq] at z2
                  have HOQ := Lib.hid (And.intro hoq (And.intro hbq (And.intro hxp hxq)))
                  clear hoq hbq hxp hxq
                  have HFIN : Hid (∀ N, ((ms.set p xq).set q xp).Perm ids ∧ OwnI (((wq.setCell ⟨g, p, none⟩ (.int .i64 xq)).setCell ⟨g, q, none⟩ (.int .i64 xp)).drewN N) B3 (.slice (some ⟨g, 0, none⟩) m c4) ((ms.set p xq).set q xp) ∧ Below B3 w3 (((wq.setCell ⟨g, p, none⟩ (.int .i64 xq)).setCell ⟨g, q, none⟩ (.int .i64 xp)).drewN N)) := Lib.hid fun N => by
                    obtain ⟨h1, h2, h3, h4⟩ := HOQ.out
                    refine ⟨?_, ((h1.put p xq).put q xp).later ((Grew.refl _).drewN N).1, below_drewN ((h2.setCell (p := ⟨g, p, none⟩) HG.out _).setCell (p := ⟨g, q, none⟩) HG.out _) N⟩
                    rw [h3, h4]
                    exact (swapI_perm (by rw [HLN.out]; exact hpm2) (by rw [HLN.out]; exact hqm)).trans hpm.out
                  by_cases hpq : p = q
                  · subst hpq
                    obtain rfl : xp = xq := by rw [z1] at z2; injection z2 with z2; injection z2
                    go_wp2_with fail
                    go_region
                    go_wp2_with fail
                    go_roundw
                    case rel => exact ⟨k + 1, _, by omega, by go_num, (HFIN.out 0).1, (HFIN.out _).2.1, (HFIN.out _).2.2⟩
                    case measure => simp [intOf]; omega
                  · have hpqI : ¬ (p : Int) = (q : Int) := by omega
                    go_wp2_with fail
                    go_region
                    go_wp2_with fail
                    go_roundw
                    case rel => exact ⟨k + 1, _, by omega, by go_num, (HFIN.out 0).1, (HFIN.out _).2.1, (HFIN.out _).2.2⟩
                    case measure => simp [intOf]; omega
                · have hmI : ¬ (0 : Int) < (m : Int) := by omega
                  have hmb : decide ((0 : Int) < (m : Int)) = false := decide_eq_false hmI
                  have hk1 : (k : Int) < (t : Int) := by omega
                  go_wp2_with fail
                  go_meet
                  exact ⟨ms, hpm, hown, hbl⟩
              · have hk1 : ¬ (k : Int) < (t : Int) := by omega
                go_wp2_with fail
                go_meet
                exact ⟨ms, hpm, hown, hbl⟩
          case rest =>
            obtain ⟨ms, hpm, howd, hbld⟩ := hcut
            have HBD := Lib.hid (HB3.out.trans (hbld.out.mono (show base ≤ B3 by rw [HB3E.out]; exact HBZ3.out)))
            have HBZD : Hid (base ≤ wc.heap.size) := Nat.le_trans HBZ3.out hbld.out.size
            have hlen : ms.length = m := hpm.out.length_eq.trans HLI.out
            have HS2 := Lib.hid (Stack_any ao n cap L a4 m c4 ms wc (HJ.out.later HBD.out HLE.out) (own_ints howd.out) (by omega))
            have HMD := Lib.hid (HM3.out.later hbld.out (by rw [HB3E.out]; exact Nat.le_refl _))
            clear hlen howd hbld hown4 hbl4
            go_wp2_with fail
            refine HS2.out.mono ?_
            rintro e w6 ⟨v6, e6, N, rfl, hst6, hown6, hb6⟩
            obtain ⟨he6, hM6⟩ := stack_perm HST.out hst6 hpm.out
            subst he6 hM6
            obtain ⟨a6, c6, hv6, hi6⟩ := hown6.ints
            rw [HLM.out] at hv6 hi6
            subst hv6
            have hsm := SameInts_any a3 a6 lm lm c3 c6 M M w6 (HMD.out.later hb6 (Nat.le_refl _)) hi6
            rw [show (M == M) = true by simp] at hsm
            have HSM := Lib.hid hsm
            have HB6 := Lib.hid (HBD.out.trans (hb6.mono HBZD.out))
            have HBZ6 := Lib.hid (Nat.le_trans HBZD.out hb6.size)
            have HM6 := Lib.hid (HMD.out.later hb6 (Nat.le_refl _))
            clear hst6 hown6 hb6 hi6 hsm
            go_wp2_with fail
            refine HSM.out.mono ?_
            rintro e w7 ⟨rfl, hg7⟩
            have HB7 := Lib.hid (HB6.out.trans (hg7.1.mono HBZ6.out))
            have HBZ7 := Lib.hid (Nat.le_trans HBZ6.out hg7.size)
            have HM7 := Lib.hid (HM6.out.grew hg7)
            clear hg7 HSM
            by_cases he0 : e3 = 0
            · subst he0
              obtain ⟨hck, hat, hnd, hpM, hso⟩ := stack_told HST.out
              obtain rfl : lm = m := by rw [← HLM.out, hpM.length_eq]; exact HLI.out
              have HAT := Lib.hid (And.intro hat hpM)
              have HI7 := Lib.hid (HI.out.later HB7.out HLE.out)
              have HJ7 := Lib.hid (HJ.out.later HB7.out HLE.out)
              clear hck hat hnd hpM hso
              go_wp2_with fail
              go_loopw [16] (fun i wr => ∃ k : Nat, k ≤ lm ∧ i = .int .i64 k ∧ Hid (Grew w7 wr)) (fun i _ => lm - (intOf i).toNat)
              case atStart => exact ⟨0, by omega, rfl, Grew.refl _⟩
              case round =>
                obtain ⟨k, hk, rfl, hgr⟩ := hrel
                by_cases hlt : k < lm
                · have hk0 : (0 : Int) ≤ (k : Int) := by omega
                  have hk1 : (k : Int) < (lm : Int) := by omega
                  obtain ⟨mb, moff, rfl, hms⟩ := (HM7.out.grew hgr.out).2.2.2.1 (by omega)
                  obtain ⟨x, hx⟩ : ∃ x, x = M.getD k 0 := ⟨_, rfl⟩
                  have hmk := hms k hlt
                  rw [← hx] at hmk
                  obtain ⟨i0, hai⟩ : ∃ i, atJ L x = some i := by
                    have := HAT.out.1 x (HAT.out.2.mem_iff.1 (by rw [hx]; exact getD_memI (by rw [HLM.out]; exact hlt)))
                    cases ha : atJ L x with
                    | none => exact absurd ha this
                    | some i => exact ⟨i, rfl⟩
                  obtain ⟨c, hc⟩ : ∃ c, c = L.getD i0 j0 := ⟨_, rfl⟩
                  have hfa := Find_any ao n cap L x wr (HJ7.out.grew hgr.out)
                  rw [find_of hai, ← hc] at hfa
                  have HX := Lib.hid (And.intro hx (And.intro hai hc))
                  have HMK := Lib.hid hms
                  obtain ⟨d1, d2, d3, d4, d5, d6, d7⟩ := c
                  have HFA := Lib.hid hfa
                  unfold Jur.val Jur.row at HFA
                  dsimp only at HFA
                  clear hms hx hai hc hfa
                  go_wp2_with fail
                  refine HFA.out.mono ?_
                  rintro e w8 ⟨rfl, hg8⟩
                  have hgw : Grew wr (w8.alloc (Obj.cells #[.int .i64 d1, .int .i64 d2, .int .i64 d3, .int .i64 d4, .slice d5 d6 d7] 33)) := hg8.alloc _
                  have hx8 : (w8.alloc (Obj.cells #[.int .i64 d1, .int .i64 d2, .int .i64 d3, .int .i64 d4, .slice d5 d6 d7] 33)).heap[w8.heap.size]? = some (.cells #[.int .i64 d1, .int .i64 d2, .int .i64 d3, .int .i64 d4, .slice d5 d6 d7] 33 (0, 0)) := alloc_new _ _
                  have HGW := Lib.hid (hgr.out.trans hgw)
                  have HX8 := Lib.hid hx8
                  have HMK8 : Hid (IntsAt (w8.alloc (Obj.cells #[.int .i64 d1, .int .i64 d2, .int .i64 d3, .int .i64 d4, .slice d5 d6 d7] 33)) mb moff lm M) := Lib.hid fun i hi => hgw.cell (HMK.out i hi)
                  clear hg8 hgw hx8 hmk HFA
                  go_upto_region 22 with (fail)
                  generalize w8.alloc (Obj.cells #[.int .i64 d1, .int .i64 d2, .int .i64 d3, .int .i64 d4, .slice d5 d6 d7] 33) = w9 at HGW HX8 HMK8 ⊢
                  generalize w8.heap.size = xb at HX8 ⊢
                  have HB9 := Lib.hid (HB7.out.trans (HGW.out.1.mono HBZ7.out))
                  have HI9 := Lib.hid (HI7.out.grew HGW.out)
                  have HJ9 := Lib.hid (HJ7.out.grew HGW.out)
                  have hcnt := count_one HST.out (show k < M.length by rw [HLM.out]; exact hlt)
                  rw [← HX.out.1] at hcnt
                  have HCNT := Lib.hid hcnt
                  have HXB := Lib.hid (Array.getElem?_eq_some_iff.1 HX8.out).1
                  clear hcnt
                  go_wp2_with fail
                  go_loopw [19, 20] (fun s i wr => ∃ j cn : Nat, j ≤ lm ∧ cn ≤ j ∧ s = .int .i64 cn ∧ i = .int .i64 j ∧ Hid (cn = (ids.take j).count x) ∧ Hid (Grew w9 wr)) (fun _ i _ => lm - (intOf i).toNat)
                  case atStart => exact ⟨0, 0, by omega, by omega, rfl, rfl, Lib.hid (by simp), Grew.refl _⟩
                  case round =>
                    obtain ⟨j, cn, hj, hcj, rfl, rfl, hcn, hgj⟩ := hrel
                    by_cases hjl : j < lm
                    · have hj0 : (0 : Int) ≤ (j : Int) := by omega
                      have hj1 : (j : Int) < (lm : Int) := by omega
                      obtain ⟨ib, ioff, rfl, his⟩ := (HI9.out.grew hgj.out).2.2.2.1 (by omega)
                      obtain ⟨y, hy⟩ : ∃ y, y = ids.getD j 0 := ⟨_, rfl⟩
                      have hij := his j hjl
                      rw [← hy] at hij
                      have hmk := hgj.out.cell (HMK8.out k hlt)
                      rw [← HX.out.1] at hmk
                      have hsc := count_succ (x := x) (show j < ids.length by rw [HLI.out]; exact hjl)
                      rw [← hcn.out, ← hy] at hsc
                      have HSC := Lib.hid hsc
                      clear his hy hsc
                      by_cases hyx : y = x
                      · subst hyx
                        go_wp2_with fail
                        go_region
                        go_wp2_with fail
                        go_roundw
                        case rel => exact ⟨j + 1, cn + 1, by omega, by omega, by go_num, by go_num, Lib.hid (by rw [HSC.out]; simp), hgj.out.drewN _⟩
                        case measure => simp [intOf]; omega
                      · have hb1 : (y == x) = false := by simpa using hyx
                        go_wp2_with fail
                        go_region
                        go_wp2_with fail
                        go_roundw
                        case rel => exact ⟨j + 1, cn, by omega, by omega, rfl, by go_num, Lib.hid (by rw [HSC.out, if_neg hyx]; rfl), hgj.out.drewN _⟩
                        case measure => simp [intOf]; omega
                    · obtain rfl : j = lm := by omega
                      have h1 : cn = 1 := by
                        rw [hcn.out, List.take_of_length_le (by rw [HLI.out]; exact Nat.le_refl _)]
                        exact HCNT.out
                      subst h1
                      have HGJ := Lib.hid hgj.out
                      have HX9 := Lib.hid ((hgj.out.1.block xb HXB.out).trans HX8.out)
                      have HMK9 : Hid (IntsAt wr mb moff j M) := Lib.hid fun i hi => hgj.out.cell (HMK8.out i hi)
                      have HJW := Lib.hid (HJ9.out.grew hgj.out)
                      clear hcn hgj HX8 HMK8 HI9 HJ9 HCNT
                      go_wp2_with fail
                      go_loopw [21] (fun i wv => ∃ p : Nat, p ≤ k ∧ i = .int .i64 p ∧ Hid (Grew wr wv)) (fun i _ => k - (intOf i).toNat)
                      case atStart => exact ⟨0, by omega, rfl, Grew.refl _⟩
                      case round =>
                        obtain ⟨p, hp, rfl, hgp⟩ := hrel
                        by_cases hpk : p < k
                        · have hp0 : (0 : Int) ≤ (p : Int) := by omega
                          have hp1 : (p : Int) < (k : Int) := by omega
                          have hp2 : (p : Int) < (j : Int) := by omega
                          obtain ⟨z, hz⟩ : ∃ z, z = M.getD p 0 := ⟨_, rfl⟩
                          have hmp := hgp.out.cell (HMK9.out p (by omega))
                          rw [← hz] at hmp
                          obtain ⟨i1, haz⟩ : ∃ i, atJ L z = some i := by
                            have := HAT.out.1 z (HAT.out.2.mem_iff.1 (by rw [hz]; exact getD_memI (by rw [HLM.out]; omega)))
                            cases ha : atJ L z with
                            | none => exact absurd ha this
                            | some i => exact ⟨i, rfl⟩
                          obtain ⟨f, hf⟩ : ∃ f, f = L.getD i1 j0 := ⟨_, rfl⟩
                          have hah := stack_ahead HST.out hpk (show k < M.length by rw [HLM.out]; exact hlt) (by rw [← hz]; exact haz) (by rw [← HX.out.1]; exact HX.out.2.1)
                          rw [← hf, ← HX.out.2.2] at hah
                          have hfz := Find_any ao n cap L z wr (HJW.out.grew hgp.out)
                          rw [find_of haz, ← hf] at hfz
                          obtain ⟨f1, f2, f3, f4, f5, f6, f7⟩ := f
                          have HFZ := Lib.hid hfz
                          unfold Jur.val Jur.row at HFZ
                          dsimp only at HFZ hah
                          obtain ⟨hah1, hah2⟩ := hah
                          clear hz haz hf hfz
                          go_wp2_with fail
                          refine HFZ.out.mono ?_
                          rintro e u8 ⟨rfl, hh8⟩
                          have hgu : Grew wr (u8.alloc (Obj.cells #[.int .i64 f1, .int .i64 f2, .int .i64 f3, .int .i64 f4, .slice f5 f6 f7] 33)) := hh8.alloc _
                          have hy8 : (u8.alloc (Obj.cells #[.int .i64 f1, .int .i64 f2, .int .i64 f3, .int .i64 f4, .slice f5 f6 f7] 33)).heap[u8.heap.size]? = some (.cells #[.int .i64 f1, .int .i64 f2, .int .i64 f3, .int .i64 f4, .slice f5 f6 f7] 33 (0, 0)) := alloc_new _ _
                          have HY8 := Lib.hid hy8
                          have HGU := Lib.hid (hgp.out.trans hgu)
                          clear hh8 hgu hy8 hmp HFZ
                          go_upto_region 34 with (fail)
                          generalize u8.alloc (Obj.cells #[.int .i64 f1, .int .i64 f2, .int .i64 f3, .int .i64 f4, .slice f5 f6 f7] 33) = u9 at HY8 HGU ⊢
                          generalize u8.heap.size = yb at HY8 ⊢
                          have hxu := (HGU.out.1.block xb (Array.getElem?_eq_some_iff.1 HX9.out).1).trans HX9.out
                          obtain ⟨q0, q1, q2, _, _, _, _, _, _, _⟩ := jur_box ⟨d1, d2, d3, d4, d5, d6, d7⟩ hxu
                          obtain ⟨r0, r1, r2, _, _, _, _, _, _, _⟩ := jur_box ⟨f1, f2, f3, f4, f5, f6, f7⟩ HY8.out
                          dsimp only at q0 q1 q2 r0 r1 r2
                          have hb3 : (f3 == d1) = false := by simpa using hah2
                          clear hxu
                          by_cases hki : f2 = d2
                          · subst hki
                            have hb4 : ¬ d1 ≤ f1 := by omega
                            have hb5 : decide (d1 ≤ f1) = false := by simpa using hb4
                            have hb6 : ¬ f2 < f2 := by omega
                            go_wp2_with fail
                            go_roundw
                            case rel => first | exact ⟨p + 1, by omega, by go_num, HGU.out⟩ | exact ⟨p + 1, by omega, by omega⟩
                            case measure => simp [intOf]; omega
                          · have hb4 : (f2 == d2) = false := by simpa using hki
                            have hb6 : ¬ d2 < f2 := by omega
                            have hb7 : decide (d2 < f2) = false := by simpa using hb6
                            go_wp2_with fail
                            go_roundw
                            case rel => first | exact ⟨p + 1, by omega, by go_num, HGU.out⟩ | exact ⟨p + 1, by omega, by omega⟩
                            case measure => simp [intOf]; omega
                        · obtain rfl : p = k := by omega
                          have HGP := Lib.hid (HGW.out.trans (HGJ.out.trans hgp.out))
                          go_wp2_with fail
                          go_roundw
                          case rel => exact ⟨p + 1, by omega, by go_num, HGP.out⟩
                          case measure => simp [intOf]; omega
                · obtain rfl : k = lm := by omega
                  have HFN := Lib.hid (HB7.out.trans (hgr.out.1.mono HBZ7.out))
                  go_wp2_with fail
                  go_ret
                  exact ⟨rfl, by rw [← HBASE.out]; exact HFN.out⟩
            · have heb : (e3 == 0) = false := by simpa using he0
              have hen : (e3 != 0) = true := by simpa using he0
              have hM0 := stack_refused HST.out he0
              obtain rfl : lm = 0 := by rw [← HLM.out, hM0]; rfl
              clear hM0 he0
              go_wp2_with fail
              go_ret
              exact ⟨rfl, by rw [← HBASE.out]; exact HB7.out⟩
end Go.Proofs.Ytbidappkmnedaaa

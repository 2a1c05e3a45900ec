/- LedgerTorn's walk -/
import Derived.Test.YtdglaacjefcfdaaLTorn2
namespace Go.Proofs.Ytdglaacjefcfdaa
open Go.RowKit
set_option maxRecDepth 100000 in
set_option maxHeartbeats 8000000 in
theorem LedgerTorn_any (w : World) (ao : Option Addr) (n cap : Nat) (L : List (List UInt8)) (hs : IsLists w ao n cap L) (hr : ∀ r ∈ L, r.length ≤ 140737488355328) (a1 : Int) (h1 : (Lit.int .i64 a1).wf = true) (bo : Option Addr) (m mcap : Nat) (Bm : List UInt8) (hB : IsBytes w bo m mcap Bm) (hm : m ≤ 140737488355328) :
    Calls Try.prog 5 #[.slice ao n cap, .int .i64 a1, .slice bo m mcap] w fun e w' => e = .returned (.bool true) ∧ Below w.heap.size w w' := by
  obtain ⟨hx0, hx1⟩ := wf_i64 h1
  have hLn := hs.1
  have hnc := hs.2.1
  have hcm := hs.2.2.1
  unfold maxLen at hcm
  have HS := Lib.hid hs
  have HR := Lib.hid hr
  have HMB := Lib.hid hB
  have HLN : Hid (L.length = n) := Lib.hid hLn
  have htk : ∀ k, k ≤ 13 → tot (L.take k) ≤ 13 * 140737488355328 := fun k hk => by
    have h1 := tot_le 140737488355328 (L.take k) (fun r h => hr r (List.mem_of_mem_take h))
    have h2 : (L.take k).length ≤ 13 := by rw [List.length_take]; omega
    exact Nat.le_trans h1 (Nat.mul_le_mul_right _ h2)
  have HTK := Lib.hid htk
  obtain ⟨base, hbase⟩ : ∃ b, b = w.heap.size := ⟨_, rfl⟩
  have HBASE := Lib.hid hbase
  clear hs hr h1 hLn htk hbase hB
  go_enter Try.func5, Try.ntmps5
  go_wp2_with fail
  refine (awake_any w).mono ?_
  rintro e w1 ⟨rfl, hb1⟩
  rw [← HBASE.out] at hb1
  have HB1 := Lib.hid hb1
  have HS1 := Lib.hid (HS.out.later (by rw [← HBASE.out]; exact hb1))
  clear hb1
  go_wp2_with fail
  go_loopw [8, 9] (fun sm i wr => ∃ k : Nat, k ≤ n ∧ k ≤ 13 ∧ i = .int .i64 k ∧ sm = .int .i64 ((m + tot (L.take k) : Nat) : Int) ∧ w1 = wr) (fun _ i _ => n - (intOf i).toNat)
  case atStart => exact ⟨0, by omega, by omega, rfl, by simp [tot], rfl⟩
  case round =>
    obtain ⟨k, hk, hk13, rfl, rfl, rfl⟩ := hrel
    by_cases hgo : k < n ∧ k < 13
    · obtain ⟨hlt, h13⟩ := hgo
      obtain ⟨b, off, aoi, ni, capi, rfl, hc, hb⟩ := HS1.out.2.2.2.2 k hlt
      have hk0 : (0 : Int) ≤ (k : Int) := by omega
      have hk1 : (k : Int) < (n : Int) := by omega
      have hk2 : (k : Int) < 13 := by omega
      have hst := tot_take (L := L) (k := k) (by rw [HLN.out]; exact hlt)
      have hle := HTK.out (k + 1) (by omega)
      rw [hb.1] at hst
      obtain ⟨t, ht⟩ : ∃ t, t = m + tot (L.take k) := ⟨_, rfl⟩
      rw [← ht]
      have hst : m + tot (L.take (k + 1)) = t + ni := by omega
      have hw : IntKind.i64.wrap ((t : Int) + (ni : Int)) = (t : Int) + (ni : Int) := IntWalk.i64_in _ (by omega)
      have HST := Lib.hid hst
      clear hst hle hb ht
      go_wp2_with fail
      go_roundw
      case rel => exact ⟨k + 1, by omega, by omega, by go_num, by rw [HST.out]; push_cast; rfl, trivial⟩
      case measure => simp [intOf]; omega
    · obtain ⟨t, ht⟩ : ∃ t, t = m + tot (L.take k) := ⟨_, rfl⟩
      rw [← ht]
      have HT := Lib.hid ht
      clear ht
      by_cases hbad : 12 < n ∨ 2000 < t
      · have ht0 : (0 : Int) ≤ (t : Int) := by omega
        have hcase : (k < n ∧ 13 ≤ k) ∨ (¬ k < n ∧ 12 < n) ∨ (¬ k < n ∧ ¬ 12 < n ∧ 2000 < t) := by omega
        rcases hcase with ⟨q1, q2⟩ | ⟨q1, q2⟩ | ⟨q1, q2, q3⟩
        all_goals
          go_wp2_with fail
          refine (New_no w1).mono ?_
          rintro e w2 ⟨d, mb, rfl, _, _, _, hb2⟩
          go_wp2_with fail
          refine (New_no w2).mono ?_
          rintro e w3 ⟨c, mbc, rfl, _, _, _, hb3⟩
          have HB3 := Lib.hid (Below.trans HB1.out ((hb2.trans (hb3.mono hb2.size)).mono (by have := HB1.out.size; have := HBASE.out; omega)))
          clear hb2 hb3
          go_wp2_with fail
          go_ret
          exact ⟨rfl, by rw [← HBASE.out]; exact HB3.out⟩
      · obtain rfl : k = n := by omega
        have hn12 : k ≤ 12 := by omega
        have ht2 : t ≤ 2000 := by omega
        have hti : ¬ (2000 < t) := by omega
        have hk12 : ¬ (12 < k) := by omega
        have hA : decide ((12 : Int) < (k : Int)) = false := by simp; omega
        have hC : decide ((2000 : Int) < (t : Int)) = false := by simp; omega
        have htt : m + tot L = t := by
          rw [HT.out, List.take_of_length_le (by rw [HLN.out]; exact Nat.le_refl _)]
        have hml : m ≤ 2000 ∧ tot L + m ≤ 2000 := by omega
        have HTT := Lib.hid hml
        have hm2 : m ≤ 2000 := hml.1
        clear hml
        clear htt hbad hgo hk hk13
        go_wp2_with fail
        refine (New_no w1).mono ?_
        rintro e w2 ⟨d, mb, rfl, hmb, hmd, hno, hb2⟩
        have HN2 := Lib.hid (And.intro hmb (And.intro hmd (And.intro hno hb2)))
        clear hmb hmd hno hb2
        go_wp2_with fail
        refine (New_no w2).mono ?_
        rintro e w3 ⟨c, mbc, rfl, hmbc, hmcd, hnoc, hb3⟩
        have HN3 := Lib.hid (And.intro hmbc (And.intro hmcd (And.intro hnoc hb3)))
        clear hmbc hmcd hnoc hb3
        have hbs3 : base ≤ w3.heap.size := by
          have s1 := HB1.out.size; have s2 := HN2.out.2.2.2.size; have s3 := HN3.out.2.2.2.size; have := HBASE.out; omega
        go_wp2_with fail
        refine (opened_new base d mb w3 hbs3 (HN2.out.2.2.1.later HN3.out.2.2.2)).mono ?_
        rintro e w4 ⟨x, f, rfl, hx, hf, hlr, hdo, hmv⟩
        have hdl := HN2.out.2.2.1.lt
        have hcl := HN3.out.2.2.1.lt
        have hb04 : Below base w w4 := by
          refine (HB1.out.trans (HN2.out.2.2.2.mono ?_)).trans ((HN3.out.2.2.2.mono ?_).trans (hmv.below ?_ ?_ ?_ hbs3))
          · have := HB1.out.size; have := HBASE.out; omega
          · have := HB1.out.size; have := HBASE.out; have := HN2.out.2.2.2.size; omega
          · have := HN2.out.1; have := HN2.out.2.1; have := HB1.out.size; have := HBASE.out; omega
          · have := HN2.out.1; have := HB1.out.size; have := HBASE.out; omega
          · omega
        have hoc : DiskNo w4 c mbc := HN3.out.2.2.1.movedL (l := x) (MovedL.of hmv) (by have := HN3.out.1; have := HN3.out.2.1; omega) (by have := HN2.out.2.1; have := HN3.out.1; have := HN3.out.2.1; omega) (by omega) (by omega) (by have := HN3.out.1; omega) (by have := HN2.out.2.1; have := HN3.out.1; omega) (by have := HN3.out.2.1; omega) (by have := HN3.out.2.1; omega)
        have hnum : mb < d ∧ d < mbc ∧ mbc < c ∧ c < f ∧ c < x ∧ base ≤ mb ∧ base ≤ w4.heap.size := by
          have := HN2.out.1; have := HN2.out.2.1; have := HN3.out.1; have := HN3.out.2.1; have := HB1.out.size; have := HBASE.out; have := hmv.size
          omega
        have h0 : TurnAt w base d mb f x c mbc L 0 w4 := ⟨hlr, hdo, hoc, hb04⟩
        have H0 := Lib.hid (And.intro h0 hnum)
        clear hx hf hlr hdo hmv hdl hcl hb04 hoc hnum h0
        have hone := OwnI.one w4 base H0.out.2.2.2.2.2.2.2
        have hT4 := H0.out.1.later ((Below.refl _ w4).alloc (Nat.le_refl _) (.cells #[.int .i64 0] 3)) H0.out.2.2.2.2.2.2.2
        have HO4 := Lib.hid (And.intro hone hT4)
        clear hone hT4
        go_wp2_with fail
        go_loopw [15, 16] (fun en i wr => ∃ j : Nat, j ≤ k ∧ i = .int .i64 j ∧ Hid (OwnI wr base en (ends0 L j)) ∧ Hid (TurnAt w base d mb f x c mbc L j wr) ∧ Hid (base ≤ wr.heap.size)) (fun _ i _ => k - (intOf i).toNat)
        case atStart => exact ⟨0, by omega, rfl, Lib.hid HO4.out.1, Lib.hid HO4.out.2, Lib.hid (by have := H0.out.2.2.2.2.2.2.2; simp; omega)⟩
        case round =>
          obtain ⟨j, hj, rfl, hO, hT, hbw⟩ := hrel
          by_cases hjk : j < k
          · have hsr := HS.out.later (by rw [← HBASE.out]; exact hT.out.low)
            obtain ⟨b, off, aoi, ni, capi, rfl, hc, hb⟩ := hsr.2.2.2.2 j hjk
            have hj0 : (0 : Int) ≤ (j : Int) := by omega
            have hj1 : (j : Int) < (k : Int) := by omega
            have hjl : j < L.length := by rw [HLN.out]; exact hjk
            have hmem : L.getD j [] ∈ L := by
              rw [List.getD_eq_getElem?_getD, List.getElem?_eq_getElem hjl]
              exact List.getElem_mem _
            have hni : ni ≤ 2000 := by
              have e1 := len_le_tot L _ hmem
              have e2 := HTT.out
              rw [hb.1] at e1
              omega
            have htj : tot (L.take j) ≤ 2000 := by
              have e1 := tot_append (L.take j) (L.drop j)
              have e2 := HTT.out
              rw [List.take_append_drop] at e1
              omega
            have hplen := putAll_length (L.take j)
            rw [List.length_take, Nat.min_eq_left (by omega)] at hplen
            have HBB := Lib.hid hb
            have HPL := Lib.hid hplen
            clear hsr hb hplen hmem
            go_wp2_with fail
            refine (Add_any base d mb f x (j : Nat) ((Fr.putAll (L.take j)).length : Nat) (Fr.putAll (L.take j)) aoi ni capi (L.getD j []) wr hbw.out hT.out.led hT.out.disk HBB.out (by omega) (by omega) (by omega) (by have := HPL.out; omega) (by omega) (by have := HPL.out; omega)).mono ?_
            rintro e w5 ⟨rfl, hl5, hd5, hm5⟩
            have e1 := putAll_take hjl
            have e2 : (Fr.putAll (L.take (j + 1))).length = (Fr.putAll (L.take j)).length + (ni + 12) := by rw [e1, List.length_append, Fr.putF_length, HBB.out.1]
            have hnum := H0.out.2
            have hT5 : TurnAt w base d mb f x c mbc L (j + 1) w5 := by
              refine ⟨?_, ?_, hT.out.other.movedL hm5 (by omega) (by omega) (by omega) (by omega) (by omega) (by omega) (by omega) (by omega), hT.out.low.trans (hm5.below (by omega) (by omega) (by omega) (by omega) hbw.out)⟩
              · rw [e2]; push_cast; push_cast at hl5; exact hl5
              · rw [e1]; exact hd5
            have hO5 : OwnI w5 base u15 (ends0 L j) := hO.out.move (fun g cs hg => hm5.cells hT.out.disk.log hT.out.led hg (by decide) (by decide) (by decide) (by decide))
            have HT5 := Lib.hid (And.intro hT5 (And.intro (Nat.le_trans hbw.out hm5.size) hO5))
            clear hl5 hd5 hm5 e1 e2 hnum hT5 hO5
            go_wp2_with fail
            refine (Size_any x d ((j + 1 : Nat) : Int) ((Fr.putAll (L.take (j + 1))).length : Nat) false w5 HT5.out.1.led).mono ?_
            rintro e w' ⟨rfl, rfl⟩
            obtain ⟨Z, hZ⟩ : ∃ Z, Z = (Fr.putAll (L.take (j + 1))).length := ⟨_, rfl⟩
            rw [← hZ]
            have HZ := Lib.hid hZ
            have hT6 := HT5.out.1.later ((Below.refl _ w5).alloc (Nat.le_refl _) (.cells #[.int .i64 (Z : Int)] 3)) HT5.out.2.1
            have hO6 := HT5.out.2.2.later ((Below.refl _ w5).alloc (Nat.le_refl _) (.cells #[.int .i64 (Z : Int)] 3))
            have hg6 := heap_alloc_new w5 (.cells #[.int .i64 (Z : Int)] 3)
            have hs6 : base ≤ (w5.alloc (.cells #[.int .i64 (Z : Int)] 3)).heap.size := by have := HT5.out.2.1; simp; omega
            have H6 := Lib.hid (And.intro hT6 (And.intro hO6 (And.intro hg6 hs6)))
            clear hZ hT6 hO6 hg6 hs6
            go_wp2_with (at_builtin; refine wpList_append_int rfl _ _ rfl base u15 (ends0 L j) rfl H6.out.2.1 w5.heap.size rfl Z H6.out.2.2.1 (by rw [ends0_length]; omega) H6.out.2.2.2 ?_; intro v7 w7 hO7 hg7)
            have hT7 := H6.out.1.grown H6.out.2.1 hg7 H6.out.2.2.2
            have hs7 : base ≤ w7.heap.size := Nat.le_trans H6.out.2.2.2 hg7.size
            go_roundw
            case rel => exact ⟨j + 1, by omega, by go_num, Lib.hid (by rw [ends0_succ, ← HZ.out]; exact hO7), Lib.hid hT7, Lib.hid hs7⟩
            case measure => simp [intOf]; omega
          · obtain rfl : j = k := by omega
            have hLk : L.take j = L := List.take_of_length_le (by rw [HLN.out]; exact Nat.le_refl _)
            obtain ⟨bs, hbs⟩ : ∃ bs, bs = Fr.putAll L := ⟨_, rfl⟩
            have hbl := putAll_length L
            rw [← hbs, HLN.out] at hbl
            have hdk := hT.out.disk
            have hled := hT.out.led
            rw [hLk, ← hbs] at hdk hled
            have HDK := Lib.hid hdk
            have HBS := Lib.hid hbs
            have HR1 := Lib.hid (show Calls Try.prog 12 #[.pointer (some ⟨d, 0, none⟩), .string logB] wr _ by obtain ⟨st, fu, cc, b, _, _, q1, q2, q3⟩ := hdk; exact Read_log d mb cc b f st fu bs [] wr q1 q2 q3.at)
            clear hLk hdk hbs
            unfold logB at HR1
            go_wp2_with fail
            refine HR1.out.mono ?_
            rintro e w5 ⟨v, rfl, hown, hb5⟩
            rw [allB_nil] at hown
            obtain ⟨va, vc, hv, hvb, _⟩ := hown.bytes
            obtain ⟨T, hT2⟩ : ∃ T, T = bs.length := ⟨_, rfl⟩
            rw [← hT2] at hv hvb hbl hled
            subst hv
            have HBB := Lib.hid hvb
            have HB5 := Lib.hid hb5
            have HO5 := Lib.hid (hO.out.later hb5)
            have HLED5 := Lib.hid (hled.later hb5)
            have hbw5 : base ≤ w5.heap.size := Nat.le_trans hbw.out hb5.size
            have hT9 : T ≤ 3000 := by have := HTT.out; omega
            have HTL := Lib.hid hT2
            clear hown hb5 hvb hT2 hbl hled
            have hwT : IntKind.i64.wrap ((T : Int) + 1) = (T : Int) + 1 := IntWalk.i64_in _ (by omega)
            go_wp2_with fail
            refine (Pick_any a1 ((T : Int) + 1) w5 hx0 hx1 (by omega) (by omega)).mono ?_
            rintro e w' ⟨rfl, rfl⟩
            obtain ⟨A, hA1⟩ : ∃ A : Nat, a1 % ((T : Int) + 1) = (A : Int) := ⟨(a1 % ((T : Int) + 1)).toNat, by have := Int.emod_nonneg a1 (b := (T : Int) + 1) (by omega); omega⟩
            have hAT : A ≤ T := by have := Int.emod_lt_of_pos a1 (b := (T : Int) + 1) (by omega); omega
            rw [hA1]
            clear hA1
            go_wp2_with fail
            refine (Size_any x d _ (T : Nat) false w5 HLED5.out).mono ?_
            rintro e w' ⟨rfl, rfl⟩
            obtain ⟨hsl, hcut⟩ := slice_to HBB.out A hAT
            have hA0 : (0 : Int) ≤ (A : Int) := by omega
            have HCUT := Lib.hid hcut
            have hno5 : DiskNo w5 c mbc := hT.out.other.later HB5.out
            have HNO5 := Lib.hid hno5
            have HAP := Lib.hid (Append_new base c mbc va A vc (bs.take A) w5 hbw5 hno5 hcut (by omega))
            unfold logB at HAP
            have hTT2 : ((T : Int) == (T : Int)) = true := by simp
            clear hcut hno5
            go_wp2_with fail
            refine HAP.out.mono ?_
            rintro e w6 ⟨rfl, f7, hf7, hd7, hm7⟩
            have hO6 := HO5.out.move (fun g cs hg => (Kc.of_no hm7 HNO5.out hf7).cells _ _ _ _ hg (by decide) (by decide) (by decide))
            have HW6 := Lib.hid (And.intro hf7 (And.intro hd7 (And.intro hm7 (And.intro hO6 (Nat.le_trans hbw5 hm7.size)))))
            clear hf7 hd7 hm7 hO6
            obtain ⟨ge, ec, he, hcells⟩ := HW6.out.2.2.2.1.reads (fun e => by have := ends0_length L j; rw [e] at this; simp at this)
            rw [ends0_length] at he
            have hcell : ∀ i, i ≤ j → w6.cell? ⟨ge, i, none⟩ = some (.int .i64 ((Fr.putAll (L.take i)).length : Nat)) := fun i hi => by
              have := hcells i (by rw [ends0_length]; omega)
              rwa [ends0_get _ _ _ hi] at this
            have HCELL := Lib.hid hcell
            have HCC := Lib.hid (And.intro hcells trivial)
            clear hcells hcell
            subst he
            go_wp2_with fail
            go_loopw [19] (fun i wr => ∃ q : Nat, q ≤ j ∧ i = .int .i64 q ∧ Hid ((Fr.putAll (L.take q)).length ≤ A) ∧ w6 = wr) (fun i _ => j - (intOf i).toNat)
            case atStart => exact ⟨0, by omega, rfl, Lib.hid (by simp [Fr.putAll]), rfl⟩
            case round =>
              obtain ⟨q, hq, rfl, HQA, rfl⟩ := hrel
              have hwq : IntKind.i64.wrap ((q : Int) + 1) = (q : Int) + 1 := IntWalk.i64_in _ (by omega)
              by_cases hqj : q < j
              · have hc1 := HCELL.out (q + 1) (by omega)
                obtain ⟨F, hF⟩ : ∃ F, F = (Fr.putAll (L.take (q + 1))).length := ⟨_, rfl⟩
                rw [← hF] at hc1
                have HF := Lib.hid hF
                have hq0 : (0 : Int) ≤ (q : Int) + 1 := by omega
                have hq1 : (q : Int) + 1 < (j : Int) + 1 := by omega
                have hq2 : (q : Int) < (j : Int) := by omega
                clear hF
                by_cases hFA : F ≤ A
                · have hFA2 : (F : Int) ≤ (A : Int) := by omega
                  go_wp2_with fail
                  go_roundw
                  case rel => exact ⟨q + 1, by omega, by go_num, Lib.hid (by rw [← HF.out]; exact hFA), trivial⟩
                  case measure => simp [intOf]; omega
                · have hFA2 : ¬ ((F : Int) ≤ (A : Int)) := by omega
                  have hKw : Fr.wholeN L A = q := wholeN_eq L q A (by rw [HLN.out]; omega) HQA.out (.inr (by rw [← HF.out]; omega))
                  have HKW := Lib.hid hKw
                  clear hKw
                  have hshort : ∀ r ∈ L, r.length ≤ 65536 := fun r hr => by have e1 := len_le_tot L r hr; have e2 := HTT.out; omega
                  have hcc := Fr.scan_cut L A hshort (by rw [← HBS.out, ← HTL.out]; exact hAT)
                  rw [HKW.out, ← HBS.out] at hcc
                  obtain ⟨E, hE⟩ : ∃ E, E = (Fr.putAll (L.take q)).length := ⟨_, rfl⟩
                  have hEA : E ≤ A := by rw [hE]; exact HQA.out
                  rw [← hE] at hcc
                  have hql : q ≤ L.length := by rw [HLN.out]; omega
                  have hlq : (L.take q).length = q := by rw [List.length_take]; omega
                  have hPE : (bs.take A).take E = Fr.putAll (L.take q) := by
                    rw [List.take_take, Nat.min_eq_left hEA, HBS.out]
                    have e1 : Fr.putAll L = Fr.putAll (L.take q) ++ Fr.putAll (L.drop q) := by
                      conv => lhs; rw [← List.take_append_drop q L]
                      unfold Fr.putAll
                      rw [List.flatMap_append]
                    rw [e1, List.take_left' hE.symm]
                  have hlA : (bs.take A).length = A := by rw [List.length_take, ← HTL.out]; omega
                  have HOP := Lib.hid (opened_cut base c mbc f7 A E q (bs.take A) (Fr.putAll (L.take q)) (L.take q) w6 HW6.out.2.2.2.2 HW6.out.2.1 hlA (by omega) hcc hlq hEA hPE)
                  have HE := Lib.hid hE
                  have HLQ := Lib.hid (And.intro hlq hql)
                  clear hshort hcc hE hlq hql hPE hlA
                  go_wp2_with fail
                  refine HOP.out.mono ?_
                  rintro e w8 ⟨y, v8, rfl, hy, hly, hls8, hd8, hm8⟩
                  obtain ⟨a8, c8, hv8, hl8⟩ := hls8.reads
                  rw [HLQ.out.1] at hv8 hl8
                  subst hv8
                  have hO8 := HW6.out.2.2.2.1.move (fun g cs hg => (Kc.of_log hm8 HW6.out.2.1.log).cells _ _ _ _ hg (by decide) (by decide) (by decide))
                  have hb68 : Below base w w8 := by
                    have hnum := H0.out.2
                    have s5 := HB5.out.size
                    have hf7 := HW6.out.1
                    exact hT.out.low.trans ((HB5.out.mono hbw.out).trans ((HW6.out.2.2.1.below (by omega) (by omega) (by omega) hbw5).trans (hm8.below (by omega) (by omega) (by omega) HW6.out.2.2.2.2)))
                  have hs8 : base ≤ w8.heap.size := Nat.le_trans HW6.out.2.2.2.2 hm8.size
                  have hc8 : w8.cell? ⟨ge, q, none⟩ = some (.int .i64 (E : Int)) := by
                    obtain ⟨g, eg, hcs⟩ := hO8.row (fun e => by have := ends0_length L j; rw [e] at this; simp at this)
                    cases eg
                    have := hcs q (by rw [ends0_length]; omega)
                    rw [ends0_get _ _ _ (by omega), ← HE.out] at this
                    exact this
                  obtain ⟨hsl8, hcut8⟩ := slice_lists (HS.out.later (by rw [← HBASE.out]; exact hb68)) q (by have := HLQ.out.2; rw [HLN.out] at this; exact this)
                  have HW8 := Lib.hid (And.intro hy (And.intro hly (And.intro hl8 (And.intro hd8 (And.intro hm8 (And.intro hO8 (And.intro hb68 (And.intro hs8 hcut8))))))))
                  have hq00 : (0 : Int) ≤ (q : Int) := by omega
                  have hq11 : (q : Int) < (j : Int) + 1 := by omega
                  have hEE : ((E : Int) == (E : Int)) = true := by simp
                  clear hy hly hls8 hl8 hd8 hm8 hO8 hb68 hs8 hcut8
                  have hSL : (L.take q == L.take q) = true := by simp
                  have HSL := Lib.hid hSL
                  have HC8 := Lib.hid hc8
                  clear hSL
                  go_wp2_with fail
                  go_region_held3 (fun w' => w'.cell? ⟨ge, q, none⟩ = some (.int .i64 (E : Int)))
                    (first
                      | (exact HC8.out)
                      | (exact hcS)
                      | (exact hcA))
                    (first
                      | (go_at_call 22
                         refine (SameLists_any a8 ao q q c8 cap (L.take q) (L.take q) w8.drew (HW8.out.2.2.1.later (Below.refl _ _).drew) (HW8.out.2.2.2.2.2.2.2.2.later (Below.refl _ _).drew)).mono ?_
                         rintro e w9 ⟨rfl, q9, hw9⟩
                         rw [HSL.out]
                         have hb9 : Below w8.heap.size w8 w9 := by rw [hw9]; exact below_drewN (Below.refl _ _).drew q9
                         have hcS : w9.cell? ⟨ge, q, none⟩ = some (.int .i64 (E : Int)) := (hb9.cell (block_lt_of_cell HC8.out)).trans HC8.out
                         clear hw9)
                      | (go_at_call 20
                         refine (Size_any y c _ (E : Nat) false w9 (HW8.out.2.1.later hb9)).mono ?_
                         rintro e w' ⟨rfl, rfl⟩)
                      | (go_at_call 23
                         refine (Loose_any c mbc f7 _ [] w9 (HW8.out.2.2.2.1.log.later hb9)).mono ?_
                         rintro e w' ⟨rfl, rfl⟩
                         rw [show ((unitsD [] : Nat) : Int) = 0 from rfl])
                      | (go_at_call 11
                         refine (Add_any base c mbc f7 y (q : Nat) (E : Nat) (Fr.putAll (L.take q)) bo m mcap Bm w9 (Nat.le_trans HW8.out.2.2.2.2.2.2.2.1 hb9.size) (HW8.out.2.1.later hb9) (HW8.out.2.2.2.1.later hb9) (HMB.out.later (HW8.out.2.2.2.2.2.2.1.trans (hb9.mono HW8.out.2.2.2.2.2.2.2.1) |> (by rw [← HBASE.out]; exact ·))) (by omega) (by omega) (by omega) (by omega) (by omega) (by have := HE.out; omega)).mono ?_
                         rintro e w10 ⟨rfl, hl10, hd10, hm10⟩
                         have hO10 := (HW8.out.2.2.2.2.2.1.later hb9).move (fun g cs hg => hm10.cells (HW8.out.2.2.2.1.log.later hb9) (HW8.out.2.1.later hb9) hg (by decide) (by decide) (by decide) (by decide))
                         have hcA : w10.cell? ⟨ge, q, none⟩ = some (.int .i64 (E : Int)) := by
                           obtain ⟨g, eg, hcs⟩ := hO10.row (fun e => by have := ends0_length L j; rw [e] at this; simp at this)
                           cases eg
                           have := hcs q (by rw [ends0_length]; omega)
                           rw [ends0_get _ _ _ (by omega), ← HE.out] at this
                           exact this))
                  all_goals
                    have HW10 := Lib.hid (And.intro hl10 (And.intro hd10 (And.intro hm10 hb9)))
                    clear hl10 hd10 hm10 hb9 hO10
                    have hbs10 : base ≤ w10.heap.size := Nat.le_trans (Nat.le_trans HW8.out.2.2.2.2.2.2.2.1 HW10.out.2.2.2.size) HW10.out.2.2.1.size
                    have hscan : Fr.scanF (Fr.putAll (L.take q) ++ Fr.putF Bm) = (L.take q ++ [Bm], E + (m + 12), 0) := by
                      have hs1 : ∀ r ∈ L.take q, r.length ≤ 65536 := fun r hr => by have e1 := len_le_tot L r (List.mem_of_mem_take hr); have e2 := HTT.out; omega
                      have h1 := Fr.scanF_putAll (L.take q) (Fr.putF Bm) hs1
                      have h2 := Fr.scanF_put Bm [] (by rw [HMB.out.1]; omega)
                      rw [List.append_nil, Fr.scanF_nil] at h2
                      rw [h1, h2, ← HE.out]
                      simp [HMB.out.1]
                    have HOG := Lib.hid (opened_gen c (q + 1) (E + (m + 12)) (L.take q ++ [Bm]) w10 (fun w' => DiskOwn w' c mbc f7 base (Fr.putAll (L.take q) ++ Fr.putF Bm) [] ∧ Moved c mbc f7 base w10 w') (by rw [List.length_append, HLQ.out.1]; rfl) ((Open_log base c mbc f7 (Fr.putAll (L.take q) ++ Fr.putF Bm) [] (Fr.putAll (L.take q) ++ Fr.putF Bm) (L.take q ++ [Bm]) (E + (m + 12)) w10 hbs10 HW10.out.2.1 rfl hscan).mono (fun e w' h => by
                      obtain ⟨l, v, q1, q2, q3, q4, q5, q6⟩ := h
                      exact ⟨l, v, q1, q2, q3, q5, q4, q6⟩)))
                    clear hscan
                    go_wp2_with fail
                    rw [show ((q : Nat) : Int) + 1 = ((q + 1 : Nat) : Int) by push_cast; rfl]
                    refine HOG.out.mono ?_
                    rintro e w11 ⟨y2, v11, rfl, hy2, hly2, hls11, hd11, hm11⟩
                    obtain ⟨a11, c11, hv11, hl11⟩ := hls11.reads
                    rw [show (L.take q ++ [Bm]).length = q + 1 by rw [List.length_append, HLQ.out.1]; rfl] at hv11 hl11
                    subst hv11
                    have hb11 : Below base w w11 := by
                      have hnum := H0.out.2
                      have hf7 := HW6.out.1
                      have hy := HW8.out.1
                      have s5 := HB5.out.size
                      have s6 := HW6.out.2.2.1.size
                      exact HW8.out.2.2.2.2.2.2.1.trans ((HW10.out.2.2.2.mono HW8.out.2.2.2.2.2.2.2.1).trans ((HW10.out.2.2.1.below (by omega) (by omega) (by omega) (by omega) (Nat.le_trans HW8.out.2.2.2.2.2.2.2.1 HW10.out.2.2.2.size)).trans (hm11.below (by omega) (by omega) (by omega) hbs10)))
                    have hs11 : base ≤ w11.heap.size := Nat.le_trans hbs10 hm11.size
                    have HW11 := Lib.hid (And.intro hl11 (And.intro hb11 hs11))
                    clear hy2 hly2 hls11 hd11 hm11 hl11 hb11 hs11 hbs10
                    obtain ⟨hsl11, hcut11⟩ := slice_lists (HS.out.later (by rw [← HBASE.out]; exact HW11.out.2.1)) q (by have := HLQ.out.2; rw [HLN.out] at this; exact this)
                    have hal : Below w11.heap.size w11 (w11.alloc (.cells #[] 24)) := (Below.refl _ _).alloc (Nat.le_refl _) _
                    have hcut12 := hcut11.later hal
                    have hnew := OwnL.none_new w11 w11.heap.size (Nat.le_refl _)
                    have H11 := Lib.hid (And.intro hal (And.intro hcut12 hnew))
                    clear hal hcut11 hcut12 hnew
                    go_wp2_with (first
                      | (at_builtin
                         refine wpList_append_lists rfl _ _ rfl w11.heap.size v12 (L.take q) rfl H12.out.1 (some ⟨w12.heap.size, 0, none⟩) 1 1 [Bm] rfl H12.out.2.1 (by have := HLQ.out.1; omega) (Nat.le_trans H12.out.2.2.size (by simp)) ?_
                         intro v13 w13 hO13 hg13)
                      | (at_builtin
                         refine wpList_append_lists rfl _ _ rfl w11.heap.size _ [] rfl H11.out.2.2 ao q cap (L.take q) rfl H11.out.2.1 (by simp; omega) H11.out.1.size ?_
                         intro v12 w12 hO12 hg12
                         rw [List.nil_append] at hO12
                         have hb12 : Below w11.heap.size w11 w12 := H11.out.2.2.below H11.out.1 hg12 H11.out.1.size
                         have hal12 : Below w12.heap.size w12 (w12.alloc (.cells #[.slice bo m mcap] 24)) := (Below.refl _ _).alloc (Nat.le_refl _) _
                         have hB13 : IsBytes (w12.alloc (.cells #[.slice bo m mcap] 24)) bo m mcap Bm := ((HMB.out.later (by rw [← HBASE.out]; exact HW11.out.2.1)).later hb12).later hal12
                         have H12 := Lib.hid (And.intro (hO12.later hal12) (And.intro (one_list (heap_alloc_new w12 _) hB13) hb12))
                         clear hO12 hg12 hb12 hal12 hB13))
                    obtain ⟨a13, c13, hv13, hl13⟩ := hO13.reads
                    rw [show (L.take q ++ [Bm]).length = q + 1 by rw [List.length_append, HLQ.out.1]; rfl] at hv13 hl13
                    subst hv13
                    have hb13 : Below w11.heap.size w11 w13 := H12.out.1.below (H12.out.2.2.alloc H12.out.2.2.size _) hg13 (Nat.le_trans H12.out.2.2.size (by simp))
                    have H13 := Lib.hid (And.intro hl13 hb13)
                    have hSM : ((L.take q ++ [Bm]) == (L.take q ++ [Bm])) = true := by simp
                    have HSM := Lib.hid hSM
                    clear hO13 hg13 hl13 hb13 hSM
                    go_wp2_with fail
                    refine (SameLists_any a11 a13 (q + 1) (q + 1) c11 c13 (L.take q ++ [Bm]) (L.take q ++ [Bm]) w13 (HW11.out.1.later H13.out.2) H13.out.1).mono ?_
                    rintro e w14 ⟨rfl, q14, hw14⟩
                    rw [HSM.out]
                    have hb14 : Below base w w14 := by rw [hw14]; exact below_drewN (HW11.out.2.1.trans (H13.out.2.mono HW11.out.2.2)) q14
                    have HB14 := Lib.hid hb14
                    clear hw14 hb14
                    go_wp2_with fail
                    go_ret
                    exact ⟨rfl, by rw [← HBASE.out]; exact HB14.out⟩
              · obtain rfl : q = j := by omega
                have hKw : Fr.wholeN L A = q := wholeN_eq L q A (by rw [HLN.out]; omega) HQA.out (.inl HLN.out.symm)
                have HKW := Lib.hid hKw
                clear hKw
                have hshort : ∀ r ∈ L, r.length ≤ 65536 := fun r hr => by have e1 := len_le_tot L r hr; have e2 := HTT.out; omega
                have hcc := Fr.scan_cut L A hshort (by rw [← HBS.out, ← HTL.out]; exact hAT)
                rw [HKW.out, ← HBS.out] at hcc
                obtain ⟨E, hE⟩ : ∃ E, E = (Fr.putAll (L.take q)).length := ⟨_, rfl⟩
                have hEA : E ≤ A := by rw [hE]; exact HQA.out
                rw [← hE] at hcc
                have hql : q ≤ L.length := by rw [HLN.out]; omega
                have hlq : (L.take q).length = q := by rw [List.length_take]; omega
                have hPE : (bs.take A).take E = Fr.putAll (L.take q) := by
                  rw [List.take_take, Nat.min_eq_left hEA, HBS.out]
                  have e1 : Fr.putAll L = Fr.putAll (L.take q) ++ Fr.putAll (L.drop q) := by
                    conv => lhs; rw [← List.take_append_drop q L]
                    unfold Fr.putAll
                    rw [List.flatMap_append]
                  rw [e1, List.take_left' hE.symm]
                have hlA : (bs.take A).length = A := by rw [List.length_take, ← HTL.out]; omega
                have HOP := Lib.hid (opened_cut base c mbc f7 A E q (bs.take A) (Fr.putAll (L.take q)) (L.take q) w6 HW6.out.2.2.2.2 HW6.out.2.1 hlA (by omega) hcc hlq hEA hPE)
                have HE := Lib.hid hE
                have HLQ := Lib.hid (And.intro hlq hql)
                clear hshort hcc hE hlq hql hPE hlA
                go_wp2_with fail
                refine HOP.out.mono ?_
                rintro e w8 ⟨y, v8, rfl, hy, hly, hls8, hd8, hm8⟩
                obtain ⟨a8, c8, hv8, hl8⟩ := hls8.reads
                rw [HLQ.out.1] at hv8 hl8
                subst hv8
                have hO8 := HW6.out.2.2.2.1.move (fun g cs hg => (Kc.of_log hm8 HW6.out.2.1.log).cells _ _ _ _ hg (by decide) (by decide) (by decide))
                have hb68 : Below base w w8 := by
                  have hnum := H0.out.2
                  have s5 := HB5.out.size
                  have hf7 := HW6.out.1
                  exact hT.out.low.trans ((HB5.out.mono hbw.out).trans ((HW6.out.2.2.1.below (by omega) (by omega) (by omega) hbw5).trans (hm8.below (by omega) (by omega) (by omega) HW6.out.2.2.2.2)))
                have hs8 : base ≤ w8.heap.size := Nat.le_trans HW6.out.2.2.2.2 hm8.size
                have hc8 : w8.cell? ⟨ge, q, none⟩ = some (.int .i64 (E : Int)) := by
                  obtain ⟨g, eg, hcs⟩ := hO8.row (fun e => by have := ends0_length L q; rw [e] at this; simp at this)
                  cases eg
                  have := hcs q (by rw [ends0_length]; omega)
                  rw [ends0_get _ _ _ (by omega), ← HE.out] at this
                  exact this
                obtain ⟨hsl8, hcut8⟩ := slice_lists (HS.out.later (by rw [← HBASE.out]; exact hb68)) q (by have := HLQ.out.2; rw [HLN.out] at this; exact this)
                have HW8 := Lib.hid (And.intro hy (And.intro hly (And.intro hl8 (And.intro hd8 (And.intro hm8 (And.intro hO8 (And.intro hb68 (And.intro hs8 hcut8))))))))
                have hq00 : (0 : Int) ≤ (q : Int) := by omega
                have hq11 : (q : Int) < (q : Int) + 1 := by omega
                have hEE : ((E : Int) == (E : Int)) = true := by simp
                clear hy hly hls8 hl8 hd8 hm8 hO8 hb68 hs8 hcut8
                have hSL : (L.take q == L.take q) = true := by simp
                have HSL := Lib.hid hSL
                have HC8 := Lib.hid hc8
                clear hSL
                go_wp2_with fail
                go_region_held3 (fun w' => w'.cell? ⟨ge, q, none⟩ = some (.int .i64 (E : Int)))
                  (first
                    | (exact HC8.out)
                    | (exact hcS)
                    | (exact hcA))
                  (first
                    | (go_at_call 22
                       refine (SameLists_any a8 ao q q c8 cap (L.take q) (L.take q) w8.drew (HW8.out.2.2.1.later (Below.refl _ _).drew) (HW8.out.2.2.2.2.2.2.2.2.later (Below.refl _ _).drew)).mono ?_
                       rintro e w9 ⟨rfl, q9, hw9⟩
                       rw [HSL.out]
                       have hb9 : Below w8.heap.size w8 w9 := by rw [hw9]; exact below_drewN (Below.refl _ _).drew q9
                       have hcS : w9.cell? ⟨ge, q, none⟩ = some (.int .i64 (E : Int)) := (hb9.cell (block_lt_of_cell HC8.out)).trans HC8.out
                       clear hw9)
                    | (go_at_call 20
                       refine (Size_any y c _ (E : Nat) false w9 (HW8.out.2.1.later hb9)).mono ?_
                       rintro e w' ⟨rfl, rfl⟩)
                    | (go_at_call 23
                       refine (Loose_any c mbc f7 _ [] w9 (HW8.out.2.2.2.1.log.later hb9)).mono ?_
                       rintro e w' ⟨rfl, rfl⟩
                       rw [show ((unitsD [] : Nat) : Int) = 0 from rfl])
                    | (go_at_call 11
                       refine (Add_any base c mbc f7 y (q : Nat) (E : Nat) (Fr.putAll (L.take q)) bo m mcap Bm w9 (Nat.le_trans HW8.out.2.2.2.2.2.2.2.1 hb9.size) (HW8.out.2.1.later hb9) (HW8.out.2.2.2.1.later hb9) (HMB.out.later (HW8.out.2.2.2.2.2.2.1.trans (hb9.mono HW8.out.2.2.2.2.2.2.2.1) |> (by rw [← HBASE.out]; exact ·))) (by omega) (by omega) (by omega) (by omega) (by omega) (by have := HE.out; omega)).mono ?_
                       rintro e w10 ⟨rfl, hl10, hd10, hm10⟩
                       have hO10 := (HW8.out.2.2.2.2.2.1.later hb9).move (fun g cs hg => hm10.cells (HW8.out.2.2.2.1.log.later hb9) (HW8.out.2.1.later hb9) hg (by decide) (by decide) (by decide) (by decide))
                       have hcA : w10.cell? ⟨ge, q, none⟩ = some (.int .i64 (E : Int)) := by
                         obtain ⟨g, eg, hcs⟩ := hO10.row (fun e => by have := ends0_length L q; rw [e] at this; simp at this)
                         cases eg
                         have := hcs q (by rw [ends0_length]; omega)
                         rw [ends0_get _ _ _ (by omega), ← HE.out] at this
                         exact this))
                all_goals
                  have HW10 := Lib.hid (And.intro hl10 (And.intro hd10 (And.intro hm10 hb9)))
                  clear hl10 hd10 hm10 hb9 hO10
                  have hbs10 : base ≤ w10.heap.size := Nat.le_trans (Nat.le_trans HW8.out.2.2.2.2.2.2.2.1 HW10.out.2.2.2.size) HW10.out.2.2.1.size
                  have hscan : Fr.scanF (Fr.putAll (L.take q) ++ Fr.putF Bm) = (L.take q ++ [Bm], E + (m + 12), 0) := by
                    have hs1 : ∀ r ∈ L.take q, r.length ≤ 65536 := fun r hr => by have e1 := len_le_tot L r (List.mem_of_mem_take hr); have e2 := HTT.out; omega
                    have h1 := Fr.scanF_putAll (L.take q) (Fr.putF Bm) hs1
                    have h2 := Fr.scanF_put Bm [] (by rw [HMB.out.1]; omega)
                    rw [List.append_nil, Fr.scanF_nil] at h2
                    rw [h1, h2, ← HE.out]
                    simp [HMB.out.1]
                  have HOG := Lib.hid (opened_gen c (q + 1) (E + (m + 12)) (L.take q ++ [Bm]) w10 (fun w' => DiskOwn w' c mbc f7 base (Fr.putAll (L.take q) ++ Fr.putF Bm) [] ∧ Moved c mbc f7 base w10 w') (by rw [List.length_append, HLQ.out.1]; rfl) ((Open_log base c mbc f7 (Fr.putAll (L.take q) ++ Fr.putF Bm) [] (Fr.putAll (L.take q) ++ Fr.putF Bm) (L.take q ++ [Bm]) (E + (m + 12)) w10 hbs10 HW10.out.2.1 rfl hscan).mono (fun e w' h => by
                    obtain ⟨l, v, q1, q2, q3, q4, q5, q6⟩ := h
                    exact ⟨l, v, q1, q2, q3, q5, q4, q6⟩)))
                  clear hscan
                  go_wp2_with fail
                  rw [show ((q : Nat) : Int) + 1 = ((q + 1 : Nat) : Int) by push_cast; rfl]
                  refine HOG.out.mono ?_
                  rintro e w11 ⟨y2, v11, rfl, hy2, hly2, hls11, hd11, hm11⟩
                  obtain ⟨a11, c11, hv11, hl11⟩ := hls11.reads
                  rw [show (L.take q ++ [Bm]).length = q + 1 by rw [List.length_append, HLQ.out.1]; rfl] at hv11 hl11
                  subst hv11
                  have hb11 : Below base w w11 := by
                    have hnum := H0.out.2
                    have hf7 := HW6.out.1
                    have hy := HW8.out.1
                    have s5 := HB5.out.size
                    have s6 := HW6.out.2.2.1.size
                    exact HW8.out.2.2.2.2.2.2.1.trans ((HW10.out.2.2.2.mono HW8.out.2.2.2.2.2.2.2.1).trans ((HW10.out.2.2.1.below (by omega) (by omega) (by omega) (by omega) (Nat.le_trans HW8.out.2.2.2.2.2.2.2.1 HW10.out.2.2.2.size)).trans (hm11.below (by omega) (by omega) (by omega) hbs10)))
                  have hs11 : base ≤ w11.heap.size := Nat.le_trans hbs10 hm11.size
                  have HW11 := Lib.hid (And.intro hl11 (And.intro hb11 hs11))
                  clear hy2 hly2 hls11 hd11 hm11 hl11 hb11 hs11 hbs10
                  obtain ⟨hsl11, hcut11⟩ := slice_lists (HS.out.later (by rw [← HBASE.out]; exact HW11.out.2.1)) q (by have := HLQ.out.2; rw [HLN.out] at this; exact this)
                  have hal : Below w11.heap.size w11 (w11.alloc (.cells #[] 24)) := (Below.refl _ _).alloc (Nat.le_refl _) _
                  have hcut12 := hcut11.later hal
                  have hnew := OwnL.none_new w11 w11.heap.size (Nat.le_refl _)
                  have H11 := Lib.hid (And.intro hal (And.intro hcut12 hnew))
                  clear hal hcut11 hcut12 hnew
                  go_wp2_with (first
                    | (at_builtin
                       refine wpList_append_lists rfl _ _ rfl w11.heap.size v12 (L.take q) rfl H12.out.1 (some ⟨w12.heap.size, 0, none⟩) 1 1 [Bm] rfl H12.out.2.1 (by have := HLQ.out.1; omega) (Nat.le_trans H12.out.2.2.size (by simp)) ?_
                       intro v13 w13 hO13 hg13)
                    | (at_builtin
                       refine wpList_append_lists rfl _ _ rfl w11.heap.size _ [] rfl H11.out.2.2 ao q cap (L.take q) rfl H11.out.2.1 (by simp; omega) H11.out.1.size ?_
                       intro v12 w12 hO12 hg12
                       rw [List.nil_append] at hO12
                       have hb12 : Below w11.heap.size w11 w12 := H11.out.2.2.below H11.out.1 hg12 H11.out.1.size
                       have hal12 : Below w12.heap.size w12 (w12.alloc (.cells #[.slice bo m mcap] 24)) := (Below.refl _ _).alloc (Nat.le_refl _) _
                       have hB13 : IsBytes (w12.alloc (.cells #[.slice bo m mcap] 24)) bo m mcap Bm := ((HMB.out.later (by rw [← HBASE.out]; exact HW11.out.2.1)).later hb12).later hal12
                       have H12 := Lib.hid (And.intro (hO12.later hal12) (And.intro (one_list (heap_alloc_new w12 _) hB13) hb12))
                       clear hO12 hg12 hb12 hal12 hB13))
                  obtain ⟨a13, c13, hv13, hl13⟩ := hO13.reads
                  rw [show (L.take q ++ [Bm]).length = q + 1 by rw [List.length_append, HLQ.out.1]; rfl] at hv13 hl13
                  subst hv13
                  have hb13 : Below w11.heap.size w11 w13 := H12.out.1.below (H12.out.2.2.alloc H12.out.2.2.size _) hg13 (Nat.le_trans H12.out.2.2.size (by simp))
                  have H13 := Lib.hid (And.intro hl13 hb13)
                  have hSM : ((L.take q ++ [Bm]) == (L.take q ++ [Bm])) = true := by simp
                  have HSM := Lib.hid hSM
                  clear hO13 hg13 hl13 hb13 hSM
                  go_wp2_with fail
                  refine (SameLists_any a11 a13 (q + 1) (q + 1) c11 c13 (L.take q ++ [Bm]) (L.take q ++ [Bm]) w13 (HW11.out.1.later H13.out.2) H13.out.1).mono ?_
                  rintro e w14 ⟨rfl, q14, hw14⟩
                  rw [HSM.out]
                  have hb14 : Below base w w14 := by rw [hw14]; exact below_drewN (HW11.out.2.1.trans (H13.out.2.mono HW11.out.2.2)) q14
                  have HB14 := Lib.hid hb14
                  clear hw14 hb14
                  go_wp2_with fail
                  go_ret
                  exact ⟨rfl, by rw [← HBASE.out]; exact HB14.out⟩
end Go.Proofs.Ytdglaacjefcfdaa

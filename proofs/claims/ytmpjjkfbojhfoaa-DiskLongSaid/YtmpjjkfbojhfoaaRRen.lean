/- the reference's disk: Rename -/
import Derived.Test.YtmpjjkfbojhfoaaRKept
import Derived.Test.YtmpjjkfbojhfoaaRRemoveW
set_option linter.unusedSimpArgs false
namespace Go.Proofs.Ytmpjjkfbojhfoaa
open Go.RowKit
set_option linter.unusedSectionVars false
variable [Zone]
theorem IsRFiles.new_safe {w : World} {g : Nat} {s : ByteArray} {sa : Option Addr} {sn sc : Nat} {S : List UInt8} (h : w.heap[g]? = some (.cells #[.string s, .slice sa sn sc, .slice none 0 0] 90 (0, 0))) (hS : IsBytesZ w sa sn sc S) : IsRFiles w (some ⟨g, 0, none⟩) 1 1 [(s, S, [])] :=
  IsRFiles.one (t := (.string s, .slice sa sn sc, .slice none 0 0)) h (by intro u hu; simp [flat3] at hu; rcases hu with rfl | rfl | rfl <;> exact ⟨rfl, rfl⟩) ⟨rfl, ⟨_, _, _, rfl, hS⟩, ⟨none, 0, 0, rfl, IsRActs.nil w⟩⟩
def dropAt (R : List FileV) (z : Int) : List FileV := if z < 0 then R else R.take z.toNat ++ R.drop (z.toNat + 1)
/-- the files behind a Rename: R1, what is left without the old name. -/
def RenTo (tt : ByteArray) (R1 : List FileV) (S : List UInt8) (R' : List FileV) : Prop := ∃ z k, AtR tt R1 z ∧ InsAt tt (dropAt R1 z) k ∧ R' = insF (dropAt R1 z) k (tt, S, [])
theorem renTo_ex (tt : ByteArray) (R1 : List FileV) (S : List UInt8) : ∃ R', RenTo tt R1 S R' := by
  obtain ⟨z, hz⟩ := atR_ex tt R1
  obtain ⟨k, hk⟩ := insAt_ex tt (dropAt R1 z)
  exact ⟨_, z, k, hz, hk, rfl⟩
/-- what Rename tells. -/
def RRenR (s tt : ByteArray) (r base : Nat) (R : List FileV) (N : Int) (fz : Bool) (lf : Int) (out : Bool) (w : World) (e : Ending) (w' : World) : Prop :=
  (out = true ∧ e = .returned (.int .i64 10) ∧ w' = w) ∨ (out = false ∧ ((nameP tt.data.toList = false ∧ e = .returned (.int .i64 2) ∧ w' = w) ∨ (nameP tt.data.toList = true ∧ ∃ z, AtR s R z ∧
    ((z < 0 ∧ e = .returned (.int .i64 6) ∧ w' = w) ∨ (0 ≤ z ∧ (((R.getD z.toNat f0).2.2 ≠ [] ∧ e = .returned (.int .i64 9) ∧ w' = w) ∨ ((R.getD z.toNat f0).2.2 = [] ∧
      ((s = tt ∧ RDone r base R R N fz lf w e w') ∨ (s ≠ tt ∧ ∃ R', RenTo tt (R.take z.toNat ++ R.drop (z.toNat + 1)) (R.getD z.toNat f0).2.1 R' ∧ RDone r base R R' N fz lf w e w')))))))))
theorem dropAt_len (R : List FileV) (z : Int) : (dropAt R z).length ≤ R.length := by
  unfold dropAt
  split
  · exact Nat.le_refl _
  · simp only [List.length_append, List.length_take, List.length_drop]
    omega
set_option maxRecDepth 100000 in
set_option maxHeartbeats 8000000 in
theorem rRename_any (s tt : ByteArray) (hts : tt.size ≤ 1099511627776) (r base : Nat) (R : List FileV) (N : Int) (fz : Bool) (lf : Int) (out : Bool) (w : World) (hN0 : 0 ≤ N) (hN1 : N ≤ 1000000) (hl0 : 0 ≤ lf) (hl1 : lf ≤ 9223372036854775807) (h : RefAt w r base R N fz lf out) (hR : R.length ≤ 1000000) :
    Calls Try.prog 62 #[.pointer (some ⟨r, 0, none⟩), .string s, .string tt] w fun e w' => RRenR s tt r base R N fz lf out w e w' := by
  have HAt := Lib.hid (At_any s r base R N fz lf out w h)
  obtain ⟨v, hrow⟩ := h.row
  have r4 := hrow.cells.2.2.2.2
  have H := Lib.hid (And.intro h hR)
  have HNA := Lib.hid (rname_any tt w hts)
  clear h hR hrow hts
  go_enter Try.func62, Try.ntmps62
  go_wp2_with fail
  refine HAt.out.mono ?_
  rintro e w' ⟨z, rfl, hz, rfl⟩
  have HZ := Lib.hid hz
  cases out with
  | true =>
    go_wp2_with fail
    go_ret
    exact .inl ⟨rfl, rfl, rfl⟩
  | false =>
    obtain ⟨nb, hnb⟩ : ∃ nb, nb = nameP tt.data.toList := ⟨_, rfl⟩
    rw [← hnb] at HNA
    have HNB := Lib.hid hnb
    clear hnb hz
    go_wp2_with fail
    refine HNA.out.mono ?_
    rintro e w' ⟨rfl, rfl⟩
    cases nb with
    | false =>
      go_wp2_with fail
      go_ret
      exact .inr ⟨rfl, .inl ⟨HNB.out.symm, rfl, rfl⟩⟩
    | true =>
      rcases HZ.out with ⟨i, rfl, hi, _, _⟩ | ⟨rfl, _⟩
      · have hi0 : ¬ (i : Int) < 0 := by omega
        have hi1 : (0 : Int) ≤ (i : Int) := by omega
        obtain ⟨g, cap, sa, sn, sc, al, m, capl, hr, hg, q0, q1, q2, hb, hd, hat⟩ := H.out.1.at hi
        obtain ⟨n, hn⟩ : ∃ n, n = R.length := ⟨_, rfl⟩
        have HNN := Lib.hid hn
        have r0 : w.cell? ⟨r, 0, none⟩ = some (.slice (some ⟨g, 0, none⟩) n cap) := by rw [hn]; exact hr.cells.1
        have hcap := hg.2.2.1
        have hcm := hg.2.2.2
        rw [← hn] at hcap
        unfold maxLen at hcm
        have hi2 : (i : Int) < (n : Int) := by omega
        have HDL := Lib.hid hd.len.1
        have HI := Lib.hid hi
        clear hr hg hb hd hat q0 q1 hn hi
        by_cases hm : (0 : Int) < (m : Int)
        · go_wp2_with fail
          go_ret
          refine .inr ⟨rfl, .inr ⟨HNB.out.symm, _, HZ.out, .inr ⟨hi1, .inl ⟨fun h0 => ?_, rfl, rfl⟩⟩⟩⟩
          have := HDL.out
          rw [show (R.getD ((i : Int).toNat) f0).2.2 = (R.getD i f0).2.2 from rfl] at h0
          rw [h0] at this
          simp at this
          omega
        · have HD0 : Hid ((R.getD i f0).2.2 = []) := Lib.hid (List.eq_nil_of_length_eq_zero (by rw [HDL.out]; omega))
          go_wp2_with fail
          refine (rstep_any r base R N fz lf false w hN0 hN1 hl0 hl1 H.out.1).mono ?_
          rintro e W0 ⟨hmv, ⟨hq, rfl, hout⟩ | ⟨hq, rfl, hW⟩⟩
          · have HQ := Lib.hid (And.intro hmv (And.intro hq hout))
            clear hmv hq hout
            go_wp2_with fail
            go_ret
            refine .inr ⟨rfl, .inr ⟨HNB.out.symm, _, HZ.out, .inr ⟨hi1, .inr ⟨HD0.out, ?_⟩⟩⟩⟩
            have hd : ∀ R', RDone r base R R' N fz lf w (.returned (.int .i64 10)) W0 := fun R' => ⟨HQ.out.1, .inl ⟨HQ.out.2.1, rfl, HQ.out.2.2⟩⟩
            by_cases hst : s = tt
            · exact .inl ⟨hst, hd R⟩
            · obtain ⟨R', hR'⟩ := renTo_ex tt (R.take i ++ R.drop (i + 1)) (R.getD i f0).2.1
              exact .inr ⟨hst, R', hR', hd R'⟩
          · have HQ := Lib.hid (And.intro hmv (And.intro hq hW))
            clear hmv hq
            by_cases hst : s = tt
            · have hbx : (s.toList == tt.toList) = true := by rw [hst]; simp
              have HST := Lib.hid hst
              clear hst hW
              go_wp2_with fail
              go_ret
              exact .inr ⟨rfl, .inr ⟨HNB.out.symm, _, HZ.out, .inr ⟨hi1, .inr ⟨HD0.out, .inl ⟨HST.out, HQ.out.1, .inr ⟨HQ.out.2.1, rfl, HQ.out.2.2⟩⟩⟩⟩⟩⟩
            · have hbx : (s.toList == tt.toList) = false := by
                rw [Lib.toList_data, Lib.toList_data]
                exact beq_false_of_ne (fun e => hst (bytes_inj e))
              have HST := Lib.hid hst
              obtain ⟨g2, cap2, sa2, sn2, sc2, al2, m2, capl2, hr2, hg2, _, p1, _, _, _, _⟩ := hW.at HI.out
              have HSZ0 := Lib.hid (hW.safeZ HI.out hr2 p1)
              have r0' : W0.cell? ⟨r, 0, none⟩ = some (.slice (some ⟨g2, 0, none⟩) n cap2) := by rw [HNN.out]; exact hr2.cells.1
              have hcap2 := hg2.2.2.1
              have hcm2 := hg2.2.2.2
              rw [← HNN.out] at hcap2
              unfold maxLen at hcm2
              have HRM := Lib.hid (remove_any i r base R (N + 1) fz (if fz = true then lf - 1 else lf) false W0 hW HI.out H.out.2)
              clear hst hW hr2 hg2 r0 r4 q2
              go_wp2_with fail
              refine HRM.out.mono ?_
              rintro e w2 ⟨rfl, hR2, hM2⟩
              obtain ⟨R1, hR1⟩ : ∃ R1, R1 = R.take i ++ R.drop (i + 1) := ⟨_, rfl⟩
              rw [← hR1] at hR2
              have HR1 := Lib.hid hR1
              have HR1L : Hid (R1.length ≤ 1000000) := Lib.hid (by
                have := H.out.2
                rw [hR1]
                simp only [List.length_append, List.length_take, List.length_drop]
                omega)
              have H2 := Lib.hid (And.intro hR2 hM2)
              have HSZ2 : Hid (IsBytesZ w2 sa2 sn2 sc2 (R.getD i f0).2.1) := Lib.hid (HSZ0.out.moved (fun j off v hc => HQ.out.2.2.kept_u8 hM2 hc))
              have HA2 := Lib.hid (At_any tt r base R1 (N + 1) fz (if fz = true then lf - 1 else lf) false w2 hR2)
              clear hR2 hM2 hR1 p1 r0'
              go_wp2_with fail
              refine HA2.out.mono ?_
              rintro e w' ⟨z2, rfl, hz2, rfl⟩
              have HZ2 := Lib.hid hz2
              clear hz2
              go_upto_if 60 with fail
              go_cut [8] (fun s8 wc => s8 = .slice sa2 sn2 sc2 ∧ Hid (RefAt wc r base (dropAt R1 z2) (N + 1) fz (if fz = true then lf - 1 else lf) false) ∧ Hid (MovedR r base w2 wc))
              case first =>
                rcases HZ2.out with ⟨i2, rfl, hi2, _, _⟩ | ⟨rfl, _⟩
                · have hj1 : (0 : Int) ≤ (i2 : Int) := by omega
                  have HI2 := Lib.hid hi2
                  clear hi2
                  go_wp2_with fail
                  refine (remove_any i2 r base R1 (N + 1) fz (if fz = true then lf - 1 else lf) false w2 H2.out.1 HI2.out HR1L.out).mono ?_
                  rintro e w3 ⟨rfl, hR3, hM3⟩
                  have H3 := Lib.hid (And.intro hR3 hM3)
                  clear hR3 hM3
                  go_wp2_with fail
                  go_meet
                  exact ⟨rfl, by unfold dropAt; rw [if_neg (by omega)]; exact Lib.hid H3.out.1, Lib.hid H3.out.2⟩
                · go_wp2_with fail
                  go_meet
                  exact ⟨rfl, by unfold dropAt; rw [if_pos (by omega)]; exact Lib.hid H2.out.1, Lib.hid (MovedR.refl _ _ _)⟩
              case rest =>
                obtain ⟨rfl, hRW, hMW⟩ := hcut
                obtain ⟨W, hWe⟩ : ∃ W, W = wc := ⟨wc, rfl⟩
                subst hWe
                obtain ⟨R2, hR2⟩ : ∃ R2, R2 = dropAt R1 z2 := ⟨_, rfl⟩
                have HR2 := Lib.hid hR2
                have HR2L : Hid (R2.length ≤ 1000000) := Lib.hid (by rw [hR2]; have := dropAt_len R1 z2; have := HR1L.out; omega)
                rw [← hR2] at hRW
                have HW := Lib.hid hRW.out
                have HMW := Lib.hid hMW.out
                have HSF : Hid (IsBytesZ W sa2 sn2 sc2 (R.getD i f0).2.1) := Lib.hid (HSZ2.out.moved (fun j off v hc => H2.out.1.kept_u8 hMW.out hc))
                obtain ⟨S0, hS0⟩ : ∃ S0, S0 = (R.getD i f0).2.1 := ⟨_, rfl⟩
                rw [← hS0] at HSF
                have HS0 := Lib.hid hS0
                obtain ⟨a3, cap3, hr3, hf3, hg3, hrl3, hfz3⟩ := hRW.out.rows2
                obtain ⟨n3, hn3⟩ : ∃ n3, n3 = R2.length := ⟨_, rfl⟩
                have HN3 := Lib.hid hn3
                rw [← hn3] at hr3 hf3 hg3
                have r2 := hr3.cells.1
                have hcap3 := hf3.len.2.1
                have hcm3 := hf3.len.2.2
                unfold maxLen at hcm3
                have hn3b : n3 ≤ 1000000 := by have := HR2L.out; omega
                have HF3 := Lib.hid hf3
                have HG3 := Lib.hid hg3
                have HFZ := Lib.hid hfz3
                have HRL := Lib.hid hrl3
                clear hr3 hf3 hRW hMW hg3 hfz3 hrl3 hn3 hR2 hS0
                go_upto_block 1 with fail
                go_cut [10] (fun s7 wc => ∃ k : Nat, s7 = .int .i64 (k : Int) ∧ k ≤ n3 ∧ Hid (InsAt tt R2 k) ∧ W = wc)
                case first =>
                  go_wp2_with fail
                  go_loopw [10] (fun i wr => ∃ k : Nat, k ≤ n3 ∧ i = .int .i64 (k : Int) ∧ Hid (∀ j, j < k → Op.bytesLess (R2.getD j f0).1.toList tt.toList = true) ∧ W = wr) (fun i _ => n3 - (intOf i).toNat)
                  case atStart => exact ⟨0, by omega, rfl, Lib.hid (fun j hj => absurd hj (by omega)), rfl⟩
                  case round =>
                    obtain ⟨k, hk, rfl, hall, rfl⟩ := hrel
                    by_cases hlt : k < n3
                    · have hk0 : (0 : Int) ≤ (k : Int) := by omega
                      have hk1 : (k : Int) < (n3 : Int) := by omega
                      obtain ⟨T, t1, t2⟩ := HF3.out
                      obtain ⟨b, off, rfl, c0, _, _⟩ := t1.cells hlt
                      have hfk := t2.2 k (by have := HN3.out; omega)
                      rw [hfk.1] at c0
                      obtain ⟨y, hy⟩ : ∃ y, y = (R2.getD k f0).1 := ⟨_, rfl⟩
                      rw [← hy] at c0
                      have HY := Lib.hid hy
                      clear t1 t2 hfk hy
                      by_cases hbl : Op.bytesLess y.toList tt.toList = true
                      · go_wp2_with fail
                        go_roundw
                        case rel =>
                          refine ⟨k + 1, by omega, by go_num, Lib.hid (fun j hj => ?_), trivial⟩
                          rcases Nat.lt_succ_iff_lt_or_eq.1 hj with hj | rfl
                          · exact hall.out j hj
                          · rw [← HY.out]; exact hbl
                        case measure => simp [intOf]; omega
                      · replace hbl : Op.bytesLess y.toList tt.toList = false := by simpa using hbl
                        have HIN : Hid (InsAt tt R2 k) := Lib.hid ⟨by have := HN3.out; omega, hall.out, fun _ => by rw [← HY.out]; exact hbl⟩
                        go_wp2_with fail
                        go_meet
                        exact ⟨k, rfl, hk, HIN, rfl⟩
                    · obtain rfl : k = n3 := by omega
                      have HIN : Hid (InsAt tt R2 k) := Lib.hid ⟨by have := HN3.out; omega, hall.out, fun h => absurd h (by have := HN3.out; omega)⟩
                      have hk1 : ¬ (k : Int) < (k : Int) := by omega
                      go_wp2_with fail
                      go_meet
                      exact ⟨k, rfl, hk, HIN, rfl⟩
                case rest =>
                  obtain ⟨k, rfl, hkn, hins, rfl⟩ := hcut
                  have HK : Hid (∀ X, RefAt X r base (insF R2 k (tt, S0, [])) (N + 1) fz (if fz = true then lf - 1 else lf) false → MovedR r base W X → RRenR s tt r base R N fz lf false w (.returned (.int .i64 0)) X) := Lib.hid (fun X hX hM => by
                    refine .inr ⟨rfl, .inr ⟨HNB.out.symm, _, HZ.out, .inr ⟨hi1, .inr ⟨HD0.out, .inr ⟨HST.out, _, ⟨z2, k, ?_, ?_, rfl⟩, (((HQ.out.1.trans H2.out.2).trans HMW.out).trans hM), .inr ⟨HQ.out.2.1, rfl, ?_⟩⟩⟩⟩⟩⟩
                    · have := HZ2.out
                      rw [HR1.out] at this
                      exact this
                    · have := hins.out
                      rw [HR2.out, HR1.out] at this
                      exact this
                    · rw [HR2.out, HS0.out, HR1.out] at hX
                      exact hX)
                  rcases HG3.out with ⟨rfl, rfl, rfl⟩ | ⟨g, rfl⟩
                  · obtain rfl : k = 0 := by omega
                    have HX : Hid (True ∧ R2.length ≤ 1000000 ∧ r < W.heap.size) := Lib.hid ⟨trivial, HR2L.out, HRL.out⟩
                    have HINS : Hid (∀ (X : World) (v : Value), Below W.heap.size W X → OwnF X W.heap.size v (([] ++ [(tt, S0, [])] ++ [] : List FileV)) → RRenR s tt r base R N fz lf false w (.returned (.int .i64 0)) (X.setCell ⟨r, 0, none⟩ v)) := Lib.hid (fun X v hb ho => by
                      have hR0 : R2 = [] := List.eq_nil_of_length_eq_zero HN3.out.symm
                      refine HK.out _ ?_ (HW.out.list hb ho).2
                      have h1 := (HW.out.list hb ho).1
                      rw [hR0]
                      exact h1)
                    clear hins
                    go_upto_region 22 with fail
                    refine wp_region_D 23 (S := fun w' => w'.cell? ⟨r, 0, none⟩ = some (.slice none 0 0)) (by kernel_rfl) ?hS0 (fun hHeld => ?_)
                    case hS0 => (exact ((Below.refl W.heap.size W).drew.cell (p := ⟨r, 0, none⟩) HX.out.2.2).trans r2)
                    refine anyD_take (i := 0) (v := ?v1) rfl (by kernel_rfl) (by kernel_rfl) (by kernel_rfl) (by kernel_rfl) (fun _ _ _ h => h) (Or.inl ⟨?hw1, ?hy1⟩) (by assumption) ?_
                    case hw1 => rfl
                    case hy1 => (intro w hSw; (try dsimp only at hSw); go_simp; (first | done | with_reducible rfl))
                    try simp only [Act.put, List.setIfInBounds_toArray, List.set_cons_zero, List.set_cons_succ]
                    refine anyD_take (i := 2) (v := ?v2) rfl (by kernel_rfl) (by kernel_rfl) (by kernel_rfl) (by kernel_rfl) (fun _ _ _ h => h) (Or.inl ⟨?hw2, ?hy2⟩) (by assumption) ?_
                    case hw2 => rfl
                    case hy2 => (intro w hSw; (try dsimp only at hSw); go_simp; (first | done | with_reducible rfl))
                    try simp only [Act.put, List.setIfInBounds_toArray, List.set_cons_zero, List.set_cons_succ]
                    refine anyD_take (i := 3) (v := ?v3) rfl (by kernel_rfl) (by kernel_rfl) (by kernel_rfl) (by kernel_rfl) (fun _ _ _ h => h) (Or.inl ⟨?hw3, ?hy3⟩) (by assumption) ?_
                    case hw3 => rfl
                    case hy3 => (intro w hSw; (try dsimp only at hSw); go_simp; (first | done | with_reducible rfl))
                    try simp only [Act.put, List.setIfInBounds_toArray, List.set_cons_zero, List.set_cons_succ]
                    refine anyD_take (i := 4) (v := ?v4) rfl (by kernel_rfl) (by kernel_rfl) (by kernel_rfl) (by kernel_rfl) (fun _ _ _ h => h) (Or.inl ⟨?hw4, ?hy4⟩) (by assumption) ?_
                    case hw4 => rfl
                    case hy4 => (intro w hSw; (try dsimp only at hSw); go_simp; (first | done | with_reducible rfl))
                    try simp only [Act.put, List.setIfInBounds_toArray, List.set_cons_zero, List.set_cons_succ]
                    refine anyD_take (i := 5) (v := ?v5) rfl (by kernel_rfl) (by kernel_rfl) (by kernel_rfl) (by kernel_rfl) (fun _ _ _ h => h) (Or.inl ⟨?hw5, ?hy5⟩) (by assumption) ?_
                    case hw5 => rfl
                    case hy5 => (intro w hSw; (try dsimp only at hSw); go_simp; (first | done | with_reducible rfl))
                    try simp only [Act.put, List.setIfInBounds_toArray, List.set_cons_zero, List.set_cons_succ]
                    refine anyD_take (i := 6) (v := ?v6) rfl (by kernel_rfl) (by kernel_rfl) (by kernel_rfl) (by kernel_rfl) (fun _ _ _ h => h) (Or.inl ⟨?hw6, ?hy6⟩) (by assumption) ?_
                    case hw6 => rfl
                    case hy6 => (intro w hSw; (try dsimp only at hSw); go_simp; (first | done | with_reducible rfl))
                    try simp only [Act.put, List.setIfInBounds_toArray, List.set_cons_zero, List.set_cons_succ]
                    refine anyD_take (i := 7) (v := ?v7) rfl (by kernel_rfl) (by kernel_rfl) (by kernel_rfl) (by kernel_rfl) (fun _ _ _ h => h) (Or.inl ⟨?hw7, ?hy7⟩) (by assumption) ?_
                    case hw7 => rfl
                    case hy7 => (intro w hSw; (try dsimp only at hSw); go_simp; (first | done | with_reducible rfl))
                    try simp only [Act.put, List.setIfInBounds_toArray, List.set_cons_zero, List.set_cons_succ]
                    refine anyD_take (i := 9) (v := ?v8) rfl (by kernel_rfl) (by kernel_rfl) (by kernel_rfl) (by kernel_rfl) (fun _ _ _ h => h) (Or.inl ⟨?hw8, ?hy8⟩) (by assumption) ?_
                    case hw8 => rfl
                    case hy8 => (intro w hSw; (try dsimp only at hSw); go_simp; (first | done | with_reducible rfl))
                    try simp only [Act.put, List.setIfInBounds_toArray, List.set_cons_zero, List.set_cons_succ]
                    refine anyD_take (i := 10) (v := ?v9) rfl (by kernel_rfl) (by kernel_rfl) (by kernel_rfl) (by kernel_rfl) (fun _ _ _ h => h) (Or.inl ⟨?hw9, ?hy9⟩) (by assumption) ?_
                    case hw9 => rfl
                    case hy9 => (intro w hSw; (try dsimp only at hSw); go_simp; (first | done | with_reducible rfl))
                    try simp only [Act.put, List.setIfInBounds_toArray, List.set_cons_zero, List.set_cons_succ]
                    refine anyD_take (i := 11) (v := ?v10) rfl (by kernel_rfl) (by kernel_rfl) (by kernel_rfl) (by kernel_rfl) (fun _ _ _ h => h) (Or.inl ⟨?hw10, ?hy10⟩) (by assumption) ?_
                    case hw10 => rfl
                    case hy10 => (intro w hSw; (try dsimp only at hSw); go_simp; (first | done | with_reducible rfl))
                    try simp only [Act.put, List.setIfInBounds_toArray, List.set_cons_zero, List.set_cons_succ]
                    refine anyD_take (i := 14) (v := ?v11) rfl (by kernel_rfl) (by kernel_rfl) (by kernel_rfl) (by kernel_rfl) (fun _ _ _ h => h) (Or.inl ⟨?hw11, ?hy11⟩) (by assumption) ?_
                    case hw11 => rfl
                    case hy11 => (intro w hSw; (try dsimp only at hSw); go_simp; (first | done | with_reducible rfl))
                    try simp only [Act.put, List.setIfInBounds_toArray, List.set_cons_zero, List.set_cons_succ]
                    refine anyD_take (i := 15) (v := ?v12) rfl (by kernel_rfl) (by kernel_rfl) (by kernel_rfl) (by kernel_rfl) (fun _ _ _ h => h) (Or.inl ⟨?hw12, ?hy12⟩) (by assumption) ?_
                    case hw12 => rfl
                    case hy12 => (intro w hSw; (try dsimp only at hSw); go_simp; (first | done | with_reducible rfl))
                    try simp only [Act.put, List.setIfInBounds_toArray, List.set_cons_zero, List.set_cons_succ]
                    refine anyD_take (i := 16) (v := ?v13) rfl (by kernel_rfl) (by kernel_rfl) (by kernel_rfl) (by kernel_rfl) (fun _ _ _ h => h) (Or.inl ⟨?hw13, ?hy13⟩) (by assumption) ?_
                    case hw13 => rfl
                    case hy13 => (intro w hSw; (try dsimp only at hSw); go_simp; (first | done | with_reducible rfl))
                    try simp only [Act.put, List.setIfInBounds_toArray, List.set_cons_zero, List.set_cons_succ]
                    refine anyD_take (i := 17) (v := ?v14) rfl (by kernel_rfl) (by kernel_rfl) (by kernel_rfl) (by kernel_rfl) (fun _ _ _ h => h) (Or.inl ⟨?hw14, ?hy14⟩) (by assumption) ?_
                    case hw14 => rfl
                    case hy14 => (intro w hSw; (try dsimp only at hSw); go_simp; (first | done | with_reducible rfl))
                    try simp only [Act.put, List.setIfInBounds_toArray, List.set_cons_zero, List.set_cons_succ]
                    refine anyD_take (i := 18) (v := ?v15) rfl (by kernel_rfl) (by kernel_rfl) (by kernel_rfl) (by kernel_rfl) (fun _ _ _ h => h) (Or.inl ⟨?hw15, ?hy15⟩) (by assumption) ?_
                    case hw15 => rfl
                    case hy15 => (intro w hSw; (try dsimp only at hSw); go_simp; (first | done | with_reducible rfl))
                    try simp only [Act.put, List.setIfInBounds_toArray, List.set_cons_zero, List.set_cons_succ]
                    refine anyD_take (i := 19) (v := ?v16) rfl (by kernel_rfl) (by kernel_rfl) (by kernel_rfl) (by kernel_rfl) (fun _ _ _ h => h) (Or.inl ⟨?hw16, ?hy16⟩) (by assumption) ?_
                    case hw16 => rfl
                    case hy16 => (intro w hSw; (try dsimp only at hSw); go_simp; (first | done | with_reducible rfl))
                    try simp only [Act.put, List.setIfInBounds_toArray, List.set_cons_zero, List.set_cons_succ]
                    refine anyD_ready (rs := [1, 12]) (by kernel_rfl) (by simp) ?_
                    refine AllD.cons (o := _) rfl (fun K hK => ?step17) ?_
                    case step17 =>
                      go_simp
                      have hb1 : Below W.heap.size W (W.alloc (.cells #[] 90)).drew := ((Below.refl W.heap.size W).alloc (Nat.le_refl _) (.cells #[] 90)).drew
                      have o1 : OwnF (W.alloc (.cells #[] 90)).drew W.heap.size (.slice (some ⟨W.heap.size, 0, none⟩) 0 0) [] := (OwnF.none_new W _ (Nat.le_refl _)).later (Below.refl _ _).drew
                      generalize (W.alloc (.cells #[] 90)).drew = X1 at hb1 o1 ⊢
                      refine hK.out _ _ ?hS17 (fun hHeld => ?_)
                      case hS17 => (intro _; (exact (hb1.cell (p := ⟨r, 0, none⟩) HX.out.2.2).trans r2))
                      replace hHeld := hHeld (by decide)
                      clear hK K
                      try simp only [Act.put, List.setIfInBounds_toArray, List.set_cons_zero, List.set_cons_succ]
                      refine anyD_ready (rs := [8, 12]) (by kernel_rfl) (by simp) ?_
                      refine AllD.cons (o := _) rfl (fun K hK => ?step18) ?_
                      case step18 =>
                        rw [if_pos (by rfl)]
                        refine opwp_append_files _ _ rfl W.heap.size (.slice (some ⟨W.heap.size, 0, none⟩) 0 0) [] rfl o1 none 0 0 [] rfl (IsRFiles.nil _) (by have := HX.out.2.1; simp <;> omega) (hb1).size ?_
                        intro v8 X8 o8 g8
                        have hb8 := Below.grownF (hb1) o1 (hb1).size g8
                        rw [List.nil_append] at o8
                        clear g8
                        refine hK.out _ _ ?hS18 (fun hHeld => ?_)
                        case hS18 => (intro _; (exact (hb8.cell (p := ⟨r, 0, none⟩) HX.out.2.2).trans r2))
                        replace hHeld := hHeld (by decide)
                        clear hK K
                        try simp only [Act.put, List.setIfInBounds_toArray, List.set_cons_zero, List.set_cons_succ]
                        refine anyD_ready (rs := [12]) (by kernel_rfl) (by simp) ?_
                        refine AllD.cons (o := _) rfl (fun K hK => ?step19) ?_
                        case step19 =>
                          go_simp
                          have hb12 : Below W.heap.size W (X8.alloc (.cells #[.string tt, .slice sa2 sn2 sc2, .slice none 0 0] 90)) := (hb8).alloc (hb8).size (.cells #[.string tt, .slice sa2 sn2 sc2, .slice none 0 0] 90)
                          have i11 : (X8.alloc (.cells #[.string tt, .slice sa2 sn2 sc2, .slice none 0 0] 90)).heap[X8.heap.size]? = some (.cells #[.string tt, .slice sa2 sn2 sc2, .slice none 0 0] 90 (0, 0)) := heap_alloc_new X8 _
                          have p11 := o8.later ((Below.refl _ X8).alloc (Nat.le_refl _) (.cells #[.string tt, .slice sa2 sn2 sc2, .slice none 0 0] 90))
                          generalize (X8.alloc (.cells #[.string tt, .slice sa2 sn2 sc2, .slice none 0 0] 90)) = X12 at hb12 i11 p11 ⊢
                          refine hK.out _ _ ?hS19 (fun hHeld => ?_)
                          case hS19 => (intro _; (exact (hb12.cell (p := ⟨r, 0, none⟩) HX.out.2.2).trans r2))
                          replace hHeld := hHeld (by decide)
                          clear hK K
                          try simp only [Act.put, List.setIfInBounds_toArray, List.set_cons_zero, List.set_cons_succ]
                          refine anyD_ready (rs := [13]) (by kernel_rfl) (by simp) ?_
                          refine AllD.cons (o := _) rfl (fun K hK => ?step20) ?_
                          case step20 =>
                            rw [if_pos (by rfl)]
                            refine opwp_append_files _ _ rfl W.heap.size v8 ([] : List FileV) rfl p11 (some ⟨X8.heap.size, 0, none⟩) 1 1 [(tt, S0, [])] rfl (IsRFiles.new_safe i11 (HSF.out.later (hb12))) (by have := HX.out.2.1; simp <;> omega) (hb12).size ?_
                            intro v13 X13 o13 g13
                            have hb13 := Below.grownF (hb12) p11 (hb12).size g13
                            clear g13
                            refine hK.out _ _ ?hS20 (fun hHeld => ?_)
                            case hS20 => (intro _; (exact (hb13.cell (p := ⟨r, 0, none⟩) HX.out.2.2).trans r2))
                            replace hHeld := hHeld (by decide)
                            clear hK K
                            try simp only [Act.put, List.setIfInBounds_toArray, List.set_cons_zero, List.set_cons_succ]
                            refine anyD_ready (rs := [20]) (by kernel_rfl) (by simp) ?_
                            refine AllD.cons (o := _) rfl (fun K hK => ?step21) ?_
                            case step21 =>
                              rw [if_pos (by rfl)]
                              refine opwp_append_files _ _ rfl W.heap.size v13 ([] ++ [(tt, S0, [])] : List FileV) rfl o13 none 0 0 [] rfl (IsRFiles.nil _) (by have := HX.out.2.1; simp <;> omega) hb13.size ?_
                              intro v20 X20 o20 g20
                              have hb20 := Below.grownF hb13 o13 hb13.size g20
                              have HO20 := Lib.hid o20
                              obtain ⟨a20, c20, hv20, _⟩ := o20.files
                              obtain ⟨m20, hm20⟩ : ∃ m20, m20 = (([] ++ [(tt, S0, [])] : List FileV) ++ []).length := ⟨_, rfl⟩
                              rw [← hm20] at hv20
                              subst hv20
                              have q20 : X20.cell? ⟨r, 0, none⟩ = some (.slice none 0 0) := (hb20.cell (p := ⟨r, 0, none⟩) HX.out.2.2).trans r2
                              have f20 : X20.frozen? ⟨r, 0, none⟩ = false := HFZ.out X20 hb20
                              clear g20 o20 hm20
                              refine hK.out _ _ ?hS21 (fun hHeld => ?_)
                              case hS21 => (intro _; (exact (hb20.cell (p := ⟨r, 0, none⟩) HX.out.2.2).trans r2))
                              replace hHeld := hHeld (by decide)
                              clear hK K
                              try simp only [Act.put, List.setIfInBounds_toArray, List.set_cons_zero, List.set_cons_succ]
                              refine anyD_ready (rs := [21]) (by kernel_rfl) (by simp) ?_
                              refine AllD.cons (o := _) rfl (fun K hK => ?step22) ?_
                              case step22 =>
                                go_simp
                                refine hK.out _ _ ?hS22 (fun hHeld => ?_)
                                case hS22 => (intro _; (exact (hb20.cell (p := ⟨r, 0, none⟩) HX.out.2.2).trans r2))
                                replace hHeld := hHeld (by decide)
                                clear hK K
                                try simp only [Act.put, List.setIfInBounds_toArray, List.set_cons_zero, List.set_cons_succ]
                                refine anyD_take (i := 22) (v := ?v23) rfl (by kernel_rfl) (by kernel_rfl) (by kernel_rfl) (by kernel_rfl) (fun _ _ _ h => h) (Or.inl ⟨?hw23, ?hy23⟩) (by assumption) ?_
                                case hw23 => rfl
                                case hy23 => (intro w hSw; (try dsimp only at hSw); go_simp; (first | done | with_reducible rfl))
                                try simp only [Act.put, List.setIfInBounds_toArray, List.set_cons_zero, List.set_cons_succ]
                                refine anyD_ready (rs := [23]) (by kernel_rfl) (by simp) ?_
                                refine AllD.cons (o := _) rfl (fun K hK => ?step24) ?_
                                case step24 =>
                                  go_simp
                                  refine hK.out _ _ ?hS24 (fun hHeld => ?_)
                                  case hS24 => exact fun h => absurd rfl h
                                  clear hK K
                                  try simp only [Act.put, List.setIfInBounds_toArray, List.set_cons_zero, List.set_cons_succ]
                                  refine anyD_done (by kernel_rfl) ?_ _
                                  have HE := Lib.hid (HINS.out _ _ hb20 HO20.out)
                                  go_wp2_with fail
                                  all_goals
                                    go_ret
                                    exact HE.out
                                exact AllD.nil
                              exact AllD.nil
                            exact AllD.nil
                          exact AllD.nil
                        exact AllD.nil
                      refine AllD.cons (o := _) rfl (fun K hK => ?step25) ?_
                      case step25 =>
                        go_simp
                        have hb12 : Below W.heap.size W (X1.alloc (.cells #[.string tt, .slice sa2 sn2 sc2, .slice none 0 0] 90)) := (hb1).alloc (hb1).size (.cells #[.string tt, .slice sa2 sn2 sc2, .slice none 0 0] 90)
                        have i11 : (X1.alloc (.cells #[.string tt, .slice sa2 sn2 sc2, .slice none 0 0] 90)).heap[X1.heap.size]? = some (.cells #[.string tt, .slice sa2 sn2 sc2, .slice none 0 0] 90 (0, 0)) := heap_alloc_new X1 _
                        have p11 := o1.later ((Below.refl _ X1).alloc (Nat.le_refl _) (.cells #[.string tt, .slice sa2 sn2 sc2, .slice none 0 0] 90))
                        generalize (X1.alloc (.cells #[.string tt, .slice sa2 sn2 sc2, .slice none 0 0] 90)) = X12 at hb12 i11 p11 ⊢
                        refine hK.out _ _ ?hS25 (fun hHeld => ?_)
                        case hS25 => (intro _; (exact (hb12.cell (p := ⟨r, 0, none⟩) HX.out.2.2).trans r2))
                        replace hHeld := hHeld (by decide)
                        clear hK K
                        try simp only [Act.put, List.setIfInBounds_toArray, List.set_cons_zero, List.set_cons_succ]
                        refine anyD_ready (rs := [8]) (by kernel_rfl) (by simp) ?_
                        refine AllD.cons (o := _) rfl (fun K hK => ?step26) ?_
                        case step26 =>
                          have NE := Lib.hid (show W.heap.size < X1.heap.size from (o1.lt rfl).2)
                          rw [if_pos (by rfl)]
                          refine opwp_append_files _ _ rfl W.heap.size (.slice (some ⟨W.heap.size, 0, none⟩) 0 0) [] rfl p11 none 0 0 [] rfl (IsRFiles.nil _) (by have := HX.out.2.1; simp <;> omega) (hb12).size ?_
                          intro v8 X8 o8 g8
                          have hb8 := Below.grownF (hb12) p11 (hb12).size g8
                          rw [List.nil_append] at o8
                          have ne8 : some X1.heap.size ≠ (Value.slice (some ⟨W.heap.size, 0, none⟩) 0 0).ownBlock := by
                            have h1 := heap_lt i11
                            have h2 := NE.out
                            intro e
                            simp only [Value.ownBlock, Option.some.injEq] at e
                            omega
                          have k11 := (g8.block X1.heap.size (heap_lt i11) ne8).trans i11
                          clear g8
                          refine hK.out _ _ ?hS26 (fun hHeld => ?_)
                          case hS26 => (intro _; (exact (hb8.cell (p := ⟨r, 0, none⟩) HX.out.2.2).trans r2))
                          replace hHeld := hHeld (by decide)
                          clear hK K
                          try simp only [Act.put, List.setIfInBounds_toArray, List.set_cons_zero, List.set_cons_succ]
                          refine anyD_ready (rs := [13]) (by kernel_rfl) (by simp) ?_
                          refine AllD.cons (o := _) rfl (fun K hK => ?step27) ?_
                          case step27 =>
                            rw [if_pos (by rfl)]
                            refine opwp_append_files _ _ rfl W.heap.size v8 ([] : List FileV) rfl o8 (some ⟨X1.heap.size, 0, none⟩) 1 1 [(tt, S0, [])] rfl (IsRFiles.new_safe k11 (HSF.out.later (hb8))) (by have := HX.out.2.1; simp <;> omega) (hb8).size ?_
                            intro v13 X13 o13 g13
                            have hb13 := Below.grownF (hb8) o8 (hb8).size g13
                            clear g13
                            refine hK.out _ _ ?hS27 (fun hHeld => ?_)
                            case hS27 => (intro _; (exact (hb13.cell (p := ⟨r, 0, none⟩) HX.out.2.2).trans r2))
                            replace hHeld := hHeld (by decide)
                            clear hK K
                            try simp only [Act.put, List.setIfInBounds_toArray, List.set_cons_zero, List.set_cons_succ]
                            refine anyD_ready (rs := [20]) (by kernel_rfl) (by simp) ?_
                            refine AllD.cons (o := _) rfl (fun K hK => ?step28) ?_
                            case step28 =>
                              rw [if_pos (by rfl)]
                              refine opwp_append_files _ _ rfl W.heap.size v13 ([] ++ [(tt, S0, [])] : List FileV) rfl o13 none 0 0 [] rfl (IsRFiles.nil _) (by have := HX.out.2.1; simp <;> omega) hb13.size ?_
                              intro v20 X20 o20 g20
                              have hb20 := Below.grownF hb13 o13 hb13.size g20
                              have HO20 := Lib.hid o20
                              obtain ⟨a20, c20, hv20, _⟩ := o20.files
                              obtain ⟨m20, hm20⟩ : ∃ m20, m20 = (([] ++ [(tt, S0, [])] : List FileV) ++ []).length := ⟨_, rfl⟩
                              rw [← hm20] at hv20
                              subst hv20
                              have q20 : X20.cell? ⟨r, 0, none⟩ = some (.slice none 0 0) := (hb20.cell (p := ⟨r, 0, none⟩) HX.out.2.2).trans r2
                              have f20 : X20.frozen? ⟨r, 0, none⟩ = false := HFZ.out X20 hb20
                              clear g20 o20 hm20
                              refine hK.out _ _ ?hS28 (fun hHeld => ?_)
                              case hS28 => (intro _; (exact (hb20.cell (p := ⟨r, 0, none⟩) HX.out.2.2).trans r2))
                              replace hHeld := hHeld (by decide)
                              clear hK K
                              try simp only [Act.put, List.setIfInBounds_toArray, List.set_cons_zero, List.set_cons_succ]
                              refine anyD_ready (rs := [21]) (by kernel_rfl) (by simp) ?_
                              refine AllD.cons (o := _) rfl (fun K hK => ?step29) ?_
                              case step29 =>
                                go_simp
                                refine hK.out _ _ ?hS29 (fun hHeld => ?_)
                                case hS29 => (intro _; (exact (hb20.cell (p := ⟨r, 0, none⟩) HX.out.2.2).trans r2))
                                replace hHeld := hHeld (by decide)
                                clear hK K
                                try simp only [Act.put, List.setIfInBounds_toArray, List.set_cons_zero, List.set_cons_succ]
                                refine anyD_take (i := 22) (v := ?v30) rfl (by kernel_rfl) (by kernel_rfl) (by kernel_rfl) (by kernel_rfl) (fun _ _ _ h => h) (Or.inl ⟨?hw30, ?hy30⟩) (by assumption) ?_
                                case hw30 => rfl
                                case hy30 => (intro w hSw; (try dsimp only at hSw); go_simp; (first | done | with_reducible rfl))
                                try simp only [Act.put, List.setIfInBounds_toArray, List.set_cons_zero, List.set_cons_succ]
                                refine anyD_ready (rs := [23]) (by kernel_rfl) (by simp) ?_
                                refine AllD.cons (o := _) rfl (fun K hK => ?step31) ?_
                                case step31 =>
                                  go_simp
                                  refine hK.out _ _ ?hS31 (fun hHeld => ?_)
                                  case hS31 => exact fun h => absurd rfl h
                                  clear hK K
                                  try simp only [Act.put, List.setIfInBounds_toArray, List.set_cons_zero, List.set_cons_succ]
                                  refine anyD_done (by kernel_rfl) ?_ _
                                  have HE := Lib.hid (HINS.out _ _ hb20 HO20.out)
                                  go_wp2_with fail
                                  all_goals
                                    go_ret
                                    exact HE.out
                                exact AllD.nil
                              exact AllD.nil
                            exact AllD.nil
                          exact AllD.nil
                        exact AllD.nil
                      exact AllD.nil
                    refine AllD.cons (o := _) rfl (fun K hK => ?step32) ?_
                    case step32 =>
                      go_simp
                      have hb12 : Below W.heap.size W (W.alloc (.cells #[.string tt, .slice sa2 sn2 sc2, .slice none 0 0] 90)).drew := ((Below.refl W.heap.size W).alloc (Nat.le_refl _) (.cells #[.string tt, .slice sa2 sn2 sc2, .slice none 0 0] 90)).drew
                      have i11 : (W.alloc (.cells #[.string tt, .slice sa2 sn2 sc2, .slice none 0 0] 90)).drew.heap[W.heap.size]? = some (.cells #[.string tt, .slice sa2 sn2 sc2, .slice none 0 0] 90 (0, 0)) := heap_alloc_new W _
                      generalize (W.alloc (.cells #[.string tt, .slice sa2 sn2 sc2, .slice none 0 0] 90)).drew = X12 at hb12 i11 ⊢
                      refine hK.out _ _ ?hS32 (fun hHeld => ?_)
                      case hS32 => (intro _; (exact (hb12.cell (p := ⟨r, 0, none⟩) HX.out.2.2).trans r2))
                      replace hHeld := hHeld (by decide)
                      clear hK K
                      try simp only [Act.put, List.setIfInBounds_toArray, List.set_cons_zero, List.set_cons_succ]
                      refine anyD_ready (rs := [1]) (by kernel_rfl) (by simp) ?_
                      refine AllD.cons (o := _) rfl (fun K hK => ?step33) ?_
                      case step33 =>
                        go_simp
                        have hb1 : Below W.heap.size W (X12.alloc (.cells #[] 90)) := (hb12).alloc (hb12).size (.cells #[] 90)
                        have o1 : OwnF (X12.alloc (.cells #[] 90)) W.heap.size (.slice (some ⟨X12.heap.size, 0, none⟩) 0 0) [] := (OwnF.none_new X12 _ (hb12).size).later (Below.refl _ _)
                        have j11 : (X12.alloc (.cells #[] 90)).heap[W.heap.size]? = some (.cells #[.string tt, .slice sa2 sn2 sc2, .slice none 0 0] 90 (0, 0)) := (heap_alloc_old' X12 _ (heap_lt i11)).trans i11
                        generalize (X12.alloc (.cells #[] 90)) = X1 at hb1 o1 j11 ⊢
                        refine hK.out _ _ ?hS33 (fun hHeld => ?_)
                        case hS33 => (intro _; (exact (hb1.cell (p := ⟨r, 0, none⟩) HX.out.2.2).trans r2))
                        replace hHeld := hHeld (by decide)
                        clear hK K
                        try simp only [Act.put, List.setIfInBounds_toArray, List.set_cons_zero, List.set_cons_succ]
                        refine anyD_ready (rs := [8]) (by kernel_rfl) (by simp) ?_
                        refine AllD.cons (o := _) rfl (fun K hK => ?step34) ?_
                        case step34 =>
                          have NE := Lib.hid (show W.heap.size < X12.heap.size from heap_lt i11)
                          rw [if_pos (by rfl)]
                          refine opwp_append_files _ _ rfl W.heap.size (.slice (some ⟨X12.heap.size, 0, none⟩) 0 0) [] rfl o1 none 0 0 [] rfl (IsRFiles.nil _) (by have := HX.out.2.1; simp <;> omega) (hb1).size ?_
                          intro v8 X8 o8 g8
                          have hb8 := Below.grownF (hb1) o1 (hb1).size g8
                          rw [List.nil_append] at o8
                          have ne8 : some W.heap.size ≠ (Value.slice (some ⟨X12.heap.size, 0, none⟩) 0 0).ownBlock := by
                            have h1 := heap_lt j11
                            have h2 := NE.out
                            intro e
                            simp only [Value.ownBlock, Option.some.injEq] at e
                            omega
                          have k11 := (g8.block W.heap.size (heap_lt j11) ne8).trans j11
                          clear g8
                          refine hK.out _ _ ?hS34 (fun hHeld => ?_)
                          case hS34 => (intro _; (exact (hb8.cell (p := ⟨r, 0, none⟩) HX.out.2.2).trans r2))
                          replace hHeld := hHeld (by decide)
                          clear hK K
                          try simp only [Act.put, List.setIfInBounds_toArray, List.set_cons_zero, List.set_cons_succ]
                          refine anyD_ready (rs := [13]) (by kernel_rfl) (by simp) ?_
                          refine AllD.cons (o := _) rfl (fun K hK => ?step35) ?_
                          case step35 =>
                            rw [if_pos (by rfl)]
                            refine opwp_append_files _ _ rfl W.heap.size v8 ([] : List FileV) rfl o8 (some ⟨W.heap.size, 0, none⟩) 1 1 [(tt, S0, [])] rfl (IsRFiles.new_safe k11 (HSF.out.later (hb8))) (by have := HX.out.2.1; simp <;> omega) (hb8).size ?_
                            intro v13 X13 o13 g13
                            have hb13 := Below.grownF (hb8) o8 (hb8).size g13
                            clear g13
                            refine hK.out _ _ ?hS35 (fun hHeld => ?_)
                            case hS35 => (intro _; (exact (hb13.cell (p := ⟨r, 0, none⟩) HX.out.2.2).trans r2))
                            replace hHeld := hHeld (by decide)
                            clear hK K
                            try simp only [Act.put, List.setIfInBounds_toArray, List.set_cons_zero, List.set_cons_succ]
                            refine anyD_ready (rs := [20]) (by kernel_rfl) (by simp) ?_
                            refine AllD.cons (o := _) rfl (fun K hK => ?step36) ?_
                            case step36 =>
                              rw [if_pos (by rfl)]
                              refine opwp_append_files _ _ rfl W.heap.size v13 ([] ++ [(tt, S0, [])] : List FileV) rfl o13 none 0 0 [] rfl (IsRFiles.nil _) (by have := HX.out.2.1; simp <;> omega) hb13.size ?_
                              intro v20 X20 o20 g20
                              have hb20 := Below.grownF hb13 o13 hb13.size g20
                              have HO20 := Lib.hid o20
                              obtain ⟨a20, c20, hv20, _⟩ := o20.files
                              obtain ⟨m20, hm20⟩ : ∃ m20, m20 = (([] ++ [(tt, S0, [])] : List FileV) ++ []).length := ⟨_, rfl⟩
                              rw [← hm20] at hv20
                              subst hv20
                              have q20 : X20.cell? ⟨r, 0, none⟩ = some (.slice none 0 0) := (hb20.cell (p := ⟨r, 0, none⟩) HX.out.2.2).trans r2
                              have f20 : X20.frozen? ⟨r, 0, none⟩ = false := HFZ.out X20 hb20
                              clear g20 o20 hm20
                              refine hK.out _ _ ?hS36 (fun hHeld => ?_)
                              case hS36 => (intro _; (exact (hb20.cell (p := ⟨r, 0, none⟩) HX.out.2.2).trans r2))
                              replace hHeld := hHeld (by decide)
                              clear hK K
                              try simp only [Act.put, List.setIfInBounds_toArray, List.set_cons_zero, List.set_cons_succ]
                              refine anyD_ready (rs := [21]) (by kernel_rfl) (by simp) ?_
                              refine AllD.cons (o := _) rfl (fun K hK => ?step37) ?_
                              case step37 =>
                                go_simp
                                refine hK.out _ _ ?hS37 (fun hHeld => ?_)
                                case hS37 => (intro _; (exact (hb20.cell (p := ⟨r, 0, none⟩) HX.out.2.2).trans r2))
                                replace hHeld := hHeld (by decide)
                                clear hK K
                                try simp only [Act.put, List.setIfInBounds_toArray, List.set_cons_zero, List.set_cons_succ]
                                refine anyD_take (i := 22) (v := ?v38) rfl (by kernel_rfl) (by kernel_rfl) (by kernel_rfl) (by kernel_rfl) (fun _ _ _ h => h) (Or.inl ⟨?hw38, ?hy38⟩) (by assumption) ?_
                                case hw38 => rfl
                                case hy38 => (intro w hSw; (try dsimp only at hSw); go_simp; (first | done | with_reducible rfl))
                                try simp only [Act.put, List.setIfInBounds_toArray, List.set_cons_zero, List.set_cons_succ]
                                refine anyD_ready (rs := [23]) (by kernel_rfl) (by simp) ?_
                                refine AllD.cons (o := _) rfl (fun K hK => ?step39) ?_
                                case step39 =>
                                  go_simp
                                  refine hK.out _ _ ?hS39 (fun hHeld => ?_)
                                  case hS39 => exact fun h => absurd rfl h
                                  clear hK K
                                  try simp only [Act.put, List.setIfInBounds_toArray, List.set_cons_zero, List.set_cons_succ]
                                  refine anyD_done (by kernel_rfl) ?_ _
                                  have HE := Lib.hid (HINS.out _ _ hb20 HO20.out)
                                  go_wp2_with fail
                                  all_goals
                                    go_ret
                                    exact HE.out
                                exact AllD.nil
                              exact AllD.nil
                            exact AllD.nil
                          exact AllD.nil
                        exact AllD.nil
                      exact AllD.nil
                    exact AllD.nil
                  · have hk0 : (0 : Int) ≤ (k : Int) := by omega
                    have hk1 : (k : Int) ≤ (cap3 : Int) := by omega
                    have hk2 : (k : Int) ≤ (n3 : Int) := by omega
                    have HX : Hid ((IsRFiles W (some ⟨g, 0, none⟩) k cap3 (R2.take k) ∧ IsRFiles W (if cap3 = k then some ⟨g, 0, none⟩ else some ⟨g, k * 3, none⟩) (n3 - k) (cap3 - k) (R2.drop k)) ∧ R2.length ≤ 1000000 ∧ r < W.heap.size) := Lib.hid ⟨⟨HF3.out.take hkn, HF3.out.dropped hkn⟩, HR2L.out, HRL.out⟩
                    have HINS : Hid (∀ (X : World) (v : Value), Below W.heap.size W X → OwnF X W.heap.size v (R2.take k ++ [(tt, S0, [])] ++ R2.drop k) → RRenR s tt r base R N fz lf false w (.returned (.int .i64 0)) (X.setCell ⟨r, 0, none⟩ v)) := Lib.hid (fun X v hb ho => HK.out _ (HW.out.list hb ho).1 (HW.out.list hb ho).2)
                    clear hins
                    go_upto_region 22 with fail
                    refine wp_region_D 23 (S := fun w' => w'.cell? ⟨r, 0, none⟩ = some (.slice (some ⟨g, 0, none⟩) n3 cap3)) (by kernel_rfl) ?hS0 (fun hHeld => ?_)
                    case hS0 => (exact ((Below.refl W.heap.size W).drew.cell (p := ⟨r, 0, none⟩) HX.out.2.2).trans r2)
                    refine anyD_take (i := 0) (v := ?v1001) rfl (by kernel_rfl) (by kernel_rfl) (by kernel_rfl) (by kernel_rfl) (fun _ _ _ h => h) (Or.inl ⟨?hw1001, ?hy1001⟩) (by assumption) ?_
                    case hw1001 => rfl
                    case hy1001 => (intro w hSw; (try dsimp only at hSw); go_simp; (first | done | with_reducible rfl))
                    try simp only [Act.put, List.setIfInBounds_toArray, List.set_cons_zero, List.set_cons_succ]
                    refine anyD_take (i := 2) (v := ?v1002) rfl (by kernel_rfl) (by kernel_rfl) (by kernel_rfl) (by kernel_rfl) (fun _ _ _ h => h) (Or.inl ⟨?hw1002, ?hy1002⟩) (by assumption) ?_
                    case hw1002 => rfl
                    case hy1002 => (intro w hSw; (try dsimp only at hSw); go_simp; (first | done | with_reducible rfl))
                    try simp only [Act.put, List.setIfInBounds_toArray, List.set_cons_zero, List.set_cons_succ]
                    refine anyD_take (i := 3) (v := ?v1003) rfl (by kernel_rfl) (by kernel_rfl) (by kernel_rfl) (by kernel_rfl) (fun _ _ _ h => h) (Or.inl ⟨?hw1003, ?hy1003⟩) (by assumption) ?_
                    case hw1003 => rfl
                    case hy1003 => (intro w hSw; (try dsimp only at hSw); go_simp; (first | done | with_reducible rfl))
                    try simp only [Act.put, List.setIfInBounds_toArray, List.set_cons_zero, List.set_cons_succ]
                    refine anyD_take (i := 4) (v := ?v1004) rfl (by kernel_rfl) (by kernel_rfl) (by kernel_rfl) (by kernel_rfl) (fun _ _ _ h => h) (Or.inl ⟨?hw1004, ?hy1004⟩) (by assumption) ?_
                    case hw1004 => rfl
                    case hy1004 => (intro w hSw; (try dsimp only at hSw); go_simp; (first | done | with_reducible rfl))
                    try simp only [Act.put, List.setIfInBounds_toArray, List.set_cons_zero, List.set_cons_succ]
                    refine anyD_take (i := 5) (v := ?v1005) rfl (by kernel_rfl) (by kernel_rfl) (by kernel_rfl) (by kernel_rfl) (fun _ _ _ h => h) (Or.inl ⟨?hw1005, ?hy1005⟩) (by assumption) ?_
                    case hw1005 => rfl
                    case hy1005 => (intro w hSw; (try dsimp only at hSw); go_simp; (first | done | with_reducible rfl))
                    try simp only [Act.put, List.setIfInBounds_toArray, List.set_cons_zero, List.set_cons_succ]
                    refine anyD_take (i := 6) (v := ?v1006) rfl (by kernel_rfl) (by kernel_rfl) (by kernel_rfl) (by kernel_rfl) (fun _ _ _ h => h) (Or.inl ⟨?hw1006, ?hy1006⟩) (by assumption) ?_
                    case hw1006 => rfl
                    case hy1006 => (intro w hSw; (try dsimp only at hSw); go_simp; (first | done | with_reducible rfl))
                    try simp only [Act.put, List.setIfInBounds_toArray, List.set_cons_zero, List.set_cons_succ]
                    refine anyD_take (i := 7) (v := ?v1007) rfl (by kernel_rfl) (by kernel_rfl) (by kernel_rfl) (by kernel_rfl) (fun _ _ _ h => h) (Or.inl ⟨?hw1007, ?hy1007⟩) (by assumption) ?_
                    case hw1007 => rfl
                    case hy1007 => (intro w hSw; (try dsimp only at hSw); go_simp; (first | done | with_reducible rfl))
                    try simp only [Act.put, List.setIfInBounds_toArray, List.set_cons_zero, List.set_cons_succ]
                    refine anyD_take (i := 9) (v := ?v1008) rfl (by kernel_rfl) (by kernel_rfl) (by kernel_rfl) (by kernel_rfl) (fun _ _ _ h => h) (Or.inl ⟨?hw1008, ?hy1008⟩) (by assumption) ?_
                    case hw1008 => rfl
                    case hy1008 => (intro w hSw; (try dsimp only at hSw); go_simp; (first | done | with_reducible rfl))
                    try simp only [Act.put, List.setIfInBounds_toArray, List.set_cons_zero, List.set_cons_succ]
                    refine anyD_take (i := 10) (v := ?v1009) rfl (by kernel_rfl) (by kernel_rfl) (by kernel_rfl) (by kernel_rfl) (fun _ _ _ h => h) (Or.inl ⟨?hw1009, ?hy1009⟩) (by assumption) ?_
                    case hw1009 => rfl
                    case hy1009 => (intro w hSw; (try dsimp only at hSw); go_simp; (first | done | with_reducible rfl))
                    try simp only [Act.put, List.setIfInBounds_toArray, List.set_cons_zero, List.set_cons_succ]
                    refine anyD_take (i := 11) (v := ?v1010) rfl (by kernel_rfl) (by kernel_rfl) (by kernel_rfl) (by kernel_rfl) (fun _ _ _ h => h) (Or.inl ⟨?hw1010, ?hy1010⟩) (by assumption) ?_
                    case hw1010 => rfl
                    case hy1010 => (intro w hSw; (try dsimp only at hSw); go_simp; (first | done | with_reducible rfl))
                    try simp only [Act.put, List.setIfInBounds_toArray, List.set_cons_zero, List.set_cons_succ]
                    refine anyD_take (i := 14) (v := ?v1011) rfl (by kernel_rfl) (by kernel_rfl) (by kernel_rfl) (by kernel_rfl) (fun _ _ _ h => h) (Or.inl ⟨?hw1011, ?hy1011⟩) (by assumption) ?_
                    case hw1011 => rfl
                    case hy1011 => (intro w hSw; (try dsimp only at hSw); go_simp; (first | done | with_reducible rfl))
                    try simp only [Act.put, List.setIfInBounds_toArray, List.set_cons_zero, List.set_cons_succ]
                    refine anyD_take (i := 15) (v := ?v1012) rfl (by kernel_rfl) (by kernel_rfl) (by kernel_rfl) (by kernel_rfl) (fun _ _ _ h => h) (Or.inl ⟨?hw1012, ?hy1012⟩) (by assumption) ?_
                    case hw1012 => rfl
                    case hy1012 => (intro w hSw; (try dsimp only at hSw); go_simp; (first | done | with_reducible rfl))
                    try simp only [Act.put, List.setIfInBounds_toArray, List.set_cons_zero, List.set_cons_succ]
                    refine anyD_take (i := 16) (v := ?v1013) rfl (by kernel_rfl) (by kernel_rfl) (by kernel_rfl) (by kernel_rfl) (fun _ _ _ h => h) (Or.inl ⟨?hw1013, ?hy1013⟩) (by assumption) ?_
                    case hw1013 => rfl
                    case hy1013 => (intro w hSw; (try dsimp only at hSw); go_simp; (first | done | with_reducible rfl))
                    try simp only [Act.put, List.setIfInBounds_toArray, List.set_cons_zero, List.set_cons_succ]
                    refine anyD_take (i := 17) (v := ?v1014) rfl (by kernel_rfl) (by kernel_rfl) (by kernel_rfl) (by kernel_rfl) (fun _ _ _ h => h) (Or.inl ⟨?hw1014, ?hy1014⟩) (by assumption) ?_
                    case hw1014 => rfl
                    case hy1014 => (intro w hSw; (try dsimp only at hSw); go_simp; (first | done | with_reducible rfl))
                    try simp only [Act.put, List.setIfInBounds_toArray, List.set_cons_zero, List.set_cons_succ]
                    refine anyD_take (i := 18) (v := ?v1015) rfl (by kernel_rfl) (by kernel_rfl) (by kernel_rfl) (by kernel_rfl) (fun _ _ _ h => h) (Or.inl ⟨?hw1015, ?hy1015⟩) (by assumption) ?_
                    case hw1015 => rfl
                    case hy1015 => (intro w hSw; (try dsimp only at hSw); go_simp; (first | done | with_reducible rfl))
                    try simp only [Act.put, List.setIfInBounds_toArray, List.set_cons_zero, List.set_cons_succ]
                    refine anyD_take (i := 19) (v := ?v1016) rfl (by kernel_rfl) (by kernel_rfl) (by kernel_rfl) (by kernel_rfl) (fun _ _ _ h => h) (Or.inl ⟨?hw1016, ?hy1016⟩) (by assumption) ?_
                    case hw1016 => rfl
                    case hy1016 => (intro w hSw; (try dsimp only at hSw); go_simp; (first | done | with_reducible rfl))
                    try simp only [Act.put, List.setIfInBounds_toArray, List.set_cons_zero, List.set_cons_succ]
                    refine anyD_ready (rs := [1, 12]) (by kernel_rfl) (by simp) ?_
                    refine AllD.cons (o := _) rfl (fun K hK => ?step1017) ?_
                    case step1017 =>
                      go_simp
                      have hb1 : Below W.heap.size W (W.alloc (.cells #[] 90)).drew := ((Below.refl W.heap.size W).alloc (Nat.le_refl _) (.cells #[] 90)).drew
                      have o1 : OwnF (W.alloc (.cells #[] 90)).drew W.heap.size (.slice (some ⟨W.heap.size, 0, none⟩) 0 0) [] := (OwnF.none_new W _ (Nat.le_refl _)).later (Below.refl _ _).drew
                      generalize (W.alloc (.cells #[] 90)).drew = X1 at hb1 o1 ⊢
                      refine hK.out _ _ ?hS1017 (fun hHeld => ?_)
                      case hS1017 => (intro _; (exact (hb1.cell (p := ⟨r, 0, none⟩) HX.out.2.2).trans r2))
                      replace hHeld := hHeld (by decide)
                      clear hK K
                      try simp only [Act.put, List.setIfInBounds_toArray, List.set_cons_zero, List.set_cons_succ]
                      refine anyD_ready (rs := [8, 12]) (by kernel_rfl) (by simp) ?_
                      refine AllD.cons (o := _) rfl (fun K hK => ?step1018) ?_
                      case step1018 =>
                        rw [if_pos (by rfl)]
                        refine opwp_append_files _ _ rfl W.heap.size (.slice (some ⟨W.heap.size, 0, none⟩) 0 0) [] rfl o1 (some ⟨g, 0, none⟩) k cap3 (R2.take k) rfl (HX.out.1.1.later (hb1)) (by have := HX.out.2.1; simp <;> omega) (hb1).size ?_
                        intro v8 X8 o8 g8
                        have hb8 := Below.grownF (hb1) o1 (hb1).size g8
                        rw [List.nil_append] at o8
                        clear g8
                        refine hK.out _ _ ?hS1018 (fun hHeld => ?_)
                        case hS1018 => (intro _; (exact (hb8.cell (p := ⟨r, 0, none⟩) HX.out.2.2).trans r2))
                        replace hHeld := hHeld (by decide)
                        clear hK K
                        try simp only [Act.put, List.setIfInBounds_toArray, List.set_cons_zero, List.set_cons_succ]
                        refine anyD_ready (rs := [12]) (by kernel_rfl) (by simp) ?_
                        refine AllD.cons (o := _) rfl (fun K hK => ?step1019) ?_
                        case step1019 =>
                          go_simp
                          have hb12 : Below W.heap.size W (X8.alloc (.cells #[.string tt, .slice sa2 sn2 sc2, .slice none 0 0] 90)) := (hb8).alloc (hb8).size (.cells #[.string tt, .slice sa2 sn2 sc2, .slice none 0 0] 90)
                          have i11 : (X8.alloc (.cells #[.string tt, .slice sa2 sn2 sc2, .slice none 0 0] 90)).heap[X8.heap.size]? = some (.cells #[.string tt, .slice sa2 sn2 sc2, .slice none 0 0] 90 (0, 0)) := heap_alloc_new X8 _
                          have p11 := o8.later ((Below.refl _ X8).alloc (Nat.le_refl _) (.cells #[.string tt, .slice sa2 sn2 sc2, .slice none 0 0] 90))
                          generalize (X8.alloc (.cells #[.string tt, .slice sa2 sn2 sc2, .slice none 0 0] 90)) = X12 at hb12 i11 p11 ⊢
                          refine hK.out _ _ ?hS1019 (fun hHeld => ?_)
                          case hS1019 => (intro _; (exact (hb12.cell (p := ⟨r, 0, none⟩) HX.out.2.2).trans r2))
                          replace hHeld := hHeld (by decide)
                          clear hK K
                          try simp only [Act.put, List.setIfInBounds_toArray, List.set_cons_zero, List.set_cons_succ]
                          refine anyD_ready (rs := [13]) (by kernel_rfl) (by simp) ?_
                          refine AllD.cons (o := _) rfl (fun K hK => ?step1020) ?_
                          case step1020 =>
                            rw [if_pos (by rfl)]
                            refine opwp_append_files _ _ rfl W.heap.size v8 (R2.take k) rfl p11 (some ⟨X8.heap.size, 0, none⟩) 1 1 [(tt, S0, [])] rfl (IsRFiles.new_safe i11 (HSF.out.later (hb12))) (by have := HX.out.2.1; simp <;> omega) (hb12).size ?_
                            intro v13 X13 o13 g13
                            have hb13 := Below.grownF (hb12) p11 (hb12).size g13
                            clear g13
                            refine hK.out _ _ ?hS1020 (fun hHeld => ?_)
                            case hS1020 => (intro _; (exact (hb13.cell (p := ⟨r, 0, none⟩) HX.out.2.2).trans r2))
                            replace hHeld := hHeld (by decide)
                            clear hK K
                            try simp only [Act.put, List.setIfInBounds_toArray, List.set_cons_zero, List.set_cons_succ]
                            refine anyD_ready (rs := [20]) (by kernel_rfl) (by simp) ?_
                            refine AllD.cons (o := _) rfl (fun K hK => ?step1021) ?_
                            case step1021 =>
                              rw [if_pos (by rfl)]
                              refine opwp_append_files _ _ rfl W.heap.size v13 (R2.take k ++ [(tt, S0, [])]) rfl o13 _ _ _ (R2.drop k) rfl (HX.out.1.2.later hb13) (by have := HX.out.2.1; simp <;> omega) hb13.size ?_
                              intro v20 X20 o20 g20
                              have hb20 := Below.grownF hb13 o13 hb13.size g20
                              have HO20 := Lib.hid o20
                              obtain ⟨a20, c20, hv20, _⟩ := o20.files
                              obtain ⟨m20, hm20⟩ : ∃ m20, m20 = ((R2.take k ++ [(tt, S0, [])]) ++ (R2.drop k)).length := ⟨_, rfl⟩
                              rw [← hm20] at hv20
                              subst hv20
                              have q20 : X20.cell? ⟨r, 0, none⟩ = some (.slice (some ⟨g, 0, none⟩) n3 cap3) := (hb20.cell (p := ⟨r, 0, none⟩) HX.out.2.2).trans r2
                              have f20 : X20.frozen? ⟨r, 0, none⟩ = false := HFZ.out X20 hb20
                              clear g20 o20 hm20
                              refine hK.out _ _ ?hS1021 (fun hHeld => ?_)
                              case hS1021 => (intro _; (exact (hb20.cell (p := ⟨r, 0, none⟩) HX.out.2.2).trans r2))
                              replace hHeld := hHeld (by decide)
                              clear hK K
                              try simp only [Act.put, List.setIfInBounds_toArray, List.set_cons_zero, List.set_cons_succ]
                              refine anyD_ready (rs := [21]) (by kernel_rfl) (by simp) ?_
                              refine AllD.cons (o := _) rfl (fun K hK => ?step1022) ?_
                              case step1022 =>
                                go_simp
                                refine hK.out _ _ ?hS1022 (fun hHeld => ?_)
                                case hS1022 => (intro _; (exact (hb20.cell (p := ⟨r, 0, none⟩) HX.out.2.2).trans r2))
                                replace hHeld := hHeld (by decide)
                                clear hK K
                                try simp only [Act.put, List.setIfInBounds_toArray, List.set_cons_zero, List.set_cons_succ]
                                refine anyD_take (i := 22) (v := ?v1023) rfl (by kernel_rfl) (by kernel_rfl) (by kernel_rfl) (by kernel_rfl) (fun _ _ _ h => h) (Or.inl ⟨?hw1023, ?hy1023⟩) (by assumption) ?_
                                case hw1023 => rfl
                                case hy1023 => (intro w hSw; (try dsimp only at hSw); go_simp; (first | done | with_reducible rfl))
                                try simp only [Act.put, List.setIfInBounds_toArray, List.set_cons_zero, List.set_cons_succ]
                                refine anyD_ready (rs := [23]) (by kernel_rfl) (by simp) ?_
                                refine AllD.cons (o := _) rfl (fun K hK => ?step1024) ?_
                                case step1024 =>
                                  go_simp
                                  refine hK.out _ _ ?hS1024 (fun hHeld => ?_)
                                  case hS1024 => exact fun h => absurd rfl h
                                  clear hK K
                                  try simp only [Act.put, List.setIfInBounds_toArray, List.set_cons_zero, List.set_cons_succ]
                                  refine anyD_done (by kernel_rfl) ?_ _
                                  have HE := Lib.hid (HINS.out _ _ hb20 HO20.out)
                                  go_wp2_with fail
                                  all_goals
                                    go_ret
                                    exact HE.out
                                exact AllD.nil
                              exact AllD.nil
                            exact AllD.nil
                          exact AllD.nil
                        exact AllD.nil
                      refine AllD.cons (o := _) rfl (fun K hK => ?step1025) ?_
                      case step1025 =>
                        go_simp
                        have hb12 : Below W.heap.size W (X1.alloc (.cells #[.string tt, .slice sa2 sn2 sc2, .slice none 0 0] 90)) := (hb1).alloc (hb1).size (.cells #[.string tt, .slice sa2 sn2 sc2, .slice none 0 0] 90)
                        have i11 : (X1.alloc (.cells #[.string tt, .slice sa2 sn2 sc2, .slice none 0 0] 90)).heap[X1.heap.size]? = some (.cells #[.string tt, .slice sa2 sn2 sc2, .slice none 0 0] 90 (0, 0)) := heap_alloc_new X1 _
                        have p11 := o1.later ((Below.refl _ X1).alloc (Nat.le_refl _) (.cells #[.string tt, .slice sa2 sn2 sc2, .slice none 0 0] 90))
                        generalize (X1.alloc (.cells #[.string tt, .slice sa2 sn2 sc2, .slice none 0 0] 90)) = X12 at hb12 i11 p11 ⊢
                        refine hK.out _ _ ?hS1025 (fun hHeld => ?_)
                        case hS1025 => (intro _; (exact (hb12.cell (p := ⟨r, 0, none⟩) HX.out.2.2).trans r2))
                        replace hHeld := hHeld (by decide)
                        clear hK K
                        try simp only [Act.put, List.setIfInBounds_toArray, List.set_cons_zero, List.set_cons_succ]
                        refine anyD_ready (rs := [8]) (by kernel_rfl) (by simp) ?_
                        refine AllD.cons (o := _) rfl (fun K hK => ?step1026) ?_
                        case step1026 =>
                          have NE := Lib.hid (show W.heap.size < X1.heap.size from (o1.lt rfl).2)
                          rw [if_pos (by rfl)]
                          refine opwp_append_files _ _ rfl W.heap.size (.slice (some ⟨W.heap.size, 0, none⟩) 0 0) [] rfl p11 (some ⟨g, 0, none⟩) k cap3 (R2.take k) rfl (HX.out.1.1.later (hb12)) (by have := HX.out.2.1; simp <;> omega) (hb12).size ?_
                          intro v8 X8 o8 g8
                          have hb8 := Below.grownF (hb12) p11 (hb12).size g8
                          rw [List.nil_append] at o8
                          have ne8 : some X1.heap.size ≠ (Value.slice (some ⟨W.heap.size, 0, none⟩) 0 0).ownBlock := by
                            have h1 := heap_lt i11
                            have h2 := NE.out
                            intro e
                            simp only [Value.ownBlock, Option.some.injEq] at e
                            omega
                          have k11 := (g8.block X1.heap.size (heap_lt i11) ne8).trans i11
                          clear g8
                          refine hK.out _ _ ?hS1026 (fun hHeld => ?_)
                          case hS1026 => (intro _; (exact (hb8.cell (p := ⟨r, 0, none⟩) HX.out.2.2).trans r2))
                          replace hHeld := hHeld (by decide)
                          clear hK K
                          try simp only [Act.put, List.setIfInBounds_toArray, List.set_cons_zero, List.set_cons_succ]
                          refine anyD_ready (rs := [13]) (by kernel_rfl) (by simp) ?_
                          refine AllD.cons (o := _) rfl (fun K hK => ?step1027) ?_
                          case step1027 =>
                            rw [if_pos (by rfl)]
                            refine opwp_append_files _ _ rfl W.heap.size v8 (R2.take k) rfl o8 (some ⟨X1.heap.size, 0, none⟩) 1 1 [(tt, S0, [])] rfl (IsRFiles.new_safe k11 (HSF.out.later (hb8))) (by have := HX.out.2.1; simp <;> omega) (hb8).size ?_
                            intro v13 X13 o13 g13
                            have hb13 := Below.grownF (hb8) o8 (hb8).size g13
                            clear g13
                            refine hK.out _ _ ?hS1027 (fun hHeld => ?_)
                            case hS1027 => (intro _; (exact (hb13.cell (p := ⟨r, 0, none⟩) HX.out.2.2).trans r2))
                            replace hHeld := hHeld (by decide)
                            clear hK K
                            try simp only [Act.put, List.setIfInBounds_toArray, List.set_cons_zero, List.set_cons_succ]
                            refine anyD_ready (rs := [20]) (by kernel_rfl) (by simp) ?_
                            refine AllD.cons (o := _) rfl (fun K hK => ?step1028) ?_
                            case step1028 =>
                              rw [if_pos (by rfl)]
                              refine opwp_append_files _ _ rfl W.heap.size v13 (R2.take k ++ [(tt, S0, [])]) rfl o13 _ _ _ (R2.drop k) rfl (HX.out.1.2.later hb13) (by have := HX.out.2.1; simp <;> omega) hb13.size ?_
                              intro v20 X20 o20 g20
                              have hb20 := Below.grownF hb13 o13 hb13.size g20
                              have HO20 := Lib.hid o20
                              obtain ⟨a20, c20, hv20, _⟩ := o20.files
                              obtain ⟨m20, hm20⟩ : ∃ m20, m20 = ((R2.take k ++ [(tt, S0, [])]) ++ (R2.drop k)).length := ⟨_, rfl⟩
                              rw [← hm20] at hv20
                              subst hv20
                              have q20 : X20.cell? ⟨r, 0, none⟩ = some (.slice (some ⟨g, 0, none⟩) n3 cap3) := (hb20.cell (p := ⟨r, 0, none⟩) HX.out.2.2).trans r2
                              have f20 : X20.frozen? ⟨r, 0, none⟩ = false := HFZ.out X20 hb20
                              clear g20 o20 hm20
                              refine hK.out _ _ ?hS1028 (fun hHeld => ?_)
                              case hS1028 => (intro _; (exact (hb20.cell (p := ⟨r, 0, none⟩) HX.out.2.2).trans r2))
                              replace hHeld := hHeld (by decide)
                              clear hK K
                              try simp only [Act.put, List.setIfInBounds_toArray, List.set_cons_zero, List.set_cons_succ]
                              refine anyD_ready (rs := [21]) (by kernel_rfl) (by simp) ?_
                              refine AllD.cons (o := _) rfl (fun K hK => ?step1029) ?_
                              case step1029 =>
                                go_simp
                                refine hK.out _ _ ?hS1029 (fun hHeld => ?_)
                                case hS1029 => (intro _; (exact (hb20.cell (p := ⟨r, 0, none⟩) HX.out.2.2).trans r2))
                                replace hHeld := hHeld (by decide)
                                clear hK K
                                try simp only [Act.put, List.setIfInBounds_toArray, List.set_cons_zero, List.set_cons_succ]
                                refine anyD_take (i := 22) (v := ?v1030) rfl (by kernel_rfl) (by kernel_rfl) (by kernel_rfl) (by kernel_rfl) (fun _ _ _ h => h) (Or.inl ⟨?hw1030, ?hy1030⟩) (by assumption) ?_
                                case hw1030 => rfl
                                case hy1030 => (intro w hSw; (try dsimp only at hSw); go_simp; (first | done | with_reducible rfl))
                                try simp only [Act.put, List.setIfInBounds_toArray, List.set_cons_zero, List.set_cons_succ]
                                refine anyD_ready (rs := [23]) (by kernel_rfl) (by simp) ?_
                                refine AllD.cons (o := _) rfl (fun K hK => ?step1031) ?_
                                case step1031 =>
                                  go_simp
                                  refine hK.out _ _ ?hS1031 (fun hHeld => ?_)
                                  case hS1031 => exact fun h => absurd rfl h
                                  clear hK K
                                  try simp only [Act.put, List.setIfInBounds_toArray, List.set_cons_zero, List.set_cons_succ]
                                  refine anyD_done (by kernel_rfl) ?_ _
                                  have HE := Lib.hid (HINS.out _ _ hb20 HO20.out)
                                  go_wp2_with fail
                                  all_goals
                                    go_ret
                                    exact HE.out
                                exact AllD.nil
                              exact AllD.nil
                            exact AllD.nil
                          exact AllD.nil
                        exact AllD.nil
                      exact AllD.nil
                    refine AllD.cons (o := _) rfl (fun K hK => ?step1032) ?_
                    case step1032 =>
                      go_simp
                      have hb12 : Below W.heap.size W (W.alloc (.cells #[.string tt, .slice sa2 sn2 sc2, .slice none 0 0] 90)).drew := ((Below.refl W.heap.size W).alloc (Nat.le_refl _) (.cells #[.string tt, .slice sa2 sn2 sc2, .slice none 0 0] 90)).drew
                      have i11 : (W.alloc (.cells #[.string tt, .slice sa2 sn2 sc2, .slice none 0 0] 90)).drew.heap[W.heap.size]? = some (.cells #[.string tt, .slice sa2 sn2 sc2, .slice none 0 0] 90 (0, 0)) := heap_alloc_new W _
                      generalize (W.alloc (.cells #[.string tt, .slice sa2 sn2 sc2, .slice none 0 0] 90)).drew = X12 at hb12 i11 ⊢
                      refine hK.out _ _ ?hS1032 (fun hHeld => ?_)
                      case hS1032 => (intro _; (exact (hb12.cell (p := ⟨r, 0, none⟩) HX.out.2.2).trans r2))
                      replace hHeld := hHeld (by decide)
                      clear hK K
                      try simp only [Act.put, List.setIfInBounds_toArray, List.set_cons_zero, List.set_cons_succ]
                      refine anyD_ready (rs := [1]) (by kernel_rfl) (by simp) ?_
                      refine AllD.cons (o := _) rfl (fun K hK => ?step1033) ?_
                      case step1033 =>
                        go_simp
                        have hb1 : Below W.heap.size W (X12.alloc (.cells #[] 90)) := (hb12).alloc (hb12).size (.cells #[] 90)
                        have o1 : OwnF (X12.alloc (.cells #[] 90)) W.heap.size (.slice (some ⟨X12.heap.size, 0, none⟩) 0 0) [] := (OwnF.none_new X12 _ (hb12).size).later (Below.refl _ _)
                        have j11 : (X12.alloc (.cells #[] 90)).heap[W.heap.size]? = some (.cells #[.string tt, .slice sa2 sn2 sc2, .slice none 0 0] 90 (0, 0)) := (heap_alloc_old' X12 _ (heap_lt i11)).trans i11
                        generalize (X12.alloc (.cells #[] 90)) = X1 at hb1 o1 j11 ⊢
                        refine hK.out _ _ ?hS1033 (fun hHeld => ?_)
                        case hS1033 => (intro _; (exact (hb1.cell (p := ⟨r, 0, none⟩) HX.out.2.2).trans r2))
                        replace hHeld := hHeld (by decide)
                        clear hK K
                        try simp only [Act.put, List.setIfInBounds_toArray, List.set_cons_zero, List.set_cons_succ]
                        refine anyD_ready (rs := [8]) (by kernel_rfl) (by simp) ?_
                        refine AllD.cons (o := _) rfl (fun K hK => ?step1034) ?_
                        case step1034 =>
                          have NE := Lib.hid (show W.heap.size < X12.heap.size from heap_lt i11)
                          rw [if_pos (by rfl)]
                          refine opwp_append_files _ _ rfl W.heap.size (.slice (some ⟨X12.heap.size, 0, none⟩) 0 0) [] rfl o1 (some ⟨g, 0, none⟩) k cap3 (R2.take k) rfl (HX.out.1.1.later (hb1)) (by have := HX.out.2.1; simp <;> omega) (hb1).size ?_
                          intro v8 X8 o8 g8
                          have hb8 := Below.grownF (hb1) o1 (hb1).size g8
                          rw [List.nil_append] at o8
                          have ne8 : some W.heap.size ≠ (Value.slice (some ⟨X12.heap.size, 0, none⟩) 0 0).ownBlock := by
                            have h1 := heap_lt j11
                            have h2 := NE.out
                            intro e
                            simp only [Value.ownBlock, Option.some.injEq] at e
                            omega
                          have k11 := (g8.block W.heap.size (heap_lt j11) ne8).trans j11
                          clear g8
                          refine hK.out _ _ ?hS1034 (fun hHeld => ?_)
                          case hS1034 => (intro _; (exact (hb8.cell (p := ⟨r, 0, none⟩) HX.out.2.2).trans r2))
                          replace hHeld := hHeld (by decide)
                          clear hK K
                          try simp only [Act.put, List.setIfInBounds_toArray, List.set_cons_zero, List.set_cons_succ]
                          refine anyD_ready (rs := [13]) (by kernel_rfl) (by simp) ?_
                          refine AllD.cons (o := _) rfl (fun K hK => ?step1035) ?_
                          case step1035 =>
                            rw [if_pos (by rfl)]
                            refine opwp_append_files _ _ rfl W.heap.size v8 (R2.take k) rfl o8 (some ⟨W.heap.size, 0, none⟩) 1 1 [(tt, S0, [])] rfl (IsRFiles.new_safe k11 (HSF.out.later (hb8))) (by have := HX.out.2.1; simp <;> omega) (hb8).size ?_
                            intro v13 X13 o13 g13
                            have hb13 := Below.grownF (hb8) o8 (hb8).size g13
                            clear g13
                            refine hK.out _ _ ?hS1035 (fun hHeld => ?_)
                            case hS1035 => (intro _; (exact (hb13.cell (p := ⟨r, 0, none⟩) HX.out.2.2).trans r2))
                            replace hHeld := hHeld (by decide)
                            clear hK K
                            try simp only [Act.put, List.setIfInBounds_toArray, List.set_cons_zero, List.set_cons_succ]
                            refine anyD_ready (rs := [20]) (by kernel_rfl) (by simp) ?_
                            refine AllD.cons (o := _) rfl (fun K hK => ?step1036) ?_
                            case step1036 =>
                              rw [if_pos (by rfl)]
                              refine opwp_append_files _ _ rfl W.heap.size v13 (R2.take k ++ [(tt, S0, [])]) rfl o13 _ _ _ (R2.drop k) rfl (HX.out.1.2.later hb13) (by have := HX.out.2.1; simp <;> omega) hb13.size ?_
                              intro v20 X20 o20 g20
                              have hb20 := Below.grownF hb13 o13 hb13.size g20
                              have HO20 := Lib.hid o20
                              obtain ⟨a20, c20, hv20, _⟩ := o20.files
                              obtain ⟨m20, hm20⟩ : ∃ m20, m20 = ((R2.take k ++ [(tt, S0, [])]) ++ (R2.drop k)).length := ⟨_, rfl⟩
                              rw [← hm20] at hv20
                              subst hv20
                              have q20 : X20.cell? ⟨r, 0, none⟩ = some (.slice (some ⟨g, 0, none⟩) n3 cap3) := (hb20.cell (p := ⟨r, 0, none⟩) HX.out.2.2).trans r2
                              have f20 : X20.frozen? ⟨r, 0, none⟩ = false := HFZ.out X20 hb20
                              clear g20 o20 hm20
                              refine hK.out _ _ ?hS1036 (fun hHeld => ?_)
                              case hS1036 => (intro _; (exact (hb20.cell (p := ⟨r, 0, none⟩) HX.out.2.2).trans r2))
                              replace hHeld := hHeld (by decide)
                              clear hK K
                              try simp only [Act.put, List.setIfInBounds_toArray, List.set_cons_zero, List.set_cons_succ]
                              refine anyD_ready (rs := [21]) (by kernel_rfl) (by simp) ?_
                              refine AllD.cons (o := _) rfl (fun K hK => ?step1037) ?_
                              case step1037 =>
                                go_simp
                                refine hK.out _ _ ?hS1037 (fun hHeld => ?_)
                                case hS1037 => (intro _; (exact (hb20.cell (p := ⟨r, 0, none⟩) HX.out.2.2).trans r2))
                                replace hHeld := hHeld (by decide)
                                clear hK K
                                try simp only [Act.put, List.setIfInBounds_toArray, List.set_cons_zero, List.set_cons_succ]
                                refine anyD_take (i := 22) (v := ?v1038) rfl (by kernel_rfl) (by kernel_rfl) (by kernel_rfl) (by kernel_rfl) (fun _ _ _ h => h) (Or.inl ⟨?hw1038, ?hy1038⟩) (by assumption) ?_
                                case hw1038 => rfl
                                case hy1038 => (intro w hSw; (try dsimp only at hSw); go_simp; (first | done | with_reducible rfl))
                                try simp only [Act.put, List.setIfInBounds_toArray, List.set_cons_zero, List.set_cons_succ]
                                refine anyD_ready (rs := [23]) (by kernel_rfl) (by simp) ?_
                                refine AllD.cons (o := _) rfl (fun K hK => ?step1039) ?_
                                case step1039 =>
                                  go_simp
                                  refine hK.out _ _ ?hS1039 (fun hHeld => ?_)
                                  case hS1039 => exact fun h => absurd rfl h
                                  clear hK K
                                  try simp only [Act.put, List.setIfInBounds_toArray, List.set_cons_zero, List.set_cons_succ]
                                  refine anyD_done (by kernel_rfl) ?_ _
                                  have HE := Lib.hid (HINS.out _ _ hb20 HO20.out)
                                  go_wp2_with fail
                                  all_goals
                                    go_ret
                                    exact HE.out
                                exact AllD.nil
                              exact AllD.nil
                            exact AllD.nil
                          exact AllD.nil
                        exact AllD.nil
                      exact AllD.nil
                    exact AllD.nil
      · go_wp2_with fail
        go_ret
        exact .inr ⟨rfl, .inr ⟨HNB.out.symm, -1, HZ.out, .inl ⟨by omega, rfl, rfl⟩⟩⟩
end Go.Proofs.Ytmpjjkfbojhfoaa

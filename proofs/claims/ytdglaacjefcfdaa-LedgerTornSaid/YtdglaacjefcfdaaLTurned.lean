/- LedgerTurned's walk -/
import Derived.Test.YtdglaacjefcfdaaLTurn
namespace Go.Proofs.Ytdglaacjefcfdaa
open Go.RowKit
/-- how many bytes some lists have. -/
def tot (L : List (List UInt8)) : Nat := (L.map List.length).sum
theorem tot_take {L : List (List UInt8)} {k : Nat} (hk : k < L.length) : tot (L.take (k + 1)) = tot (L.take k) + (L.getD k []).length := by
  unfold tot
  rw [List.take_succ_eq_append_getElem hk, List.map_append, List.sum_append, List.getD_eq_getElem?_getD, List.getElem?_eq_getElem hk]
  simp
theorem tot_le (M : Nat) : ∀ (L : List (List UInt8)), (∀ r ∈ L, r.length ≤ M) → tot L ≤ L.length * M
  | [], _ => by simp [tot]
  | r :: L, h => by
    have := tot_le M L (fun x hx => h x (by simp [hx]))
    have h2 := h r (by simp)
    have e : tot (r :: L) = r.length + tot L := rfl
    rw [e, List.length_cons, Nat.add_mul]
    omega
theorem tot_append (L M : List (List UInt8)) : tot (L ++ M) = tot L + tot M := by simp [tot]
theorem len_le_tot : ∀ (L : List (List UInt8)), ∀ r ∈ L, r.length ≤ tot L
  | x :: L, r, h => by
    have e : tot (x :: L) = x.length + tot L := rfl
    rcases List.mem_cons.1 h with rfl | h
    · omega
    · have := len_le_tot L r h; omega
theorem putAll_length : ∀ (L : List (List UInt8)), (Fr.putAll L).length = tot L + 12 * L.length
  | [] => rfl
  | r :: L => by
    have e : Fr.putAll (r :: L) = Fr.putF r ++ Fr.putAll L := rfl
    have e2 : tot (r :: L) = r.length + tot L := rfl
    rw [e, e2, List.length_append, Fr.putF_length, putAll_length L, List.length_cons]
    omega
theorem putAll_take {L : List (List UInt8)} {k : Nat} (hk : k < L.length) : Fr.putAll (L.take (k + 1)) = Fr.putAll (L.take k) ++ Fr.putF (L.getD k []) := by
  rw [List.take_succ_eq_append_getElem hk, List.getD_eq_getElem?_getD, List.getElem?_eq_getElem hk]
  unfold Fr.putAll
  rw [List.flatMap_append]
  simp only [List.flatMap_cons, List.flatMap_nil, List.append_nil, Option.getD_some]
theorem DiskNo.movedL {w w' : World} {c mbc d mb f l base : Nat} (h : DiskNo w c mbc) (hm : MovedL d mb f l base w w') (h1 : c ≠ d) (h2 : c ≠ mb) (h3 : c ≠ f) (h4 : c ≠ l) (k1 : mbc ≠ d) (k2 : mbc ≠ mb) (k3 : mbc ≠ f) (k4 : mbc ≠ l) : DiskNo w' c mbc := by
  obtain ⟨st, fu, cc, q1, q2, q3, q4⟩ := h
  refine ⟨st, fu, cc, q1, q2, (hm.block c q3.lt h1 h2 h3 h4 (fun _ x t e => by unfold DiskRow at q3; rw [q3] at e; cases e)).trans q3, (hm.block mbc (heap_lt q4) k1 k2 k3 k4 (fun _ x t e => by rw [q4] at e; cases e)).trans q4⟩
theorem DiskNo.lt {w : World} {c mbc : Nat} (h : DiskNo w c mbc) : c < w.heap.size := by
  obtain ⟨st, fu, cc, q1, q2, q3, q4⟩ := h
  exact q3.lt
theorem IsBytes.at {w w' : World} {g n cap : Nat} {l : List UInt8} (h : IsBytes w (some ⟨g, 0, none⟩) n cap l) (hb : w'.heap[g]? = w.heap[g]?) : IsBytes w' (some ⟨g, 0, none⟩) n cap l := by
  obtain ⟨h1, h2, h3, h4, h5⟩ := h
  refine ⟨h1, h2, h3, fun hl => ?_, h5⟩
  obtain ⟨b, off, e, hc⟩ := h4 hl
  cases e
  exact ⟨g, 0, rfl, fun i hi => (World.cell?_of_block (w := w) hb).trans (hc i hi)⟩
/-- the ledger and the disks behind so many records. -/
structure TurnAt (w0 : World) (base d mb f x c mbc : Nat) (L : List (List UInt8)) (k : Nat) (w : World) : Prop where
  led : LedRow w x d (k : Nat) ((Fr.putAll (L.take k)).length : Nat) false
  disk : DiskOwn w d mb f base (Fr.putAll (L.take k)) []
  other : DiskNo w c mbc
  low : Below base w0 w
set_option maxRecDepth 100000 in
set_option maxHeartbeats 4000000 in
theorem LedgerTurned_any (w : World) (ao : Option Addr) (n cap : Nat) (L : List (List UInt8)) (hs : IsLists w ao n cap L) (hr : ∀ r ∈ L, r.length ≤ 140737488355328) (a1 : Int) (h1 : (Lit.int .i64 a1).wf = true) :
    Calls Try.prog 3 #[.slice ao n cap, .int .i64 a1] w fun e w' => e = .returned (.bool true) ∧ Below w.heap.size w w' := by
  obtain ⟨hx0, hx1⟩ := wf_i64 h1
  have hLn := hs.1
  have hnc := hs.2.1
  have hcm := hs.2.2.1
  unfold maxLen at hcm
  have HS := Lib.hid hs
  have HR := Lib.hid hr
  have HLN : Hid (L.length = n) := Lib.hid hLn
  have htk : ∀ k, k ≤ 13 → tot (L.take k) ≤ 13 * 140737488355328 := fun k hk => by
    have h1 := tot_le 140737488355328 (L.take k) (fun r h => hr r (List.mem_of_mem_take h))
    have h2 : (L.take k).length ≤ 13 := by rw [List.length_take]; omega
    exact Nat.le_trans h1 (Nat.mul_le_mul_right _ h2)
  have HTK := Lib.hid htk
  obtain ⟨base, hbase⟩ : ∃ b, b = w.heap.size := ⟨_, rfl⟩
  have HBASE := Lib.hid hbase
  clear hs hr h1 hLn htk hbase
  go_enter Try.func3, Try.ntmps3
  go_wp2_with fail
  refine (awake_any w).mono ?_
  rintro e w1 ⟨rfl, hb1⟩
  rw [← HBASE.out] at hb1
  have HB1 := Lib.hid hb1
  have HS1 := Lib.hid (HS.out.later (by rw [← HBASE.out]; exact hb1))
  clear hb1
  go_wp2_with fail
  go_loopw [6, 7] (fun sm i wr => ∃ k : Nat, k ≤ n ∧ k ≤ 13 ∧ i = .int .i64 k ∧ sm = .int .i64 (tot (L.take k) : Nat) ∧ w1 = wr) (fun _ i _ => n - (intOf i).toNat)
  case atStart => exact ⟨0, by omega, by omega, rfl, rfl, rfl⟩
  case round =>
    obtain ⟨k, hk, hk13, rfl, rfl, rfl⟩ := hrel
    by_cases hgo : k < n ∧ k < 13
    · obtain ⟨hlt, h13⟩ := hgo
      obtain ⟨b, off, aoi, ni, capi, rfl, hc, hb⟩ := HS1.out.2.2.2.2 k hlt
      have hk0 : (0 : Int) ≤ (k : Int) := by omega
      have hk1 : (k : Int) < (n : Int) := by omega
      have hk2 : (k : Int) < 13 := by omega
      have hst := tot_take (L := L) (k := k) (by rw [HLN.out]; exact hlt)
      have hle := HTK.out (k + 1) (by omega)
      rw [hb.1] at hst
      obtain ⟨t, ht⟩ : ∃ t, t = tot (L.take k) := ⟨_, rfl⟩
      rw [← ht] at hst ⊢
      have hw : IntKind.i64.wrap ((t : Int) + (ni : Int)) = (t : Int) + (ni : Int) := IntWalk.i64_in _ (by omega)
      have HST := Lib.hid hst
      clear hst hle hb ht
      go_wp2_with fail
      go_roundw
      case rel => exact ⟨k + 1, by omega, by omega, by go_num, by rw [HST.out]; push_cast; rfl, trivial⟩
      case measure => simp [intOf]; omega
    · obtain ⟨t, ht⟩ : ∃ t, t = tot (L.take k) := ⟨_, rfl⟩
      rw [← ht]
      have HT := Lib.hid ht
      clear ht
      by_cases hbad : 12 < n ∨ n = 0 ∨ 2000 < t
      · have ht0 : (0 : Int) ≤ (t : Int) := by omega
        have hcase : (k < n ∧ 13 ≤ k) ∨ (¬ k < n ∧ 12 < n) ∨ (¬ k < n ∧ ¬ 12 < n ∧ n = 0) ∨ (¬ k < n ∧ ¬ 12 < n ∧ n ≠ 0 ∧ 2000 < t) := by omega
        rcases hcase with ⟨q1, q2⟩ | ⟨q1, q2⟩ | ⟨q1, q2, q3⟩ | ⟨q1, q2, q3, q4⟩
        all_goals
          go_wp2_with fail
          refine (New_no w1).mono ?_
          rintro e w2 ⟨d, mb, rfl, _, _, _, hb2⟩
          go_wp2_with fail
          refine (New_no w2).mono ?_
          rintro e w3 ⟨c, mbc, rfl, _, _, _, hb3⟩
          have HB3 := Lib.hid (Below.trans HB1.out ((hb2.trans (hb3.mono hb2.size)).mono (by have := HB1.out.size; have := HBASE.out; omega)))
          clear hb2 hb3
          go_wp2_with fail
          go_ret
          exact ⟨rfl, by rw [← HBASE.out]; exact HB3.out⟩
      · obtain rfl : k = n := by omega
        have hn12 : k ≤ 12 := by omega
        have hn1 : 1 ≤ k := by omega
        have ht2 : t ≤ 2000 := by omega
        have hti : ¬ (2000 < t) := by omega
        have hk12 : ¬ (12 < k) := by omega
        have hk00 : k ≠ 0 := by omega
        have hA : decide ((12 : Int) < (k : Int)) = false := by simp; omega
        have hB : ((k : Int) == 0) = false := by simp; omega
        have hC : decide ((2000 : Int) < (t : Int)) = false := by simp; omega
        have htt : tot L = t := by
          rw [HT.out, List.take_of_length_le (by rw [HLN.out]; exact Nat.le_refl _)]
        have HTT := Lib.hid htt
        clear htt hbad hgo hk hk13
        go_wp2_with fail
        refine (New_no w1).mono ?_
        rintro e w2 ⟨d, mb, rfl, hmb, hmd, hno, hb2⟩
        have HN2 := Lib.hid (And.intro hmb (And.intro hmd (And.intro hno hb2)))
        clear hmb hmd hno hb2
        go_wp2_with fail
        refine (New_no w2).mono ?_
        rintro e w3 ⟨c, mbc, rfl, hmbc, hmcd, hnoc, hb3⟩
        have HN3 := Lib.hid (And.intro hmbc (And.intro hmcd (And.intro hnoc hb3)))
        clear hmbc hmcd hnoc hb3
        have hbs3 : base ≤ w3.heap.size := by
          have s1 := HB1.out.size; have s2 := HN2.out.2.2.2.size; have s3 := HN3.out.2.2.2.size; have := HBASE.out; omega
        go_wp2_with fail
        refine (opened_new base d mb w3 hbs3 (HN2.out.2.2.1.later HN3.out.2.2.2)).mono ?_
        rintro e w4 ⟨x, f, rfl, hx, hf, hlr, hdo, hmv⟩
        have hdl := HN2.out.2.2.1.lt
        have hcl := HN3.out.2.2.1.lt
        have hb04 : Below base w w4 := by
          refine (HB1.out.trans (HN2.out.2.2.2.mono ?_)).trans ((HN3.out.2.2.2.mono ?_).trans (hmv.below ?_ ?_ ?_ hbs3))
          · have := HB1.out.size; have := HBASE.out; omega
          · have := HB1.out.size; have := HBASE.out; have := HN2.out.2.2.2.size; omega
          · have := HN2.out.1; have := HN2.out.2.1; have := HB1.out.size; have := HBASE.out; omega
          · have := HN2.out.1; have := HB1.out.size; have := HBASE.out; omega
          · omega
        have hoc : DiskNo w4 c mbc := HN3.out.2.2.1.movedL (l := x) (MovedL.of hmv) (by have := HN3.out.1; have := HN3.out.2.1; omega) (by have := HN2.out.2.1; have := HN3.out.1; have := HN3.out.2.1; omega) (by omega) (by omega) (by have := HN3.out.1; omega) (by have := HN2.out.2.1; have := HN3.out.1; omega) (by have := HN3.out.2.1; omega) (by have := HN3.out.2.1; omega)
        have hnum : mb < d ∧ d < mbc ∧ mbc < c ∧ c < f ∧ c < x ∧ base ≤ mb ∧ base ≤ w4.heap.size := by
          have := HN2.out.1; have := HN2.out.2.1; have := HN3.out.1; have := HN3.out.2.1; have := HB1.out.size; have := HBASE.out; have := hmv.size
          omega
        have h0 : TurnAt w base d mb f x c mbc L 0 w4 := ⟨hlr, hdo, hoc, hb04⟩
        have H0 := Lib.hid (And.intro h0 hnum)
        clear hx hf hlr hdo hmv hdl hcl hb04 hoc hnum h0
        go_wp2_with fail
        go_loopw [13] (fun i wr => ∃ j : Nat, j ≤ k ∧ i = .int .i64 j ∧ Hid (TurnAt w base d mb f x c mbc L j wr) ∧ Hid (base ≤ wr.heap.size)) (fun i _ => k - (intOf i).toNat)
        case atStart => exact ⟨0, by omega, rfl, Lib.hid H0.out.1, Lib.hid H0.out.2.2.2.2.2.2.2⟩
        case round =>
          obtain ⟨j, hj, rfl, hT, hbw⟩ := hrel
          by_cases hjk : j < k
          · have hsr := HS.out.later (by rw [← HBASE.out]; exact hT.out.low)
            obtain ⟨b, off, aoi, ni, capi, rfl, hc, hb⟩ := hsr.2.2.2.2 j hjk
            have hj0 : (0 : Int) ≤ (j : Int) := by omega
            have hj1 : (j : Int) < (k : Int) := by omega
            have hjl : j < L.length := by rw [HLN.out]; exact hjk
            have hmem : L.getD j [] ∈ L := by
              rw [List.getD_eq_getElem?_getD, List.getElem?_eq_getElem hjl]
              exact List.getElem_mem _
            have hni : ni ≤ 2000 := by
              have e1 := len_le_tot L _ hmem
              rw [hb.1, HTT.out] at e1
              omega
            have htj : tot (L.take j) ≤ 2000 := by
              have e1 := tot_append (L.take j) (L.drop j)
              rw [List.take_append_drop, HTT.out] at e1
              omega
            have hplen := putAll_length (L.take j)
            rw [List.length_take, Nat.min_eq_left (by omega)] at hplen
            have HBB := Lib.hid hb
            have HPL := Lib.hid hplen
            clear hsr hb hplen hmem
            go_wp2_with fail
            refine (Add_any base d mb f x (j : Nat) ((Fr.putAll (L.take j)).length : Nat) (Fr.putAll (L.take j)) aoi ni capi (L.getD j []) wr hbw.out hT.out.led hT.out.disk HBB.out (by omega) (by omega) (by omega) (by have := HPL.out; omega) (by omega) (by have := HPL.out; omega)).mono ?_
            rintro e w5 ⟨rfl, hl5, hd5, hm5⟩
            have e1 := putAll_take hjl
            have e2 : (Fr.putAll (L.take (j + 1))).length = (Fr.putAll (L.take j)).length + (ni + 12) := by rw [e1, List.length_append, Fr.putF_length, HBB.out.1]
            have hnum := H0.out.2
            have hT5 : TurnAt w base d mb f x c mbc L (j + 1) w5 := by
              refine ⟨?_, ?_, hT.out.other.movedL hm5 (by omega) (by omega) (by omega) (by omega) (by omega) (by omega) (by omega) (by omega), hT.out.low.trans (hm5.below (by omega) (by omega) (by omega) (by omega) hbw.out)⟩
              · rw [e2]; push_cast; push_cast at hl5; exact hl5
              · rw [e1]; exact hd5
            have HT5 := Lib.hid (And.intro hT5 (Nat.le_trans hbw.out hm5.size))
            clear hl5 hd5 hm5 e1 e2 hnum hT5
            go_wp2_with fail
            go_roundw
            case rel => exact ⟨j + 1, by omega, by go_num, Lib.hid HT5.out.1, Lib.hid HT5.out.2⟩
            case measure => simp [intOf]; omega
          · obtain rfl : j = k := by omega
            have hLk : L.take j = L := List.take_of_length_le (by rw [HLN.out]; exact Nat.le_refl _)
            obtain ⟨bs, hbs⟩ : ∃ bs, bs = Fr.putAll L := ⟨_, rfl⟩
            have hbl := putAll_length L
            rw [← hbs, HTT.out, HLN.out] at hbl
            have hdk := hT.out.disk
            rw [hLk, ← hbs] at hdk
            have HDK := Lib.hid hdk
            have HBS := Lib.hid hbs
            have HR1 := Lib.hid (show Calls Try.prog 12 #[.pointer (some ⟨d, 0, none⟩), .string logB] wr _ by obtain ⟨st, fu, cc, b, _, _, q1, q2, q3⟩ := hdk; exact Read_log d mb cc b f st fu bs [] wr q1 q2 q3.at)
            clear hLk hdk hbs
            unfold logB at HR1
            go_wp2_with fail
            refine HR1.out.mono ?_
            rintro e w5 ⟨v, rfl, hown, hb5⟩
            rw [allB_nil] at hown
            obtain ⟨va, vc, hv, hvb, _⟩ := hown.bytes
            obtain ⟨T, hT2⟩ : ∃ T, T = bs.length := ⟨_, rfl⟩
            rw [← hT2] at hv hvb hbl
            subst hv
            obtain ⟨gb, cur, rfl, hgb, hcur, hTl, hcs⟩ := hown.row (by omega)
            have HBB := Lib.hid hvb
            have HCUR := Lib.hid hcur
            have HB5 := Lib.hid hb5
            have hbw5 : base ≤ w5.heap.size := Nat.le_trans hbw.out hb5.size
            have hT1 : 1 ≤ T := by omega
            have hT9 : T ≤ 3000 := by omega
            have HTL := Lib.hid hTl
            clear hown hb5 hvb hcur hT2 hbl hTl
            have hT0 : ¬ ((T : Int) = 0) := by omega
            have hTB : ((T : Int) == 0) = false := by simp; omega
            have hw8 : IntKind.i64.wrap (8 * (T : Int)) = 8 * (T : Int) := IntWalk.i64_in _ (by omega)
            go_wp2_with fail
            refine (Pick_any a1 (8 * (T : Int)) w5 hx0 hx1 (by omega) (by omega)).mono ?_
            rintro e w' ⟨rfl, rfl⟩
            obtain ⟨J, hJ⟩ : ∃ A : Nat, a1 % (8 * (T : Int)) = (A : Int) := ⟨(a1 % (8 * (T : Int))).toNat, by have := Int.emod_nonneg a1 (b := 8 * (T : Int)) (by omega); omega⟩
            have hJT : J < 8 * T := by have := Int.emod_lt_of_pos a1 (b := 8 * (T : Int)) (by omega); omega
            rw [hJ]
            obtain ⟨Q, hQ⟩ : ∃ Q : Nat, (J : Int) / 8 = (Q : Int) := ⟨J / 8, by omega⟩
            obtain ⟨M, hM⟩ : ∃ M : Nat, (J : Int) % 8 = (M : Int) := ⟨J % 8, by omega⟩
            have hQT : Q < T := by omega
            have hM8 : M < 8 := by omega
            have hJQ : J = 8 * Q + M := by omega
            have HJQ := Lib.hid hJQ
            have hQn : J / 8 = Q := by omega
            have hMn : J % 8 = M := by omega
            have hQt : (J : Int).tdiv 8 = (Q : Int) := by rw [Int.tdiv_eq_ediv_of_nonneg (by omega)]; exact hQ
            have hMt : (J : Int).tmod 8 = (M : Int) := by rw [Int.tmod_eq_emod_of_nonneg (by omega)]; exact hM
            have hat : w5.cell? ⟨gb, Q, none⟩ = some (.int .u8 ((bs.getD Q 0).toNat : Int)) := by
              obtain ⟨b, off, e, hat⟩ := HBB.out.2.2.2.1 (by intro hh; have hTl := HTL.out; rw [hh] at hTl; simp at hTl; omega)
              injection e with e
              injection e with e1 e2 _
              subst e1; subst e2
              have := hat Q (by have e := HTL.out; omega)
              rwa [Nat.zero_add] at this
            have hfr : w5.frozen? ⟨gb, Q, none⟩ = false := frozen_of_row _ _ _ _ _ HCUR.out
            obtain ⟨y, hy⟩ : ∃ y, y = bs.getD Q 0 := ⟨_, rfl⟩
            rw [← hy] at hat
            have HY := Lib.hid hy
            have hQ0 : (0 : Int) ≤ (Q : Int) := by omega
            have hQ1 : (Q : Int) < (T : Int) := by omega
            have hM0 : (0 : Int) ≤ (M : Int) := by omega
            have hscf := scan_flip L J (fun r hr => by have e1 := len_le_tot L r hr; rw [HTT.out] at e1; omega) (by have e := HTL.out; rw [← HBS.out]; omega)
            rw [← HBS.out] at hscf
            have HSCF := Lib.hid hscf
            clear hJQ hy hJ hscf
            go_wp2_with fail
            go_region
            go_wp2_with fail
            rw [xor_pow y M hM8]
            have hbs6 := HBB.out.set (c := ⟨y.toBitVec ^^^ (1#8 <<< M)⟩) HCUR.out hQT hcs
            have hfl : bs.set Q ⟨y.toBitVec ^^^ (1#8 <<< M)⟩ = Fr.flipBit bs J := by
              have := flip_set bs 0 Q M hM8
              rw [Nat.mul_zero, Nat.zero_add, Nat.zero_add, ← HJQ.out, ← HY.out] at this
              exact this.symm
            rw [hfl] at hbs6
            have hg6 : (w5.setCell ⟨gb, Q, none⟩ (.int .u8 ((⟨y.toBitVec ^^^ (1#8 <<< M)⟩ : UInt8).toNat : Int))).heap[gb]? = some (.cells _ 5 (0, 0)) := heap_setCell_same w5 gb Q _ _ _ HCUR.out
            obtain ⟨cur6, hg6⟩ : ∃ cur6, (w5.setCell ⟨gb, Q, none⟩ (.int .u8 ((⟨y.toBitVec ^^^ (1#8 <<< M)⟩ : UInt8).toNat : Int))).heap[gb]? = some (.cells cur6 5 (0, 0)) := ⟨_, hg6⟩
            have hno5 : DiskNo w5 c mbc := hT.out.other.later HB5.out
            have hno6 : DiskNo (w5.setCell ⟨gb, Q, none⟩ (.int .u8 ((⟨y.toBitVec ^^^ (1#8 <<< M)⟩ : UInt8).toNat : Int))) c mbc := by
              obtain ⟨st, fu, cc, q1, q2, q3, q4⟩ := hno5
              refine ⟨st, fu, cc, q1, q2, (Below.heap_setCell _ _ _ _ ?_).trans q3, (Below.heap_setCell _ _ _ _ ?_).trans q4⟩
              · rintro rfl; unfold DiskRow at q3; rw [HCUR.out] at q3; cases q3
              · rintro rfl; rw [HCUR.out] at q4; cases q4
            have hb6 : Below base w (w5.setCell ⟨gb, Q, none⟩ (.int .u8 ((⟨y.toBitVec ^^^ (1#8 <<< M)⟩ : UInt8).toNat : Int))) := (hT.out.low.trans (HB5.out.mono hbw.out)).setCell (p := ⟨gb, Q, none⟩) (Nat.le_trans hbw.out hgb) _
            obtain ⟨w6, hw6⟩ : ∃ w6, w6 = (w5.setCell ⟨gb, Q, none⟩ (.int .u8 ((⟨y.toBitVec ^^^ (1#8 <<< M)⟩ : UInt8).toNat : Int))).drew := ⟨_, rfl⟩
            have hbs6' : IsBytes w6 (some ⟨gb, 0, none⟩) T vc (Fr.flipBit bs J) := by rw [hw6]; exact hbs6.later (Below.refl _ _).drew
            have hg6' : w6.heap[gb]? = some (.cells cur6 5 (0, 0)) := by rw [hw6]; exact hg6
            have hno6' : DiskNo w6 c mbc := by rw [hw6]; exact hno6.later (Below.refl _ _).drew
            have hb6' : Below base w w6 := by rw [hw6]; exact hb6.drew
            have hs6' : base ≤ w6.heap.size := by rw [hw6]; simpa using hbw5
            rw [← hw6]
            have HW6 := Lib.hid (And.intro hbs6' (And.intro hg6' (And.intro hno6' (And.intro hb6' hs6'))))
            clear hbs6 hfl hg6 hno5 hno6 hb6 hbs6' hg6' hno6' hb6' hs6' hw6 hat hfr
            have HAP := Lib.hid (Append_new base c mbc (some ⟨gb, 0, none⟩) T vc (Fr.flipBit bs J) w6 HW6.out.2.2.2.2 HW6.out.2.2.1 HW6.out.1 (by omega))
            unfold logB at HAP
            refine HAP.out.mono ?_
            rintro e w7 ⟨rfl, f7, hf7, hd7, hm7⟩
            have hkc7 : Kc w6 w7 := Kc.of_no hm7 HW6.out.2.2.1 hf7
            have hg7 := hkc7.cells _ _ _ _ HW6.out.2.1 (by decide) (by decide) (by decide)
            have HW7 := Lib.hid (And.intro hf7 (And.intro hd7 (And.intro hm7 hg7)))
            clear hf7 hd7 hm7 hkc7 hg7
            have HSY := Lib.hid (Sync_any base c mbc f7 [] (laid [] T (Fr.flipBit bs J)) w7 HW7.out.2.1.log)
            unfold logB at HSY
            go_wp2_with fail
            refine HSY.out.mono ?_
            rintro e w8 ⟨rfl, hd8, hm8⟩
            have hkc8 : Kc w7 w8 := Kc.of_log hm8 HW7.out.2.1.log
            have hg8 := hkc8.cells _ _ _ _ HW7.out.2.2.2 (by decide) (by decide) (by decide)
            have hall : allB [] (laid [] T (Fr.flipBit bs J)) = Fr.flipBit bs J := by
              unfold laid
              rw [if_neg (by omega), List.nil_append]
              exact allB_one [] _
            rw [hall] at hd8
            have HW8 := Lib.hid (And.intro hd8 (And.intro hm8 hg8))
            clear hd8 hm8 hkc8 hg8 hall
            obtain ⟨recs, hrecs⟩ : ∃ r, r = (Fr.scanF (Fr.flipBit bs J)).1 := ⟨_, rfl⟩
            obtain ⟨sz, hsz⟩ : ∃ r, r = (Fr.scanF (Fr.flipBit bs J)).2.1 := ⟨_, rfl⟩
            have HOP := Lib.hid (Open_bad base c mbc f7 (Fr.flipBit bs J) [] (Fr.flipBit bs J) recs sz w8 (by have := HW8.out.2.1.size; have := HW7.out.2.2.1.size; have := HW6.out.2.2.2.2; omega) HW8.out.1 rfl (by rw [hrecs, hsz, ← HSCF.out]))
            unfold logB at HOP
            clear hrecs hsz
            go_wp2_with fail
            refine HOP.out.mono ?_
            rintro e w9 ⟨rfl, hb9⟩
            have HB9 := Lib.hid hb9
            have hd9 := HW8.out.1.later hb9
            have HR2 := Lib.hid (show Calls Try.prog 12 #[.pointer (some ⟨c, 0, none⟩), .string logB] w9 _ by obtain ⟨st, fu, cc, b, _, _, q1, q2, q3⟩ := hd9; exact Read_log c mbc cc b f7 st fu (Fr.flipBit bs J) [] w9 q1 q2 q3.at)
            unfold logB at HR2
            clear hb9 hd9
            go_wp2_with fail
            refine HR2.out.mono ?_
            rintro e w10 ⟨z, rfl, hoz, hb10⟩
            rw [allB_nil] at hoz
            obtain ⟨za, zc, hz, hzb, _⟩ := hoz.bytes
            subst hz
            have hzl : (Fr.flipBit bs J).length = T := HW6.out.1.1
            rw [hzl] at hzb ⊢
            have hb10b : IsBytes w10 (some ⟨gb, 0, none⟩) T vc (Fr.flipBit bs J) := by
              refine HW6.out.1.at ?_
              rw [hb10.block gb (Nat.lt_of_lt_of_le (heap_lt HW8.out.2.2) HB9.out.size), HB9.out.block gb (heap_lt HW8.out.2.2), HW8.out.2.2, HW6.out.2.1]
            have HZB := Lib.hid (And.intro hzb (And.intro hb10b hb10))
            clear hoz hzb hb10b hb10 hzl
            go_wp2_with fail
            refine (SameBytes_any za (some ⟨gb, 0, none⟩) T T zc vc (Fr.flipBit bs J) (Fr.flipBit bs J) w10 HZB.out.1 HZB.out.2.1).mono ?_
            rintro e w11 ⟨rfl, rfl⟩
            rw [show (Fr.flipBit bs J == Fr.flipBit bs J) = true by simp]
            go_wp2_with fail
            go_ret
            refine ⟨rfl, ?_⟩
            have hnum := H0.out.2
            have s6 := HW6.out.2.2.2.2
            have s7 := HW7.out.2.2.1.size
            have s8 := HW8.out.2.1.size
            have s9 := HB9.out.size
            have hf7 := HW7.out.1
            rw [← HBASE.out]
            exact HW6.out.2.2.2.1.trans ((HW7.out.2.2.1.below (by omega) (by omega) (by omega) s6).trans ((HW8.out.2.1.below (by omega) (by omega) (by omega) (by omega)).trans ((HB9.out.mono (by omega)).trans (HZB.out.2.2.mono (by omega)))))
end Go.Proofs.Ytdglaacjefcfdaa

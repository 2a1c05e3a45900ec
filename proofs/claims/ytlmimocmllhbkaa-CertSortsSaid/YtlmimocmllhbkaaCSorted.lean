/- CertSorted's walk -/
import Derived.Test.YtlmimocmllhbkaaCSort
namespace Go.Proofs.Ytlmimocmllhbkaa
open Go.RowKit
theorem slice_oneC (b off n cap i : Nat) (hi : i < n) (hn : n ≤ cap) (w : World) : (Instr.slice 24 (.slice (some ⟨b, off, none⟩) n cap) (some (.int .i64 (i : Int))) (some (.int .i64 ((i : Int) + 1))) none).run Try.prog w = .ok (.slice (some ⟨b, off + i * 5, none⟩) 1 (cap - i)) w := by
  obtain ⟨i0, hi0, hz0, hz1, hz2⟩ := info_parts Try.infoCert
  have e1 : (Instr.sliceBounds true n cap (some (.int .i64 (i : Int))) (some (.int .i64 ((i : Int) + 1))) none).run Try.prog w = .ok (i, i + 1, cap) w := by
    have h0 : (0 : Int) ≤ (i : Int) := by omega
    have h1 : ((i : Int)).toNat = i := by omega
    have h2 : (0 : Int) ≤ (i : Int) + 1 := by omega
    have h3 : ((i : Int) + 1).toNat = i + 1 := by omega
    have h4 : (i : Int) + 1 ≤ (cap : Int) := by omega
    simp [Instr.sliceBounds, Instr.sliceBound, asIntOf, h0, h1, h2, h3, h4]
  simp [Instr.slice, run_underlying Try.underlying24, e1, sizeOf, typeInfo, hi0, Result.andThen, Addr.add, hz1]
  rw [if_neg (by omega)]
  by_cases h : i = 0
  · subst h; rfl
  · rw [if_neg (by omega)]
theorem one_of {w : World} {b off n cap i : Nat} {L : List Crt} (h : CertsAt w b off n L) (hi : i < n) (hn : n ≤ cap) (hm : cap ≤ maxLen) : IsCerts w (some ⟨b, off + i * 5, none⟩) 1 (cap - i) [L.getD i c0] := by
  refine ⟨rfl, by omega, by omega, fun _ => ⟨_, _, rfl, fun j hj t ht => ?_⟩, fun h => by cases h⟩
  obtain rfl : j = 0 := by omega
  simpa using h i hi t ht
theorem anyP_take {L : List Crt} {k : Nat} (hk : k < L.length) (q : Qst) : anyP (L.take (k + 1)) q = (anyP (L.take k) q || anyP [L.getD k c0] q) := by
  rw [take_more hk]; unfold anyP; rw [List.any_append]
set_option maxRecDepth 100000 in
set_option maxHeartbeats 2000000 in
theorem CertSorted_any (ao : Option Addr) (n cap : Nat) (L : List Crt) (q : Qst) (w : World) (h : IsCerts w ao n cap L) :
    Calls Try.prog 6 #[.slice ao n cap, .int .i64 q.cu, .int .i64 q.ju, .int .i64 q.ca, .int .i64 q.da] w fun e w' => e = .returned (.bool true) ∧ Below w.heap.size w w' := by
  have HI := Lib.hid h
  have hnc := h.2.1
  have hcm := h.2.2.1
  have HM := Lib.hid hcm
  have HL : Hid (L.length = n) := Lib.hid h.1
  clear h
  unfold maxLen at hcm
  by_cases hbig : 60 < n
  · have hbi : (60 : Int) < (n : Int) := by omega
    go_enter Try.func6, Try.ntmps6
    go_wp2_with fail
    refine (awake_any _).mono ?_
    rintro e w1 ⟨rfl, hb1⟩
    go_wp2_with fail
    go_ret
    exact ⟨rfl, hb1⟩
  · have hbi : ¬ (60 : Int) < (n : Int) := by omega
    go_enter Try.func6, Try.ntmps6
    go_wp2_with fail
    refine (awake_any _).mono ?_
    rintro e w1 ⟨rfl, hb1⟩
    have HB1 := Lib.hid hb1
    clear hb1
    go_wp2_with fail
    go_loopw [12, 13] (fun a i wr => ∃ k b, k ≤ n ∧ i = .int .i64 ((k : Nat) : Int) ∧ a = .bool b ∧ Hid (b = anyP (L.take k) q) ∧ Hid (∀ i, i < k → okC (L.getD i c0)) ∧ Hid (Below w.heap.size w wr)) (fun _ i _ => n - (intOf i).toNat)
    case atStart => exact ⟨0, false, by omega, rfl, rfl, Lib.hid (by rfl), Lib.hid (fun i hi => absurd hi (by omega)), HB1⟩
    case round =>
      obtain ⟨k, b, hk, rfl, rfl, hany, hall, hbl⟩ := hrel
      have HIr := Lib.hid (HI.out.later hbl.out (Nat.le_refl _))
      by_cases hlt : k < n
      · have hi0 : (0 : Int) ≤ (k : Int) := by omega
        have hi5 : (k : Int) < (n : Int) := by omega
        obtain ⟨bb, off, hao, hat⟩ := HIr.out.2.2.2.1 (by omega)
        subst hao
        have hsl := slice_oneC bb off n cap k hlt hnc
        have hone := one_of hat hlt hnc HM.out
        obtain ⟨rc, hrc⟩ : ∃ rc, cap - k = rc := ⟨_, rfl⟩
        rw [hrc] at hsl hone
        obtain ⟨c, hc⟩ : ∃ c, L.getD k c0 = c := ⟨_, rfl⟩
        rw [hc] at hone
        have HC := Lib.hid hc
        have HONE := Lib.hid hone
        have hwk : IntKind.i64.wrap ((k : Int) + 1) = (k : Int) + 1 := IntWalk.i64_in _ (by omega)
        obtain ⟨e0, he0⟩ : ∃ e, e = (checkP [c]).1 := ⟨_, rfl⟩
        obtain ⟨e1, he1⟩ : ∃ e, e = (checkP [c]).2 := ⟨_, rfl⟩
        have HE0 := Lib.hid he0
        have HE1 := Lib.hid he1
        clear hat hrc hc hone he0 he1
        by_cases hz : e0 = 0
        · subst hz
          have hok : okC c := (check_one c).1 HE0.out.symm
          have HOK := Lib.hid hok
          clear hok
          obtain ⟨p, hp⟩ : ∃ p, p = anyP [c] q := ⟨_, rfl⟩
          have HP := Lib.hid hp
          clear hp
          have hstep : ∀ i, i < k + 1 → okC (L.getD i c0) := fun i hi => by
            by_cases e : i = k
            · rw [e, HC.out]; exact HOK.out
            · exact hall.out i (by omega)
          have hmore : anyP (L.take (k + 1)) q = (b || p) := by rw [anyP_take (by rw [HL.out]; exact hlt), HC.out, ← hany.out, ← HP.out]
          have HST := Lib.hid hstep
          have HMO := Lib.hid hmore
          clear hstep hmore
          cases b with
          | true =>
            go_wp2_with fail
            refine (Check_any _ _ _ [c] _ HONE.out).mono ?_
            rintro e w2 ⟨rfl, hb2⟩
            rw [← HE0.out, ← HE1.out]
            have HB2 := Lib.hid hb2
            clear hb2
            go_wp2_with fail
            go_roundw
            case rel =>
              refine ⟨k + 1, _, by omega, by go_num, rfl, Lib.hid (by have := HMO.out; simpa using this.symm), HST, hbl.out.trans (HB2.out.mono hbl.out.size)⟩
            case measure => simp [intOf]; omega
          | false =>
            go_wp2_with fail
            refine (Check_any _ _ _ [c] _ HONE.out).mono ?_
            rintro e w2 ⟨rfl, hb2⟩
            rw [← HE0.out, ← HE1.out]
            have HB2 := Lib.hid hb2
            clear hb2
            go_wp2_with fail
            refine (Holds_any _ _ _ [c] q _ (HONE.out.later HB2.out (Nat.le_refl _))).mono ?_
            rintro e w3 ⟨rfl, hb3⟩
            rw [← HE0.out, ← HP.out]
            have HB3 := Lib.hid hb3
            clear hb3
            go_wp2_with fail
            go_roundw
            case rel =>
              refine ⟨k + 1, _, by omega, by go_num, rfl, Lib.hid (by have := HMO.out; simpa using this.symm), HST, hbl.out.trans ((HB2.out.trans (HB3.out.mono HB2.out.size)).mono hbl.out.size)⟩
            case measure => simp [intOf]; omega
        · have hz1 : (e0 == 0) = false := by simpa using hz
          go_wp2_with fail
          refine (Check_any _ _ _ [c] _ HONE.out).mono ?_
          rintro e w2 ⟨rfl, hb2⟩
          rw [← HE0.out, ← HE1.out]
          have HB2 := Lib.hid hb2
          clear hb2
          go_wp2_with fail
          go_ret
          exact ⟨rfl, hbl.out.trans (HB2.out.mono hbl.out.size)⟩
      · obtain rfl : k = n := by omega
        have hanyL : b = anyP L q := by rw [hany.out, List.take_of_length_le (by rw [HL.out]; exact Nat.le_refl _)]
        have HAL := Lib.hid hanyL
        have hokL : ∀ c ∈ L, okC c := by
          intro c hc
          obtain ⟨i, hi, rfl⟩ := getD_of_mem hc
          exact hall.out i (by rw [HL.out] at hi; exact hi)
        have HOL := Lib.hid hokL
        clear hanyL hokL
        have hk60 : k ≤ 60 := by omega
        go_wp2_with fail
        refine (Sort_any _ _ _ L _ HIr.out (by omega)).mono ?_
        rintro e w2 ⟨v, M, rfl, hown, hris, hmem, hlen, hb2⟩
        have hchk : (checkP M).1 = 0 := check_rising hris (fun c hc => HOL.out c ((hmem c).1 hc)) (by have := HL.out; omega)
        have hanyM : anyP M q = b := (anyP_congr hmem q).trans HAL.out.symm
        have hchkF : (checkP (M.filter fun c => decide (c.cu = q.cu))).1 = 0 := check_rising (rising_filter hris _) (fun c hc => HOL.out c ((hmem c).1 (List.mem_filter.1 hc).1)) (by have := List.length_filter_le (fun c : Crt => decide (c.cu = q.cu)) M; have := HL.out; omega)
        have hanyF : anyP (M.filter fun c => decide (c.cu = q.cu)) q = b := (anyP_filter M q).trans hanyM
        obtain ⟨ao2, cap2, rfl, hcs⟩ := hown.certs
        obtain ⟨mm, hmm⟩ : ∃ mm, mm = M.length := ⟨_, rfl⟩
        have hm61 : M.length ≤ 60 := by have := HL.out; omega
        rw [← hmm] at hcs hm61 ⊢
        have HB2 := Lib.hid hb2
        have HCS := Lib.hid hcs
        have HK := Lib.hid hchk
        have HAM := Lib.hid hanyM
        have HKF := Lib.hid hchkF
        have HAF := Lib.hid hanyF
        clear hown hris hmem hlen hb2 hcs hmm hchk hanyM hchkF hanyF
        obtain ⟨e1, he1⟩ : ∃ e, e = (checkP M).2 := ⟨_, rfl⟩
        have HE1 := Lib.hid he1
        clear he1
        go_wp2_with fail
        refine (Check_any _ _ _ M _ HCS.out).mono ?_
        rintro e w3 ⟨rfl, hb3⟩
        rw [HK.out, ← HE1.out]
        have HB3 := Lib.hid hb3
        clear hb3
        go_wp2_with fail
        refine (Holds_any _ _ _ M q _ (HCS.out.later HB3.out (Nat.le_refl _))).mono ?_
        rintro e w4 ⟨rfl, hb4⟩
        rw [show (decide ((checkP M).1 = 0) && anyP M q) = b by rw [HK.out, HAM.out]; rfl]
        have HB4 := Lib.hid (HB3.out.trans (hb4.mono HB3.out.size))
        clear hb4
        have hbb : (b == b) = true := by cases b <;> rfl
        go_wp2_with fail
        refine (Of_any _ _ _ M q.cu _ (HCS.out.later HB4.out (Nat.le_refl _)) (by omega)).mono ?_
        rintro e w5 ⟨v5, rfl, hown5, hb5⟩
        obtain ⟨ao5, cap5, rfl, hcs5⟩ := hown5.certs
        obtain ⟨m5, hm5⟩ : ∃ mm, mm = (M.filter fun c => decide (c.cu = q.cu)).length := ⟨_, rfl⟩
        rw [← hm5] at hcs5 ⊢
        have HCS5 := Lib.hid hcs5
        have HB5 := Lib.hid (HB4.out.trans (hb5.mono HB4.out.size))
        clear hown5 hcs5 hb5 hm5
        go_wp2_with fail
        refine (Holds_any _ _ _ _ q _ HCS5.out).mono ?_
        rintro e w6 ⟨rfl, hb6⟩
        rw [show (decide ((checkP (M.filter fun c => decide (c.cu = q.cu))).1 = 0) && anyP (M.filter fun c => decide (c.cu = q.cu)) q) = b by rw [HKF.out, HAF.out]; rfl]
        go_wp2_with fail
        go_ret
        refine ⟨by simp, hbl.out.trans (Below.mono (HB2.out.trans (Below.mono (HB5.out.trans (hb6.mono HB5.out.size)) HB2.out.size)) hbl.out.size)⟩
end Go.Proofs.Ytlmimocmllhbkaa

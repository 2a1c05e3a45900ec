/- apportionref06.Scan -/
import Derived.Test.YtfpjbkbfaaieiaaRefNum
namespace Go.Proofs.Ytfpjbkbfaaieiaa
open Go.RowKit
theorem scan_stop {b : List UInt8} {c : Nat} (h : Fr.headF b = .inl c) : Fr.scanF b = ([], 0, c) := by rw [Fr.scanF_eq, h]
theorem scan_go {b r : List UInt8} (h : Fr.headF b = .inr r) : Fr.scanF b = (r :: (Fr.scanF (b.drop (r.length + 12))).1, r.length + 12 + (Fr.scanF (b.drop (r.length + 12))).2.1, (Fr.scanF (b.drop (r.length + 12))).2.2) := by rw [Fr.scanF_eq, h]
/-- the state between two rounds. -/
def RInv (w wr : World) (n : Nat) (bs : List UInt8) (out : Value) (pre : List (List UInt8)) (k : Nat) : Prop :=
  Lists wr w.heap.size out pre ∧ Below w.heap.size w wr ∧ Fr.scanF bs = (pre ++ (Fr.scanF (bs.drop k)).1, k + (Fr.scanF (bs.drop k)).2.1, (Fr.scanF (bs.drop k)).2.2) ∧ pre.length ≤ k ∧ k ≤ n
theorem ref_end {w wr w2 : World} {n k c : Nat} {bs rest : List UInt8} {out : Value} {pre : List (List UInt8)} (hinv : RInv w wr n bs out pre k) (hr : rest = bs.drop k) (hh : Fr.headF rest = .inl c) (hb : Below wr.heap.size wr w2) :
    ∃ v, Ending.returned (.tuple #[out, .int .i64 (k : Int), .int .i64 (c : Int)]) = Ending.returned (.tuple #[v, .int .i64 ((Fr.scanF bs).2.1 : Int), .int .i64 ((Fr.scanF bs).2.2 : Int)]) ∧ Lists w2 w.heap.size v (Fr.scanF bs).1 ∧ Below w.heap.size w w2 := by
  have hsc := hinv.2.2.1
  rw [← hr, scan_stop hh] at hsc
  have e1 : (Fr.scanF bs).1 = pre := by rw [hsc]; simp
  have e2 : (Fr.scanF bs).2.1 = k := by rw [hsc]; rfl
  have e3 : (Fr.scanF bs).2.2 = c := by rw [hsc]
  rw [e1, e2, e3]
  exact ⟨_, rfl, hinv.1.later hb, hinv.2.1.trans (hb.mono hinv.2.1.size)⟩
theorem ref_step {w wr w6 : World} {n k m : Nat} {bs rest rec : List UInt8} {out v6 : Value} {pre : List (List UInt8)} (hinv : RInv w wr n bs out pre k) (hr : rest = bs.drop k) (hh : Fr.headF rest = .inr rec) (hm : rec.length = m) (hle : k + m + 12 ≤ n)
    (hl : Lists w6 w.heap.size v6 (pre ++ [rec])) (hb : Below w.heap.size w w6) : RInv w w6 n bs v6 (pre ++ [rec]) (k + m + 12) := by
  refine ⟨hl, hb, ?_, by have := hinv.2.2.2.1; simp; omega, hle⟩
  have hsc := hinv.2.2.1
  rw [← hr, scan_go hh, hr, List.drop_drop, hm, show k + (m + 12) = k + m + 12 by omega] at hsc
  rw [hsc]
  simp [Nat.add_assoc]
set_option maxRecDepth 100000 in
set_option maxHeartbeats 4000000 in
theorem RefScan_any (ao : Option Addr) (n cap : Nat) (bs : List UInt8) (w : World) (hs : IsBytes w ao n cap bs) (hn : n ≤ 4294967296) :
    Calls Try.prog 21 #[.slice ao n cap] w fun e w' => ∃ v, e = .returned (.tuple #[v, .int .i64 ((Fr.scanF bs).2.1 : Int), .int .i64 ((Fr.scanF bs).2.2 : Int)]) ∧ Lists w' w.heap.size v (Fr.scanF bs).1 ∧ Below w.heap.size w w' := by
  have HS := Lib.hid hs
  have HL := Lib.hid hs.1
  clear hs
  go_enter Try.func21, Try.ntmps21
  go_wp2
  go_loopw [5, 6] (fun out i wr => ∃ pre k, i = .int .i64 ((k : Nat) : Int) ∧ k ≤ n ∧ Hid (RInv w wr n bs out pre k)) (fun _ i _ => n - (intOf i).toNat)
  case atStart => exact ⟨[], 0, rfl, by omega, Lists.nil _ _, Below.refl _ _, by simp, by simp, by omega⟩
  case round =>
    obtain ⟨pre, k, rfl, hk, hinv⟩ := hrel
    by_cases hlt : k < n
    case neg =>
      obtain rfl : k = n := by omega
      have hd : bs.drop k = [] := List.drop_of_length_le (by rw [HL.out]; omega)
      have hh : Fr.headF (bs.drop k) = .inl 0 := by rw [hd]; rfl
      have HH := Lib.hid hh
      clear hd hh
      go_wp2
      go_ret3
      exact ref_end hinv.out rfl HH.out (Below.refl _ _)
    have hsr := HS.out.later hinv.out.2.1
    obtain ⟨ar, hsl, hrest, -⟩ := slice_from hsr k (by omega)
    obtain ⟨rest, hrd⟩ : ∃ r, r = bs.drop k := ⟨_, rfl⟩
    obtain ⟨N, hN⟩ : ∃ N, N = n - k := ⟨_, rfl⟩
    obtain ⟨C, hC⟩ : ∃ N, N = cap - k := ⟨_, rfl⟩
    have hrl : rest.length = N := by rw [hrd, List.length_drop, HL.out, hN]
    have hN0 : 0 < N := by omega
    have hsc := hinv.out.2.2.1
    rw [← hN, ← hC] at hsl hrest
    rw [← hrd] at hrest hsc
    have HSC := Lib.hid hsc
    have HRD := Lib.hid hrd
    have HRL := Lib.hid hrl
    have HREST := Lib.hid hrest
    have HKN := Lib.hid hN
    have hk0 : (0 : Int) ≤ (k : Int) := by omega
    have hkn : (k : Int) < (n : Int) := by omega
    have hNle : N ≤ n := by omega
    clear hsr hrest hrd hrl hsc hN hC
    -- too short for a head
    by_cases h8 : N < 8
    · have hh : Fr.headF rest = .inl 1 := by
        unfold Fr.headF
        rw [if_pos (by rw [HRL.out]; exact h8), if_neg (by rw [HRL.out]; omega)]
      have HH := Lib.hid hh
      have h8' : (N : Int) < 8 := by omega
      clear hh
      go_wp2
      go_ret3
      exact ref_end hinv.out HRD.out HH.out (Below.refl _ _)
    have h8' : (8 : Int) ≤ (N : Int) := by omega
    have h8n : ¬ (N : Int) < 8 := by omega
    obtain ⟨a4, hsl4, hrest4, -⟩ := slice_from HREST.out 4 (by omega)
    have hsl4 : ∀ w', (Instr.slice 22 (.slice ar N C) (some (.int .i64 4)) none none).run Try.prog w' = .ok (.slice a4 (N - 4) (C - 4)) w' := hsl4
    have HREST4 := Lib.hid hrest4
    obtain ⟨m, hm⟩ : ∃ m, m = Fr.num4 rest := ⟨_, rfl⟩
    obtain ⟨m4, hm4⟩ : ∃ m, m = Fr.num4 (rest.drop 4) := ⟨_, rfl⟩
    have hmlt : m < 4294967296 := by rw [hm]; exact Fr.num4_lt _
    have hmlt4 : m4 < 4294967296 := by rw [hm4]; exact Fr.num4_lt _
    have HM := Lib.hid hm
    have HM4 := Lib.hid hm4
    clear hrest4 hm hm4
    by_cases hc4 : m4 = 4294967295 - m
    case neg =>
      have hh : Fr.headF rest = .inl 2 := by
        unfold Fr.headF
        rw [if_neg (by rw [HRL.out]; exact h8), if_pos (.inl (by rw [← HM.out, ← HM4.out]; exact hc4))]
      have HH := Lib.hid hh
      have ht : ((m4 : Int) != bits .xor .u32 IntKind.u32.max (m : Int)) = true := by rw [Fr.not_nat m hmlt, bne_iff_ne]; omega
      have ht2 : ¬ ((m4 : Int) = bits .xor .u32 IntKind.u32.max (m : Int)) := by rw [Fr.not_nat m hmlt]; omega
      clear hh
      go_wp2_with fail
      refine (refNumber_any _ _ _ rest _ HREST.out (by omega)).mono ?_
      rintro e w1 ⟨rfl, hb1⟩
      rw [← HM.out]
      go_wp2_with fail
      refine (refNumber_any _ _ _ (rest.drop 4) _ (HREST4.out.later hb1) (by omega)).mono ?_
      rintro e w2 ⟨rfl, hb2⟩
      rw [← HM4.out]
      go_wp2_with fail
      go_ret3
      exact ref_end hinv.out HRD.out HH.out (hb1.trans (hb2.mono hb1.size))
    have ht : ((m4 : Int) != bits .xor .u32 IntKind.u32.max (m : Int)) = false := by rw [Fr.not_nat m hmlt, bne_eq_false_iff_eq]; omega
    have ht2 : ((4294967295 - m : Nat) : Int) = bits .xor .u32 IntKind.u32.max (m : Int) := (Fr.not_nat m hmlt).symm
    -- a length too great
    by_cases hbig : 65536 < m
    · have hh : Fr.headF rest = .inl 2 := by
        unfold Fr.headF
        rw [if_neg (by rw [HRL.out]; exact h8), if_pos (.inr (by rw [← HM.out]; exact hbig))]
      have HH := Lib.hid hh
      have hbig' : (65536 : Int) < (m : Int) := by omega
      clear hh
      go_wp2_with fail
      refine (refNumber_any _ _ _ rest _ HREST.out (by omega)).mono ?_
      rintro e w1 ⟨rfl, hb1⟩
      rw [← HM.out]
      go_wp2_with fail
      refine (refNumber_any _ _ _ (rest.drop 4) _ (HREST4.out.later hb1) (by omega)).mono ?_
      rintro e w2 ⟨rfl, hb2⟩
      rw [← HM4.out]
      go_wp2_with fail
      go_ret3
      exact ref_end hinv.out HRD.out HH.out (hb1.trans (hb2.mono hb1.size))
    have hbig' : (m : Int) ≤ 65536 := by omega
    -- too short for its length
    by_cases hshort : N < m + 12
    · have hh : Fr.headF rest = .inl 1 := by
        unfold Fr.headF
        rw [if_neg (by rw [HRL.out]; exact h8), if_neg (by rw [← HM.out, ← HM4.out]; exact fun h => h.elim (fun h => h hc4) (fun h => hbig h)), if_pos (by rw [HRL.out, ← HM.out]; exact hshort)]
      have HH := Lib.hid hh
      have hs' : (N : Int) < (m : Int) + 12 := by omega
      clear hh
      go_wp2_with fail
      refine (refNumber_any _ _ _ rest _ HREST.out (by omega)).mono ?_
      rintro e w1 ⟨rfl, hb1⟩
      rw [← HM.out]
      go_wp2_with fail
      refine (refNumber_any _ _ _ (rest.drop 4) _ (HREST4.out.later hb1) (by omega)).mono ?_
      rintro e w2 ⟨rfl, hb2⟩
      rw [← HM4.out]
      go_wp2_with fail
      go_ret3
      exact ref_end hinv.out HRD.out HH.out (hb1.trans (hb2.mono hb1.size))
    have hs' : (m : Int) + 12 ≤ (N : Int) := by omega
    obtain ⟨a8, hsl8, hrec, -⟩ := slice_both HREST.out 8 (8 + m) (by omega) (by omega)
    obtain ⟨a9, hsl9, hcs, -⟩ := slice_from HREST.out (8 + m) (by omega)
    rw [show 8 + m - 8 = m by omega] at hsl8 hrec
    rw [List.drop_take, show 8 + m - 8 = m by omega] at hrec
    have hsl8 : ∀ w', (Instr.slice 22 (.slice ar N C) (some (.int .i64 8)) (some (.int .i64 (8 + (m : Int)))) none).run Try.prog w' = .ok (.slice a8 m (C - 8)) w' := hsl8
    have hsl9 : ∀ w', (Instr.slice 22 (.slice ar N C) (some (.int .i64 (8 + (m : Int)))) none none).run Try.prog w' = .ok (.slice a9 (N - (8 + m)) (C - (8 + m))) w' := hsl9
    obtain ⟨rec, hrecd⟩ : ∃ r, r = (rest.drop 8).take m := ⟨_, rfl⟩
    obtain ⟨c, hcd⟩ : ∃ c, c = Fr.num4 (rest.drop (8 + m)) := ⟨_, rfl⟩
    rw [← hrecd] at hrec
    have HREC := Lib.hid hrec
    have HCS := Lib.hid hcs
    have HCD := Lib.hid hcd
    have HRECD := Lib.hid hrecd
    have hrl : rec.length = m := hrec.1
    have hheadE : c ≠ (Fr.sumB rec).toNat → Fr.headF rest = .inl 2 := fun hne => by
      unfold Fr.headF
      rw [if_neg (by rw [HRL.out]; exact h8), if_neg (by rw [← HM.out, ← HM4.out]; exact fun h => h.elim (fun h => h hc4) (fun h => hbig h)), if_neg (by rw [HRL.out, ← HM.out]; exact hshort), if_pos (by rw [← HM.out, ← HCD.out, ← HRECD.out]; exact hne)]
    have hheadR : c = (Fr.sumB rec).toNat → Fr.headF rest = .inr rec := fun he => by
      unfold Fr.headF
      rw [if_neg (by rw [HRL.out]; exact h8), if_neg (by rw [← HM.out, ← HM4.out]; exact fun h => h.elim (fun h => h hc4) (fun h => hbig h)), if_neg (by rw [HRL.out, ← HM.out]; exact hshort), if_neg (by rw [← HM.out, ← HCD.out, ← HRECD.out]; exact fun h => h he), ← HM.out, ← HRECD.out]
    obtain ⟨sm, hsm⟩ : ∃ s, s = (Fr.sumB rec).toNat := ⟨_, rfl⟩
    rw [← hsm] at hheadE hheadR
    have HSM := Lib.hid hsm
    have HHE := Lib.hid hheadE
    have HHR := Lib.hid hheadR
    clear hrec hcs hcd hrecd hsm hheadE hheadR
    by_cases hcsum : c = sm
    case neg =>
      have HH := Lib.hid (HHE.out hcsum)
      have hq : ((c : Int) != (sm : Int)) = true := by rw [bne_iff_ne]; omega
      have hq2 : ¬ (c : Int) = (sm : Int) := by omega
      go_wp2_with fail
      refine (refNumber_any _ _ _ rest _ HREST.out (by omega)).mono ?_
      rintro e w1 ⟨rfl, hb1⟩
      rw [← HM.out]
      go_wp2_with fail
      refine (refNumber_any _ _ _ (rest.drop 4) _ (HREST4.out.later hb1) (by omega)).mono ?_
      rintro e w2 ⟨rfl, hb2⟩
      rw [← HM4.out]
      have HB2 := Lib.hid (hb1.trans (hb2.mono hb1.size))
      clear hb1 hb2
      go_wp2_with fail
      refine (refNumber_any _ _ _ _ _ (HCS.out.later HB2.out) (by omega)).mono ?_
      rintro e w3 ⟨rfl, hb3⟩
      rw [← HCD.out]
      have HB3 := Lib.hid (HB2.out.trans (hb3.mono HB2.out.size))
      clear hb3
      go_wp2_with fail
      refine (RefSum_any _ _ _ rec _ (HREC.out.later HB3.out)).mono ?_
      rintro e w4 ⟨rfl, rfl⟩
      rw [← HSM.out]
      go_wp2_with fail
      go_ret3
      exact ref_end hinv.out HRD.out HH.out HB3.out
    have HH := Lib.hid (HHR.out hcsum)
    subst hcsum
    go_wp2_with fail
    refine (refNumber_any _ _ _ rest _ HREST.out (by omega)).mono ?_
    rintro e w1 ⟨rfl, hb1⟩
    rw [← HM.out]
    go_wp2_with fail
    refine (refNumber_any _ _ _ (rest.drop 4) _ (HREST4.out.later hb1) (by omega)).mono ?_
    rintro e w2 ⟨rfl, hb2⟩
    rw [← HM4.out]
    have HB2 := Lib.hid (hb1.trans (hb2.mono hb1.size))
    clear hb1 hb2
    go_wp2_with fail
    refine (refNumber_any _ _ _ _ _ (HCS.out.later HB2.out) (by omega)).mono ?_
    rintro e w3 ⟨rfl, hb3⟩
    rw [← HCD.out]
    have HB3 := Lib.hid (HB2.out.trans (hb3.mono HB2.out.size))
    clear hb3
    go_wp2_with fail
    refine (RefSum_any _ _ _ rec _ (HREC.out.later HB3.out)).mono ?_
    rintro e w4 ⟨rfl, rfl⟩
    rw [← HSM.out]
    have hmade : OwnB (w3.alloc (.cells #[] 5)) w3.heap.size (.slice (some ⟨w3.heap.size, 0, none⟩) 0 0) [] := OwnB_made
    have hba : Below w3.heap.size w3 (w3.alloc (.cells #[] 5)) := (Below.refl _ _).alloc (Nat.le_refl _) _
    have HMADE := Lib.hid hmade
    have HREC4 := Lib.hid ((HREC.out.later HB3.out).later hba)
    have HBA := Lib.hid hba
    clear hmade hba
    have hwb := hinv.out.2.1.trans (HB3.out.mono hinv.out.2.1.size)
    have hwb3 : w.heap.size ≤ w3.heap.size := hwb.size
    have hpre := hinv.out.2.2.2.1
    have HWB := Lib.hid hwb
    have HL3 := Lib.hid (hinv.out.1.later HB3.out)
    clear hwb
    go_wp2_with (first
      | (at_builtin; refine wpList_append_lists rfl _ _ rfl w.heap.size _ pre rfl HL5.out w5.heap.size rfl (.slice a5 m c5) rec HO5.out (heap_alloc_new w5 _) (by omega) HWB5.out.size ?_; intro v6 w6 hl6 hg6)
      | (at_builtin; refine wpList_append_bytes rfl _ _ rfl w3.heap.size _ [] rfl HMADE.out _ _ _ rec rfl HREC4.out (by simp; omega) HBA.out.size ?_; intro v5 w5 hown5 hg5
         have hb35 := HBA.out.grown hg5 HBA.out.size (fun k hk => (HMADE.out.1.lt k hk).1)
         rw [List.nil_append] at hown5
         obtain ⟨a5, c5, hv5, -, -⟩ := hown5.bytes
         rw [hrl] at hv5
         subst hv5
         have hal : Below w5.heap.size w5 (w5.alloc (.cells #[.slice a5 m c5] 22)) := (Below.refl _ _).alloc (Nat.le_refl _) _
         have hb36 := hb35.trans (hal.mono hb35.size)
         have HL5 := Lib.hid (HL3.out.later hb36)
         have HWB5 := Lib.hid (HWB.out.trans (hb36.mono hwb3))
         have HO5 := Lib.hid ((hown5.later hal).base hwb3)
         clear hb35 hown5 hg5 hal hb36))
    have HL6 := Lib.hid hl6
    have HB6 := Lib.hid (HWB5.out.grown hg6 HWB5.out.size (fun k hk => (HL5.out.lt k hk).1))
    clear hl6 hg6
    go_wp2_with fail
    go_roundw
    case rel => exact ⟨pre ++ [rec], k + m + 12, by go_num, by have := HKN.out; omega, ref_step hinv.out HRD.out HH.out hrl (by have := HKN.out; omega) HL6.out HB6.out⟩
    case measure => have := HKN.out; simp [intOf]; omega
end Go.Proofs.Ytfpjbkbfaaieiaa

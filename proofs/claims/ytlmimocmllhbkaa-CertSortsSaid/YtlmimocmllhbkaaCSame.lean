/- apportionkit.SameCerts of the same; apportionref22.Of -/
import Derived.Test.YtlmimocmllhbkaaCAhead
namespace Go.Proofs.Ytlmimocmllhbkaa
open Go.RowKit
set_option maxRecDepth 100000 in
set_option maxHeartbeats 1000000 in
theorem Same_any (ao : Option Addr) (n cap : Nat) (bo : Option Addr) (cap2 : Nat) (L : List Crt) (w : World) (h : IsCerts w ao n cap L) (h2 : IsCerts w bo n cap2 L) :
    Calls Try.prog 14 #[.slice ao n cap, .slice bo n cap2] w fun e w' => e = .returned (.bool true) ∧ Below w.heap.size w w' := by
  have HI := Lib.hid h
  have HJ := Lib.hid h2
  have hcm := h.2.2.1
  have hnc := h.2.1
  clear h h2
  unfold maxLen at hcm
  have hnn : ((n : Int) == (n : Int)) = true := by simp
  go_enter Try.func14, Try.ntmps14
  go_wp2
  go_loopw [5] (fun i wr => ∃ k : Nat, k ≤ n ∧ i = .int .i64 k ∧ Hid (Below w.heap.size w wr)) (fun i _ => n - (intOf i).toNat)
  case atStart => exact ⟨0, by omega, rfl, Below.refl _ _⟩
  case round =>
    obtain ⟨k, hk, rfl, hbl⟩ := hrel
    by_cases hlt : k < n
    · have hi0 : (0 : Int) ≤ (k : Int) := by omega
      have hi5 : (k : Int) < (n : Int) := by omega
      obtain ⟨b, off, rfl, hat⟩ := (HI.out.later hbl.out (Nat.le_refl _)).2.2.2.1 (by omega)
      obtain ⟨b2, off2, rfl, hat2⟩ := (HJ.out.later hbl.out (Nat.le_refl _)).2.2.2.1 (by omega)
      obtain ⟨c, hc⟩ : ∃ c, c = L.getD k c0 := ⟨_, rfl⟩
      have hkc := hat k hlt
      have hkd := hat2 k hlt
      rw [← hc] at hkc hkd
      have e0 : wr.cell? ⟨b, off + k * 5, none⟩ = some (.int .i64 c.cu) := hkc 0 (by omega)
      have e1 : wr.cell? ⟨b, off + k * 5 + 1, none⟩ = some (.int .i64 c.ju) := hkc 1 (by omega)
      have e2 : wr.cell? ⟨b, off + k * 5 + 2, none⟩ = some (.int .i64 c.ca) := hkc 2 (by omega)
      have e3 : wr.cell? ⟨b, off + k * 5 + 3, none⟩ = some (.int .i64 c.fr) := hkc 3 (by omega)
      have e4 : wr.cell? ⟨b, off + k * 5 + 4, none⟩ = some (.int .i64 c.to) := hkc 4 (by omega)
      have d0 : wr.cell? ⟨b2, off2 + k * 5, none⟩ = some (.int .i64 c.cu) := hkd 0 (by omega)
      have d1 : wr.cell? ⟨b2, off2 + k * 5 + 1, none⟩ = some (.int .i64 c.ju) := hkd 1 (by omega)
      have d2 : wr.cell? ⟨b2, off2 + k * 5 + 2, none⟩ = some (.int .i64 c.ca) := hkd 2 (by omega)
      have d3 : wr.cell? ⟨b2, off2 + k * 5 + 3, none⟩ = some (.int .i64 c.fr) := hkd 3 (by omega)
      have d4 : wr.cell? ⟨b2, off2 + k * 5 + 4, none⟩ = some (.int .i64 c.to) := hkd 4 (by omega)
      have hql : ∀ w', (binOp .neq 30 (.agg #[.int .i64 c.cu, .int .i64 c.ju, .int .i64 c.ca, .int .i64 c.fr, .int .i64 c.to]) (.agg #[.int .i64 c.cu, .int .i64 c.ju, .int .i64 c.ca, .int .i64 c.fr, .int .i64 c.to])).run Try.prog w' = .ok (.bool false) w' := by
        intro w'
        have := run_neq_cert c c w'
        rw [(eqC_iff c c).2 rfl] at this
        exact this
      clear hat hat2 hkc hkd hc
      go_wp2_with fail
      go_quiet (fail)
      go_wp2_with fail
      go_roundw
      case rel => exact ⟨k + 1, by omega, by go_num, below_drewN hbl.out _⟩
      case measure => simp [intOf]; omega
    · obtain rfl : k = n := by omega
      go_wp2
      go_ret
      exact ⟨rfl, hbl.out⟩
set_option maxRecDepth 100000 in
set_option maxHeartbeats 1000000 in
theorem refOf_any (ao : Option Addr) (n cap : Nat) (L : List Crt) (cu : Int) (w : World) (h : IsCerts w ao n cap L) (hn : n ≤ 100000) :
    Calls Try.prog 16 #[.slice ao n cap, .int .i64 cu] w fun e w' => ∃ v, e = .returned v ∧ OwnC w' w.heap.size v (L.filter fun c => decide (c.cu = cu)) ∧ Below w.heap.size w w' := by
  obtain ⟨hl, hnc, hcm, hc, h0⟩ := h
  unfold maxLen at hcm
  have HL := Lib.hid hl
  have HC := Lib.hid hc
  clear hl hc
  go_enter Try.func16, Try.ntmps16
  go_wp2
  go_loopw [5, 6] (fun v i wr => ∃ k : Nat, k ≤ n ∧ i = .int .i64 k ∧ Hid (OwnC wr w.heap.size v ((L.take k).filter fun c => decide (c.cu = cu))) ∧ Hid (Below w.heap.size w wr)) (fun _ i _ => n - (intOf i).toNat)
  case atStart => exact ⟨0, by omega, rfl, Lib.hid (by simpa using OwnC.nil _ _), Below.refl _ _⟩
  case round =>
    obtain ⟨k, hk, rfl, hown, hbl⟩ := hrel
    by_cases hlt : k < n
    · have hi0 : (0 : Int) ≤ (k : Int) := by omega
      have hi5 : (k : Int) < (n : Int) := by omega
      obtain ⟨b, off, rfl, hcs⟩ := HC.out (by omega)
      have hcs2 := hcs.later hbl.out (hcs.lt (by omega))
      obtain ⟨c, hc⟩ : ∃ c, c = L.getD k c0 := ⟨_, rfl⟩
      have hk0 := hcs2 k hlt
      rw [← hc] at hk0
      have htk : L.take (k + 1) = L.take k ++ [c] := by rw [hc]; exact take_more (by rw [HL.out]; exact hlt)
      have HT := Lib.hid htk
      have e0 : wr.cell? ⟨b, off + k * 5, none⟩ = some (.int .i64 c.cu) := hk0 0 (by omega)
      have e1 : wr.cell? ⟨b, off + k * 5 + 1, none⟩ = some (.int .i64 c.ju) := hk0 1 (by omega)
      have e2 : wr.cell? ⟨b, off + k * 5 + 2, none⟩ = some (.int .i64 c.ca) := hk0 2 (by omega)
      have e3 : wr.cell? ⟨b, off + k * 5 + 3, none⟩ = some (.int .i64 c.fr) := hk0 3 (by omega)
      have e4 : wr.cell? ⟨b, off + k * 5 + 4, none⟩ = some (.int .i64 c.to) := hk0 4 (by omega)
      clear hcs hcs2 hk0 hc htk
      by_cases hcu : c.cu = cu
      · have hcu1 : (c.cu == cu) = true := by simpa using hcu
        have HCU := Lib.hid hcu
        clear hcu
        go_wp2_with (refine wpList_append_certs rfl _ _ rfl w.heap.size u5 _ rfl (hown.out.later ((Below.refl _ _).alloc (Nat.le_refl _) _)) _ 1 1 [c] rfl (one_at _ c wr.heap.size (by simp)) (by have := List.length_filter_le (fun c : Crt => decide (c.cu = cu)) (L.take k); have := List.length_take_le k L; simp; omega) (by have := hbl.out.size; simp; omega) ?_; intro v' w' hown2 hgr)
        go_roundw
        case rel =>
          refine ⟨k + 1, by omega, by go_num, ?_, below_of_grownBy (hbl.out.alloc hbl.out.size _) (hown.out.later ((Below.refl _ _).alloc (Nat.le_refl _) _)) hgr (by have := hbl.out.size; simp; omega)⟩
          rw [HT.out, List.filter_append]
          refine Lib.hid ?_
          simp only [List.filter_cons, decide_eq_true HCU.out, if_true, List.filter_nil]
          exact hown2
        case measure => simp [intOf]; omega
      · have hcu1 : (c.cu == cu) = false := by simpa using hcu
        have HCU := Lib.hid hcu
        go_wp2_with fail
        go_roundw
        case rel =>
          refine ⟨k + 1, by omega, by go_num, ?_, hbl.out⟩
          rw [HT.out, List.filter_append]
          refine Lib.hid ?_
          simp only [List.filter_cons, decide_eq_false HCU.out, Bool.false_eq_true, if_false, List.filter_nil, List.append_nil]
          exact hown.out
        case measure => simp [intOf]; omega
    · obtain rfl : k = n := by omega
      go_wp2
      go_ret
      refine ⟨_, rfl, ?_, hbl.out⟩
      have := hown.out
      rwa [List.take_of_length_le (by rw [HL.out]; exact Nat.le_refl _)] at this
end Go.Proofs.Ytlmimocmllhbkaa

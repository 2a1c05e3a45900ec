/- slices.Clone of certificates; cert.Of -/
import Derived.Test.YtlmimocmllhbkaaCOwn
import Derived.WalkSpells
namespace Go.Proofs.Ytlmimocmllhbkaa
open Go.RowKit
theorem OwnC.none_new (w : World) (base : Nat) (hb : base ≤ w.heap.size) : OwnC (w.alloc (Obj.cells #[] 30)) base (.slice (some ⟨w.heap.size, 0, none⟩) 0 0) [] :=
  ⟨rfl, .inr ⟨_, _, #[], rfl, hb, alloc_new w _, Nat.le_refl _, by unfold maxLen; omega, rfl, rfl⟩⟩
theorem below_of_grownBy {w w1 w' : World} {base : Nat} {v : Value} {L : List Crt} (h : Below base w w1) (hown : OwnC w1 base v L) (hg : w1.grownBy w' v.ownBlock) (hb : base ≤ w1.heap.size) : Below base w w' :=
  h.grown hg hb fun k hk => (hown.lt k hk).1
set_option maxRecDepth 100000 in
set_option maxRecDepth 100000 in
theorem Clone_any (ao : Option Addr) (n cap : Nat) (L : List Crt) (w : World) (h : IsCerts w ao n cap L) (hn : n ≤ 100000) :
    Calls Try.prog 22 #[.slice ao n cap] w fun e w' => ∃ v, e = .returned v ∧ OwnC w' w.heap.size v L ∧ Below w.heap.size w w' := by
  cases ao with
  | none =>
    obtain ⟨rfl, rfl⟩ := h.2.2.2.2 rfl
    obtain rfl : L = [] := List.eq_nil_of_length_eq_zero h.1
    have hql := fun w' => Lib.run_eql_slice_nil (P := Try.prog) w' 24 30 none 0 0 0 0 Try.underlying24
    clear h hn
    go_enter Try.func22, Try.ntmps22
    go_wp2
    go_ret
    exact ⟨_, rfl, OwnC.nil _ _, Below.refl _ _⟩
  | some ad =>
    have HS := Lib.hid h
    have hql := fun w' => Lib.run_eql_slice_nil (P := Try.prog) w' 24 30 (some ad) n cap 0 0 Try.underlying24
    clear h
    go_enter Try.func22, Try.ntmps22
    go_wp2_with (refine wpList_append_certs rfl _ _ rfl w.heap.size (.slice (some ⟨w.heap.size, 0, none⟩) 0 0) [] rfl (OwnC.none_new w _ (Nat.le_refl _)) (some ad) n cap L rfl (HS.out.later ((Below.refl _ _).alloc (Nat.le_refl _) _) (Nat.le_refl _)) (by simp; omega) (by simp) ?_; intro v' w' hown hgr)
    go_ret
    exact ⟨_, rfl, hown, below_of_grownBy ((Below.refl _ _).alloc (Nat.le_refl _) _) (OwnC.none_new w _ (Nat.le_refl _)) hgr (by simp)⟩
theorem one_at (w : World) (c : Crt) (g : Nat) (hg : g = w.heap.size) : IsCerts (w.alloc (Obj.cells #[Value.int .i64 c.cu, Value.int .i64 c.ju, Value.int .i64 c.ca, Value.int .i64 c.fr, Value.int .i64 c.to] 30)) (some ⟨g, 0, none⟩) 1 1 [c] := by
  subst hg; exact one_certs w c
set_option maxRecDepth 100000 in
set_option maxHeartbeats 1000000 in
theorem Of_any (ao : Option Addr) (n cap : Nat) (L : List Crt) (cu : Int) (w : World) (h : IsCerts w ao n cap L) (hn : n ≤ 100000) :
    Calls Try.prog 12 #[.slice ao n cap, .int .i64 cu] w fun e w' => ∃ v, e = .returned v ∧ OwnC w' w.heap.size v (L.filter fun c => decide (c.cu = cu)) ∧ Below w.heap.size w w' := by
  obtain ⟨hl, hnc, hcm, hc, h0⟩ := h
  unfold maxLen at hcm
  have HL := Lib.hid hl
  have HC := Lib.hid hc
  clear hl hc
  go_enter Try.func12, Try.ntmps12
  go_wp2
  go_loopw [5, 10] (fun v i wr => ∃ k : Nat, k ≤ n ∧ i = .int .i64 k ∧ Hid (OwnC wr w.heap.size v ((L.take k).filter fun c => decide (c.cu = cu))) ∧ Hid (Below w.heap.size w wr)) (fun _ i _ => n - (intOf i).toNat)
  case atStart => exact ⟨0, by omega, rfl, Lib.hid (by simpa using OwnC.nil _ _), Below.refl _ _⟩
  case round =>
    obtain ⟨k, hk, rfl, hown, hbl⟩ := hrel
    by_cases hlt : k < n
    · have hi0 : (0 : Int) ≤ (k : Int) := by omega
      have hi5 : (k : Int) < (n : Int) := by omega
      obtain ⟨b, off, rfl, hcs⟩ := HC.out (by omega)
      have hcs2 := hcs.later hbl.out (hcs.lt (by omega))
      obtain ⟨c, hc⟩ : ∃ c, c = L.getD k c0 := ⟨_, rfl⟩
      have hk0 := hcs2 k hlt
      rw [← hc] at hk0
      have htk : L.take (k + 1) = L.take k ++ [c] := by
        have hkl : k < L.length := by rw [HL.out]; exact hlt
        rw [List.take_succ_eq_append_getElem hkl, hc, List.getD_eq_getElem?_getD, List.getElem?_eq_getElem hkl]; rfl
      have HT := Lib.hid htk
      have e0 : wr.cell? ⟨b, off + k * 5, none⟩ = some (.int .i64 c.cu) := hk0 0 (by omega)
      have e1 : wr.cell? ⟨b, off + k * 5 + 1, none⟩ = some (.int .i64 c.ju) := hk0 1 (by omega)
      have e2 : wr.cell? ⟨b, off + k * 5 + 2, none⟩ = some (.int .i64 c.ca) := hk0 2 (by omega)
      have e3 : wr.cell? ⟨b, off + k * 5 + 3, none⟩ = some (.int .i64 c.fr) := hk0 3 (by omega)
      have e4 : wr.cell? ⟨b, off + k * 5 + 4, none⟩ = some (.int .i64 c.to) := hk0 4 (by omega)
      clear hcs hcs2 hk0 hc htk
      by_cases hcu : c.cu = cu
      · have hcu1 : (c.cu == cu) = true := by simpa using hcu
        have HCU := Lib.hid hcu
        clear hcu
        have hf0 : wr.cell? ⟨b, off, none⟩ = wr.cell? ⟨b, off, none⟩ := rfl
        clear hf0
        go_wp2_with (refine wpList_append_certs rfl _ _ rfl w.heap.size u5 _ rfl (hown.out.later ((((Below.refl _ _).alloc (Nat.le_refl _) _).alloc (by simp) _))) _ 1 1 [c] rfl (one_at _ c (wr.heap.size + 1) (by simp)) (by have := List.length_filter_le (fun c : Crt => decide (c.cu = cu)) (L.take k); have := List.length_take_le k L; simp; omega) (by have := hbl.out.size; simp; omega) ?_; intro v' w' hown2 hgr)
        go_roundw
        case rel =>
          refine ⟨k + 1, by omega, by go_num, ?_, below_of_grownBy ((hbl.out.alloc hbl.out.size _).alloc (by have := hbl.out.size; simp; omega) _) (hown.out.later (((Below.refl _ _).alloc (Nat.le_refl _) _).alloc (by simp) _)) hgr (by have := hbl.out.size; simp; omega)⟩
          rw [HT.out, List.filter_append]
          refine Lib.hid ?_
          simp only [List.filter_cons, decide_eq_true HCU.out, if_true, List.filter_nil]
          exact hown2
        case measure => simp [intOf]; omega
      · have hcu1 : (c.cu == cu) = false := by simpa using hcu
        have HCU := Lib.hid hcu
        go_wp2_with fail
        go_roundw
        case rel =>
          refine ⟨k + 1, by omega, by go_num, ?_, hbl.out.alloc hbl.out.size _⟩
          rw [HT.out, List.filter_append]
          refine Lib.hid ?_
          simp only [List.filter_cons, decide_eq_false HCU.out, Bool.false_eq_true, if_false, List.filter_nil, List.append_nil]
          exact hown.out.later ((Below.refl _ _).alloc (Nat.le_refl _) _)
        case measure => simp [intOf]; omega
    · obtain rfl : k = n := by omega
      go_wp2
      go_ret
      refine ⟨_, rfl, ?_, hbl.out⟩
      have := hown.out
      rwa [List.take_of_length_le (by rw [HL.out]; exact Nat.le_refl _)] at this
end Go.Proofs.Ytlmimocmllhbkaa

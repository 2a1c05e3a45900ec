/- cert: Of, of a customer that has none; apportionlaw22: sample -/
import Derived.Test.YtlmimocmllhbkaaCUntil
namespace Go.Proofs.Ytlmimocmllhbkaa
open Go.RowKit
set_option maxRecDepth 100000 in
theorem Of_none (ao : Option Addr) (n cap : Nat) (L : List Crt) (cu : Int) (w : World) (h : IsCerts w ao n cap L) (hno : ∀ i, i < n → (L.getD i c0).cu ≠ cu) :
    Calls Try.prog 12 #[.slice ao n cap, .int .i64 cu] w fun e w' => e = .returned (.slice none 0 0) ∧ Below w.heap.size w w' := by
  obtain ⟨hl, hnc, hcm, hc, h0⟩ := h
  unfold maxLen at hcm
  have HN := Lib.hid hno
  have HC := Lib.hid hc
  clear hl hc hno
  go_enter Try.func12, Try.ntmps12
  go_wp2
  go_loopw [5, 10] (fun v i wr => ∃ k : Nat, k ≤ n ∧ i = .int .i64 k ∧ v = .slice none 0 0 ∧ Hid (Below w.heap.size w wr)) (fun _ i _ => n - (intOf i).toNat)
  case atStart => exact ⟨0, by omega, rfl, rfl, Below.refl _ _⟩
  case round =>
    obtain ⟨k, hk, rfl, rfl, hbl⟩ := hrel
    by_cases hlt : k < n
    · have hi0 : (0 : Int) ≤ (k : Int) := by omega
      have hi5 : (k : Int) < (n : Int) := by omega
      obtain ⟨b, off, rfl, hcs⟩ := HC.out (by omega)
      have hcs2 := hcs.later hbl.out (hcs.lt (by omega))
      obtain ⟨c, hc⟩ : ∃ c, c = L.getD k c0 := ⟨_, rfl⟩
      have hk0 := hcs2 k hlt
      have hne := HN.out k hlt
      rw [← hc] at hk0 hne
      have hne1 : (c.cu == cu) = false := by simpa using hne
      have e0 : wr.cell? ⟨b, off + k * 5, none⟩ = some (.int .i64 c.cu) := hk0 0 (by omega)
      have e1 : wr.cell? ⟨b, off + k * 5 + 1, none⟩ = some (.int .i64 c.ju) := hk0 1 (by omega)
      have e2 : wr.cell? ⟨b, off + k * 5 + 2, none⟩ = some (.int .i64 c.ca) := hk0 2 (by omega)
      have e3 : wr.cell? ⟨b, off + k * 5 + 3, none⟩ = some (.int .i64 c.fr) := hk0 3 (by omega)
      have e4 : wr.cell? ⟨b, off + k * 5 + 4, none⟩ = some (.int .i64 c.to) := hk0 4 (by omega)
      clear hcs hcs2 hk0 hc
      go_wp2_with fail
      go_roundw
      case rel => exact ⟨k + 1, by omega, by go_num, rfl, hbl.out.alloc hbl.out.size _⟩
      case measure => simp [intOf]; omega
    · obtain rfl : k = n := by omega
      go_wp2
      go_ret
      exact ⟨rfl, hbl.out⟩
def smp : List Crt := [⟨5, 0, 0, 10, 20⟩, ⟨5, 1, 7, 15, 30⟩]
theorem sample_any (w : World) : Calls Try.prog 8 #[] w fun e w' => ∃ b, e = .returned (.slice (some ⟨b, 0, none⟩) 2 2) ∧ IsCerts w' (some ⟨b, 0, none⟩) 2 2 smp ∧ Below w.heap.size w w' := by
  go_enter Try.func8, Try.ntmps8
  go_wp2
  go_ret
  refine ⟨w.heap.size, rfl, ⟨rfl, by omega, by unfold maxLen; omega, fun _ => ⟨_, _, rfl, fun i hi j hj => ?_⟩, fun h => by cases h⟩, (Below.refl _ _).alloc (Nat.le_refl _) _⟩
  rw [cell_of_row _ _ _ _ _ _ (alloc_new w _)]
  rcases i with _ | _ | i
  · rcases j with _ | _ | _ | _ | _ | j <;> first | rfl | omega
  · rcases j with _ | _ | _ | _ | _ | j <;> first | rfl | omega
  · omega
theorem smp_check : checkP smp = (0, 0) := by decide
theorem one_certs (w : World) (c : Crt) : IsCerts (w.alloc (Obj.cells #[Value.int .i64 c.cu, Value.int .i64 c.ju, Value.int .i64 c.ca, Value.int .i64 c.fr, Value.int .i64 c.to] 30)) (some ⟨w.heap.size, 0, none⟩) 1 1 [c] := by
  refine ⟨rfl, by omega, by unfold maxLen; omega, fun _ => ⟨_, _, rfl, fun i hi j hj => ?_⟩, fun h => by cases h⟩
  rw [cell_of_row _ _ _ _ _ _ (alloc_new w _)]
  rcases i with _ | i
  · rcases j with _ | _ | _ | _ | _ | j <;> first | rfl | omega
  · omega
theorem smp_to : ∀ i, i < 2 → 0 ≤ (smp.getD i c0).to ∧ (smp.getD i c0).to ≤ 3652058 := by
  intro i hi
  rcases i with _ | _ | i
  · decide
  · decide
  · omega
theorem untilF_go {L : List Crt} {q : Qst} {n f : Nat} {d e : Int} (h : nx L q d n = e) (hne : e ≠ d) : untilF L q n (f + 1) d = untilF L q n f e := by rw [untilF, h, if_neg hne]
theorem untilF_stop {L : List Crt} {q : Qst} {n f : Nat} {d : Int} (h : nx L q d n = d) : untilF L q n (f + 1) d = d := by rw [untilF, if_pos h]
theorem smp_until1 : untilF smp ⟨5, 1, 8, 12⟩ 2 3652060 12 = 20 := (untilF_go (f := 3652059) (e := 20) (by decide) (by decide)).trans (untilF_stop (f := 3652058) (by decide))
theorem smp_until2 : untilF smp ⟨5, 1, 7, 12⟩ 2 3652060 12 = 30 := (untilF_go (f := 3652059) (e := 20) (by decide) (by decide)).trans ((untilF_go (f := 3652058) (e := 30) (by decide) (by decide)).trans (untilF_stop (f := 3652057) (by decide)))
theorem smp_of : ∀ i, i < 2 → (smp.getD i c0).cu ≠ 6 := by
  intro i hi
  rcases i with _ | _ | i
  · decide
  · decide
  · omega
end Go.Proofs.Ytlmimocmllhbkaa

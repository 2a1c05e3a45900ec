/- ring.bad, ring.at, ring.size -/
import Derived.Test.YtgijaaklhdcgeaaQOnG
import Derived.Test.YtgijaaklhdcgeaaQBox
set_option linter.unusedSimpArgs false
set_option linter.unusedVariables false
namespace Go.Proofs.Ytgijaaklhdcgeaa
open Go.RowKit Go.Geo
attribute [local go_sem] Oper.semAt_some
/-- a fault, as a value. -/
def faultV (x : Int × Int) : Value := .agg #[.int .i64 x.1, .int .i64 x.2]
theorem load_two {t : TypeId} (ha : ∀ w, (isAgg t).run Try.prog w = .ok true w) (hz : ∀ w, (Go.sizeOf t).run Try.prog w = .ok 2 w) {w : World} {g : Nat} {a b : Value} (hg : w.heap[g]? = some (.cells #[a, b] t (0, 0))) : (loadVar t ⟨g, 0, none⟩).run Try.prog w = .ok (.agg #[a, b]) w := by
  have c0 : w.cell? ⟨g, 0, none⟩ = some a := cell_of_row _ _ _ _ _ _ hg
  have c1 : w.cell? ⟨g, 1, none⟩ = some b := cell_of_row _ _ _ _ _ _ hg
  have hl : (loadCells ⟨g, 0, none⟩ 2).run Try.prog w = .ok #[a, b] w :=
    run_loadCells_list (P := Try.prog) w ⟨g, 0, none⟩ [a, b] (fun j v hv => by
      have hadd : (⟨g, 0, none⟩ : Addr).add j = ⟨g, j, none⟩ := by unfold Addr.add; split <;> simp_all
      rw [hadd]
      match j, hv with
      | 0, hv => cases hv; exact c0
      | 1, hv => cases hv; exact c1)
  simp [loadVar, Sem.run_bind, ha, hz, hl, Result.andThen_ok]
theorem results_fault {fn : Func} {p u : Tmp} (h : fn.results = #[.cell p 32, .tmp u]) {tmps : Array Value} {w : World} {g : Nat} {a b : Value}
    (hp : tmps.getD p undef = .pointer (some ⟨g, 0, none⟩)) (hg : w.heap[g]? = some (.cells #[a, b] 32 (0, 0))) :
    (results fn tmps).run Try.prog w = .ok (.tuple #[.agg #[a, b], tmps.getD u undef]) w := by
  rw [results_cell_tmp h, hp]
  simp [asAddr, load_two (fun w => by kernel_rfl) (fun w => by kernel_rfl) hg, Result.andThen_ok]
theorem results_point {fn : Func} {p : Tmp} (h : fn.results = #[.cell p 27]) {tmps : Array Value} {w : World} {g : Nat} {a b : Value}
    (hp : tmps.getD p undef = .pointer (some ⟨g, 0, none⟩)) (hg : w.heap[g]? = some (.cells #[a, b] 27 (0, 0))) :
    (results fn tmps).run Try.prog w = .ok (.agg #[a, b]) w := by
  exact results_cell_row h tmps w g _ _ _ _ hp hg Try.underlying27 rfl (by kernel_rfl)
set_option maxRecDepth 100000 in
theorem bad_any (e a : Int) (w : World) : Calls Try.prog 80 #[.int .i64 e, .int .i64 a] w fun en w' => en = .returned (.tuple #[faultV (e, a), .bool true]) ∧ Grew w w' := by
  unfold faultV
  go_enter Try.func80, Try.ntmps80
  go_wp2_with fail
  exact bodyPost_ret (results_fault rfl rfl (alloc_new _ _)) rfl ⟨rfl, (Grew.refl _).alloc _⟩
theorem at_mod {i : Int} {n : Nat} (hn : 0 < n) (h0 : -1 ≤ i) (h1 : i ≤ n) : Int.tmod (Int.tmod i n + n) n = (((i + n).toNat % n : Nat) : Int) := by
  have e1 : Int.tmod i n = i - n * Int.tdiv i n := Int.tmod_def _ _
  have hp : 0 ≤ Int.tmod i n + n := by
    have := Int.lt_tmod_of_pos i (show (0 : Int) < n by omega)
    omega
  rw [Int.tmod_eq_emod_of_nonneg hp, e1]
  rw [show i - (n : Int) * Int.tdiv i n + n = i + n + (n : Int) * (- Int.tdiv i n) by rw [Int.mul_neg]; omega]
  rw [Int.add_mul_emod_self_left]
  rw [Int.natCast_emod, Int.toNat_of_nonneg (by omega)]
set_option maxRecDepth 100000 in
theorem at_any (i : Int) (ao : Option Addr) (n cap : Nat) (P : List Pt) (w : World) (h : IsPts w ao n cap P) (hn : 0 < n) (hs : n ≤ 1048576) (h0 : -1 ≤ i) (h1 : i ≤ n) : Calls Try.prog 83 #[.slice ao n cap, .int .i64 i] w fun e w' => e = .returned (ptV (atP P (i + n).toNat)) ∧ Grew w w' := by
  have hm := at_mod hn h0 h1
  have hcm := h.2.2.1
  have hnc := h.2.1
  unfold maxLen at hcm
  obtain ⟨k, hk⟩ : ∃ k, k = (i + n).toNat % n := ⟨_, rfl⟩
  rw [← hk] at hm
  have hkn : k < n := by rw [hk]; exact Nat.mod_lt _ hn
  have HV : Hid (atP P (i + n).toNat = P.getD k p0) := Lib.hid (by unfold atP; rw [h.1, hk])
  have hw : wrap64 (i.tmod n + n) = i.tmod n + n := by
    have a1 := Int.lt_tmod_of_pos i (show (0 : Int) < n by omega)
    have a2 := Int.tmod_lt_of_pos i (show (0 : Int) < n by omega)
    unfold wrap64
    omega
  obtain ⟨b, off, rfl, e0, e1⟩ := (h.grew ((Grew.refl _).alloc (.cells #[.int .i64 0, .int .i64 0] 27))).at hkn
  rw [← hw] at hm
  have hk0 : (0 : Int) ≤ (k : Int) := by omega
  have hk1 : (k : Int) < (n : Int) := by omega
  clear hk h hw
  go_enter Try.func83, Try.ntmps83
  go_wp2_with fail
  refine bodyPost_ret (results_point rfl rfl (alloc_new _ _)) rfl ⟨?_, (Grew.refl _).alloc _⟩
  rw [HV.out]
  simp [ptV]
end Go.Proofs.Ytgijaaklhdcgeaa

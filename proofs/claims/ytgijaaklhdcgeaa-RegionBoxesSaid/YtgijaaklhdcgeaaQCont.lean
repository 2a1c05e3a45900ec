/- slices.Index, slices.Contains of points; cross.on, cross.gather -/
import Derived.Test.YtgijaaklhdcgeaaQEq
set_option linter.unusedSimpArgs false
set_option linter.unusedVariables false
namespace Go.Proofs.Ytgijaaklhdcgeaa
open Go.RowKit Go.Geo
/-- where a point is, or -1. -/
def idxP (P : List Pt) (p : Pt) : Int := match P.findIdx? (fun q => decide (p = q)) with
  | none => -1
  | some i => (i : Int)
theorem idxP_some {P : List Pt} {p : Pt} {k n : Nat} (hl : P.length = n) (hk : k < n) (h : p = P.getD k p0) (hb : ∀ i, i < k → p ≠ P.getD i p0) : idxP P p = (k : Int) := by
  unfold idxP
  have : P.findIdx? (fun q => decide (p = q)) = some k := by
    rw [List.findIdx?_eq_some_iff_getElem]
    refine ⟨by omega, by rw [← getD_lt (d := p0) (by omega)]; simpa using h, fun i hi => ?_⟩
    rw [← getD_lt (d := p0) (by omega)]
    simpa using hb i hi
  rw [this]
theorem idxP_none {P : List Pt} {p : Pt} {n : Nat} (hl : P.length = n) (hb : ∀ i, i < n → p ≠ P.getD i p0) : idxP P p = -1 := by
  unfold idxP
  have : P.findIdx? (fun q => decide (p = q)) = none := by
    rw [List.findIdx?_eq_none_iff]
    intro q hq
    obtain ⟨i, hi, rfl⟩ := List.mem_iff_getElem.1 hq
    have := hb i (by omega)
    rw [getD_lt hi] at this
    simpa using this
  rw [this]
theorem idxP_ge {P : List Pt} {p : Pt} : decide (0 ≤ idxP P p) = decide (p ∈ P) := by
  unfold idxP
  cases h : P.findIdx? (fun q => decide (p = q)) with
  | none =>
    rw [List.findIdx?_eq_none_iff] at h
    have : p ∉ P := fun hm => by have := h p hm; simp at this
    simp [this]
  | some i =>
    rw [List.findIdx?_eq_some_iff_getElem] at h
    obtain ⟨h1, h2, _⟩ := h
    have h2 : p = P[i] := by simpa using h2
    have : p ∈ P := by rw [h2]; exact List.getElem_mem _
    simp [this]
set_option maxRecDepth 100000 in
theorem Index_any (ao : Option Addr) (n cap : Nat) (P : List Pt) (p : Pt) (w : World) (h : IsPts w ao n cap P) :
    Calls Try.prog 137 #[.slice ao n cap, ptV p] w fun e w' => e = .returned (.int .i64 (idxP P p)) ∧ Grew w w' := by
  have HI := Lib.hid h
  have hcm := h.2.2.1
  have hnc := h.2.1
  unfold maxLen at hcm
  have HP : Hid (∀ q : Pt, ∀ w, (binOp .eql 27 (.agg #[.int .i64 p.x, .int .i64 p.y]) (.agg #[.int .i64 q.x, .int .i64 q.y])).run Try.prog w = .ok (.bool (decide (p = q))) w) := Lib.hid (run_eq_pt p)
  have HP2 : Hid (∀ q : Pt, ∀ w, (Op.equalIn 10000 27 (.agg #[.int .i64 p.x, .int .i64 p.y]) (.agg #[.int .i64 q.x, .int .i64 q.y])).run Try.prog w = .ok (decide (p = q)) w) := Lib.hid (eqPt_run p)
  clear h
  obtain ⟨px, py⟩ := p
  unfold ptV
  dsimp only at HP HP2 ⊢
  have C0 : (w.alloc (.cells #[.int .i64 px, .int .i64 py] 27)).cell? ⟨w.heap.size, 0, none⟩ = some (.int .i64 px) := cell_of_row _ _ _ _ _ _ (alloc_new w _)
  have C1 : (w.alloc (.cells #[.int .i64 px, .int .i64 py] 27)).cell? ⟨w.heap.size, 1, none⟩ = some (.int .i64 py) := cell_of_row _ _ _ _ _ _ (alloc_new w _)
  have HC := Lib.hid (And.intro C0 C1)
  clear C0 C1
  go_enter Try.func137, Try.ntmps137
  go_wp2
  go_loopw [8] (fun i wr => ∃ k : Nat, k ≤ n ∧ i = .int .i64 k ∧ Hid (∀ i, i < k → (⟨px, py⟩ : Pt) ≠ P.getD i p0) ∧ Hid (Grew (w.alloc (.cells #[.int .i64 px, .int .i64 py] 27)) wr)) (fun i _ => n - (intOf i).toNat)
  case atStart => exact ⟨0, by omega, rfl, fun i hi => absurd hi (by omega), Grew.refl _⟩
  case round =>
    obtain ⟨k, hk, rfl, hall, hg⟩ := hrel
    by_cases hlt : k < n
    · have hi0 : (0 : Int) ≤ (k : Int) := by omega
      have hi5 : (k : Int) < (n : Int) := by omega
      obtain ⟨b, off, rfl, e0, e1⟩ := (HI.out.grew (((Grew.refl _).alloc _).trans hg.out)).at hlt
      obtain ⟨c, hc⟩ : ∃ c, c = P.getD k p0 := ⟨_, rfl⟩
      rw [← hc] at e0 e1
      have c0 := hg.out.cell HC.out.1
      have c1 := hg.out.cell HC.out.2
      have hqe := HP.out c
      have hqf := HP2.out c
      obtain ⟨q, hq⟩ : ∃ q, q = decide ((⟨px, py⟩ : Pt) = c) := ⟨_, rfl⟩
      rw [← hq] at hqe hqf
      have HQ := Lib.hid hq
      have HCE := Lib.hid hc
      clear hc hq
      cases q with
      | true =>
        go_wp2_with fail
        go_quiet (fail)
        go_wp2_with fail
        go_ret
        refine ⟨?_, (((Grew.refl _).alloc _).trans hg.out).drewN _⟩
        rw [idxP_some HI.out.1 hlt (by rw [← HCE.out]; exact of_decide_eq_true HQ.out.symm) hall.out]
        rfl
      | false =>
        go_wp2_with fail
        go_quiet (fail)
        go_wp2_with fail
        go_roundw
        case rel =>
          refine ⟨k + 1, by omega, by go_num, fun i hi => ?_, hg.out.drewN _⟩
          by_cases hik : i < k
          · exact hall.out i hik
          · obtain rfl : i = k := by omega
            rw [← HCE.out]; exact of_decide_eq_false HQ.out.symm
        case measure => simp [intOf]; omega
    · obtain rfl : k = n := by omega
      go_wp2
      go_ret
      refine ⟨?_, ((Grew.refl _).alloc _).trans hg.out⟩
      rw [idxP_none HI.out.1 hall.out]
      rfl
theorem Contains_any (ao : Option Addr) (n cap : Nat) (P : List Pt) (p : Pt) (w : World) (h : IsPts w ao n cap P) :
    Calls Try.prog 122 #[.slice ao n cap, ptV p] w fun e w' => e = .returned (.bool (decide (p ∈ P))) ∧ Grew w w' := by
  have HX := Lib.hid (Index_any ao n cap P p (w.alloc (.cells #[.int .i64 p.x, .int .i64 p.y] 27)) (h.grew ((Grew.refl w).alloc _)))
  rw [← idxP_ge]
  generalize idxP P p = r at *
  clear h
  unfold ptV at *
  by_cases hr : 0 ≤ r
  · go_enter Try.func122, Try.ntmps122
    go_wp2_with fail
    refine HX.out.mono ?_
    rintro e w1 ⟨rfl, hg1⟩
    go_wp2_with fail
    go_ret
    exact ⟨by simp [hr], ((Grew.refl _).alloc _).trans hg1⟩
  · go_enter Try.func122, Try.ntmps122
    go_wp2_with fail
    refine HX.out.mono ?_
    rintro e w1 ⟨rfl, hg1⟩
    go_wp2_with fail
    go_ret
    exact ⟨by simp [hr], ((Grew.refl _).alloc _).trans hg1⟩
end Go.Proofs.Ytgijaaklhdcgeaa

/- layer 16: the reference: Short, Long -/
import Derived.Test.YtbgihfjagfbfgaaDoorMWRef
set_option linter.unusedSimpArgs false
set_option linter.unusedVariables false
namespace Go.Proofs.YtbgihfjagfbfgaaDoor
open Go.RowKit Go.Words
attribute [local go_sem] Oper.semAt_some
theorem kindP_len (k : Int) : (kindP k).length ≤ 51 := kind_all (Q := fun P => P.length ≤ 51) (by decide +kernel) (by decide +kernel) (by decide +kernel) (by decide +kernel) (by decide) k
theorem find_hit {P : List Pr} {f : Pr → Bool} : ∀ {i : Nat}, i < P.length → (∀ j, j < i → f (P.getD j pr0) = false) → f (P.getD i pr0) = true → P.find? f = some (P.getD i pr0) := by
  induction P with
  | nil => intro i h; exact absurd h (by simp)
  | cons p P ih =>
    intro i h hlo hi
    cases i with
    | zero =>
      have : f p = true := hi
      simp [List.find?, this]
    | succ i =>
      have h0 : f p = false := hlo 0 (by omega)
      simp only [List.find?, h0]
      exact ih (by simpa using h) (fun j hj => hlo (j + 1) (by omega)) hi
theorem find_no {P : List Pr} {f : Pr → Bool} (h : ∀ j, j < P.length → f (P.getD j pr0) = false) : P.find? f = none := by
  rw [List.find?_eq_none]
  intro p hp
  obtain ⟨j, hj, rfl⟩ := List.mem_iff_getElem.1 hp
  have := h j hj
  rw [List.getD_eq_getElem?_getD, List.getElem?_eq_getElem hj, Option.getD_some] at this
  rw [this]; simp
theorem firstS_none_of {P : List Pr} {l : Wd} (h : ∀ j, j < P.length → (decide ((P.getD j pr0).1 = l) || decide ((P.getD j pr0).2 = l)) = false) : firstS P l = none := by
  unfold firstS; rw [find_no h]; rfl
theorem firstS_hit {P : List Pr} {l : Wd} {i : Nat} (hi : i < P.length) (hlo : ∀ j, j < i → (decide ((P.getD j pr0).1 = l) || decide ((P.getD j pr0).2 = l)) = false) (h : (decide ((P.getD i pr0).1 = l) || decide ((P.getD i pr0).2 = l)) = true) : firstS P l = some (P.getD i pr0).2 := by
  unfold firstS; rw [find_hit hi hlo h]; rfl
theorem firstL_none_of {P : List Pr} {l : Wd} (h : ∀ j, j < P.length → decide ((P.getD j pr0).2 = l) = false) : firstL P l = none := by
  unfold firstL; rw [find_no h]; rfl
theorem firstL_hit {P : List Pr} {l : Wd} {i : Nat} (hi : i < P.length) (hlo : ∀ j, j < i → decide ((P.getD j pr0).2 = l) = false) (h : decide ((P.getD i pr0).2 = l) = true) : firstL P l = some (P.getD i pr0).1 := by
  unfold firstL; rw [find_hit hi hlo h]; rfl
set_option maxRecDepth 100000 in
set_option maxHeartbeats 2000000 in
theorem rShort_any (k : Int) (l : Wd) (w : World) : Calls Tryd.prog 11 #[.int .i64 k, sV l] w fun e w' => e = .returned (foundV (firstS (kindP k) l)) ∧ Below w.heap.size w w' := by
  have hPA := pairs_any k w
  obtain ⟨P, hP⟩ : ∃ P, P = kindP k := ⟨_, rfl⟩
  rw [← hP] at hPA ⊢
  have HPA := Lib.hid hPA
  have hln : P.length ≤ 51 := by rw [hP]; exact kindP_len k
  obtain ⟨r, hr⟩ : ∃ r, r = firstS P l := ⟨_, rfl⟩
  rw [← hr]
  have HR := Lib.hid hr
  clear hPA hP hr
  go_enter Tryd.func11, Tryd.ntmps11
  go_wp2_with fail
  refine HPA.out.mono ?_
  rintro e w1 ⟨ao, rfl, hi, hb⟩
  have HI := Lib.hid hi
  have HB1 := Lib.hid hb
  obtain ⟨n, hn⟩ : ∃ n, n = P.length := ⟨_, rfl⟩
  rw [← hn] at HI hln ⊢
  have HN := Lib.hid hn
  clear hi hb hn
  go_wp2_with fail
  go_loopw [7] (fun iv wr => ∃ i : Nat, i ≤ n ∧ iv = .int .i64 i ∧ Hid (∀ j, j < i → (decide ((P.getD j pr0).1 = l) || decide ((P.getD j pr0).2 = l)) = false) ∧ wr = w1) (fun iv _ => n - (intOf iv).toNat)
  case atStart => exact ⟨0, by omega, rfl, Lib.hid (fun j hj => absurd hj (by omega)), rfl⟩
  case round =>
    obtain ⟨i, hin, rfl, hlo, rfl⟩ := hrel
    by_cases hlt : i < n
    · have hi0 : (0 : Int) ≤ (i : Int) := by omega
      have hi5 : (i : Int) < (n : Int) := by omega
      have hwi : IntKind.i64.wrap ((i : Int) + 1) = (i : Int) + 1 := IntWalk.i64_in _ (by omega)
      obtain ⟨b, rfl, c0, c1⟩ := HI.out.at hlt
      obtain ⟨x, hx⟩ : ∃ x, x = (P.getD i pr0).1 := ⟨_, rfl⟩
      obtain ⟨y, hy⟩ : ∃ y, y = (P.getD i pr0).2 := ⟨_, rfl⟩
      rw [← hx] at c0
      rw [← hy] at c1
      have HX := Lib.hid hx
      have HY := Lib.hid hy
      clear hx hy
      by_cases hxl : x = l
      · have q1 : ((bs x).toList == (bs l).toList) = true := (bs_eq _ _).trans (decide_eq_true hxl)
        obtain rfl : r = some y := by rw [HR.out, HY.out]; exact firstS_hit (by rw [← HN.out]; exact hlt) hlo.out (by rw [← HX.out]; simp [hxl])
        clear hxl
        go_wp2_with fail
        go_ret2
        exact ⟨rfl, HB1.out⟩
      · have q1 : ((bs x).toList == (bs l).toList) = false := (bs_eq _ _).trans (decide_eq_false hxl)
        by_cases hyl : y = l
        · have q2 : ((bs y).toList == (bs l).toList) = true := (bs_eq _ _).trans (decide_eq_true hyl)
          obtain rfl : r = some y := by rw [HR.out, HY.out]; exact firstS_hit (by rw [← HN.out]; exact hlt) hlo.out (by rw [← HY.out]; simp [hyl])
          clear hxl hyl
          go_wp2_with fail
          go_ret2
          exact ⟨rfl, HB1.out⟩
        · have q2 : ((bs y).toList == (bs l).toList) = false := (bs_eq _ _).trans (decide_eq_false hyl)
          have HXY := Lib.hid (And.intro hxl hyl)
          clear hxl hyl
          go_wp2_with fail
          go_roundw
          case rel =>
            refine ⟨i + 1, by omega, by go_num, Lib.hid (fun j hj => ?_), by first | trivial | rfl⟩
            by_cases hji : j = i
            · subst hji; rw [← HX.out, ← HY.out]; simp [HXY.out]
            · exact hlo.out j (by omega)
          case measure => simp [intOf]; omega
    · have hin2 : n = i := by omega
      subst hin2
      obtain rfl : r = none := by rw [HR.out]; exact firstS_none_of (by rw [← HN.out]; exact hlo.out)
      go_wp2_with fail
      go_ret2
      exact ⟨rfl, HB1.out⟩
set_option maxRecDepth 100000 in
set_option maxHeartbeats 2000000 in
theorem rLong_any (k : Int) (l : Wd) (w : World) : Calls Tryd.prog 12 #[.int .i64 k, sV l] w fun e w' => e = .returned (foundV (firstL (kindP k) l)) ∧ Below w.heap.size w w' := by
  have hPA := pairs_any k w
  obtain ⟨P, hP⟩ : ∃ P, P = kindP k := ⟨_, rfl⟩
  rw [← hP] at hPA ⊢
  have HPA := Lib.hid hPA
  have hln : P.length ≤ 51 := by rw [hP]; exact kindP_len k
  obtain ⟨r, hr⟩ : ∃ r, r = firstL P l := ⟨_, rfl⟩
  rw [← hr]
  have HR := Lib.hid hr
  clear hPA hP hr
  go_enter Tryd.func12, Tryd.ntmps12
  go_wp2_with fail
  refine HPA.out.mono ?_
  rintro e w1 ⟨ao, rfl, hi, hb⟩
  have HI := Lib.hid hi
  have HB1 := Lib.hid hb
  obtain ⟨n, hn⟩ : ∃ n, n = P.length := ⟨_, rfl⟩
  rw [← hn] at HI hln ⊢
  have HN := Lib.hid hn
  clear hi hb hn
  go_wp2_with fail
  go_loopw [7] (fun iv wr => ∃ i : Nat, i ≤ n ∧ iv = .int .i64 i ∧ Hid (∀ j, j < i → (decide ((P.getD j pr0).2 = l)) = false) ∧ wr = w1) (fun iv _ => n - (intOf iv).toNat)
  case atStart => exact ⟨0, by omega, rfl, Lib.hid (fun j hj => absurd hj (by omega)), rfl⟩
  case round =>
    obtain ⟨i, hin, rfl, hlo, rfl⟩ := hrel
    by_cases hlt : i < n
    · have hi0 : (0 : Int) ≤ (i : Int) := by omega
      have hi5 : (i : Int) < (n : Int) := by omega
      have hwi : IntKind.i64.wrap ((i : Int) + 1) = (i : Int) + 1 := IntWalk.i64_in _ (by omega)
      obtain ⟨b, rfl, c0, c1⟩ := HI.out.at hlt
      obtain ⟨x, hx⟩ : ∃ x, x = (P.getD i pr0).1 := ⟨_, rfl⟩
      obtain ⟨y, hy⟩ : ∃ y, y = (P.getD i pr0).2 := ⟨_, rfl⟩
      rw [← hx] at c0
      rw [← hy] at c1
      have HX := Lib.hid hx
      have HY := Lib.hid hy
      clear hx hy
      by_cases hyl : y = l
      · have q2 : ((bs y).toList == (bs l).toList) = true := (bs_eq _ _).trans (decide_eq_true hyl)
        obtain rfl : r = some x := by rw [HR.out, HX.out]; exact firstL_hit (by rw [← HN.out]; exact hlt) hlo.out (by rw [← HY.out]; simp [hyl])
        clear hyl
        go_wp2_with fail
        go_ret2
        exact ⟨rfl, HB1.out⟩
      · have q2 : ((bs y).toList == (bs l).toList) = false := (bs_eq _ _).trans (decide_eq_false hyl)
        have HXY := Lib.hid hyl
        clear hyl
        go_wp2_with fail
        go_roundw
        case rel =>
          refine ⟨i + 1, by omega, by go_num, Lib.hid (fun j hj => ?_), by first | trivial | rfl⟩
          by_cases hji : j = i
          · subst hji; rw [← HY.out]; simp [HXY.out]
          · exact hlo.out j (by omega)
        case measure => simp [intOf]; omega
    · have hin2 : n = i := by omega
      subst hin2
      obtain rfl : r = none := by rw [HR.out]; exact firstL_none_of (by rw [← HN.out]; exact hlo.out)
      go_wp2_with fail
      go_ret2
      exact ⟨rfl, HB1.out⟩
end Go.Proofs.YtbgihfjagfbfgaaDoor

/- wide: sizes, signs, the sign of a difference of two products -/
import Derived.Test.YtgijaaklhdcgeaaQPts
import Derived.Test.YtgijaaklhdcgeaaGeo8
import Derived.Test.YtgijaaklhdcgeaaQLay

namespace Go.Proofs.Ytgijaaklhdcgeaa
open Go.RowKit Go.Geo
theorem cmpInt_any (a b : Int) (w : World) :
    Calls Try.prog 102 #[.int .i64 a, .int .i64 b] w fun e w' => e = .returned (.int .i64 (cmpZ a b)) ∧ w = w' := by
  unfold cmpZ
  by_cases h1 : a < b
  · rw [if_pos h1]
    go_enter Try.func102, Try.ntmps102
    go_wp2
    go_ret
    exact ⟨rfl, rfl⟩
  · rw [if_neg h1]
    by_cases h2 : b < a
    · rw [if_pos h2]
      go_enter Try.func102, Try.ntmps102
      go_wp2
      go_ret
      exact ⟨rfl, rfl⟩
    · rw [if_neg h2]
      go_enter Try.func102, Try.ntmps102
      go_wp2
      go_ret
      exact ⟨rfl, rfl⟩
theorem cmpU_any (a b : Int) (w : World) :
    Calls Try.prog 110 #[.int .u64 a, .int .u64 b] w fun e w' => e = .returned (.int .i64 (cmpZ a b)) ∧ w = w' := by
  unfold cmpZ
  by_cases h1 : a < b
  · rw [if_pos h1]
    go_enter Try.func110, Try.ntmps110
    go_wp2
    go_ret
    exact ⟨rfl, rfl⟩
  · rw [if_neg h1]
    by_cases h2 : b < a
    · rw [if_pos h2]
      go_enter Try.func110, Try.ntmps110
      go_wp2
      go_ret
      exact ⟨rfl, rfl⟩
    · rw [if_neg h2]
      go_enter Try.func110, Try.ntmps110
      go_wp2
      go_ret
      exact ⟨rfl, rfl⟩
theorem or_any (g : Nat) (x y : Int) (w : World) (h0 : w.cell? ⟨g, 0, none⟩ = some (.int .i64 x)) (h1 : w.cell? ⟨g, 1, none⟩ = some (.int .i64 y)) :
    Calls Try.prog 101 #[.slice (some ⟨g, 0, none⟩) 2 2] w fun e w' => e = .returned (.int .i64 (if x = 0 then y else x)) ∧ w = w' := by
  by_cases hx : x = 0
  · rw [if_pos hx]
    subst hx
    by_cases hy : y = 0
    · subst hy
      go_enter Try.func101, Try.ntmps101
      go_wp2
      go_loop [8] (fun i => ∃ k : Nat, k ≤ 2 ∧ i = .int .i64 k) (fun i => 2 - (intOf i).toNat)
      case atStart => exact ⟨0, by omega, rfl⟩
      case round =>
        obtain ⟨k, hk, rfl⟩ := hrel
        have hc : k = 0 ∨ k = 1 ∨ k = 2 := by omega
        rcases hc with rfl | rfl | rfl
        · go_wp2
          go_round
          case rel => exact ⟨1, by omega, rfl⟩
          case measure => simp [intOf]
        · go_wp2
          go_round
          case rel => exact ⟨2, by omega, rfl⟩
          case measure => simp [intOf]
        · go_wp2
          go_ret
          exact ⟨rfl, rfl⟩
    · have hyb : (y == 0) = false := by simpa using hy
      have hyn : (y != 0) = true := by simpa using hy
      clear hy
      go_enter Try.func101, Try.ntmps101
      go_wp2
      go_loop [8] (fun i => ∃ k : Nat, k ≤ 1 ∧ i = .int .i64 k) (fun i => 2 - (intOf i).toNat)
      case atStart => exact ⟨0, by omega, rfl⟩
      case round =>
        obtain ⟨k, hk, rfl⟩ := hrel
        have hc : k = 0 ∨ k = 1 := by omega
        rcases hc with rfl | rfl
        · go_wp2
          go_round
          case rel => exact ⟨1, by omega, rfl⟩
          case measure => simp [intOf]
        · go_wp2
          go_ret
          exact ⟨rfl, rfl⟩
  · rw [if_neg hx]
    have hxb : (x == 0) = false := by simpa using hx
    have hxn : (x != 0) = true := by simpa using hx
    clear hx
    go_enter Try.func101, Try.ntmps101
    go_wp2
    go_loop [8] (fun i => ∃ k : Nat, k ≤ 0 ∧ i = .int .i64 k) (fun i => 2 - (intOf i).toNat)
    case atStart => exact ⟨0, by omega, rfl⟩
    case round =>
      obtain ⟨k, hk, rfl⟩ := hrel
      obtain rfl : k = 0 := by omega
      go_wp2
      go_ret
      exact ⟨rfl, rfl⟩
theorem usize_any (n : Int) (h1 : -4611686018427387904 ≤ n) (h2 : n ≤ 4611686018427387904) (w : World) :
    Calls Try.prog 129 #[.int .i64 n] w fun e w' => e = .returned (.int .u64 (n.natAbs : Nat)) ∧ w = w' := by
  by_cases h : n < 0
  · go_enter Try.func129, Try.ntmps129
    go_wp2
    go_ret
    refine ⟨?_, rfl⟩
    show Ending.returned (.int .u64 (IntKind.u64.wrap (-IntKind.u64.wrap n))) = _
    rw [IntKind.wrap_u64, IntKind.wrap_u64, show -(n % 18446744073709551616) % 18446744073709551616 = (n.natAbs : Int) by omega]
  · go_enter Try.func129, Try.ntmps129
    go_wp2
    go_ret
    refine ⟨?_, rfl⟩
    show Ending.returned (.int .u64 n) = _
    rw [show (n.natAbs : Int) = n by omega]
theorem wsign_any (n : Int) (w : World) :
    Calls Try.prog 130 #[.int .i64 n] w fun e w' => e = .returned (.int .i64 (sgn n)) ∧ w = w' := by
  have HC := Lib.hid (cmpInt_any n 0 w)
  rw [sgn_cmp] at HC
  go_enter Try.func130, Try.ntmps130
  go_wp2_with fail
  refine HC.out.mono ?_
  rintro e w' ⟨rfl, rfl⟩
  go_wp2_with fail
  go_ret
  exact ⟨rfl, rfl⟩
theorem sgn_prod (a b : Int) : sgn a * sgn b = -1 ∨ sgn a * sgn b = 0 ∨ sgn a * sgn b = 1 := by
  rcases sgn_range a with h | h | h <;> rcases sgn_range b with k | k | k <;> rw [h, k] <;> simp
theorem Mul_any (a b : Int) (ha1 : -4398046511104 ≤ a) (ha2 : a ≤ 4398046511104) (hb1 : -4398046511104 ≤ b) (hb2 : b ≤ 4398046511104) (w : World) :
    Calls Try.prog 109 #[.int .i64 a, .int .i64 b] w fun e w' => e = .returned (.tuple #[.int .u64 ((a.natAbs * b.natAbs / 18446744073709551616 : Nat) : Int), .int .u64 ((a.natAbs * b.natAbs % 18446744073709551616 : Nat) : Int), .int .i64 (sgn a * sgn b)]) ∧ w = w' := by
  have HA := Lib.hid (usize_any a (by omega) (by omega))
  have HB := Lib.hid (usize_any b (by omega) (by omega))
  have HM := Lib.hid (Mul64_any a.natAbs b.natAbs (by omega) (by omega))
  have HS := Lib.hid (wsign_any a)
  have HT := Lib.hid (wsign_any b)
  have hr := sgn_prod a b
  have ra := sgn_range a
  have rb := sgn_range b
  generalize a.natAbs * b.natAbs / 18446744073709551616 = x at *
  generalize a.natAbs * b.natAbs % 18446744073709551616 = y at *
  go_enter Try.func109, Try.ntmps109
  go_wp2_with (first
    | (go_at_call 129; refine (HA.out _).mono ?_; clear HA; rintro e w' ⟨rfl, rfl⟩)
    | (go_at_call 129; refine (HB.out _).mono ?_; rintro e w' ⟨rfl, rfl⟩)
    | (go_at_call 128; refine (HM.out _).mono ?_; rintro e w' ⟨rfl, rfl⟩)
    | (go_at_call 130; refine (HS.out _).mono ?_; clear HS; rintro e w' ⟨rfl, rfl⟩)
    | (go_at_call 130; refine (HT.out _).mono ?_; rintro e w' ⟨rfl, rfl⟩))
  go_ret3
  exact ⟨rfl, rfl⟩
theorem sgnP_zero (n : Int) : sgn n = -1 ∨ sgn n = 0 ∨ sgn n = 1 := sgn_range n
theorem cmpZ_range (a b : Int) : cmpZ a b = -1 ∨ cmpZ a b = 0 ∨ cmpZ a b = 1 := by unfold cmpZ; split <;> (try split) <;> simp
set_option maxRecDepth 100000 in
theorem wSign_any (a b c d : Int) (ha1 : -4398046511104 ≤ a) (ha2 : a ≤ 4398046511104) (hb1 : -4398046511104 ≤ b) (hb2 : b ≤ 4398046511104) (hc1 : -4398046511104 ≤ c) (hc2 : c ≤ 4398046511104) (hd1 : -4398046511104 ≤ d) (hd2 : d ≤ 4398046511104) (w : World) :
    Calls Try.prog 94 #[.int .i64 a, .int .i64 b, .int .i64 c, .int .i64 d] w fun e w' => e = .returned (.int .i64 (sgn (a * b - c * d))) ∧ Grew w w' := by
  have HM := Lib.hid (Mul_any a b ha1 ha2 hb1 hb2)
  have HN := Lib.hid (Mul_any c d hc1 hc2 hd1 hd2)
  have hlaw := sign_law a b c d
  unfold signW at hlaw
  rw [← hlaw]
  have hs := sgn_prod a b
  have ht := sgn_prod c d
  clear hlaw ha1 ha2 hb1 hb2 hc1 hc2 hd1 hd2
  generalize sgn a * sgn b = s at *
  generalize sgn c * sgn d = t at *
  generalize a.natAbs * b.natAbs / 18446744073709551616 = x at *
  generalize a.natAbs * b.natAbs % 18446744073709551616 = y at *
  generalize c.natAbs * d.natAbs / 18446744073709551616 = z at *
  generalize c.natAbs * d.natAbs % 18446744073709551616 = u at *
  by_cases h : s = t
  · subst h
    have hsb : (s != s) = false := by simp
    rw [if_pos rfl]
    have HX := Lib.hid (cmpU_any (x : Int) (z : Int))
    have HY := Lib.hid (cmpU_any (y : Int) (u : Int))
    have r1 := cmpZ_range (x : Int) (z : Int)
    have r2 := cmpZ_range (y : Int) (u : Int)
    obtain ⟨p, hp⟩ : ∃ p, p = cmpZ (x : Int) (z : Int) := ⟨_, rfl⟩
    obtain ⟨q, hq⟩ : ∃ q, q = cmpZ (y : Int) (u : Int) := ⟨_, rfl⟩
    rw [← hp] at HX r1 ⊢
    rw [← hq] at HY r2 ⊢
    clear hp hq
    obtain ⟨r, hr⟩ : ∃ r, r = (if p = 0 then q else p) := ⟨_, rfl⟩
    have hrr : r = -1 ∨ r = 0 ∨ r = 1 := by rw [hr]; split <;> assumption
    have HO : Hid (∀ (g : Nat) (w : World), w.cell? ⟨g, 0, none⟩ = some (.int .i64 p) → w.cell? ⟨g, 1, none⟩ = some (.int .i64 q) → Calls Try.prog 101 #[.slice (some ⟨g, 0, none⟩) 2 2] w fun e w' => e = .returned (.int .i64 r) ∧ w = w') := Lib.hid (fun g w h1 h2 => by rw [hr]; exact or_any g p q w h1 h2)
    rw [← hr]
    clear hr
    go_enter Try.func94, Try.ntmps94
    go_wp2_with fail
    refine (HM.out _).mono ?_
    rintro e w' ⟨rfl, rfl⟩
    go_wp2_with fail
    refine (HN.out _).mono ?_
    rintro e w' ⟨rfl, rfl⟩
    go_wp2_with fail
    refine (HX.out _).mono ?_
    rintro e w' ⟨rfl, rfl⟩
    go_wp2_with fail
    refine (HY.out _).mono ?_
    rintro e w' ⟨rfl, rfl⟩
    go_wp2_with fail
    refine (HO.out _ _ (cell_of_row _ _ _ _ _ _ (alloc_new _ _)) (cell_of_row _ _ _ _ _ _ (alloc_new _ _))).mono ?_
    rintro e w' ⟨rfl, rfl⟩
    go_wp2_with fail
    have hbb : -1 ≤ s * r ∧ s * r ≤ 1 := by clear HM HN HO HX HY; rcases hs with rfl | rfl | rfl <;> rcases hrr with rfl | rfl | rfl <;> simp
    have hw : wrap64 (s * r) = s * r := by unfold wrap64; omega
    go_ret
    refine ⟨?_, (Grew.refl _).alloc _⟩
    show Ending.returned (.int .i64 (wrap64 (s * r))) = _
    rw [hw]
  · have hsb : (s != t) = true := by simpa using h
    rw [if_neg h]
    have HX := Lib.hid (cmpInt_any s t)
    have r1 := cmpZ_range s t
    generalize cmpZ s t = p at *
    go_enter Try.func94, Try.ntmps94
    go_wp2_with fail
    refine (HM.out _).mono ?_
    rintro e w' ⟨rfl, rfl⟩
    go_wp2_with fail
    refine (HN.out _).mono ?_
    rintro e w' ⟨rfl, rfl⟩
    go_wp2_with fail
    refine (HX.out _).mono ?_
    rintro e w' ⟨rfl, rfl⟩
    go_wp2_with fail
    go_ret
    exact ⟨rfl, Grew.refl _⟩
end Go.Proofs.Ytgijaaklhdcgeaa

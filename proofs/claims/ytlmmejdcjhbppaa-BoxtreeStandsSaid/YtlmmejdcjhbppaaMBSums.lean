/- boxtree.sums: bits.Add64, the sums of two pairs compared -/
import Derived.Test.YtlmmejdcjhbppaaMQBox
import Derived.Test.YtlmmejdcjhbppaaMBox1
import Derived.Laws.Externs
import Derived.IntWalk
set_option linter.unusedSimpArgs false
set_option linter.unusedVariables false
namespace Go.Proofs.Ytlmmejdcjhbppaa
open Go.RowKit Go.Geo
attribute [local go_sem] Oper.semAt_some
theorem add64_law (x y c : Nat) (hc : c ≤ 1) (w : World) :
    (callFunc 52 #[.int .u64 x, .int .u64 y, .int .u64 c]).run Try.prog w =
      .ok (.value (.tuple #[.int .u64 (((x + y + c) % 18446744073709551616 : Nat) : Int), .int .u64 (((x + y + c) / 18446744073709551616 : Nat) : Int)])) w := by
  rw [run_callFunc_extern Try.func52 (by kernel_rfl) (by kernel_rfl) (by kernel_rfl) (e := add64Entry) (by kernel_rfl), run_add64 x y c (by omega) (by omega) (by omega) (by omega)]
  simp only [Result.andThen]
  congr 5 <;> omega
theorem add64_zero (x y X C : Nat) (hX : X = (x + y) % 18446744073709551616) (hC : C = (x + y) / 18446744073709551616) (w : World) :
    (callFunc 52 #[.int .u64 (x : Int), .int .u64 (y : Int), .int .u64 0]).run Try.prog w = .ok (.value (.tuple #[.int .u64 (X : Int), .int .u64 (C : Int)])) w := by
  rw [hX, hC]; exact add64_law x y 0 (by omega) w
theorem add64_one (x y c X C : Nat) (hc : c ≤ 1) (hX : X = (x + y + c) % 18446744073709551616) (hC : C = (x + y + c) / 18446744073709551616) (w : World) :
    (callFunc 52 #[.int .u64 (x : Int), .int .u64 (y : Int), .int .u64 (c : Int)]).run Try.prog w = .ok (.value (.tuple #[.int .u64 (X : Int), .int .u64 (C : Int)])) w := by
  rw [hX, hC]; exact add64_law x y c hc w
theorem wrap_u (x : Int) : IntKind.u64.wrap x = x % 18446744073709551616 := by simp [IntKind.wrap, IntKind.bits, IntKind.signed]
theorem wrap_i (x : Int) : IntKind.i64.wrap x = if x % 18446744073709551616 ≥ 9223372036854775808 then x % 18446744073709551616 - 18446744073709551616 else x % 18446744073709551616 := by
  simp [IntKind.wrap, IntKind.bits, IntKind.signed]
/-- a number that a cell may hold. -/
def InI (x : Int) : Prop := -9223372036854775808 ≤ x ∧ x ≤ 9223372036854775807
theorem one_word {a : Int} (ha : InI a) : ∃ A SA : Nat, IntKind.u64.wrap a = (A : Int) ∧ IntKind.u64.wrap (a / 9223372036854775808) = (SA : Int) ∧ ((a < 0 ∧ (A : Int) = a + 18446744073709551616 ∧ SA = 18446744073709551615) ∨ (0 ≤ a ∧ (A : Int) = a ∧ SA = 0)) := by
  unfold InI at ha
  by_cases h : a < 0
  · refine ⟨(a + 18446744073709551616).toNat, 18446744073709551615, by rw [wrap_u]; omega, ?_, .inl ⟨h, by omega, rfl⟩⟩
    rw [wrap_u, show a / 9223372036854775808 = -1 by omega]
    rfl
  · refine ⟨a.toNat, 0, by rw [wrap_u]; omega, ?_, .inr ⟨by omega, by omega, rfl⟩⟩
    rw [wrap_u, show a / 9223372036854775808 = 0 by omega]
    rfl
/-- the sum of two numbers, in two words: the higher one with a sign. -/
theorem sum_words {a b : Int} (ha : InI a) (hb : InI b) : ∃ A B X C SA SB Y E : Nat, IntKind.u64.wrap a = (A : Int) ∧ IntKind.u64.wrap b = (B : Int) ∧ X = (A + B) % 18446744073709551616 ∧ C = (A + B) / 18446744073709551616 ∧ C ≤ 1 ∧
    IntKind.u64.wrap (a / 9223372036854775808) = (SA : Int) ∧ IntKind.u64.wrap (b / 9223372036854775808) = (SB : Int) ∧ Y = (SA + SB + C) % 18446744073709551616 ∧ E = (SA + SB + C) / 18446744073709551616 ∧ a + b = IntKind.i64.wrap (Y : Int) * 18446744073709551616 + (X : Int) ∧ X < 18446744073709551616 := by
  obtain ⟨A, SA, h1, h2, h3⟩ := one_word ha
  obtain ⟨B, SB, k1, k2, k3⟩ := one_word hb
  unfold InI at ha hb
  obtain ⟨X, hX⟩ : ∃ X, X = (A + B) % 18446744073709551616 := ⟨_, rfl⟩
  obtain ⟨C, hC⟩ : ∃ X, X = (A + B) / 18446744073709551616 := ⟨_, rfl⟩
  have hC1 : C = 0 ∨ C = 1 := by omega
  have hXC : (A : Int) + B = C * 18446744073709551616 + X := by omega
  have hXm : X < 18446744073709551616 := by omega
  refine ⟨A, B, X, C, SA, SB, _, _, h1, k1, hX, hC, by omega, h2, k2, rfl, rfl, ?_, hXm⟩
  clear hX hC h1 h2 k1 k2
  rw [wrap_i]
  rcases hC1 with rfl | rfl <;> rcases h3 with ⟨p1, p2, rfl⟩ | ⟨p1, p2, rfl⟩ <;> rcases k3 with ⟨q1, q2, rfl⟩ | ⟨q1, q2, rfl⟩ <;> simp <;> omega
theorem cmp_words {p q : Int} {X Z : Nat} {y u : Int} (h1 : p = y * 18446744073709551616 + (X : Int)) (h2 : q = u * 18446744073709551616 + (Z : Int)) (hX : X < 18446744073709551616) (hZ : Z < 18446744073709551616) : (if cmpZ y u = 0 then cmpZ (X : Int) (Z : Int) else cmpZ y u) = cmpZ p q := by
  unfold cmpZ
  split <;> rename_i h <;> (repeat' split at h) <;> (repeat' split) <;> omega
set_option maxRecDepth 100000 in
set_option maxHeartbeats 4000000 in
theorem sums_any (a b c d : Int) (ha : InI a) (hb : InI b) (hc : InI c) (hd : InI d) (w : World) :
    Calls Try.prog 44 #[.int .i64 a, .int .i64 b, .int .i64 c, .int .i64 d] w fun e w' => e = .returned (.int .i64 (cmpZ (a + b) (c + d))) ∧ Grew w w' := by
  obtain ⟨A, B, X, C, SA, SB, Y, E, hA, hB, hX, hC, hC1, hSA, hSB, hY, hE, hab, hXm⟩ := sum_words ha hb
  obtain ⟨A', B', X', C', SA', SB', Y', E', hA', hB', hX', hC', hC1', hSA', hSB', hY', hE', hab', hXm'⟩ := sum_words hc hd
  have h1 := add64_zero A B X C hX hC
  have h2 := add64_one SA SB C Y E hC1 hY hE
  have h3 := add64_zero A' B' X' C' hX' hC'
  have h4 := add64_one SA' SB' C' Y' E' hC1' hY' hE'
  obtain ⟨y, hy⟩ : ∃ y, IntKind.i64.wrap (Y : Int) = y := ⟨_, rfl⟩
  obtain ⟨u, hu⟩ : ∃ y, IntKind.i64.wrap (Y' : Int) = y := ⟨_, rfl⟩
  rw [hy] at hab
  rw [hu] at hab'
  have HR := Lib.hid (cmp_words hab hab' hXm hXm')
  clear hX hC hC1 hY hE hX' hC' hC1' hY' hE' hab hab' hXm hXm' ha hb hc hd
  have HXC := Lib.hid (cmpInt_any y u)
  have HYC := Lib.hid (cmpU_any (X : Int) (X' : Int))
  obtain ⟨p, hp⟩ : ∃ p, p = cmpZ y u := ⟨_, rfl⟩
  obtain ⟨q, hq⟩ : ∃ q, q = cmpZ (X : Int) (X' : Int) := ⟨_, rfl⟩
  rw [← hp] at HXC HR
  rw [← hq] at HYC HR
  obtain ⟨r, hr⟩ : ∃ r, r = (if p = 0 then q else p) := ⟨_, rfl⟩
  have HO : Hid (∀ (g : Nat) (w : World), w.cell? ⟨g, 0, none⟩ = some (.int .i64 p) → w.cell? ⟨g, 1, none⟩ = some (.int .i64 q) → Calls Try.prog 43 #[.slice (some ⟨g, 0, none⟩) 2 2] w fun e w' => e = .returned (.int .i64 r) ∧ w = w') := Lib.hid (fun g w h1 h2 => by rw [hr]; exact or_any g p q w h1 h2)
  rw [← hr] at HR
  rw [← HR.out]
  clear hp hq hr HR
  go_enter Try.func44, Try.ntmps44
  go_wp2_with fail
  refine (HXC.out _).mono ?_
  rintro e w' ⟨rfl, rfl⟩
  go_wp2_with fail
  refine (HYC.out _).mono ?_
  rintro e w' ⟨rfl, rfl⟩
  go_wp2_with fail
  refine (HO.out _ _ (cell_of_row _ _ _ _ _ _ (alloc_new _ _)) (cell_of_row _ _ _ _ _ _ (alloc_new _ _))).mono ?_
  rintro e w' ⟨rfl, rfl⟩
  go_wp2_with fail
  go_ret
  exact ⟨rfl, (Grew.refl _).alloc _⟩
end Go.Proofs.Ytlmmejdcjhbppaa

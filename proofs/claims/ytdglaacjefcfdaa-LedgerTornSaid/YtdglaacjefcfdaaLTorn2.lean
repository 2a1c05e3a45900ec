/- law 28: opened, of a file that is cut short -/
import Derived.Test.YtdglaacjefcfdaaLTorn1
namespace Go.Proofs.Ytdglaacjefcfdaa
open Go.RowKit
set_option maxRecDepth 100000 in
theorem opened_gen (d n sz : Nat) (recs : List (List UInt8)) (w : World) (X : World → Prop) (hn : recs.length = n)
    (H0 : Calls Try.prog 16 #[.pointer (some ⟨d, 0, none⟩), .string logB] w fun e w' => ∃ l v, e = .returned (.tuple #[.pointer (some ⟨l, 0, none⟩), v, .int .i64 0]) ∧ w.heap.size ≤ l ∧ LedRow w' l d (recs.length : Nat) (sz : Nat) false ∧ Lists w' w.heap.size v recs ∧ X w') :
    Calls Try.prog 10 #[.pointer (some ⟨d, 0, none⟩), .int .i64 (n : Int)] w
      fun e w' => ∃ l v, e = .returned (.tuple #[.pointer (some ⟨l, 0, none⟩), v, .bool true]) ∧ w.heap.size ≤ l ∧ LedRow w' l d (n : Nat) (sz : Nat) false ∧ Lists w' w.heap.size v recs ∧ X w' := by
  rw [hn] at H0
  have H := Lib.hid H0
  have hn0 : ¬ ((n : Int) < 0) := by omega
  have HN := Lib.hid hn
  clear hn H0
  unfold logB at H
  go_enter Try.func10, Try.ntmps10
  go_wp2_with fail
  refine H.out.mono ?_
  rintro e w2 ⟨l, v, rfl, hl, hlr, hls, hx⟩
  have HL := Lib.hid (Len_any l d n sz false w2 hlr)
  obtain ⟨la, lc, hv, _⟩ := hls.reads
  rw [HN.out] at hv
  subst hv
  have HX := Lib.hid (And.intro hl (And.intro hlr (And.intro hls hx)))
  clear hl hlr hls hx
  go_wp2_with fail
  refine HL.out.mono ?_
  rintro e w3 ⟨rfl, rfl⟩
  go_wp2_with fail
  go_ret3
  exact ⟨l, _, rfl, HX.out⟩
theorem allB_cut (B : List UInt8) (E : Nat) : allB [] [Deed.more B, Deed.cut E] = B.take E := by
  unfold allB unitsD
  rw [afterZ_more _ _ _ (by simp [Deed.units] <;> omega)]
  have e1 : (min (((([Deed.more B, Deed.cut E].map Deed.units).sum : Nat)) : Int) (B.length : Int)).toNat = B.length := by simp [Deed.units] <;> omega
  have e2 : (((([Deed.more B, Deed.cut E].map Deed.units).sum : Nat)) : Int) - (B.length : Int) = 1 := by simp [Deed.units] <;> omega
  rw [e1, e2, List.take_length, List.nil_append, afterZ_cut _ _ _ (by omega)]
  rfl
theorem opened_cut (base d mb f A E n : Nat) (B P : List UInt8) (recs : List (List UInt8)) (w : World) (hbs : base ≤ w.heap.size) (hd : DiskOwn w d mb f base [] (laid [] A B)) (hA : B.length = A) (hA2 : A ≤ 1048576)
    (hscan : Fr.scanF B = (recs, E, if E = A then 0 else 1)) (hn : recs.length = n) (hE : E ≤ A) (hP : B.take E = P) :
    Calls Try.prog 10 #[.pointer (some ⟨d, 0, none⟩), .int .i64 (n : Int)] w
      fun e w' => ∃ l v, e = .returned (.tuple #[.pointer (some ⟨l, 0, none⟩), v, .bool true]) ∧ w.heap.size ≤ l ∧ LedRow w' l d (n : Nat) (E : Nat) false ∧ Lists w' w.heap.size v recs ∧ (DiskOwn w' d mb f base P [] ∧ Moved d mb f base w w') := by
  have hall : allB [] (laid [] A B) = B := by
    unfold laid
    by_cases h : A = 0
    · rw [if_pos h]
      have : B = [] := List.eq_nil_of_length_eq_zero (by omega)
      rw [this]; rfl
    · rw [if_neg h]
      exact allB_one [] B
  by_cases hEA : E = A
  · rw [if_pos hEA] at hscan
    have hPB : B = P := by rw [← hP, List.take_of_length_le (by omega)]
    refine opened_gen d n E recs w _ hn ((Open_log base d mb f [] (laid [] A B) B recs E w hbs hd hall.symm hscan).mono ?_)
    rintro e w' ⟨l, v, rfl, h1, h2, h3, h4, h5⟩
    exact ⟨l, v, rfl, h1, h2, h4, by rw [← hPB]; exact h3, h5⟩
  · rw [if_neg hEA] at hscan
    have hA0 : A ≠ 0 := by omega
    have hl : laid [] A B = [Deed.more B] := by unfold laid; rw [if_neg hA0]; rfl
    rw [hl] at hd hall
    refine opened_gen d n E recs w _ hn ((Open_torn base d mb f [] [Deed.more B] B recs E w hbs hd hall.symm hscan (by omega) (by simp) ⟨by simp <;> omega, trivial⟩ (by simp [Deed.units] <;> omega)).mono ?_)
    rintro e w' ⟨l, v, rfl, h1, h2, h3, h4, h5⟩
    have e1 : allB [] ([Deed.more B] ++ [Deed.cut E]) = P := by rw [← hP]; exact allB_cut B E
    rw [e1] at h3
    exact ⟨l, v, rfl, h1, h2, h4, h3, h5⟩
end Go.Proofs.Ytdglaacjefcfdaa

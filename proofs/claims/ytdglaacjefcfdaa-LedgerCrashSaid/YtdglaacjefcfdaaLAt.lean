/- law 28: opened, of a file that is cut short and settled -/
import Derived.Test.YtdglaacjefcfdaaLAwake
import Derived.Test.YtdglaacjefcfdaaLOpen6
namespace Go.Proofs.Ytdglaacjefcfdaa
open Go.RowKit
set_option maxRecDepth 100000 in
theorem opened_gen (d n sz : Nat) (recs : List (List UInt8)) (w : World) (X : World → Prop) (hn : recs.length = n)
    (H0 : Calls Try.prog 16 #[.pointer (some ⟨d, 0, none⟩), .string logB] w fun e w' => ∃ l v, e = .returned (.tuple #[.pointer (some ⟨l, 0, none⟩), v, .int .i64 0]) ∧ w.heap.size ≤ l ∧ LedRow w' l d (recs.length : Nat) (sz : Nat) false ∧ Lists w' w.heap.size v recs ∧ X w') :
    Calls Try.prog 10 #[.pointer (some ⟨d, 0, none⟩), .int .i64 (n : Int)] w
      fun e w' => ∃ l v, e = .returned (.tuple #[.pointer (some ⟨l, 0, none⟩), v, .bool true]) ∧ w.heap.size ≤ l ∧ LedRow w' l d (n : Nat) (sz : Nat) false ∧ Lists w' w.heap.size v recs ∧ X w' := by
  rw [hn] at H0
  have H := Lib.hid H0
  have hn0 : ¬ ((n : Int) < 0) := by omega
  have HN := Lib.hid hn
  clear hn H0
  unfold logB at H
  go_enter Try.func10, Try.ntmps10
  go_wp2_with fail
  refine H.out.mono ?_
  rintro e w2 ⟨l, v, rfl, hl, hlr, hls, hx⟩
  have HL := Lib.hid (Len_any l d n sz false w2 hlr)
  obtain ⟨la, lc, hv, _⟩ := hls.reads
  rw [HN.out] at hv
  subst hv
  have HX := Lib.hid (And.intro hl (And.intro hlr (And.intro hls hx)))
  clear hl hlr hls hx
  go_wp2_with fail
  refine HL.out.mono ?_
  rintro e w3 ⟨rfl, rfl⟩
  go_wp2_with fail
  go_ret3
  exact ⟨l, _, rfl, HX.out⟩
set_option maxRecDepth 100000 in
theorem opened_neg (d sz : Nat) (recs : List (List UInt8)) (w : World) (X : World → Prop)
    (H0 : Calls Try.prog 16 #[.pointer (some ⟨d, 0, none⟩), .string logB] w fun e w' => ∃ l v, e = .returned (.tuple #[.pointer (some ⟨l, 0, none⟩), v, .int .i64 0]) ∧ w.heap.size ≤ l ∧ LedRow w' l d (recs.length : Nat) (sz : Nat) false ∧ Lists w' w.heap.size v recs ∧ X w') :
    Calls Try.prog 10 #[.pointer (some ⟨d, 0, none⟩), .int .i64 (-1)] w
      fun e w' => ∃ l v, e = .returned (.tuple #[.pointer (some ⟨l, 0, none⟩), v, .bool true]) ∧ w.heap.size ≤ l ∧ LedRow w' l d (recs.length : Nat) (sz : Nat) false ∧ Lists w' w.heap.size v recs ∧ X w' := by
  obtain ⟨n, hn⟩ : ∃ n, n = recs.length := ⟨_, rfl⟩
  rw [← hn] at H0 ⊢
  have H := Lib.hid H0
  have HN := Lib.hid hn
  clear hn H0
  unfold logB at H
  go_enter Try.func10, Try.ntmps10
  go_wp2_with fail
  refine H.out.mono ?_
  rintro e w2 ⟨l, v, rfl, hl, hlr, hls, hx⟩
  have HL := Lib.hid (Len_any l d n sz false w2 hlr)
  obtain ⟨la, lc, hv, _⟩ := hls.reads
  rw [← HN.out] at hv
  subst hv
  have HX := Lib.hid (And.intro hl (And.intro hlr (And.intro hls hx)))
  clear hl hlr hls hx
  go_wp2_with fail
  refine HL.out.mono ?_
  rintro e w3 ⟨rfl, rfl⟩
  go_wp2_with fail
  go_ret3
  exact ⟨l, _, rfl, HX.out⟩
theorem wholeN_eq : ∀ (L : List (List UInt8)) (k A : Nat), k ≤ L.length → (Fr.putAll (L.take k)).length ≤ A → (k = L.length ∨ A < (Fr.putAll (L.take (k + 1))).length) → Fr.wholeN L A = k
  | [], k, A, h, _, _ => by have : k = 0 := by simpa using h
                            subst this; rfl
  | r :: L, 0, A, _, _, h => by
    rcases h with h | h
    · simp at h
    · have : A < r.length + 12 := by simpa [Fr.putAll, Fr.putF_length] using h
      unfold Fr.wholeN
      rw [if_neg (by omega)]
  | r :: L, k + 1, A, hk, h1, h2 => by
    have e : ∀ M : List (List UInt8), (Fr.putAll (r :: M)).length = r.length + 12 + (Fr.putAll M).length := fun M => by
      rw [show Fr.putAll (r :: M) = Fr.putF r ++ Fr.putAll M from rfl, List.length_append, Fr.putF_length]
    rw [List.take_succ_cons, e] at h1
    have ih := wholeN_eq L k (A - (r.length + 12)) (by simpa using hk) (by omega) (by
      rcases h2 with h | h
      · exact .inl (by simpa using h)
      · rw [List.take_succ_cons, e] at h
        exact .inr (by omega))
    unfold Fr.wholeN
    rw [if_pos (by omega), ih]
theorem wholeN_le : ∀ (L : List (List UInt8)) (A : Nat), Fr.wholeN L A ≤ L.length
  | [], _ => Nat.le_refl _
  | r :: L, A => by
    unfold Fr.wholeN
    split
    · have := wholeN_le L (A - (r.length + 12)); simp; exact this
    · exact Nat.zero_le _
theorem allB_cutS (S : List UInt8) (E : Nat) : allB S [Deed.cut E] = S.take E := by
  unfold allB unitsD
  rw [afterZ_cut _ _ _ (by simp [Deed.units])]
  rfl
theorem putAll_take_take (L : List (List UInt8)) (q A : Nat) (h : (Fr.putAll (L.take q)).length ≤ A) : ((Fr.putAll L).take A).take (Fr.putAll (L.take q)).length = Fr.putAll (L.take q) := by
  rw [List.take_take, Nat.min_eq_left h]
  have e1 : Fr.putAll L = Fr.putAll (L.take q) ++ Fr.putAll (L.drop q) := by
    conv => lhs; rw [← List.take_append_drop q L]
    unfold Fr.putAll
    rw [List.flatMap_append]
  rw [e1, List.take_left' rfl]
theorem wholeN_len : ∀ (L : List (List UInt8)) (A : Nat), (Fr.putAll (L.take (Fr.wholeN L A))).length ≤ A
  | [], _ => by simp [Fr.wholeN, Fr.putAll]
  | r :: L, A => by
    unfold Fr.wholeN
    split
    · have := wholeN_len L (A - (r.length + 12))
      have e : (Fr.putAll ((r :: L).take (Fr.wholeN L (A - (r.length + 12)) + 1))).length = r.length + 12 + (Fr.putAll (L.take (Fr.wholeN L (A - (r.length + 12))))).length := by
        rw [List.take_succ_cons, show Fr.putAll (r :: L.take (Fr.wholeN L (A - (r.length + 12)))) = Fr.putF r ++ Fr.putAll (L.take (Fr.wholeN L (A - (r.length + 12)))) from rfl, List.length_append, Fr.putF_length]
      omega
    · simp [Fr.putAll]
/-- Open of a settled file of frames, cut short anywhere. -/
theorem Open_at (base d mb f A : Nat) (L : List (List UInt8)) (w : World) (hbs : base ≤ w.heap.size) (hd : DiskOwn w (-1) d mb f base ((Fr.putAll L).take A) []) (hA : A ≤ (Fr.putAll L).length) (hL : ∀ r ∈ L, r.length ≤ 65536) (hsm : (Fr.putAll L).length ≤ 1048576) :
    Calls Try.prog 16 #[.pointer (some ⟨d, 0, none⟩), .string logB] w fun e w' => ∃ l v, e = .returned (.tuple #[.pointer (some ⟨l, 0, none⟩), v, .int .i64 0]) ∧ w.heap.size ≤ l ∧
      LedRow w' l d ((L.take (Fr.wholeN L A)).length : Nat) ((Fr.putAll (L.take (Fr.wholeN L A))).length : Nat) false ∧ Lists w' w.heap.size v (L.take (Fr.wholeN L A)) ∧ (DiskOwn w' (-1) d mb f base (Fr.putAll (L.take (Fr.wholeN L A))) [] ∧ Moved d mb f base w w') := by
  have hcc := Fr.scan_cut L A hL hA
  have hE := wholeN_len L A
  have hP := putAll_take_take L (Fr.wholeN L A) A hE
  generalize Fr.wholeN L A = q at hcc hE hP ⊢
  obtain ⟨E, hEq⟩ : ∃ E, E = (Fr.putAll (L.take q)).length := ⟨_, rfl⟩
  rw [← hEq] at hcc hE hP ⊢
  obtain ⟨B, hB⟩ : ∃ B, B = (Fr.putAll L).take A := ⟨_, rfl⟩
  rw [← hB] at hcc hP hd
  have hlB : B.length = A := by rw [hB, List.length_take]; omega
  by_cases hEA : E = A
  · rw [if_pos hEA] at hcc
    have hPB : B = Fr.putAll (L.take q) := by rw [← hP, List.take_of_length_le (by omega)]
    refine (Open_log base d mb f B [] B (L.take q) E w hbs hd rfl hcc).mono ?_
    rintro e w' ⟨l, v, rfl, h1, h2, h3, h4, h5⟩
    exact ⟨l, v, rfl, h1, h2, h4, by rw [← hPB]; exact h3, h5⟩
  · rw [if_neg hEA] at hcc
    refine (Open_torn base d mb f B [] B (L.take q) E w hbs hd rfl hcc (by omega) (by simp) ⟨by omega, trivial⟩ (by simp [Deed.units]; omega)).mono ?_
    rintro e w' ⟨l, v, rfl, h1, h2, h3, h4, h5⟩
    have e1 : allB B ([] ++ [Deed.cut E]) = Fr.putAll (L.take q) := by rw [← hP]; exact allB_cutS B E
    rw [e1] at h3
    exact ⟨l, v, rfl, h1, h2, h4, h3, h5⟩
end Go.Proofs.Ytdglaacjefcfdaa

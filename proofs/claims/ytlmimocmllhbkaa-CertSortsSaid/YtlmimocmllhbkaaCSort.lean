/- cert.Sort: the same certificates, each once, rising -/
import Derived.Test.YtlmimocmllhbkaaCPlain
namespace Go.Proofs.Ytlmimocmllhbkaa
open Go.RowKit
set_option maxRecDepth 100000 in
theorem Sort_any (ao : Option Addr) (n cap : Nat) (L : List Crt) (w : World) (h : IsCerts w ao n cap L) (hn : n ≤ 100000) :
    Calls Try.prog 13 #[.slice ao n cap] w fun e w' => ∃ v M, e = .returned v ∧ OwnC w' w.heap.size v M ∧ Rising M ∧ (∀ c, c ∈ M ↔ c ∈ L) ∧ M.length ≤ L.length ∧ Below w.heap.size w w' := by
  have HN : Hid (L.length ≤ 100000) := Lib.hid (by rw [h.1]; exact hn)
  have hcl := Clone_any ao n cap L w h hn
  have HC := Lib.hid hcl
  clear hcl h hn
  go_enter Try.func13, Try.ntmps13
  go_wp2_with fail
  refine HC.out.mono ?_
  rintro e w1 ⟨v, rfl, hown1, hb1⟩
  have HO1 := Lib.hid hown1
  have HB1 := Lib.hid hb1
  clear hown1 hb1
  go_wp2_with fail
  refine (SortFunc_any w.heap.size v L w1 HO1.out HB1.out.size HN.out).mono ?_
  rintro e w2 ⟨rfl, N, hown2, hp, hs, hb2⟩
  have HO2 := Lib.hid hown2
  have HB2 := Lib.hid hb2
  have HP := Lib.hid hp
  have HS := Lib.hid hs
  clear hown2 hb2 hp hs
  go_wp2_with fail
  refine (Compact_any w.heap.size v N w2 HO2.out (by rw [HP.out.length_eq]; exact HN.out)).mono ?_
  rintro e w3 ⟨v3, rfl, hown3, hb3⟩
  have HO3 := Lib.hid hown3
  have HB3 := Lib.hid hb3
  clear hown3 hb3
  go_wp2_with fail
  go_ret
  refine ⟨v3, dedN N N.length, rfl, HO3.out, ?_, ?_, ?_, HB1.out.trans (HB2.out.trans HB3.out)⟩
  · by_cases h0 : N.length = 0
    · rw [h0]; exact List.Pairwise.nil
    · exact (dedN_facts (fun i j h1 h2 => by have := HS.out i j h1 h2; omega) N.length (by omega) (Nat.le_refl _)).2.2.1
  · intro c
    by_cases h0 : N.length = 0
    · have e : N = [] := List.eq_nil_of_length_eq_zero h0
      rw [← HP.out.mem_iff, e]
      exact Iff.rfl
    · rw [(dedN_facts (fun i j h1 h2 => by have := HS.out i j h1 h2; omega) N.length (by omega) (Nat.le_refl _)).1 c, List.take_length, HP.out.mem_iff]
  · by_cases h0 : N.length = 0
    · rw [h0]; exact Nat.zero_le _
    · rw [← HP.out.length_eq]
      exact (dedN_facts (fun i j h1 h2 => by have := HS.out i j h1 h2; omega) N.length (by omega) (Nat.le_refl _)).2.1
end Go.Proofs.Ytlmimocmllhbkaa

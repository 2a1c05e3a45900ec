/- the order of certificates, in plain words -/
import Derived.Test.YtlmimocmllhbkaaCEq
import Derived.Shelf.SlSortCmp.NoneTotal
namespace Go.Proofs.Ytlmimocmllhbkaa
instance : Inhabited Crt := ⟨c0⟩
theorem cmpC_lt (a b : Crt) : cmpC a b < 0 ↔ a.cu < b.cu ∨ (a.cu = b.cu ∧ (a.ju < b.ju ∨ (a.ju = b.ju ∧ (a.ca < b.ca ∨ (a.ca = b.ca ∧ (a.fr < b.fr ∨ (a.fr = b.fr ∧ a.to < b.to))))))) := by
  simp only [cmpC, cmpL, cmpI, Crt.get]
  by_cases h0 : a.cu < b.cu
  · simp [h0]
  · by_cases h1 : b.cu < a.cu
    · simp [h0, h1]; omega
    · by_cases h2 : a.ju < b.ju
      · simp [h0, h1, h2]; omega
      · by_cases h3 : b.ju < a.ju
        · simp [h0, h1, h2, h3]; omega
        · by_cases h4 : a.ca < b.ca
          · simp [h0, h1, h2, h3, h4]; omega
          · by_cases h5 : b.ca < a.ca
            · simp [h0, h1, h2, h3, h4, h5]; omega
            · by_cases h6 : a.fr < b.fr
              · simp [h0, h1, h2, h3, h4, h5, h6]; omega
              · by_cases h7 : b.fr < a.fr
                · simp [h0, h1, h2, h3, h4, h5, h6, h7]; omega
                · by_cases h8 : a.to < b.to
                  · simp [h0, h1, h2, h3, h4, h5, h6, h7, h8]; omega
                  · by_cases h9 : b.to < a.to
                    · simp [h0, h1, h2, h3, h4, h5, h6, h7, h8, h9]
                    · simp [h0, h1, h2, h3, h4, h5, h6, h7, h8, h9]
theorem cmpC_irrefl (a : Crt) : ¬ cmpC a a < 0 := by rw [cmpC_lt]; omega
theorem cmpC_trans {a b c : Crt} (h1 : cmpC a b < 0) (h2 : cmpC b c < 0) : cmpC a c < 0 := by
  rw [cmpC_lt] at *; omega
theorem cmpC_ntrans {a b c : Crt} (h1 : ¬ cmpC a b < 0) (h2 : ¬ cmpC b c < 0) : ¬ cmpC a c < 0 := by
  rw [cmpC_lt] at *; omega
theorem cmpC_total {a b : Crt} (h1 : ¬ cmpC a b < 0) (h2 : ¬ cmpC b a < 0) : a = b := by
  rw [cmpC_lt] at *
  obtain ⟨a1, a2, a3, a4, a5⟩ := a
  obtain ⟨b1, b2, b3, b4, b5⟩ := b
  simp only [Crt.mk.injEq] at *
  omega
theorem swoC : Go.Sort.SWO (Go.Proofs.ltOf cmpC) where
  irrefl x := by unfold Go.Proofs.ltOf; simpa using cmpC_irrefl x
  trans x y z h1 h2 := by unfold Go.Proofs.ltOf at *; simp only [decide_eq_true_eq] at *; exact cmpC_trans h1 h2
  ntrans x y z h1 h2 := by unfold Go.Proofs.ltOf at *; simp only [decide_eq_false_iff_not] at *; exact cmpC_ntrans h1 h2
end Go.Proofs.Ytlmimocmllhbkaa

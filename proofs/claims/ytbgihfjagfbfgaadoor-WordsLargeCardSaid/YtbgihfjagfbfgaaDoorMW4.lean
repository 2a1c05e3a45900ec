/- layer 16: a word with a letter made small, or a blank at an end, has no short form -/
import Derived.Test.YtbgihfjagfbfgaaDoorMWLaw0
set_option linter.unusedSimpArgs false
set_option linter.unusedVariables false
namespace Go.Proofs.YtbgihfjagfbfgaaDoor
open Go.Words
def smallW (l : Wd) (i : Nat) : Wd := l.set i (l.getD i 0 ||| 32)
def largeP (P : List Pr) : Bool := P.all fun p => decide (0 < p.1.length) && ((List.range p.1.length).all fun i => decide (smallW p.1 i = p.1) || (firstS P (smallW p.1 i)).isNone) && (firstS P (p.1 ++ [32])).isNone && (firstS P (32 :: p.1)).isNone
theorem suf_large : largeP sufP = true := by decide +kernel
theorem dir_large : largeP dirP = true := by decide +kernel
theorem sta_large : largeP staP = true := by decide +kernel
theorem uni_large : largeP uniP = true := by decide +kernel
theorem kind_large (k : Int) {p : Pr} (hp : p ∈ kindP k) : 0 < p.1.length ∧ (∀ i, i < p.1.length → smallW p.1 i = p.1 ∨ firstS (kindP k) (smallW p.1 i) = none) ∧ firstS (kindP k) (p.1 ++ [32]) = none ∧ firstS (kindP k) (32 :: p.1) = none := by
  have h := List.all_eq_true.1 (kind_all (Q := fun P => largeP P = true) suf_large dir_large sta_large uni_large rfl k) p hp
  simp only [Bool.and_eq_true, decide_eq_true_eq, List.all_eq_true, Bool.or_eq_true, Option.isNone_iff_eq_none] at h
  exact ⟨h.1.1.1, fun i hi => h.1.1.2 i (List.mem_range.2 hi), h.1.2, h.2⟩
theorem or32N : ∀ n : Nat, n < 256 → bits .or .u8 (n : Int) 32 = (((UInt8.ofNat n) ||| 32).toNat : Int) := by decide +kernel
theorem or32 (c : UInt8) : bits .or .u8 (c.toNat : Int) 32 = ((c ||| 32).toNat : Int) := by
  have := or32N c.toNat c.toNat_lt
  rwa [UInt8.ofNat_toNat] at this
end Go.Proofs.YtbgihfjagfbfgaaDoor

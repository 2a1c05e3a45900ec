/- disk: Sync -/
import Derived.Test.YtdglaacjefcfdaaDStep
import Derived.Shelf.Abstract
namespace Go.Proofs.Ytdglaacjefcfdaa
open Go.RowKit
theorem afterZ_length : ∀ (D : List Deed) (b : List UInt8) (z : Int), (afterZ b D z).length ≤ b.length + (D.map Deed.units).sum
  | [], b, z => by simp [afterZ]
  | d :: D, b, z => by
    by_cases h : z ≤ 0
    · rw [afterZ_stop _ _ _ h]; omega
    · cases d with
      | more x =>
        rw [afterZ_more _ _ _ h]
        have := afterZ_length D (b ++ x.take (min z (x.length : Int)).toNat) (z - x.length)
        simp only [List.length_append, List.length_take, List.map_cons, List.sum_cons, Deed.units] at *
        omega
      | cut n =>
        rw [afterZ_cut _ _ _ h]
        have := afterZ_length D (b.take n) (z - 1)
        simp only [List.length_take, List.map_cons, List.sum_cons, Deed.units] at *
        omega
/-- a file whose bytes an own row holds, with nothing under way. -/
theorem FileAt.settled {w : World} {f base : Nat} {v : Value} {S : List UInt8} {D : List Deed} (h : FileRow w f v (.slice none 0 0)) (ho : OwnB w base v (allB S D)) (hs : S.length + (D.map Deed.units).sum ≤ 4294967296) : FileAt w f (allB S D) [] := by
  obtain ⟨ao, cap, rfl, hb, _⟩ := ho.bytes
  refine ⟨⟨_, _, _, _, _, _, h, hb, rfl, Nat.le_refl _, by unfold maxLen; omega, fun _ => ⟨rfl, rfl⟩, fun i hi => absurd hi (by omega)⟩, trivial, ?_⟩
  have := afterZ_length D S (unitsD D : Nat)
  simp only [List.map_nil, List.sum_nil]
  unfold allB
  omega
theorem enters_sync : ∀ args w, (callFunc 36 args).run Try.prog w = .ok (.enter 36 args) w := enters_of (hf := Try.func36) (hname := by kernel_rfl) (hb := rfl)
end Go.Proofs.Ytdglaacjefcfdaa

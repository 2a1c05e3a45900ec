/- math/bits.Mul64, laid at this program (written by the shelf's tools; the numbers by their names) -/
import Derived.Shelf.Bits.Mul64
import Derived.Test.YtgijaaklhdcgeaaProg
namespace Go.Proofs.Ytgijaaklhdcgeaa
open Go.Shelf Go.RowKit
def mul64_ren : Go.Shelf.Ren := ⟨fun | 264 => 128 | n => n, fun | 53 => 118 | 46 => 112 | n => n, fun | n => n⟩
theorem mul64_lays : Go.Proofs.Lays.n264 Try.prog mul64_ren := {
  mixed := by kernel_rfl
  f264 := Try.func128.trans (congrArg some (by kernel_rfl))
  t46 := Try.underlying112
  a46 := Try.isAgg112
  z46 := Try.sizeOf112
  v46 := Try.zeroValue112
  t53 := Try.underlying118
  a53 := Try.isAgg118
  z53 := Try.sizeOf118
  v53 := Try.zeroValue118 }
theorem Mul64_any (x y : Nat) (hx : x < 18446744073709551616) (hy : y < 18446744073709551616) (w : World) :
    Calls Try.prog 128 #[.int .u64 x, .int .u64 y] w fun e w' => e = .returned (.tuple #[.int .u64 ((x * y / 18446744073709551616 : Nat) : Int), .int .u64 ((x * y % 18446744073709551616 : Nat) : Int)]) ∧ w' = w := Go.Proofs.Any.bits_Mul64 mul64_lays x y hx hy w
end Go.Proofs.Ytgijaaklhdcgeaa

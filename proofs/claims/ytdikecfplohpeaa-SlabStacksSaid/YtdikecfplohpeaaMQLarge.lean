/- apportionkit.LargeRegion -/
import Derived.Test.YtdikecfplohpeaaMQIn2
import Derived.Test.YtdikecfplohpeaaMQCont
import Derived.Test.YtdikecfplohpeaaMSlab2
set_option linter.unusedSimpArgs false
set_option linter.unusedVariables false
namespace Go.Proofs.Ytdikecfplohpeaa
open Go.RowKit Go.Geo
attribute [local go_sem] Oper.semAt_some
def largeR (R : List (List Pt)) (a b : Nat) : Bool := decide (a < R.length) || decide (b < sumLen R)
theorem sumLen_kept {R : List (List Pt)} (hk : Kept R) : ∀ k, k ≤ R.length → sumLen (R.take k) ≤ k * 8796093022208
  | 0, _ => by simp [sumLen]
  | k + 1, h => by
    have := sumLen_kept hk k (by omega)
    have h2 := hk k (by omega)
    rw [sumLen_take (by omega)]
    omega
end Go.Proofs.Ytdikecfplohpeaa

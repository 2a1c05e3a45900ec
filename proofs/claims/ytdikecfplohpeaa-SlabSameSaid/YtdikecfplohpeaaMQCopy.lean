/- apportionkit.CopyRings -/
import Derived.Test.YtdikecfplohpeaaMQLay
namespace Go.Proofs.Ytdikecfplohpeaa
open Go.RowKit Go.Geo
theorem take_moreR {R : List (List Pt)} {k : Nat} (hk : k < R.length) : R.take (k + 1) = R.take k ++ [R.getD k []] := by
  rw [List.take_succ_eq_append_getElem hk, List.getD_eq_getElem?_getD, List.getElem?_eq_getElem hk]; rfl
/-- rings that are not many, nor long. -/
def Small (R : List (List Pt)) : Prop := R.length ≤ 100000 ∧ ∀ k, k < R.length → (R.getD k []).length ≤ 100000
end Go.Proofs.Ytdikecfplohpeaa

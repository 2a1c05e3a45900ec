/- ref07.In, ref07.Meet, ref12.At, ref12.Over (printed by mkrask12.py) -/
import Derived.Test.YtjiiikeniocmfaaGreatMBBuild
set_option linter.unusedSimpArgs false
set_option linter.unusedVariables false
namespace Go.Proofs.YtjiiikeniocmfaaGreat
open Go.RowKit Go.Geo
attribute [local go_sem] Oper.semAt_some
end Go.Proofs.YtjiiikeniocmfaaGreat

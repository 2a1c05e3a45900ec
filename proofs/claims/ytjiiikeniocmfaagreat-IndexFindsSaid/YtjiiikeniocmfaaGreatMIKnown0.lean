/- IndexKnown's walk, its parts -/
import Derived.Test.YtjiiikeniocmfaaGreatMIAwake
import Derived.Test.YtjiiikeniocmfaaGreatMRegW
import Derived.Test.YtjiiikeniocmfaaGreatMIClone
set_option linter.unusedSimpArgs false
set_option linter.unusedVariables false
namespace Go.Proofs.YtjiiikeniocmfaaGreat
open Go.RowKit Go.Geo
attribute [local go_sem] Oper.semAt_some
end Go.Proofs.YtjiiikeniocmfaaGreat

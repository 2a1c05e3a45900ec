/- the document's region: In -/
import Derived.Test.YtjiiikeniocmfaaGreatMR10b
import Derived.Test.YtjiiikeniocmfaaGreatMQRegIn
import Derived.IntWalk
set_option linter.unusedSimpArgs false
set_option linter.unusedVariables false
namespace Go.Proofs.YtjiiikeniocmfaaGreat
open Go.RowKit Go.Shelf Go.Geo
attribute [local go_sem] Oper.semAt_some
end Go.Proofs.YtjiiikeniocmfaaGreat

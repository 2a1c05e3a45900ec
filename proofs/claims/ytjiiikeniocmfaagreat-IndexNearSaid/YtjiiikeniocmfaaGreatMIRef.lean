/- the document's index (printed by mkiref14.py) -/
import Derived.Test.YtjiiikeniocmfaaGreatMIAt
import Derived.Test.YtjiiikeniocmfaaGreatMIBuild
import Derived.Test.YtjiiikeniocmfaaGreatMQUnlike
import Derived.Test.YtjiiikeniocmfaaGreatMQRegIn
import Derived.Test.YtjiiikeniocmfaaGreatMR11
import Derived.Test.YtjiiikeniocmfaaGreatMBRAsk
import Derived.Test.YtjiiikeniocmfaaGreatMSEqF
import Derived.Test.YtjiiikeniocmfaaGreatMSlabW
set_option linter.unusedSimpArgs false
set_option linter.unusedVariables false
namespace Go.Proofs.YtjiiikeniocmfaaGreat
open Go.RowKit Go.Geo
attribute [local go_sem] Oper.semAt_some
end Go.Proofs.YtjiiikeniocmfaaGreat

/- the law's at, box, of, s, t, u -/
import Derived.Test.YtjiiikeniocmfaaGreatMQRCheck
import Derived.Test.YtjiiikeniocmfaaGreatMR10b
import Derived.IntWalk
import Derived.Test.YtjiiikeniocmfaaGreatMRegS
set_option linter.unusedSimpArgs false
set_option linter.unusedVariables false
namespace Go.Proofs.YtjiiikeniocmfaaGreat
open Go.RowKit Go.Geo
attribute [local go_sem] Oper.semAt_some
end Go.Proofs.YtjiiikeniocmfaaGreat

/- the document's ring: at, twice -/
set_option linter.unusedSimpArgs false
set_option linter.unusedVariables false
namespace Go.Proofs.YtjiiikeniocmfaaGreat
open Go.RowKit Go.Shelf Go.Geo
attribute [local go_sem] Oper.semAt_some
end Go.Proofs.YtjiiikeniocmfaaGreat

/- the document's ring: meets -/
set_option linter.unusedSimpArgs false
set_option linter.unusedVariables false
namespace Go.Proofs.YtjiiikeniocmfaaGreat
open Go.RowKit Go.Shelf Go.Geo
attribute [local go_sem] Oper.semAt_some
end Go.Proofs.YtjiiikeniocmfaaGreat

/- the document's region: meet -/
set_option linter.unusedSimpArgs false
set_option linter.unusedVariables false
namespace Go.Proofs.YtjiiikeniocmfaaGreat
open Go.RowKit Go.Shelf Go.Geo
attribute [local go_sem] Oper.semAt_some
end Go.Proofs.YtjiiikeniocmfaaGreat

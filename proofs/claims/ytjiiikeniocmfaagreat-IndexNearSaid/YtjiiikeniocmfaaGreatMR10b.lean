/- the document's edges: may, Ends -/
import Derived.Test.YtjiiikeniocmfaaGreatMR7b
import Derived.Test.YtjiiikeniocmfaaGreatMQEnds
import Derived.Test.YtjiiikeniocmfaaGreatMQRing1
import Derived.Test.YtjiiikeniocmfaaGreatMR10
import Derived.IntWalk
set_option linter.unusedSimpArgs false
set_option linter.unusedVariables false
namespace Go.Proofs.YtjiiikeniocmfaaGreat
open Go.RowKit Go.Geo
end Go.Proofs.YtjiiikeniocmfaaGreat

/- the document's edges: Meets -/
set_option linter.unusedSimpArgs false
set_option linter.unusedVariables false
namespace Go.Proofs.YtjiiikeniocmfaaGreat
open Go.RowKit Go.Geo
end Go.Proofs.YtjiiikeniocmfaaGreat

/- the document's crossings: Crossings, In -/
set_option linter.unusedSimpArgs false
set_option linter.unusedVariables false
namespace Go.Proofs.YtjiiikeniocmfaaGreat
open Go.RowKit Go.Geo
end Go.Proofs.YtjiiikeniocmfaaGreat

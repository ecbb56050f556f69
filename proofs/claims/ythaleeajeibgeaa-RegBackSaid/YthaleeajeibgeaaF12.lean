/- Contracts: slices.Sort of at most twelve texts; slices.Compact. -/
import Derived.Test.YthaleeajeibgeaaF11
import Derived.Test.YthaleeajeibgeaaE18
set_option linter.unusedVariables false
set_option linter.unusedSimpArgs false
set_option maxRecDepth 100000
set_option maxHeartbeats 1000000
namespace Go.Hog
open Go.RowKit Rp Go.Proofs
end Go.Hog

/- Contracts: chapter 10's own answer. -/
import Derived.Test.YtjjlfbpmbleabaaDoorF2
set_option linter.unusedVariables false
set_option linter.unusedSimpArgs false
set_option maxRecDepth 100000
namespace Go.Hog
open Go.RowKit Rp Go.Proofs

end Go.Hog

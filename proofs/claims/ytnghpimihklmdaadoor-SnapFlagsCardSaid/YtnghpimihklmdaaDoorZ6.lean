import Derived.Test.YtnghpimihklmdaaDoorZ5
namespace Go.Proofs.YtnghpimihklmdaaDoor
open Go Go.Ax
set_option linter.unusedSectionVars false
variable [JW]
end Go.Proofs.YtnghpimihklmdaaDoor


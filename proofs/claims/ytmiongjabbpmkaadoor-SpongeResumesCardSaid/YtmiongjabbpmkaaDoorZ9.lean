import Derived.Test.YtmiongjabbpmkaaDoorZ8
namespace Go.Proofs.YtmiongjabbpmkaaDoor
open Go Go.Ax
set_option linter.unusedSectionVars false
variable [JW]
end Go.Proofs.YtmiongjabbpmkaaDoor


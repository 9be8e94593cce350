import Derived.Test.YtmiongjabbpmkaaDoorZ7
namespace Go.Proofs.YtmiongjabbpmkaaDoor
open Go Go.Ax
set_option linter.unusedSectionVars false
variable [JW]
def known : AV → Bool
  | .one .any => false
  | .one _ => true
  | _ => false
end Go.Proofs.YtmiongjabbpmkaaDoor


import Derived.Test.YtmiongjabbpmkaaDoorZ9
namespace Go.Proofs.YtmiongjabbpmkaaDoor
open Go Go.Ax
set_option linter.unusedSectionVars false
variable [JW]
def roundL (es : List Int) (r : Int) : List Int := iotaL (chiL (piL (rhoL (thetaL es)))) r
def T_Round : List (List Int) → GR := fun l => .p (.l .u64 (roundL (row0 l) (one l 1)))
end Go.Proofs.YtmiongjabbpmkaaDoor


/- Layer 12: the reference's constants, and iota. -/
import Derived.Test.YtnghpimihklmdaaDoorZ8
namespace Go.Proofs.YtnghpimihklmdaaDoor
open Go Go.Ax
set_option linter.unusedSectionVars false
variable [JW]

def rcBit (t : Nat) : Int := (nth lfsTab (t % 255)) % 2
def conBits (v : Nat) : List Int := (List.range 64).map fun p => match p with | 0 => rcBit (7 * v) | 1 => rcBit (1 + 7 * v) | 3 => rcBit (2 + 7 * v) | 7 => rcBit (3 + 7 * v) | 15 => rcBit (4 + 7 * v) | 31 => rcBit (5 + 7 * v) | 63 => rcBit (6 + 7 * v) | _ => 0
theorem con_of : ((List.range 24).all fun v => decide (ofI (conBits v) = nth rcs v)) = true := by kernel_rfl
end Go.Proofs.YtnghpimihklmdaaDoor


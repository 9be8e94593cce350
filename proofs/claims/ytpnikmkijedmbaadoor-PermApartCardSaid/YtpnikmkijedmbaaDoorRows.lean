/-
  NARROWER THAN 'FOR EVERY INPUT', by the rows' own cells (each row's printed sentence says how): StepOffsets: laid · StepMoves: laid · StepRows: laid · StepChi: laid · StepLinear: laid · PermRounds: laid · PermF: laid · PermPart: laid · PermApart: laid · PermBack: laid.
  DERIVED. THE GIVEN ROWS OF THIS SEAT. 10 by the template 'for every input the law returns true; each argument reads behind the call as it read before'; 0 by the template 'total and deterministic' (their statements: YtpnikmkijedmbaaDoorTotals.lean).
  GIVEN WITH THE SEED: the statements are not yours to turn. If you find one false, say at which input.
  Laid BY PROGRAM, IN A SANDBOX (cutbox-rows.mjs): the forced cells as the released guide's own fill.sh prints them over the translation f9d9bfbc55a9a2ac… (all of the seat's roots in one cut). By AI agents, Wed Nov 11 2026. No macro, syntax, notation, axiom, sorry.
-/
import Derived.Test.YtpnikmkijedmbaaDoorChecked
import GoSem.Claim
import GoSem.ClaimJoined
import GoSem.ClaimMapViews
import Derived.JoinedTies
import Derived.KernelRfl
namespace Go.Proofs.YtpnikmkijedmbaaDoor
/- THE CELL 'sum', in the pinned program and in every row, IS THE sha256 OF THE DUMP (.gsa) THAT YtpnikmkijedmbaaDoorProg.lean LOADS. Nothing in Lean hashes anything: it is a label: what it is worth is what the hold of that sum in a sandbox is worth. -/
noncomputable def Tryd.pinned : Pinned := { name := "ytpnikmkijedmbaadoor", sum := "f9d9bfbc55a9a2ac896cdf21a7178eb405f763c6b4eee58bd32533451b1d1788", checked := Tryd.checked }
namespace Rows
def none {H : Type} : Left H := { results := [], args := [] }

/- WHAT THE LISTED PACKAGE-LEVEL VARIABLES READ AS WHEN THE CALL BEGINS. Each datum BY PROGRAM (the guide's laid-datum.mjs) off the statement by which the dump's own 'gosem.cut.vars' lays the variable. In a bare row this is a premise. The card (YtpnikmkijedmbaaDoorCards.lean) ties it to the program's text. -/
def laid_cribble_step_offsets {H : Type} : DataW H := .agg [.lit (.int .i64 0), .lit (.int .i64 1), .lit (.int .i64 62), .lit (.int .i64 28), .lit (.int .i64 27), .lit (.int .i64 36), .lit (.int .i64 44), .lit (.int .i64 6), .lit (.int .i64 55), .lit (.int .i64 20), .lit (.int .i64 3), .lit (.int .i64 10), .lit (.int .i64 43), .lit (.int .i64 25), .lit (.int .i64 39), .lit (.int .i64 41), .lit (.int .i64 45), .lit (.int .i64 15), .lit (.int .i64 21), .lit (.int .i64 8), .lit (.int .i64 18), .lit (.int .i64 2), .lit (.int .i64 61), .lit (.int .i64 56), .lit (.int .i64 14)]
def laid_cribble_step_constants {H : Type} : DataW H := .agg [.lit (.int .u64 1), .lit (.int .u64 32898), .lit (.int .u64 9223372036854808714), .lit (.int .u64 9223372039002292224), .lit (.int .u64 32907), .lit (.int .u64 2147483649), .lit (.int .u64 9223372039002292353), .lit (.int .u64 9223372036854808585), .lit (.int .u64 138), .lit (.int .u64 136), .lit (.int .u64 2147516425), .lit (.int .u64 2147483658), .lit (.int .u64 2147516555), .lit (.int .u64 9223372036854775947), .lit (.int .u64 9223372036854808713), .lit (.int .u64 9223372036854808579), .lit (.int .u64 9223372036854808578), .lit (.int .u64 9223372036854775936), .lit (.int .u64 32778), .lit (.int .u64 9223372039002259466), .lit (.int .u64 9223372039002292353), .lit (.int .u64 9223372036854808704), .lit (.int .u64 2147483649), .lit (.int .u64 9223372039002292232)]

/-- 'cribblelaw12.StepOffsets': WHATEVER THE INPUT: true; the input reads as it did. -/
def stepOffsetsSpec : ChangeSpec := { name := "stepOffsets", fn := fun _ => fun
  | [d1, d2] => { results := [.lit (.bool true)], args := [d1, d2] }
  | _ => none }
def stepOffsetsRow : OpenClaim := { program := "ytpnikmkijedmbaadoor", sum := "f9d9bfbc55a9a2ac896cdf21a7178eb405f763c6b4eee58bd32533451b1d1788", func := "cribble/cribblelaw12.StepOffsets", spec := "stepOffsets", named := ["cribble/step.offsets", "cribble/step.constants"], apart := false, laid := [("cribble/step.offsets", laid_cribble_step_offsets), ("cribble/step.constants", laid_cribble_step_constants)] }
def StepOffsetsSaid : Prop := stepOffsetsRow.holds Tryd.pinned (OpenSpec.ofChange stepOffsetsSpec)

/-- ITS FALSE NEIGHBOUR: 'it returns false'. Refute it at one input. -/
def stepOffsetsWrong : ChangeSpec := { name := "stepOffsets", fn := fun _ => fun
  | [d1, d2] => { results := [.lit (.bool false)], args := [d1, d2] }
  | _ => none }
def StepOffsetsWrongFalsely : Prop := stepOffsetsRow.holds Tryd.pinned (OpenSpec.ofChange stepOffsetsWrong)

/-- 'cribblelaw12.StepMoves': WHATEVER THE INPUT: true; the input reads as it did. -/
def stepMovesSpec : ChangeSpec := { name := "stepMoves", fn := fun _ => fun
  | [d] => { results := [.lit (.bool true)], args := [d] }
  | _ => none }
def stepMovesRow : OpenClaim := { program := "ytpnikmkijedmbaadoor", sum := "f9d9bfbc55a9a2ac896cdf21a7178eb405f763c6b4eee58bd32533451b1d1788", func := "cribble/cribblelaw12.StepMoves", spec := "stepMoves", unfollowed := true, recurses := true, named := ["cribble/step.offsets", "cribble/step.constants"], apart := false, laid := [("cribble/step.offsets", laid_cribble_step_offsets), ("cribble/step.constants", laid_cribble_step_constants)] }
def StepMovesSaid : Prop := stepMovesRow.holds Tryd.pinned (OpenSpec.ofChange stepMovesSpec)

/-- ITS FALSE NEIGHBOUR: 'it returns false'. Refute it at one input. -/
def stepMovesWrong : ChangeSpec := { name := "stepMoves", fn := fun _ => fun
  | [d] => { results := [.lit (.bool false)], args := [d] }
  | _ => none }
def StepMovesWrongFalsely : Prop := stepMovesRow.holds Tryd.pinned (OpenSpec.ofChange stepMovesWrong)

/-- 'cribblelaw12.StepRows': WHATEVER THE INPUT: true; the input reads as it did. -/
def stepRowsSpec : ChangeSpec := { name := "stepRows", fn := fun _ => fun
  | [d1, d2, d3] => { results := [.lit (.bool true)], args := [d1, d2, d3] }
  | _ => none }
def stepRowsRow : OpenClaim := { program := "ytpnikmkijedmbaadoor", sum := "f9d9bfbc55a9a2ac896cdf21a7178eb405f763c6b4eee58bd32533451b1d1788", func := "cribble/cribblelaw12.StepRows", spec := "stepRows", unfollowed := true, recurses := true, named := ["cribble/step.offsets", "cribble/step.constants"], apart := false, laid := [("cribble/step.offsets", laid_cribble_step_offsets), ("cribble/step.constants", laid_cribble_step_constants)] }
def StepRowsSaid : Prop := stepRowsRow.holds Tryd.pinned (OpenSpec.ofChange stepRowsSpec)

/-- ITS FALSE NEIGHBOUR: 'it returns false'. Refute it at one input. -/
def stepRowsWrong : ChangeSpec := { name := "stepRows", fn := fun _ => fun
  | [d1, d2, d3] => { results := [.lit (.bool false)], args := [d1, d2, d3] }
  | _ => none }
def StepRowsWrongFalsely : Prop := stepRowsRow.holds Tryd.pinned (OpenSpec.ofChange stepRowsWrong)

/-- 'cribblelaw12.StepChi': WHATEVER THE INPUT: true; the input reads as it did. -/
def stepChiSpec : ChangeSpec := { name := "stepChi", fn := fun _ => fun
  | [d1, d2] => { results := [.lit (.bool true)], args := [d1, d2] }
  | _ => none }
def stepChiRow : OpenClaim := { program := "ytpnikmkijedmbaadoor", sum := "f9d9bfbc55a9a2ac896cdf21a7178eb405f763c6b4eee58bd32533451b1d1788", func := "cribble/cribblelaw12.StepChi", spec := "stepChi", unfollowed := true, recurses := true, named := ["cribble/step.offsets", "cribble/step.constants"], apart := false, laid := [("cribble/step.offsets", laid_cribble_step_offsets), ("cribble/step.constants", laid_cribble_step_constants)] }
def StepChiSaid : Prop := stepChiRow.holds Tryd.pinned (OpenSpec.ofChange stepChiSpec)

/-- ITS FALSE NEIGHBOUR: 'it returns false'. Refute it at one input. -/
def stepChiWrong : ChangeSpec := { name := "stepChi", fn := fun _ => fun
  | [d1, d2] => { results := [.lit (.bool false)], args := [d1, d2] }
  | _ => none }
def StepChiWrongFalsely : Prop := stepChiRow.holds Tryd.pinned (OpenSpec.ofChange stepChiWrong)

/-- 'cribblelaw12.StepLinear': WHATEVER THE INPUT: true; the input reads as it did. -/
def stepLinearSpec : ChangeSpec := { name := "stepLinear", fn := fun _ => fun
  | [d1, d2] => { results := [.lit (.bool true)], args := [d1, d2] }
  | _ => none }
def stepLinearRow : OpenClaim := { program := "ytpnikmkijedmbaadoor", sum := "f9d9bfbc55a9a2ac896cdf21a7178eb405f763c6b4eee58bd32533451b1d1788", func := "cribble/cribblelaw12.StepLinear", spec := "stepLinear", unfollowed := true, recurses := true, named := ["cribble/step.offsets", "cribble/step.constants"], apart := false, laid := [("cribble/step.offsets", laid_cribble_step_offsets), ("cribble/step.constants", laid_cribble_step_constants)] }
def StepLinearSaid : Prop := stepLinearRow.holds Tryd.pinned (OpenSpec.ofChange stepLinearSpec)

/-- ITS FALSE NEIGHBOUR: 'it returns false'. Refute it at one input. -/
def stepLinearWrong : ChangeSpec := { name := "stepLinear", fn := fun _ => fun
  | [d1, d2] => { results := [.lit (.bool false)], args := [d1, d2] }
  | _ => none }
def StepLinearWrongFalsely : Prop := stepLinearRow.holds Tryd.pinned (OpenSpec.ofChange stepLinearWrong)

/-- 'cribblelaw13.PermRounds': WHATEVER THE INPUT: true; the input reads as it did. -/
def permRoundsSpec : ChangeSpec := { name := "permRounds", fn := fun _ => fun
  | [d1, d2] => { results := [.lit (.bool true)], args := [d1, d2] }
  | _ => none }
def permRoundsRow : OpenClaim := { program := "ytpnikmkijedmbaadoor", sum := "f9d9bfbc55a9a2ac896cdf21a7178eb405f763c6b4eee58bd32533451b1d1788", func := "cribble/cribblelaw13.PermRounds", spec := "permRounds", named := ["cribble/step.offsets", "cribble/step.constants"], apart := false, laid := [("cribble/step.offsets", laid_cribble_step_offsets), ("cribble/step.constants", laid_cribble_step_constants)] }
def PermRoundsSaid : Prop := permRoundsRow.holds Tryd.pinned (OpenSpec.ofChange permRoundsSpec)

/-- ITS FALSE NEIGHBOUR: 'it returns false'. Refute it at one input. -/
def permRoundsWrong : ChangeSpec := { name := "permRounds", fn := fun _ => fun
  | [d1, d2] => { results := [.lit (.bool false)], args := [d1, d2] }
  | _ => none }
def PermRoundsWrongFalsely : Prop := permRoundsRow.holds Tryd.pinned (OpenSpec.ofChange permRoundsWrong)

/-- 'cribblelaw13.PermF': WHATEVER THE INPUT: true; the input reads as it did. -/
def permFSpec : ChangeSpec := { name := "permF", fn := fun _ => fun
  | [d1, d2] => { results := [.lit (.bool true)], args := [d1, d2] }
  | _ => none }
def permFRow : OpenClaim := { program := "ytpnikmkijedmbaadoor", sum := "f9d9bfbc55a9a2ac896cdf21a7178eb405f763c6b4eee58bd32533451b1d1788", func := "cribble/cribblelaw13.PermF", spec := "permF", named := ["cribble/step.offsets", "cribble/step.constants"], apart := false, laid := [("cribble/step.offsets", laid_cribble_step_offsets), ("cribble/step.constants", laid_cribble_step_constants)] }
def PermFSaid : Prop := permFRow.holds Tryd.pinned (OpenSpec.ofChange permFSpec)

/-- ITS FALSE NEIGHBOUR: 'it returns false'. Refute it at one input. -/
def permFWrong : ChangeSpec := { name := "permF", fn := fun _ => fun
  | [d1, d2] => { results := [.lit (.bool false)], args := [d1, d2] }
  | _ => none }
def PermFWrongFalsely : Prop := permFRow.holds Tryd.pinned (OpenSpec.ofChange permFWrong)

/-- 'cribblelaw13.PermPart': WHATEVER THE INPUT: true; the input reads as it did. -/
def permPartSpec : ChangeSpec := { name := "permPart", fn := fun _ => fun
  | [d1, d2, d3] => { results := [.lit (.bool true)], args := [d1, d2, d3] }
  | _ => none }
def permPartRow : OpenClaim := { program := "ytpnikmkijedmbaadoor", sum := "f9d9bfbc55a9a2ac896cdf21a7178eb405f763c6b4eee58bd32533451b1d1788", func := "cribble/cribblelaw13.PermPart", spec := "permPart", named := ["cribble/step.offsets", "cribble/step.constants"], apart := false, laid := [("cribble/step.offsets", laid_cribble_step_offsets), ("cribble/step.constants", laid_cribble_step_constants)] }
def PermPartSaid : Prop := permPartRow.holds Tryd.pinned (OpenSpec.ofChange permPartSpec)

/-- ITS FALSE NEIGHBOUR: 'it returns false'. Refute it at one input. -/
def permPartWrong : ChangeSpec := { name := "permPart", fn := fun _ => fun
  | [d1, d2, d3] => { results := [.lit (.bool false)], args := [d1, d2, d3] }
  | _ => none }
def PermPartWrongFalsely : Prop := permPartRow.holds Tryd.pinned (OpenSpec.ofChange permPartWrong)

/-- 'cribblelaw13.PermApart': WHATEVER THE INPUT: true; the input reads as it did. -/
def permApartSpec : ChangeSpec := { name := "permApart", fn := fun _ => fun
  | [d1, d2, d3] => { results := [.lit (.bool true)], args := [d1, d2, d3] }
  | _ => none }
def permApartRow : OpenClaim := { program := "ytpnikmkijedmbaadoor", sum := "f9d9bfbc55a9a2ac896cdf21a7178eb405f763c6b4eee58bd32533451b1d1788", func := "cribble/cribblelaw13.PermApart", spec := "permApart", named := ["cribble/step.offsets", "cribble/step.constants"], apart := false, laid := [("cribble/step.offsets", laid_cribble_step_offsets), ("cribble/step.constants", laid_cribble_step_constants)] }
def PermApartSaid : Prop := permApartRow.holds Tryd.pinned (OpenSpec.ofChange permApartSpec)

/-- ITS FALSE NEIGHBOUR: 'it returns false'. Refute it at one input. -/
def permApartWrong : ChangeSpec := { name := "permApart", fn := fun _ => fun
  | [d1, d2, d3] => { results := [.lit (.bool false)], args := [d1, d2, d3] }
  | _ => none }
def PermApartWrongFalsely : Prop := permApartRow.holds Tryd.pinned (OpenSpec.ofChange permApartWrong)

/-- 'cribblelaw13.PermBack': WHATEVER THE INPUT: true; the input reads as it did. -/
def permBackSpec : ChangeSpec := { name := "permBack", fn := fun _ => fun
  | [d1, d2] => { results := [.lit (.bool true)], args := [d1, d2] }
  | _ => none }
def permBackRow : OpenClaim := { program := "ytpnikmkijedmbaadoor", sum := "f9d9bfbc55a9a2ac896cdf21a7178eb405f763c6b4eee58bd32533451b1d1788", func := "cribble/cribblelaw13.PermBack", spec := "permBack", named := ["cribble/step.offsets", "cribble/step.constants"], apart := false, laid := [("cribble/step.offsets", laid_cribble_step_offsets), ("cribble/step.constants", laid_cribble_step_constants)] }
def PermBackSaid : Prop := permBackRow.holds Tryd.pinned (OpenSpec.ofChange permBackSpec)

/-- ITS FALSE NEIGHBOUR: 'it returns false'. Refute it at one input. -/
def permBackWrong : ChangeSpec := { name := "permBack", fn := fun _ => fun
  | [d1, d2] => { results := [.lit (.bool false)], args := [d1, d2] }
  | _ => none }
def PermBackWrongFalsely : Prop := permBackRow.holds Tryd.pinned (OpenSpec.ofChange permBackWrong)

/- THE SECOND FORM. 'bulk': how many values and letters a reading holds, each counted each time it is reached (what is shared counts as often as it is met; a slice's spare places count too). A statement '..UptoSaid' is the law's where the arguments, and the package variables that the reading takes, are together of bulk at most 1048576: NARROWER than '..Said'. Prove '..Said' where nothing that the law and all that it calls make is longer than what came in: it says more and counts as full. Else prove '..UptoSaid'. A law counts once. -/
mutual
def uptoBulk {H : Type} : DataW H → Nat
  | .lit (.string bytes) => bytes.length + 1
  | .lit _ => 1
  | .nil => 1
  | .ptr d => uptoBulk d + 1
  | .slice elems spare => uptoBulkAll elems + uptoBulkAll spare + 1
  | .agg parts => uptoBulkAll parts + 1
  | .iface _ d => uptoBulk d + 1
  | .map entries => uptoBulkEntries entries + 1
  | .held _ => 1
def uptoBulkAll {H : Type} : List (DataW H) → Nat
  | [] => 0
  | d :: r => uptoBulk d + uptoBulkAll r
def uptoBulkEntries {H : Type} : List (Lit × DataW H) → Nat
  | [] => 0
  | x :: r => uptoBulkEntry x + uptoBulkEntries r
def uptoBulkEntry {H : Type} : Lit × DataW H → Nat
  | (.string bytes, d) => bytes.length + uptoBulk d + 1
  | (_, d) => uptoBulk d + 1
 end
def uptoSmall : (H : Type) → List (DataW H) → Bool := fun _ ds => decide (uptoBulkAll ds ≤ 1048576)
def OpenSpec.upto (s : _root_.Go.ChangeSpec) : _root_.Go.OpenSpec := { _root_.Go.OpenSpec.ofChange s with cond := some uptoSmall }

/-- 'cribblelaw12.StepOffsets', WHERE WHAT IT READS IS OF BULK AT MOST 1048576: true; the input reads as it did. -/
def stepOffsetsUptoRow : OpenClaim := { program := "ytpnikmkijedmbaadoor", sum := "f9d9bfbc55a9a2ac896cdf21a7178eb405f763c6b4eee58bd32533451b1d1788", func := "cribble/cribblelaw12.StepOffsets", spec := "stepOffsets", named := ["cribble/step.offsets", "cribble/step.constants"], apart := false, laid := [("cribble/step.offsets", laid_cribble_step_offsets), ("cribble/step.constants", laid_cribble_step_constants)], narrowed := true }
def StepOffsetsUptoSaid : Prop := stepOffsetsUptoRow.holds Tryd.pinned (OpenSpec.upto stepOffsetsSpec)

/-- 'cribblelaw12.StepMoves', WHERE WHAT IT READS IS OF BULK AT MOST 1048576: true; the input reads as it did. -/
def stepMovesUptoRow : OpenClaim := { program := "ytpnikmkijedmbaadoor", sum := "f9d9bfbc55a9a2ac896cdf21a7178eb405f763c6b4eee58bd32533451b1d1788", func := "cribble/cribblelaw12.StepMoves", spec := "stepMoves", unfollowed := true, recurses := true, named := ["cribble/step.offsets", "cribble/step.constants"], apart := false, laid := [("cribble/step.offsets", laid_cribble_step_offsets), ("cribble/step.constants", laid_cribble_step_constants)], narrowed := true }
def StepMovesUptoSaid : Prop := stepMovesUptoRow.holds Tryd.pinned (OpenSpec.upto stepMovesSpec)

/-- 'cribblelaw12.StepRows', WHERE WHAT IT READS IS OF BULK AT MOST 1048576: true; the input reads as it did. -/
def stepRowsUptoRow : OpenClaim := { program := "ytpnikmkijedmbaadoor", sum := "f9d9bfbc55a9a2ac896cdf21a7178eb405f763c6b4eee58bd32533451b1d1788", func := "cribble/cribblelaw12.StepRows", spec := "stepRows", unfollowed := true, recurses := true, named := ["cribble/step.offsets", "cribble/step.constants"], apart := false, laid := [("cribble/step.offsets", laid_cribble_step_offsets), ("cribble/step.constants", laid_cribble_step_constants)], narrowed := true }
def StepRowsUptoSaid : Prop := stepRowsUptoRow.holds Tryd.pinned (OpenSpec.upto stepRowsSpec)

/-- 'cribblelaw12.StepChi', WHERE WHAT IT READS IS OF BULK AT MOST 1048576: true; the input reads as it did. -/
def stepChiUptoRow : OpenClaim := { program := "ytpnikmkijedmbaadoor", sum := "f9d9bfbc55a9a2ac896cdf21a7178eb405f763c6b4eee58bd32533451b1d1788", func := "cribble/cribblelaw12.StepChi", spec := "stepChi", unfollowed := true, recurses := true, named := ["cribble/step.offsets", "cribble/step.constants"], apart := false, laid := [("cribble/step.offsets", laid_cribble_step_offsets), ("cribble/step.constants", laid_cribble_step_constants)], narrowed := true }
def StepChiUptoSaid : Prop := stepChiUptoRow.holds Tryd.pinned (OpenSpec.upto stepChiSpec)

/-- 'cribblelaw12.StepLinear', WHERE WHAT IT READS IS OF BULK AT MOST 1048576: true; the input reads as it did. -/
def stepLinearUptoRow : OpenClaim := { program := "ytpnikmkijedmbaadoor", sum := "f9d9bfbc55a9a2ac896cdf21a7178eb405f763c6b4eee58bd32533451b1d1788", func := "cribble/cribblelaw12.StepLinear", spec := "stepLinear", unfollowed := true, recurses := true, named := ["cribble/step.offsets", "cribble/step.constants"], apart := false, laid := [("cribble/step.offsets", laid_cribble_step_offsets), ("cribble/step.constants", laid_cribble_step_constants)], narrowed := true }
def StepLinearUptoSaid : Prop := stepLinearUptoRow.holds Tryd.pinned (OpenSpec.upto stepLinearSpec)

/-- 'cribblelaw13.PermRounds', WHERE WHAT IT READS IS OF BULK AT MOST 1048576: true; the input reads as it did. -/
def permRoundsUptoRow : OpenClaim := { program := "ytpnikmkijedmbaadoor", sum := "f9d9bfbc55a9a2ac896cdf21a7178eb405f763c6b4eee58bd32533451b1d1788", func := "cribble/cribblelaw13.PermRounds", spec := "permRounds", named := ["cribble/step.offsets", "cribble/step.constants"], apart := false, laid := [("cribble/step.offsets", laid_cribble_step_offsets), ("cribble/step.constants", laid_cribble_step_constants)], narrowed := true }
def PermRoundsUptoSaid : Prop := permRoundsUptoRow.holds Tryd.pinned (OpenSpec.upto permRoundsSpec)

/-- 'cribblelaw13.PermF', WHERE WHAT IT READS IS OF BULK AT MOST 1048576: true; the input reads as it did. -/
def permFUptoRow : OpenClaim := { program := "ytpnikmkijedmbaadoor", sum := "f9d9bfbc55a9a2ac896cdf21a7178eb405f763c6b4eee58bd32533451b1d1788", func := "cribble/cribblelaw13.PermF", spec := "permF", named := ["cribble/step.offsets", "cribble/step.constants"], apart := false, laid := [("cribble/step.offsets", laid_cribble_step_offsets), ("cribble/step.constants", laid_cribble_step_constants)], narrowed := true }
def PermFUptoSaid : Prop := permFUptoRow.holds Tryd.pinned (OpenSpec.upto permFSpec)

/-- 'cribblelaw13.PermPart', WHERE WHAT IT READS IS OF BULK AT MOST 1048576: true; the input reads as it did. -/
def permPartUptoRow : OpenClaim := { program := "ytpnikmkijedmbaadoor", sum := "f9d9bfbc55a9a2ac896cdf21a7178eb405f763c6b4eee58bd32533451b1d1788", func := "cribble/cribblelaw13.PermPart", spec := "permPart", named := ["cribble/step.offsets", "cribble/step.constants"], apart := false, laid := [("cribble/step.offsets", laid_cribble_step_offsets), ("cribble/step.constants", laid_cribble_step_constants)], narrowed := true }
def PermPartUptoSaid : Prop := permPartUptoRow.holds Tryd.pinned (OpenSpec.upto permPartSpec)

/-- 'cribblelaw13.PermApart', WHERE WHAT IT READS IS OF BULK AT MOST 1048576: true; the input reads as it did. -/
def permApartUptoRow : OpenClaim := { program := "ytpnikmkijedmbaadoor", sum := "f9d9bfbc55a9a2ac896cdf21a7178eb405f763c6b4eee58bd32533451b1d1788", func := "cribble/cribblelaw13.PermApart", spec := "permApart", named := ["cribble/step.offsets", "cribble/step.constants"], apart := false, laid := [("cribble/step.offsets", laid_cribble_step_offsets), ("cribble/step.constants", laid_cribble_step_constants)], narrowed := true }
def PermApartUptoSaid : Prop := permApartUptoRow.holds Tryd.pinned (OpenSpec.upto permApartSpec)

/-- 'cribblelaw13.PermBack', WHERE WHAT IT READS IS OF BULK AT MOST 1048576: true; the input reads as it did. -/
def permBackUptoRow : OpenClaim := { program := "ytpnikmkijedmbaadoor", sum := "f9d9bfbc55a9a2ac896cdf21a7178eb405f763c6b4eee58bd32533451b1d1788", func := "cribble/cribblelaw13.PermBack", spec := "permBack", named := ["cribble/step.offsets", "cribble/step.constants"], apart := false, laid := [("cribble/step.offsets", laid_cribble_step_offsets), ("cribble/step.constants", laid_cribble_step_constants)], narrowed := true }
def PermBackUptoSaid : Prop := permBackUptoRow.holds Tryd.pinned (OpenSpec.upto permBackSpec)

end Rows
end Go.Proofs.YtpnikmkijedmbaaDoor

/-
  NARROWER THAN 'FOR EVERY INPUT', by the rows' own cells (each row's printed sentence says how): SnapSizes: laid · SpongeNew: laid · SpongePieces: laid · SpongeActs: laid · SpongeResumes: laid · SnapSponges: laid · SnapBlocks: laid · SnapFlags: laid · SnapApart: laid.
  DERIVED. THE GIVEN ROWS OF THIS SEAT. 9 by the template 'for every input the law returns true; each argument reads behind the call as it read before'; 0 by the template 'total and deterministic' (their statements: YtnghpimihklmdaaDoorTotals.lean).
  GIVEN WITH THE SEED: the statements are not yours to turn. If you find one false, say at which input.
  Laid BY PROGRAM, IN A SANDBOX (cutbox-rows.mjs): the forced cells as the released guide's own fill.sh prints them over the translation 49817d7f7d92b227… (all of the seat's roots in one cut). By AI agents, Wed Nov 11 2026. No macro, syntax, notation, axiom, sorry.
-/
import Derived.Test.YtnghpimihklmdaaDoorChecked
import GoSem.PinnedTables
import GoSem.Claim
import GoSem.ClaimJoined
import GoSem.ClaimMapViews
import Derived.JoinedTies
import Derived.KernelRfl
namespace Go.Proofs.YtnghpimihklmdaaDoor
/- THE CELL 'sum', in the pinned program and in every row, IS THE sha256 OF THE DUMP (.gsa) THAT YtnghpimihklmdaaDoorProg.lean LOADS. Nothing in Lean hashes anything: it is a label: what it is worth is what the hold of that sum in a sandbox is worth. -/
noncomputable def Tryd.pinned : Pinned := { name := "ytnghpimihklmdaadoor", sum := "49817d7f7d92b227e4c0634da297fbafa5f28414c895dac5f3c110f18c4a9b95", checked := Tryd.checked }
namespace Rows
def none {H : Type} : Left H := { results := [], args := [] }

/- WHAT THE LISTED PACKAGE-LEVEL VARIABLES READ AS WHEN THE CALL BEGINS. Each datum BY PROGRAM (the guide's laid-datum.mjs) off the statement by which the dump's own 'gosem.cut.vars' lays the variable. In a bare row this is a premise. The card (YtnghpimihklmdaaDoorCards.lean) ties it to the program's text. -/
def laid_unicode_utf8_acceptRanges {H : Type} : DataW H := .agg [.agg [.lit (.int .u8 128), .lit (.int .u8 191)], .agg [.lit (.int .u8 160), .lit (.int .u8 191)], .agg [.lit (.int .u8 128), .lit (.int .u8 159)], .agg [.lit (.int .u8 144), .lit (.int .u8 191)], .agg [.lit (.int .u8 128), .lit (.int .u8 143)], .agg [.lit (.int .u8 0), .lit (.int .u8 0)], .agg [.lit (.int .u8 0), .lit (.int .u8 0)], .agg [.lit (.int .u8 0), .lit (.int .u8 0)], .agg [.lit (.int .u8 0), .lit (.int .u8 0)], .agg [.lit (.int .u8 0), .lit (.int .u8 0)], .agg [.lit (.int .u8 0), .lit (.int .u8 0)], .agg [.lit (.int .u8 0), .lit (.int .u8 0)], .agg [.lit (.int .u8 0), .lit (.int .u8 0)], .agg [.lit (.int .u8 0), .lit (.int .u8 0)], .agg [.lit (.int .u8 0), .lit (.int .u8 0)], .agg [.lit (.int .u8 0), .lit (.int .u8 0)]]
def laid_cribble_alg_entries {H : Type} : DataW H := .agg [.agg [.lit (.string []), .lit (.int .i64 0), .lit (.int .i64 0), .lit (.int .i64 0)], .agg [.lit (.string [115, 104, 97, 50, 50, 52]), .lit (.int .i64 1), .lit (.int .i64 28), .lit (.int .i64 64)], .agg [.lit (.string [115, 104, 97, 50, 53, 54]), .lit (.int .i64 1), .lit (.int .i64 32), .lit (.int .i64 64)], .agg [.lit (.string [115, 104, 97, 51, 56, 52]), .lit (.int .i64 1), .lit (.int .i64 48), .lit (.int .i64 128)], .agg [.lit (.string [115, 104, 97, 53, 49, 50]), .lit (.int .i64 1), .lit (.int .i64 64), .lit (.int .i64 128)], .agg [.lit (.string [115, 104, 97, 53, 49, 50, 45, 50, 50, 52]), .lit (.int .i64 1), .lit (.int .i64 28), .lit (.int .i64 128)], .agg [.lit (.string [115, 104, 97, 53, 49, 50, 45, 50, 53, 54]), .lit (.int .i64 1), .lit (.int .i64 32), .lit (.int .i64 128)], .agg [.lit (.string [115, 104, 97, 51, 45, 50, 50, 52]), .lit (.int .i64 2), .lit (.int .i64 28), .lit (.int .i64 144)], .agg [.lit (.string [115, 104, 97, 51, 45, 50, 53, 54]), .lit (.int .i64 2), .lit (.int .i64 32), .lit (.int .i64 136)], .agg [.lit (.string [115, 104, 97, 51, 45, 51, 56, 52]), .lit (.int .i64 2), .lit (.int .i64 48), .lit (.int .i64 104)], .agg [.lit (.string [115, 104, 97, 51, 45, 53, 49, 50]), .lit (.int .i64 2), .lit (.int .i64 64), .lit (.int .i64 72)], .agg [.lit (.string [115, 104, 97, 107, 101, 49, 50, 56]), .lit (.int .i64 3), .lit (.int .i64 32), .lit (.int .i64 168)], .agg [.lit (.string [115, 104, 97, 107, 101, 50, 53, 54]), .lit (.int .i64 3), .lit (.int .i64 64), .lit (.int .i64 136)], .agg [.lit (.string [99, 115, 104, 97, 107, 101, 49, 50, 56]), .lit (.int .i64 4), .lit (.int .i64 32), .lit (.int .i64 168)], .agg [.lit (.string [99, 115, 104, 97, 107, 101, 50, 53, 54]), .lit (.int .i64 4), .lit (.int .i64 64), .lit (.int .i64 136)]]
/-- One of Go's own tables, pinned by name: the form's constant. -/
def laid_unicode_utf8_first : DataW Unit := Go.Pinned.utf8First
def laid_cribble_step_offsets {H : Type} : DataW H := .agg [.lit (.int .i64 0), .lit (.int .i64 1), .lit (.int .i64 62), .lit (.int .i64 28), .lit (.int .i64 27), .lit (.int .i64 36), .lit (.int .i64 44), .lit (.int .i64 6), .lit (.int .i64 55), .lit (.int .i64 20), .lit (.int .i64 3), .lit (.int .i64 10), .lit (.int .i64 43), .lit (.int .i64 25), .lit (.int .i64 39), .lit (.int .i64 41), .lit (.int .i64 45), .lit (.int .i64 15), .lit (.int .i64 21), .lit (.int .i64 8), .lit (.int .i64 18), .lit (.int .i64 2), .lit (.int .i64 61), .lit (.int .i64 56), .lit (.int .i64 14)]
def laid_cribble_step_constants {H : Type} : DataW H := .agg [.lit (.int .u64 1), .lit (.int .u64 32898), .lit (.int .u64 9223372036854808714), .lit (.int .u64 9223372039002292224), .lit (.int .u64 32907), .lit (.int .u64 2147483649), .lit (.int .u64 9223372039002292353), .lit (.int .u64 9223372036854808585), .lit (.int .u64 138), .lit (.int .u64 136), .lit (.int .u64 2147516425), .lit (.int .u64 2147483658), .lit (.int .u64 2147516555), .lit (.int .u64 9223372036854775947), .lit (.int .u64 9223372036854808713), .lit (.int .u64 9223372036854808579), .lit (.int .u64 9223372036854808578), .lit (.int .u64 9223372036854775936), .lit (.int .u64 32778), .lit (.int .u64 9223372039002259466), .lit (.int .u64 9223372039002292353), .lit (.int .u64 9223372036854808704), .lit (.int .u64 2147483649), .lit (.int .u64 9223372039002292232)]
def laid_bytes_ErrTooLarge {H : Type} : DataW H := .iface "*errors.errorString" (.ptr (.agg [.lit (.string [98, 121, 116, 101, 115, 46, 66, 117, 102, 102, 101, 114, 58, 32, 116, 111, 111, 32, 108, 97, 114, 103, 101])]))

/-- 'cribblelaw20.SnapSizes': WHATEVER THE INPUT: true; the input reads as it did. -/
def snapSizesSpec : ChangeSpec := { name := "snapSizes", fn := fun _ => fun
  | [d1, d2] => { results := [.lit (.bool true)], args := [d1, d2] }
  | _ => none }
def snapSizesRow : OpenClaim := { program := "ytnghpimihklmdaadoor", sum := "49817d7f7d92b227e4c0634da297fbafa5f28414c895dac5f3c110f18c4a9b95", func := "cribble/cribblelaw20.SnapSizes", spec := "snapSizes", unfollowed := true, recurses := true, named := ["cribble/alg.entries", "unicode/utf8.first", "unicode/utf8.acceptRanges"], leaving := true, apart := false, laid := [("unicode/utf8.acceptRanges", laid_unicode_utf8_acceptRanges), ("cribble/alg.entries", laid_cribble_alg_entries), ("unicode/utf8.first", laid_unicode_utf8_first)] }
def SnapSizesSaid : Prop := snapSizesRow.holds Tryd.pinned (OpenSpec.ofChange snapSizesSpec)

/-- ITS FALSE NEIGHBOUR: 'it returns false'. Refute it at one input. -/
def snapSizesWrong : ChangeSpec := { name := "snapSizes", fn := fun _ => fun
  | [d1, d2] => { results := [.lit (.bool false)], args := [d1, d2] }
  | _ => none }
def SnapSizesWrongFalsely : Prop := snapSizesRow.holds Tryd.pinned (OpenSpec.ofChange snapSizesWrong)

/-- 'cribblelaw15.SpongeNew': WHATEVER THE INPUT: true; the input reads as it did. -/
def spongeNewSpec : ChangeSpec := { name := "spongeNew", fn := fun _ => fun
  | [d1, d2] => { results := [.lit (.bool true)], args := [d1, d2] }
  | _ => none }
def spongeNewRow : OpenClaim := { program := "ytnghpimihklmdaadoor", sum := "49817d7f7d92b227e4c0634da297fbafa5f28414c895dac5f3c110f18c4a9b95", func := "cribble/cribblelaw15.SpongeNew", spec := "spongeNew", unfollowed := true, recurses := true, named := ["cribble/step.offsets", "cribble/step.constants"], leaving := true, apart := false, laid := [("cribble/step.offsets", laid_cribble_step_offsets), ("cribble/step.constants", laid_cribble_step_constants)] }
def SpongeNewSaid : Prop := spongeNewRow.holds Tryd.pinned (OpenSpec.ofChange spongeNewSpec)

/-- ITS FALSE NEIGHBOUR: 'it returns false'. Refute it at one input. -/
def spongeNewWrong : ChangeSpec := { name := "spongeNew", fn := fun _ => fun
  | [d1, d2] => { results := [.lit (.bool false)], args := [d1, d2] }
  | _ => none }
def SpongeNewWrongFalsely : Prop := spongeNewRow.holds Tryd.pinned (OpenSpec.ofChange spongeNewWrong)

/-- 'cribblelaw15.SpongePieces': WHATEVER THE INPUT: true; the input reads as it did. -/
def spongePiecesSpec : ChangeSpec := { name := "spongePieces", fn := fun _ => fun
  | [d1, d2, d3] => { results := [.lit (.bool true)], args := [d1, d2, d3] }
  | _ => none }
def spongePiecesRow : OpenClaim := { program := "ytnghpimihklmdaadoor", sum := "49817d7f7d92b227e4c0634da297fbafa5f28414c895dac5f3c110f18c4a9b95", func := "cribble/cribblelaw15.SpongePieces", spec := "spongePieces", unfollowed := true, recurses := true, named := ["cribble/step.offsets", "cribble/step.constants"], leaving := true, apart := false, laid := [("cribble/step.offsets", laid_cribble_step_offsets), ("cribble/step.constants", laid_cribble_step_constants)] }
def SpongePiecesSaid : Prop := spongePiecesRow.holds Tryd.pinned (OpenSpec.ofChange spongePiecesSpec)

/-- ITS FALSE NEIGHBOUR: 'it returns false'. Refute it at one input. -/
def spongePiecesWrong : ChangeSpec := { name := "spongePieces", fn := fun _ => fun
  | [d1, d2, d3] => { results := [.lit (.bool false)], args := [d1, d2, d3] }
  | _ => none }
def SpongePiecesWrongFalsely : Prop := spongePiecesRow.holds Tryd.pinned (OpenSpec.ofChange spongePiecesWrong)

/-- 'cribblelaw15.SpongeActs': WHATEVER THE INPUT: true; the input reads as it did. -/
def spongeActsSpec : ChangeSpec := { name := "spongeActs", fn := fun _ => fun
  | [d1, d2] => { results := [.lit (.bool true)], args := [d1, d2] }
  | _ => none }
def spongeActsRow : OpenClaim := { program := "ytnghpimihklmdaadoor", sum := "49817d7f7d92b227e4c0634da297fbafa5f28414c895dac5f3c110f18c4a9b95", func := "cribble/cribblelaw15.SpongeActs", spec := "spongeActs", unfollowed := true, recurses := true, named := ["cribble/step.offsets", "cribble/step.constants"], leaving := true, apart := false, laid := [("cribble/step.offsets", laid_cribble_step_offsets), ("cribble/step.constants", laid_cribble_step_constants)] }
def SpongeActsSaid : Prop := spongeActsRow.holds Tryd.pinned (OpenSpec.ofChange spongeActsSpec)

/-- ITS FALSE NEIGHBOUR: 'it returns false'. Refute it at one input. -/
def spongeActsWrong : ChangeSpec := { name := "spongeActs", fn := fun _ => fun
  | [d1, d2] => { results := [.lit (.bool false)], args := [d1, d2] }
  | _ => none }
def SpongeActsWrongFalsely : Prop := spongeActsRow.holds Tryd.pinned (OpenSpec.ofChange spongeActsWrong)

/-- 'cribblelaw15.SpongeResumes': WHATEVER THE INPUT: true; the input reads as it did. -/
def spongeResumesSpec : ChangeSpec := { name := "spongeResumes", fn := fun _ => fun
  | [d1, d2, d3] => { results := [.lit (.bool true)], args := [d1, d2, d3] }
  | _ => none }
def spongeResumesRow : OpenClaim := { program := "ytnghpimihklmdaadoor", sum := "49817d7f7d92b227e4c0634da297fbafa5f28414c895dac5f3c110f18c4a9b95", func := "cribble/cribblelaw15.SpongeResumes", spec := "spongeResumes", unfollowed := true, recurses := true, named := ["cribble/step.offsets", "cribble/step.constants"], leaving := true, apart := false, laid := [("cribble/step.offsets", laid_cribble_step_offsets), ("cribble/step.constants", laid_cribble_step_constants)] }
def SpongeResumesSaid : Prop := spongeResumesRow.holds Tryd.pinned (OpenSpec.ofChange spongeResumesSpec)

/-- ITS FALSE NEIGHBOUR: 'it returns false'. Refute it at one input. -/
def spongeResumesWrong : ChangeSpec := { name := "spongeResumes", fn := fun _ => fun
  | [d1, d2, d3] => { results := [.lit (.bool false)], args := [d1, d2, d3] }
  | _ => none }
def SpongeResumesWrongFalsely : Prop := spongeResumesRow.holds Tryd.pinned (OpenSpec.ofChange spongeResumesWrong)

/-- 'cribblelaw20.SnapSponges': WHATEVER THE INPUT: true; the input reads as it did. -/
def snapSpongesSpec : ChangeSpec := { name := "snapSponges", fn := fun _ => fun
  | [d] => { results := [.lit (.bool true)], args := [d] }
  | _ => none }
def snapSpongesRow : OpenClaim := { program := "ytnghpimihklmdaadoor", sum := "49817d7f7d92b227e4c0634da297fbafa5f28414c895dac5f3c110f18c4a9b95", func := "cribble/cribblelaw20.SnapSponges", spec := "snapSponges", unfollowed := true, recurses := true, named := ["cribble/alg.entries", "unicode/utf8.first", "unicode/utf8.acceptRanges", "bytes.ErrTooLarge"], leaving := true, apart := false, laid := [("unicode/utf8.acceptRanges", laid_unicode_utf8_acceptRanges), ("cribble/alg.entries", laid_cribble_alg_entries), ("bytes.ErrTooLarge", laid_bytes_ErrTooLarge), ("unicode/utf8.first", laid_unicode_utf8_first)] }
def SnapSpongesSaid : Prop := snapSpongesRow.holds Tryd.pinned (OpenSpec.ofChange snapSpongesSpec)

/-- ITS FALSE NEIGHBOUR: 'it returns false'. Refute it at one input. -/
def snapSpongesWrong : ChangeSpec := { name := "snapSponges", fn := fun _ => fun
  | [d] => { results := [.lit (.bool false)], args := [d] }
  | _ => none }
def SnapSpongesWrongFalsely : Prop := snapSpongesRow.holds Tryd.pinned (OpenSpec.ofChange snapSpongesWrong)

/-- 'cribblelaw20.SnapBlocks': WHATEVER THE INPUT: true; the input reads as it did. -/
def snapBlocksSpec : ChangeSpec := { name := "snapBlocks", fn := fun _ => fun
  | [d] => { results := [.lit (.bool true)], args := [d] }
  | _ => none }
def snapBlocksRow : OpenClaim := { program := "ytnghpimihklmdaadoor", sum := "49817d7f7d92b227e4c0634da297fbafa5f28414c895dac5f3c110f18c4a9b95", func := "cribble/cribblelaw20.SnapBlocks", spec := "snapBlocks", unfollowed := true, recurses := true, named := ["cribble/alg.entries", "unicode/utf8.first", "unicode/utf8.acceptRanges", "math/bits.divideError", "math/bits.overflowError", "bytes.ErrTooLarge"], leaving := true, apart := false, laid := [("unicode/utf8.acceptRanges", laid_unicode_utf8_acceptRanges), ("cribble/alg.entries", laid_cribble_alg_entries), ("bytes.ErrTooLarge", laid_bytes_ErrTooLarge), ("unicode/utf8.first", laid_unicode_utf8_first)] }
def SnapBlocksSaid : Prop := snapBlocksRow.holds Tryd.pinned (OpenSpec.ofChange snapBlocksSpec)

/-- ITS FALSE NEIGHBOUR: 'it returns false'. Refute it at one input. -/
def snapBlocksWrong : ChangeSpec := { name := "snapBlocks", fn := fun _ => fun
  | [d] => { results := [.lit (.bool false)], args := [d] }
  | _ => none }
def SnapBlocksWrongFalsely : Prop := snapBlocksRow.holds Tryd.pinned (OpenSpec.ofChange snapBlocksWrong)

/-- 'cribblelaw20.SnapFlags': WHATEVER THE INPUT: true; the input reads as it did. -/
def snapFlagsSpec : ChangeSpec := { name := "snapFlags", fn := fun _ => fun
  | [d] => { results := [.lit (.bool true)], args := [d] }
  | _ => none }
def snapFlagsRow : OpenClaim := { program := "ytnghpimihklmdaadoor", sum := "49817d7f7d92b227e4c0634da297fbafa5f28414c895dac5f3c110f18c4a9b95", func := "cribble/cribblelaw20.SnapFlags", spec := "snapFlags", unfollowed := true, recurses := true, named := ["cribble/alg.entries", "unicode/utf8.first", "unicode/utf8.acceptRanges", "math/bits.divideError", "math/bits.overflowError", "bytes.ErrTooLarge"], leaving := true, apart := false, laid := [("unicode/utf8.acceptRanges", laid_unicode_utf8_acceptRanges), ("cribble/alg.entries", laid_cribble_alg_entries), ("bytes.ErrTooLarge", laid_bytes_ErrTooLarge), ("unicode/utf8.first", laid_unicode_utf8_first)] }
def SnapFlagsSaid : Prop := snapFlagsRow.holds Tryd.pinned (OpenSpec.ofChange snapFlagsSpec)

/-- ITS FALSE NEIGHBOUR: 'it returns false'. Refute it at one input. -/
def snapFlagsWrong : ChangeSpec := { name := "snapFlags", fn := fun _ => fun
  | [d] => { results := [.lit (.bool false)], args := [d] }
  | _ => none }
def SnapFlagsWrongFalsely : Prop := snapFlagsRow.holds Tryd.pinned (OpenSpec.ofChange snapFlagsWrong)

/-- 'cribblelaw20.SnapApart': WHATEVER THE INPUT: true; the input reads as it did. -/
def snapApartSpec : ChangeSpec := { name := "snapApart", fn := fun _ => fun
  | [d] => { results := [.lit (.bool true)], args := [d] }
  | _ => none }
def snapApartRow : OpenClaim := { program := "ytnghpimihklmdaadoor", sum := "49817d7f7d92b227e4c0634da297fbafa5f28414c895dac5f3c110f18c4a9b95", func := "cribble/cribblelaw20.SnapApart", spec := "snapApart", unfollowed := true, recurses := true, named := ["cribble/alg.entries", "unicode/utf8.first", "unicode/utf8.acceptRanges", "bytes.ErrTooLarge", "math/bits.divideError", "math/bits.overflowError"], leaving := true, apart := false, laid := [("unicode/utf8.acceptRanges", laid_unicode_utf8_acceptRanges), ("cribble/alg.entries", laid_cribble_alg_entries), ("bytes.ErrTooLarge", laid_bytes_ErrTooLarge), ("unicode/utf8.first", laid_unicode_utf8_first)] }
def SnapApartSaid : Prop := snapApartRow.holds Tryd.pinned (OpenSpec.ofChange snapApartSpec)

/-- ITS FALSE NEIGHBOUR: 'it returns false'. Refute it at one input. -/
def snapApartWrong : ChangeSpec := { name := "snapApart", fn := fun _ => fun
  | [d] => { results := [.lit (.bool false)], args := [d] }
  | _ => none }
def SnapApartWrongFalsely : Prop := snapApartRow.holds Tryd.pinned (OpenSpec.ofChange snapApartWrong)

/- THE SECOND FORM. 'bulk': how many values and letters a reading holds, each counted each time it is reached (what is shared counts as often as it is met; a slice's spare places count too). A statement '..UptoSaid' is the law's where the arguments, and the package variables that the reading takes, are together of bulk at most 1048576: NARROWER than '..Said'. Prove '..Said' where nothing that the law and all that it calls make is longer than what came in: it says more and counts as full. Else prove '..UptoSaid'. A law counts once. -/
mutual
def uptoBulk {H : Type} : DataW H → Nat
  | .lit (.string bytes) => bytes.length + 1
  | .lit _ => 1
  | .nil => 1
  | .ptr d => uptoBulk d + 1
  | .slice elems spare => uptoBulkAll elems + uptoBulkAll spare + 1
  | .agg parts => uptoBulkAll parts + 1
  | .iface _ d => uptoBulk d + 1
  | .map entries => uptoBulkEntries entries + 1
  | .held _ => 1
def uptoBulkAll {H : Type} : List (DataW H) → Nat
  | [] => 0
  | d :: r => uptoBulk d + uptoBulkAll r
def uptoBulkEntries {H : Type} : List (Lit × DataW H) → Nat
  | [] => 0
  | x :: r => uptoBulkEntry x + uptoBulkEntries r
def uptoBulkEntry {H : Type} : Lit × DataW H → Nat
  | (.string bytes, d) => bytes.length + uptoBulk d + 1
  | (_, d) => uptoBulk d + 1
 end
def uptoSmall : (H : Type) → List (DataW H) → Bool := fun _ ds => decide (uptoBulkAll ds ≤ 1048576)
def OpenSpec.upto (s : _root_.Go.ChangeSpec) : _root_.Go.OpenSpec := { _root_.Go.OpenSpec.ofChange s with cond := some uptoSmall }

/-- 'cribblelaw20.SnapSizes', WHERE WHAT IT READS IS OF BULK AT MOST 1048576: true; the input reads as it did. -/
def snapSizesUptoRow : OpenClaim := { program := "ytnghpimihklmdaadoor", sum := "49817d7f7d92b227e4c0634da297fbafa5f28414c895dac5f3c110f18c4a9b95", func := "cribble/cribblelaw20.SnapSizes", spec := "snapSizes", unfollowed := true, recurses := true, named := ["cribble/alg.entries", "unicode/utf8.first", "unicode/utf8.acceptRanges"], leaving := true, apart := false, laid := [("unicode/utf8.acceptRanges", laid_unicode_utf8_acceptRanges), ("cribble/alg.entries", laid_cribble_alg_entries), ("unicode/utf8.first", laid_unicode_utf8_first)], narrowed := true }
def SnapSizesUptoSaid : Prop := snapSizesUptoRow.holds Tryd.pinned (OpenSpec.upto snapSizesSpec)

/-- 'cribblelaw15.SpongeNew', WHERE WHAT IT READS IS OF BULK AT MOST 1048576: true; the input reads as it did. -/
def spongeNewUptoRow : OpenClaim := { program := "ytnghpimihklmdaadoor", sum := "49817d7f7d92b227e4c0634da297fbafa5f28414c895dac5f3c110f18c4a9b95", func := "cribble/cribblelaw15.SpongeNew", spec := "spongeNew", unfollowed := true, recurses := true, named := ["cribble/step.offsets", "cribble/step.constants"], leaving := true, apart := false, laid := [("cribble/step.offsets", laid_cribble_step_offsets), ("cribble/step.constants", laid_cribble_step_constants)], narrowed := true }
def SpongeNewUptoSaid : Prop := spongeNewUptoRow.holds Tryd.pinned (OpenSpec.upto spongeNewSpec)

/-- 'cribblelaw15.SpongePieces', WHERE WHAT IT READS IS OF BULK AT MOST 1048576: true; the input reads as it did. -/
def spongePiecesUptoRow : OpenClaim := { program := "ytnghpimihklmdaadoor", sum := "49817d7f7d92b227e4c0634da297fbafa5f28414c895dac5f3c110f18c4a9b95", func := "cribble/cribblelaw15.SpongePieces", spec := "spongePieces", unfollowed := true, recurses := true, named := ["cribble/step.offsets", "cribble/step.constants"], leaving := true, apart := false, laid := [("cribble/step.offsets", laid_cribble_step_offsets), ("cribble/step.constants", laid_cribble_step_constants)], narrowed := true }
def SpongePiecesUptoSaid : Prop := spongePiecesUptoRow.holds Tryd.pinned (OpenSpec.upto spongePiecesSpec)

/-- 'cribblelaw15.SpongeActs', WHERE WHAT IT READS IS OF BULK AT MOST 1048576: true; the input reads as it did. -/
def spongeActsUptoRow : OpenClaim := { program := "ytnghpimihklmdaadoor", sum := "49817d7f7d92b227e4c0634da297fbafa5f28414c895dac5f3c110f18c4a9b95", func := "cribble/cribblelaw15.SpongeActs", spec := "spongeActs", unfollowed := true, recurses := true, named := ["cribble/step.offsets", "cribble/step.constants"], leaving := true, apart := false, laid := [("cribble/step.offsets", laid_cribble_step_offsets), ("cribble/step.constants", laid_cribble_step_constants)], narrowed := true }
def SpongeActsUptoSaid : Prop := spongeActsUptoRow.holds Tryd.pinned (OpenSpec.upto spongeActsSpec)

/-- 'cribblelaw15.SpongeResumes', WHERE WHAT IT READS IS OF BULK AT MOST 1048576: true; the input reads as it did. -/
def spongeResumesUptoRow : OpenClaim := { program := "ytnghpimihklmdaadoor", sum := "49817d7f7d92b227e4c0634da297fbafa5f28414c895dac5f3c110f18c4a9b95", func := "cribble/cribblelaw15.SpongeResumes", spec := "spongeResumes", unfollowed := true, recurses := true, named := ["cribble/step.offsets", "cribble/step.constants"], leaving := true, apart := false, laid := [("cribble/step.offsets", laid_cribble_step_offsets), ("cribble/step.constants", laid_cribble_step_constants)], narrowed := true }
def SpongeResumesUptoSaid : Prop := spongeResumesUptoRow.holds Tryd.pinned (OpenSpec.upto spongeResumesSpec)

/-- 'cribblelaw20.SnapSponges', WHERE WHAT IT READS IS OF BULK AT MOST 1048576: true; the input reads as it did. -/
def snapSpongesUptoRow : OpenClaim := { program := "ytnghpimihklmdaadoor", sum := "49817d7f7d92b227e4c0634da297fbafa5f28414c895dac5f3c110f18c4a9b95", func := "cribble/cribblelaw20.SnapSponges", spec := "snapSponges", unfollowed := true, recurses := true, named := ["cribble/alg.entries", "unicode/utf8.first", "unicode/utf8.acceptRanges", "bytes.ErrTooLarge"], leaving := true, apart := false, laid := [("unicode/utf8.acceptRanges", laid_unicode_utf8_acceptRanges), ("cribble/alg.entries", laid_cribble_alg_entries), ("bytes.ErrTooLarge", laid_bytes_ErrTooLarge), ("unicode/utf8.first", laid_unicode_utf8_first)], narrowed := true }
def SnapSpongesUptoSaid : Prop := snapSpongesUptoRow.holds Tryd.pinned (OpenSpec.upto snapSpongesSpec)

/-- 'cribblelaw20.SnapBlocks', WHERE WHAT IT READS IS OF BULK AT MOST 1048576: true; the input reads as it did. -/
def snapBlocksUptoRow : OpenClaim := { program := "ytnghpimihklmdaadoor", sum := "49817d7f7d92b227e4c0634da297fbafa5f28414c895dac5f3c110f18c4a9b95", func := "cribble/cribblelaw20.SnapBlocks", spec := "snapBlocks", unfollowed := true, recurses := true, named := ["cribble/alg.entries", "unicode/utf8.first", "unicode/utf8.acceptRanges", "math/bits.divideError", "math/bits.overflowError", "bytes.ErrTooLarge"], leaving := true, apart := false, laid := [("unicode/utf8.acceptRanges", laid_unicode_utf8_acceptRanges), ("cribble/alg.entries", laid_cribble_alg_entries), ("bytes.ErrTooLarge", laid_bytes_ErrTooLarge), ("unicode/utf8.first", laid_unicode_utf8_first)], narrowed := true }
def SnapBlocksUptoSaid : Prop := snapBlocksUptoRow.holds Tryd.pinned (OpenSpec.upto snapBlocksSpec)

/-- 'cribblelaw20.SnapFlags', WHERE WHAT IT READS IS OF BULK AT MOST 1048576: true; the input reads as it did. -/
def snapFlagsUptoRow : OpenClaim := { program := "ytnghpimihklmdaadoor", sum := "49817d7f7d92b227e4c0634da297fbafa5f28414c895dac5f3c110f18c4a9b95", func := "cribble/cribblelaw20.SnapFlags", spec := "snapFlags", unfollowed := true, recurses := true, named := ["cribble/alg.entries", "unicode/utf8.first", "unicode/utf8.acceptRanges", "math/bits.divideError", "math/bits.overflowError", "bytes.ErrTooLarge"], leaving := true, apart := false, laid := [("unicode/utf8.acceptRanges", laid_unicode_utf8_acceptRanges), ("cribble/alg.entries", laid_cribble_alg_entries), ("bytes.ErrTooLarge", laid_bytes_ErrTooLarge), ("unicode/utf8.first", laid_unicode_utf8_first)], narrowed := true }
def SnapFlagsUptoSaid : Prop := snapFlagsUptoRow.holds Tryd.pinned (OpenSpec.upto snapFlagsSpec)

/-- 'cribblelaw20.SnapApart', WHERE WHAT IT READS IS OF BULK AT MOST 1048576: true; the input reads as it did. -/
def snapApartUptoRow : OpenClaim := { program := "ytnghpimihklmdaadoor", sum := "49817d7f7d92b227e4c0634da297fbafa5f28414c895dac5f3c110f18c4a9b95", func := "cribble/cribblelaw20.SnapApart", spec := "snapApart", unfollowed := true, recurses := true, named := ["cribble/alg.entries", "unicode/utf8.first", "unicode/utf8.acceptRanges", "bytes.ErrTooLarge", "math/bits.divideError", "math/bits.overflowError"], leaving := true, apart := false, laid := [("unicode/utf8.acceptRanges", laid_unicode_utf8_acceptRanges), ("cribble/alg.entries", laid_cribble_alg_entries), ("bytes.ErrTooLarge", laid_bytes_ErrTooLarge), ("unicode/utf8.first", laid_unicode_utf8_first)], narrowed := true }
def SnapApartUptoSaid : Prop := snapApartUptoRow.holds Tryd.pinned (OpenSpec.upto snapApartSpec)

end Rows
end Go.Proofs.YtnghpimihklmdaaDoor

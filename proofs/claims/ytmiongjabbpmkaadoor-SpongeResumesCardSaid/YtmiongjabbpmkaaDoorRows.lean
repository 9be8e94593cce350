/-
  NARROWER THAN 'FOR EVERY INPUT', by the rows' own cells (each row's printed sentence says how): SpongePieces: laid · SpongeActs: laid · SpongeResumes: laid · CustomSums: laid.
  DERIVED. THE GIVEN ROWS OF THIS SEAT. 4 by the template 'for every input the law returns true; each argument reads behind the call as it read before'; 0 by the template 'total and deterministic' (their statements: YtmiongjabbpmkaaDoorTotals.lean).
  GIVEN WITH THE SEED: the statements are not yours to turn. If you find one false, say at which input.
  Laid BY PROGRAM, IN A SANDBOX (cutbox-rows.mjs): the forced cells as the released guide's own fill.sh prints them over the translation 11cd47b3405ce530… (all of the seat's roots in one cut). By AI agents, Wed Nov 11 2026. No macro, syntax, notation, axiom, sorry.
-/
import Derived.Test.YtmiongjabbpmkaaDoorChecked
import GoSem.PinnedTables
import GoSem.Claim
import GoSem.ClaimJoined
import GoSem.ClaimMapViews
import Derived.JoinedTies
import Derived.KernelRfl
namespace Go.Proofs.YtmiongjabbpmkaaDoor
/- THE CELL 'sum', in the pinned program and in every row, IS THE sha256 OF THE DUMP (.gsa) THAT YtmiongjabbpmkaaDoorProg.lean LOADS. Nothing in Lean hashes anything: it is a label: what it is worth is what the hold of that sum in a sandbox is worth. -/
noncomputable def Tryd.pinned : Pinned := { name := "ytmiongjabbpmkaadoor", sum := "11cd47b3405ce530028c4394a9bbc94d37d7c77777d6f53e6dfb663fe8a70637", checked := Tryd.checked }
namespace Rows
def none {H : Type} : Left H := { results := [], args := [] }

/- WHAT THE LISTED PACKAGE-LEVEL VARIABLES READ AS WHEN THE CALL BEGINS. Each datum BY PROGRAM (the guide's laid-datum.mjs) off the statement by which the dump's own 'gosem.cut.vars' lays the variable. In a bare row this is a premise. The card (YtmiongjabbpmkaaDoorCards.lean) ties it to the program's text. -/
def laid_cribble_step_offsets {H : Type} : DataW H := .agg [.lit (.int .i64 0), .lit (.int .i64 1), .lit (.int .i64 62), .lit (.int .i64 28), .lit (.int .i64 27), .lit (.int .i64 36), .lit (.int .i64 44), .lit (.int .i64 6), .lit (.int .i64 55), .lit (.int .i64 20), .lit (.int .i64 3), .lit (.int .i64 10), .lit (.int .i64 43), .lit (.int .i64 25), .lit (.int .i64 39), .lit (.int .i64 41), .lit (.int .i64 45), .lit (.int .i64 15), .lit (.int .i64 21), .lit (.int .i64 8), .lit (.int .i64 18), .lit (.int .i64 2), .lit (.int .i64 61), .lit (.int .i64 56), .lit (.int .i64 14)]
def laid_cribble_step_constants {H : Type} : DataW H := .agg [.lit (.int .u64 1), .lit (.int .u64 32898), .lit (.int .u64 9223372036854808714), .lit (.int .u64 9223372039002292224), .lit (.int .u64 32907), .lit (.int .u64 2147483649), .lit (.int .u64 9223372039002292353), .lit (.int .u64 9223372036854808585), .lit (.int .u64 138), .lit (.int .u64 136), .lit (.int .u64 2147516425), .lit (.int .u64 2147483658), .lit (.int .u64 2147516555), .lit (.int .u64 9223372036854775947), .lit (.int .u64 9223372036854808713), .lit (.int .u64 9223372036854808579), .lit (.int .u64 9223372036854808578), .lit (.int .u64 9223372036854775936), .lit (.int .u64 32778), .lit (.int .u64 9223372039002259466), .lit (.int .u64 9223372039002292353), .lit (.int .u64 9223372036854808704), .lit (.int .u64 2147483649), .lit (.int .u64 9223372039002292232)]
def laid_unicode_utf8_acceptRanges {H : Type} : DataW H := .agg [.agg [.lit (.int .u8 128), .lit (.int .u8 191)], .agg [.lit (.int .u8 160), .lit (.int .u8 191)], .agg [.lit (.int .u8 128), .lit (.int .u8 159)], .agg [.lit (.int .u8 144), .lit (.int .u8 191)], .agg [.lit (.int .u8 128), .lit (.int .u8 143)], .agg [.lit (.int .u8 0), .lit (.int .u8 0)], .agg [.lit (.int .u8 0), .lit (.int .u8 0)], .agg [.lit (.int .u8 0), .lit (.int .u8 0)], .agg [.lit (.int .u8 0), .lit (.int .u8 0)], .agg [.lit (.int .u8 0), .lit (.int .u8 0)], .agg [.lit (.int .u8 0), .lit (.int .u8 0)], .agg [.lit (.int .u8 0), .lit (.int .u8 0)], .agg [.lit (.int .u8 0), .lit (.int .u8 0)], .agg [.lit (.int .u8 0), .lit (.int .u8 0)], .agg [.lit (.int .u8 0), .lit (.int .u8 0)], .agg [.lit (.int .u8 0), .lit (.int .u8 0)]]
def laid_cribble_custom_rates {H : Type} : DataW H := .agg [.agg [.lit (.int .i64 128), .lit (.int .i64 168)], .agg [.lit (.int .i64 256), .lit (.int .i64 136)]]
/-- One of Go's own tables, pinned by name: the form's constant. -/
def laid_unicode_utf8_first : DataW Unit := Go.Pinned.utf8First

/-- 'cribblelaw15.SpongePieces': WHATEVER THE INPUT: true; the input reads as it did. -/
def spongePiecesSpec : ChangeSpec := { name := "spongePieces", fn := fun _ => fun
  | [d1, d2, d3] => { results := [.lit (.bool true)], args := [d1, d2, d3] }
  | _ => none }
def spongePiecesRow : OpenClaim := { program := "ytmiongjabbpmkaadoor", sum := "11cd47b3405ce530028c4394a9bbc94d37d7c77777d6f53e6dfb663fe8a70637", func := "cribble/cribblelaw15.SpongePieces", spec := "spongePieces", unfollowed := true, recurses := true, named := ["cribble/step.offsets", "cribble/step.constants"], leaving := true, apart := false, laid := [("cribble/step.offsets", laid_cribble_step_offsets), ("cribble/step.constants", laid_cribble_step_constants)] }
def SpongePiecesSaid : Prop := spongePiecesRow.holds Tryd.pinned (OpenSpec.ofChange spongePiecesSpec)

/-- ITS FALSE NEIGHBOUR: 'it returns false'. Refute it at one input. -/
def spongePiecesWrong : ChangeSpec := { name := "spongePieces", fn := fun _ => fun
  | [d1, d2, d3] => { results := [.lit (.bool false)], args := [d1, d2, d3] }
  | _ => none }
def SpongePiecesWrongFalsely : Prop := spongePiecesRow.holds Tryd.pinned (OpenSpec.ofChange spongePiecesWrong)

/-- 'cribblelaw15.SpongeActs': WHATEVER THE INPUT: true; the input reads as it did. -/
def spongeActsSpec : ChangeSpec := { name := "spongeActs", fn := fun _ => fun
  | [d1, d2] => { results := [.lit (.bool true)], args := [d1, d2] }
  | _ => none }
def spongeActsRow : OpenClaim := { program := "ytmiongjabbpmkaadoor", sum := "11cd47b3405ce530028c4394a9bbc94d37d7c77777d6f53e6dfb663fe8a70637", func := "cribble/cribblelaw15.SpongeActs", spec := "spongeActs", unfollowed := true, recurses := true, named := ["cribble/step.offsets", "cribble/step.constants"], leaving := true, apart := false, laid := [("cribble/step.offsets", laid_cribble_step_offsets), ("cribble/step.constants", laid_cribble_step_constants)] }
def SpongeActsSaid : Prop := spongeActsRow.holds Tryd.pinned (OpenSpec.ofChange spongeActsSpec)

/-- ITS FALSE NEIGHBOUR: 'it returns false'. Refute it at one input. -/
def spongeActsWrong : ChangeSpec := { name := "spongeActs", fn := fun _ => fun
  | [d1, d2] => { results := [.lit (.bool false)], args := [d1, d2] }
  | _ => none }
def SpongeActsWrongFalsely : Prop := spongeActsRow.holds Tryd.pinned (OpenSpec.ofChange spongeActsWrong)

/-- 'cribblelaw15.SpongeResumes': WHATEVER THE INPUT: true; the input reads as it did. -/
def spongeResumesSpec : ChangeSpec := { name := "spongeResumes", fn := fun _ => fun
  | [d1, d2, d3] => { results := [.lit (.bool true)], args := [d1, d2, d3] }
  | _ => none }
def spongeResumesRow : OpenClaim := { program := "ytmiongjabbpmkaadoor", sum := "11cd47b3405ce530028c4394a9bbc94d37d7c77777d6f53e6dfb663fe8a70637", func := "cribble/cribblelaw15.SpongeResumes", spec := "spongeResumes", unfollowed := true, recurses := true, named := ["cribble/step.offsets", "cribble/step.constants"], leaving := true, apart := false, laid := [("cribble/step.offsets", laid_cribble_step_offsets), ("cribble/step.constants", laid_cribble_step_constants)] }
def SpongeResumesSaid : Prop := spongeResumesRow.holds Tryd.pinned (OpenSpec.ofChange spongeResumesSpec)

/-- ITS FALSE NEIGHBOUR: 'it returns false'. Refute it at one input. -/
def spongeResumesWrong : ChangeSpec := { name := "spongeResumes", fn := fun _ => fun
  | [d1, d2, d3] => { results := [.lit (.bool false)], args := [d1, d2, d3] }
  | _ => none }
def SpongeResumesWrongFalsely : Prop := spongeResumesRow.holds Tryd.pinned (OpenSpec.ofChange spongeResumesWrong)

/-- 'cribblelaw17.CustomSums': WHATEVER THE INPUT: true; the input reads as it did. -/
def customSumsSpec : ChangeSpec := { name := "customSums", fn := fun _ => fun
  | [d1, d2, d3] => { results := [.lit (.bool true)], args := [d1, d2, d3] }
  | _ => none }
def customSumsRow : OpenClaim := { program := "ytmiongjabbpmkaadoor", sum := "11cd47b3405ce530028c4394a9bbc94d37d7c77777d6f53e6dfb663fe8a70637", func := "cribble/cribblelaw17.CustomSums", spec := "customSums", unfollowed := true, recurses := true, named := ["cribble/custom.rates", "unicode/utf8.first", "unicode/utf8.acceptRanges", "cribble/step.offsets", "cribble/step.constants"], leaving := true, apart := false, laid := [("unicode/utf8.acceptRanges", laid_unicode_utf8_acceptRanges), ("cribble/step.offsets", laid_cribble_step_offsets), ("cribble/step.constants", laid_cribble_step_constants), ("cribble/custom.rates", laid_cribble_custom_rates), ("unicode/utf8.first", laid_unicode_utf8_first)] }
def CustomSumsSaid : Prop := customSumsRow.holds Tryd.pinned (OpenSpec.ofChange customSumsSpec)

/-- ITS FALSE NEIGHBOUR: 'it returns false'. Refute it at one input. -/
def customSumsWrong : ChangeSpec := { name := "customSums", fn := fun _ => fun
  | [d1, d2, d3] => { results := [.lit (.bool false)], args := [d1, d2, d3] }
  | _ => none }
def CustomSumsWrongFalsely : Prop := customSumsRow.holds Tryd.pinned (OpenSpec.ofChange customSumsWrong)

/- THE SECOND FORM. 'bulk': how many values and letters a reading holds, each counted each time it is reached (what is shared counts as often as it is met; a slice's spare places count too). A statement '..UptoSaid' is the law's where the arguments, and the package variables that the reading takes, are together of bulk at most 1048576: NARROWER than '..Said'. Prove '..Said' where nothing that the law and all that it calls make is longer than what came in: it says more and counts as full. Else prove '..UptoSaid'. A law counts once. -/
mutual
def uptoBulk {H : Type} : DataW H → Nat
  | .lit (.string bytes) => bytes.length + 1
  | .lit _ => 1
  | .nil => 1
  | .ptr d => uptoBulk d + 1
  | .slice elems spare => uptoBulkAll elems + uptoBulkAll spare + 1
  | .agg parts => uptoBulkAll parts + 1
  | .iface _ d => uptoBulk d + 1
  | .map entries => uptoBulkEntries entries + 1
  | .held _ => 1
def uptoBulkAll {H : Type} : List (DataW H) → Nat
  | [] => 0
  | d :: r => uptoBulk d + uptoBulkAll r
def uptoBulkEntries {H : Type} : List (Lit × DataW H) → Nat
  | [] => 0
  | x :: r => uptoBulkEntry x + uptoBulkEntries r
def uptoBulkEntry {H : Type} : Lit × DataW H → Nat
  | (.string bytes, d) => bytes.length + uptoBulk d + 1
  | (_, d) => uptoBulk d + 1
 end
def uptoSmall : (H : Type) → List (DataW H) → Bool := fun _ ds => decide (uptoBulkAll ds ≤ 1048576)
def OpenSpec.upto (s : _root_.Go.ChangeSpec) : _root_.Go.OpenSpec := { _root_.Go.OpenSpec.ofChange s with cond := some uptoSmall }

/-- 'cribblelaw15.SpongePieces', WHERE WHAT IT READS IS OF BULK AT MOST 1048576: true; the input reads as it did. -/
def spongePiecesUptoRow : OpenClaim := { program := "ytmiongjabbpmkaadoor", sum := "11cd47b3405ce530028c4394a9bbc94d37d7c77777d6f53e6dfb663fe8a70637", func := "cribble/cribblelaw15.SpongePieces", spec := "spongePieces", unfollowed := true, recurses := true, named := ["cribble/step.offsets", "cribble/step.constants"], leaving := true, apart := false, laid := [("cribble/step.offsets", laid_cribble_step_offsets), ("cribble/step.constants", laid_cribble_step_constants)], narrowed := true }
def SpongePiecesUptoSaid : Prop := spongePiecesUptoRow.holds Tryd.pinned (OpenSpec.upto spongePiecesSpec)

/-- 'cribblelaw15.SpongeActs', WHERE WHAT IT READS IS OF BULK AT MOST 1048576: true; the input reads as it did. -/
def spongeActsUptoRow : OpenClaim := { program := "ytmiongjabbpmkaadoor", sum := "11cd47b3405ce530028c4394a9bbc94d37d7c77777d6f53e6dfb663fe8a70637", func := "cribble/cribblelaw15.SpongeActs", spec := "spongeActs", unfollowed := true, recurses := true, named := ["cribble/step.offsets", "cribble/step.constants"], leaving := true, apart := false, laid := [("cribble/step.offsets", laid_cribble_step_offsets), ("cribble/step.constants", laid_cribble_step_constants)], narrowed := true }
def SpongeActsUptoSaid : Prop := spongeActsUptoRow.holds Tryd.pinned (OpenSpec.upto spongeActsSpec)

/-- 'cribblelaw15.SpongeResumes', WHERE WHAT IT READS IS OF BULK AT MOST 1048576: true; the input reads as it did. -/
def spongeResumesUptoRow : OpenClaim := { program := "ytmiongjabbpmkaadoor", sum := "11cd47b3405ce530028c4394a9bbc94d37d7c77777d6f53e6dfb663fe8a70637", func := "cribble/cribblelaw15.SpongeResumes", spec := "spongeResumes", unfollowed := true, recurses := true, named := ["cribble/step.offsets", "cribble/step.constants"], leaving := true, apart := false, laid := [("cribble/step.offsets", laid_cribble_step_offsets), ("cribble/step.constants", laid_cribble_step_constants)], narrowed := true }
def SpongeResumesUptoSaid : Prop := spongeResumesUptoRow.holds Tryd.pinned (OpenSpec.upto spongeResumesSpec)

/-- 'cribblelaw17.CustomSums', WHERE WHAT IT READS IS OF BULK AT MOST 1048576: true; the input reads as it did. -/
def customSumsUptoRow : OpenClaim := { program := "ytmiongjabbpmkaadoor", sum := "11cd47b3405ce530028c4394a9bbc94d37d7c77777d6f53e6dfb663fe8a70637", func := "cribble/cribblelaw17.CustomSums", spec := "customSums", unfollowed := true, recurses := true, named := ["cribble/custom.rates", "unicode/utf8.first", "unicode/utf8.acceptRanges", "cribble/step.offsets", "cribble/step.constants"], leaving := true, apart := false, laid := [("unicode/utf8.acceptRanges", laid_unicode_utf8_acceptRanges), ("cribble/step.offsets", laid_cribble_step_offsets), ("cribble/step.constants", laid_cribble_step_constants), ("cribble/custom.rates", laid_cribble_custom_rates), ("unicode/utf8.first", laid_unicode_utf8_first)], narrowed := true }
def CustomSumsUptoSaid : Prop := customSumsUptoRow.holds Tryd.pinned (OpenSpec.upto customSumsSpec)

end Rows
end Go.Proofs.YtmiongjabbpmkaaDoor

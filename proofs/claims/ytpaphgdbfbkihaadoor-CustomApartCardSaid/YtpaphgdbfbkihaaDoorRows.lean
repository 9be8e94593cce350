/-
  NARROWER THAN 'FOR EVERY INPUT', by the rows' own cells (each row's printed sentence says how): CodeApart: laid · CodeNumbers: laid · CustomLengths: laid · CodePads: laid · CodeGets: laid · CustomApart: laid · CustomPrefixes: laid · CodeTexts: laid · CustomSums: laid.
  DERIVED. THE GIVEN ROWS OF THIS SEAT. 9 by the template 'for every input the law returns true; each argument reads behind the call as it read before'; 0 by the template 'total and deterministic' (their statements: YtpaphgdbfbkihaaDoorTotals.lean).
  GIVEN WITH THE SEED: the statements are not yours to turn. If you find one false, say at which input.
  Laid BY PROGRAM, IN A SANDBOX (cutbox-rows.mjs): the forced cells as the released guide's own fill.sh prints them over the translation f09d5f232b15476b… (all of the seat's roots in one cut). By AI agents, Wed Nov 11 2026. No macro, syntax, notation, axiom, sorry.
-/
import Derived.Test.YtpaphgdbfbkihaaDoorChecked
import GoSem.PinnedTables
import GoSem.Claim
import GoSem.ClaimJoined
import GoSem.ClaimMapViews
import Derived.JoinedTies
import Derived.KernelRfl
namespace Go.Proofs.YtpaphgdbfbkihaaDoor
/- THE CELL 'sum', in the pinned program and in every row, IS THE sha256 OF THE DUMP (.gsa) THAT YtpaphgdbfbkihaaDoorProg.lean LOADS. Nothing in Lean hashes anything: it is a label: what it is worth is what the hold of that sum in a sandbox is worth. -/
noncomputable def Tryd.pinned : Pinned := { name := "ytpaphgdbfbkihaadoor", sum := "f09d5f232b15476baa43b8356c801593f115f3b9f6452a79a075c025bf0e3023", checked := Tryd.checked }
namespace Rows
def none {H : Type} : Left H := { results := [], args := [] }

/- WHAT THE LISTED PACKAGE-LEVEL VARIABLES READ AS WHEN THE CALL BEGINS. Each datum BY PROGRAM (the guide's laid-datum.mjs) off the statement by which the dump's own 'gosem.cut.vars' lays the variable. In a bare row this is a premise. The card (YtpaphgdbfbkihaaDoorCards.lean) ties it to the program's text. -/
def laid_unicode_utf8_acceptRanges {H : Type} : DataW H := .agg [.agg [.lit (.int .u8 128), .lit (.int .u8 191)], .agg [.lit (.int .u8 160), .lit (.int .u8 191)], .agg [.lit (.int .u8 128), .lit (.int .u8 159)], .agg [.lit (.int .u8 144), .lit (.int .u8 191)], .agg [.lit (.int .u8 128), .lit (.int .u8 143)], .agg [.lit (.int .u8 0), .lit (.int .u8 0)], .agg [.lit (.int .u8 0), .lit (.int .u8 0)], .agg [.lit (.int .u8 0), .lit (.int .u8 0)], .agg [.lit (.int .u8 0), .lit (.int .u8 0)], .agg [.lit (.int .u8 0), .lit (.int .u8 0)], .agg [.lit (.int .u8 0), .lit (.int .u8 0)], .agg [.lit (.int .u8 0), .lit (.int .u8 0)], .agg [.lit (.int .u8 0), .lit (.int .u8 0)], .agg [.lit (.int .u8 0), .lit (.int .u8 0)], .agg [.lit (.int .u8 0), .lit (.int .u8 0)], .agg [.lit (.int .u8 0), .lit (.int .u8 0)]]
/-- One of Go's own tables, pinned by name: the form's constant. -/
def laid_unicode_utf8_first : DataW Unit := Go.Pinned.utf8First
def laid_cribble_custom_rates {H : Type} : DataW H := .agg [.agg [.lit (.int .i64 128), .lit (.int .i64 168)], .agg [.lit (.int .i64 256), .lit (.int .i64 136)]]
def laid_cribble_step_offsets {H : Type} : DataW H := .agg [.lit (.int .i64 0), .lit (.int .i64 1), .lit (.int .i64 62), .lit (.int .i64 28), .lit (.int .i64 27), .lit (.int .i64 36), .lit (.int .i64 44), .lit (.int .i64 6), .lit (.int .i64 55), .lit (.int .i64 20), .lit (.int .i64 3), .lit (.int .i64 10), .lit (.int .i64 43), .lit (.int .i64 25), .lit (.int .i64 39), .lit (.int .i64 41), .lit (.int .i64 45), .lit (.int .i64 15), .lit (.int .i64 21), .lit (.int .i64 8), .lit (.int .i64 18), .lit (.int .i64 2), .lit (.int .i64 61), .lit (.int .i64 56), .lit (.int .i64 14)]
def laid_cribble_step_constants {H : Type} : DataW H := .agg [.lit (.int .u64 1), .lit (.int .u64 32898), .lit (.int .u64 9223372036854808714), .lit (.int .u64 9223372039002292224), .lit (.int .u64 32907), .lit (.int .u64 2147483649), .lit (.int .u64 9223372039002292353), .lit (.int .u64 9223372036854808585), .lit (.int .u64 138), .lit (.int .u64 136), .lit (.int .u64 2147516425), .lit (.int .u64 2147483658), .lit (.int .u64 2147516555), .lit (.int .u64 9223372036854775947), .lit (.int .u64 9223372036854808713), .lit (.int .u64 9223372036854808579), .lit (.int .u64 9223372036854808578), .lit (.int .u64 9223372036854775936), .lit (.int .u64 32778), .lit (.int .u64 9223372039002259466), .lit (.int .u64 9223372039002292353), .lit (.int .u64 9223372036854808704), .lit (.int .u64 2147483649), .lit (.int .u64 9223372039002292232)]

/-- 'cribblelaw16.CodeApart': WHATEVER THE INPUT: true; the input reads as it did. -/
def codeApartSpec : ChangeSpec := { name := "codeApart", fn := fun _ => fun
  | [d1, d2] => { results := [.lit (.bool true)], args := [d1, d2] }
  | _ => none }
def codeApartRow : OpenClaim := { program := "ytpaphgdbfbkihaadoor", sum := "f09d5f232b15476baa43b8356c801593f115f3b9f6452a79a075c025bf0e3023", func := "cribble/cribblelaw16.CodeApart", spec := "codeApart", named := ["unicode/utf8.first", "unicode/utf8.acceptRanges"], apart := false, laid := [("unicode/utf8.acceptRanges", laid_unicode_utf8_acceptRanges), ("unicode/utf8.first", laid_unicode_utf8_first)] }
def CodeApartSaid : Prop := codeApartRow.holds Tryd.pinned (OpenSpec.ofChange codeApartSpec)

/-- ITS FALSE NEIGHBOUR: 'it returns false'. Refute it at one input. -/
def codeApartWrong : ChangeSpec := { name := "codeApart", fn := fun _ => fun
  | [d1, d2] => { results := [.lit (.bool false)], args := [d1, d2] }
  | _ => none }
def CodeApartWrongFalsely : Prop := codeApartRow.holds Tryd.pinned (OpenSpec.ofChange codeApartWrong)

/-- 'cribblelaw16.CodeNumbers': WHATEVER THE INPUT: true; the input reads as it did. -/
def codeNumbersSpec : ChangeSpec := { name := "codeNumbers", fn := fun _ => fun
  | [d1, d2] => { results := [.lit (.bool true)], args := [d1, d2] }
  | _ => none }
def codeNumbersRow : OpenClaim := { program := "ytpaphgdbfbkihaadoor", sum := "f09d5f232b15476baa43b8356c801593f115f3b9f6452a79a075c025bf0e3023", func := "cribble/cribblelaw16.CodeNumbers", spec := "codeNumbers", named := ["unicode/utf8.first", "unicode/utf8.acceptRanges"], apart := false, laid := [("unicode/utf8.acceptRanges", laid_unicode_utf8_acceptRanges), ("unicode/utf8.first", laid_unicode_utf8_first)] }
def CodeNumbersSaid : Prop := codeNumbersRow.holds Tryd.pinned (OpenSpec.ofChange codeNumbersSpec)

/-- ITS FALSE NEIGHBOUR: 'it returns false'. Refute it at one input. -/
def codeNumbersWrong : ChangeSpec := { name := "codeNumbers", fn := fun _ => fun
  | [d1, d2] => { results := [.lit (.bool false)], args := [d1, d2] }
  | _ => none }
def CodeNumbersWrongFalsely : Prop := codeNumbersRow.holds Tryd.pinned (OpenSpec.ofChange codeNumbersWrong)

/-- 'cribblelaw17.CustomLengths': WHATEVER THE INPUT: true; the input reads as it did. -/
def customLengthsSpec : ChangeSpec := { name := "customLengths", fn := fun _ => fun
  | [d1, d2] => { results := [.lit (.bool true)], args := [d1, d2] }
  | _ => none }
def customLengthsRow : OpenClaim := { program := "ytpaphgdbfbkihaadoor", sum := "f09d5f232b15476baa43b8356c801593f115f3b9f6452a79a075c025bf0e3023", func := "cribble/cribblelaw17.CustomLengths", spec := "customLengths", unfollowed := true, recurses := true, named := ["cribble/custom.rates", "unicode/utf8.first", "unicode/utf8.acceptRanges"], leaving := true, apart := false, laid := [("unicode/utf8.acceptRanges", laid_unicode_utf8_acceptRanges), ("cribble/custom.rates", laid_cribble_custom_rates), ("unicode/utf8.first", laid_unicode_utf8_first)] }
def CustomLengthsSaid : Prop := customLengthsRow.holds Tryd.pinned (OpenSpec.ofChange customLengthsSpec)

/-- ITS FALSE NEIGHBOUR: 'it returns false'. Refute it at one input. -/
def customLengthsWrong : ChangeSpec := { name := "customLengths", fn := fun _ => fun
  | [d1, d2] => { results := [.lit (.bool false)], args := [d1, d2] }
  | _ => none }
def CustomLengthsWrongFalsely : Prop := customLengthsRow.holds Tryd.pinned (OpenSpec.ofChange customLengthsWrong)

/-- 'cribblelaw16.CodePads': WHATEVER THE INPUT: true; the input reads as it did. -/
def codePadsSpec : ChangeSpec := { name := "codePads", fn := fun _ => fun
  | [d1, d2] => { results := [.lit (.bool true)], args := [d1, d2] }
  | _ => none }
def codePadsRow : OpenClaim := { program := "ytpaphgdbfbkihaadoor", sum := "f09d5f232b15476baa43b8356c801593f115f3b9f6452a79a075c025bf0e3023", func := "cribble/cribblelaw16.CodePads", spec := "codePads", named := ["unicode/utf8.first", "unicode/utf8.acceptRanges"], apart := false, laid := [("unicode/utf8.acceptRanges", laid_unicode_utf8_acceptRanges), ("unicode/utf8.first", laid_unicode_utf8_first)] }
def CodePadsSaid : Prop := codePadsRow.holds Tryd.pinned (OpenSpec.ofChange codePadsSpec)

/-- ITS FALSE NEIGHBOUR: 'it returns false'. Refute it at one input. -/
def codePadsWrong : ChangeSpec := { name := "codePads", fn := fun _ => fun
  | [d1, d2] => { results := [.lit (.bool false)], args := [d1, d2] }
  | _ => none }
def CodePadsWrongFalsely : Prop := codePadsRow.holds Tryd.pinned (OpenSpec.ofChange codePadsWrong)

/-- 'cribblelaw16.CodeGets': WHATEVER THE INPUT: true; the input reads as it did. -/
def codeGetsSpec : ChangeSpec := { name := "codeGets", fn := fun _ => fun
  | [d] => { results := [.lit (.bool true)], args := [d] }
  | _ => none }
def codeGetsRow : OpenClaim := { program := "ytpaphgdbfbkihaadoor", sum := "f09d5f232b15476baa43b8356c801593f115f3b9f6452a79a075c025bf0e3023", func := "cribble/cribblelaw16.CodeGets", spec := "codeGets", named := ["unicode/utf8.first", "unicode/utf8.acceptRanges"], apart := false, laid := [("unicode/utf8.acceptRanges", laid_unicode_utf8_acceptRanges), ("unicode/utf8.first", laid_unicode_utf8_first)] }
def CodeGetsSaid : Prop := codeGetsRow.holds Tryd.pinned (OpenSpec.ofChange codeGetsSpec)

/-- ITS FALSE NEIGHBOUR: 'it returns false'. Refute it at one input. -/
def codeGetsWrong : ChangeSpec := { name := "codeGets", fn := fun _ => fun
  | [d] => { results := [.lit (.bool false)], args := [d] }
  | _ => none }
def CodeGetsWrongFalsely : Prop := codeGetsRow.holds Tryd.pinned (OpenSpec.ofChange codeGetsWrong)

/-- 'cribblelaw17.CustomApart': WHATEVER THE INPUT: true; the input reads as it did. -/
def customApartSpec : ChangeSpec := { name := "customApart", fn := fun _ => fun
  | [d1, d2] => { results := [.lit (.bool true)], args := [d1, d2] }
  | _ => none }
def customApartRow : OpenClaim := { program := "ytpaphgdbfbkihaadoor", sum := "f09d5f232b15476baa43b8356c801593f115f3b9f6452a79a075c025bf0e3023", func := "cribble/cribblelaw17.CustomApart", spec := "customApart", unfollowed := true, recurses := true, named := ["cribble/custom.rates", "unicode/utf8.first", "unicode/utf8.acceptRanges"], leaving := true, apart := false, laid := [("unicode/utf8.acceptRanges", laid_unicode_utf8_acceptRanges), ("cribble/custom.rates", laid_cribble_custom_rates), ("unicode/utf8.first", laid_unicode_utf8_first)] }
def CustomApartSaid : Prop := customApartRow.holds Tryd.pinned (OpenSpec.ofChange customApartSpec)

/-- ITS FALSE NEIGHBOUR: 'it returns false'. Refute it at one input. -/
def customApartWrong : ChangeSpec := { name := "customApart", fn := fun _ => fun
  | [d1, d2] => { results := [.lit (.bool false)], args := [d1, d2] }
  | _ => none }
def CustomApartWrongFalsely : Prop := customApartRow.holds Tryd.pinned (OpenSpec.ofChange customApartWrong)

/-- 'cribblelaw17.CustomPrefixes': WHATEVER THE INPUT: true; the input reads as it did. -/
def customPrefixesSpec : ChangeSpec := { name := "customPrefixes", fn := fun _ => fun
  | [d1, d2] => { results := [.lit (.bool true)], args := [d1, d2] }
  | _ => none }
def customPrefixesRow : OpenClaim := { program := "ytpaphgdbfbkihaadoor", sum := "f09d5f232b15476baa43b8356c801593f115f3b9f6452a79a075c025bf0e3023", func := "cribble/cribblelaw17.CustomPrefixes", spec := "customPrefixes", unfollowed := true, recurses := true, named := ["cribble/custom.rates", "unicode/utf8.first", "unicode/utf8.acceptRanges"], leaving := true, apart := false, laid := [("unicode/utf8.acceptRanges", laid_unicode_utf8_acceptRanges), ("cribble/custom.rates", laid_cribble_custom_rates), ("unicode/utf8.first", laid_unicode_utf8_first)] }
def CustomPrefixesSaid : Prop := customPrefixesRow.holds Tryd.pinned (OpenSpec.ofChange customPrefixesSpec)

/-- ITS FALSE NEIGHBOUR: 'it returns false'. Refute it at one input. -/
def customPrefixesWrong : ChangeSpec := { name := "customPrefixes", fn := fun _ => fun
  | [d1, d2] => { results := [.lit (.bool false)], args := [d1, d2] }
  | _ => none }
def CustomPrefixesWrongFalsely : Prop := customPrefixesRow.holds Tryd.pinned (OpenSpec.ofChange customPrefixesWrong)

/-- 'cribblelaw16.CodeTexts': WHATEVER THE INPUT: true; the input reads as it did. -/
def codeTextsSpec : ChangeSpec := { name := "codeTexts", fn := fun _ => fun
  | [d1, d2, d3] => { results := [.lit (.bool true)], args := [d1, d2, d3] }
  | _ => none }
def codeTextsRow : OpenClaim := { program := "ytpaphgdbfbkihaadoor", sum := "f09d5f232b15476baa43b8356c801593f115f3b9f6452a79a075c025bf0e3023", func := "cribble/cribblelaw16.CodeTexts", spec := "codeTexts", named := ["unicode/utf8.first", "unicode/utf8.acceptRanges"], apart := false, laid := [("unicode/utf8.acceptRanges", laid_unicode_utf8_acceptRanges), ("unicode/utf8.first", laid_unicode_utf8_first)] }
def CodeTextsSaid : Prop := codeTextsRow.holds Tryd.pinned (OpenSpec.ofChange codeTextsSpec)

/-- ITS FALSE NEIGHBOUR: 'it returns false'. Refute it at one input. -/
def codeTextsWrong : ChangeSpec := { name := "codeTexts", fn := fun _ => fun
  | [d1, d2, d3] => { results := [.lit (.bool false)], args := [d1, d2, d3] }
  | _ => none }
def CodeTextsWrongFalsely : Prop := codeTextsRow.holds Tryd.pinned (OpenSpec.ofChange codeTextsWrong)

/-- 'cribblelaw17.CustomSums': WHATEVER THE INPUT: true; the input reads as it did. -/
def customSumsSpec : ChangeSpec := { name := "customSums", fn := fun _ => fun
  | [d1, d2, d3] => { results := [.lit (.bool true)], args := [d1, d2, d3] }
  | _ => none }
def customSumsRow : OpenClaim := { program := "ytpaphgdbfbkihaadoor", sum := "f09d5f232b15476baa43b8356c801593f115f3b9f6452a79a075c025bf0e3023", func := "cribble/cribblelaw17.CustomSums", spec := "customSums", unfollowed := true, recurses := true, named := ["cribble/custom.rates", "unicode/utf8.first", "unicode/utf8.acceptRanges", "cribble/step.offsets", "cribble/step.constants"], leaving := true, apart := false, laid := [("unicode/utf8.acceptRanges", laid_unicode_utf8_acceptRanges), ("cribble/step.offsets", laid_cribble_step_offsets), ("cribble/step.constants", laid_cribble_step_constants), ("cribble/custom.rates", laid_cribble_custom_rates), ("unicode/utf8.first", laid_unicode_utf8_first)] }
def CustomSumsSaid : Prop := customSumsRow.holds Tryd.pinned (OpenSpec.ofChange customSumsSpec)

/-- ITS FALSE NEIGHBOUR: 'it returns false'. Refute it at one input. -/
def customSumsWrong : ChangeSpec := { name := "customSums", fn := fun _ => fun
  | [d1, d2, d3] => { results := [.lit (.bool false)], args := [d1, d2, d3] }
  | _ => none }
def CustomSumsWrongFalsely : Prop := customSumsRow.holds Tryd.pinned (OpenSpec.ofChange customSumsWrong)

/- THE SECOND FORM. 'bulk': how many values and letters a reading holds, each counted each time it is reached (what is shared counts as often as it is met; a slice's spare places count too). A statement '..UptoSaid' is the law's where the arguments, and the package variables that the reading takes, are together of bulk at most 1048576: NARROWER than '..Said'. Prove '..Said' where nothing that the law and all that it calls make is longer than what came in: it says more and counts as full. Else prove '..UptoSaid'. A law counts once. -/
mutual
def uptoBulk {H : Type} : DataW H → Nat
  | .lit (.string bytes) => bytes.length + 1
  | .lit _ => 1
  | .nil => 1
  | .ptr d => uptoBulk d + 1
  | .slice elems spare => uptoBulkAll elems + uptoBulkAll spare + 1
  | .agg parts => uptoBulkAll parts + 1
  | .iface _ d => uptoBulk d + 1
  | .map entries => uptoBulkEntries entries + 1
  | .held _ => 1
def uptoBulkAll {H : Type} : List (DataW H) → Nat
  | [] => 0
  | d :: r => uptoBulk d + uptoBulkAll r
def uptoBulkEntries {H : Type} : List (Lit × DataW H) → Nat
  | [] => 0
  | x :: r => uptoBulkEntry x + uptoBulkEntries r
def uptoBulkEntry {H : Type} : Lit × DataW H → Nat
  | (.string bytes, d) => bytes.length + uptoBulk d + 1
  | (_, d) => uptoBulk d + 1
 end
def uptoSmall : (H : Type) → List (DataW H) → Bool := fun _ ds => decide (uptoBulkAll ds ≤ 1048576)
def OpenSpec.upto (s : _root_.Go.ChangeSpec) : _root_.Go.OpenSpec := { _root_.Go.OpenSpec.ofChange s with cond := some uptoSmall }

/-- 'cribblelaw16.CodeApart', WHERE WHAT IT READS IS OF BULK AT MOST 1048576: true; the input reads as it did. -/
def codeApartUptoRow : OpenClaim := { program := "ytpaphgdbfbkihaadoor", sum := "f09d5f232b15476baa43b8356c801593f115f3b9f6452a79a075c025bf0e3023", func := "cribble/cribblelaw16.CodeApart", spec := "codeApart", named := ["unicode/utf8.first", "unicode/utf8.acceptRanges"], apart := false, laid := [("unicode/utf8.acceptRanges", laid_unicode_utf8_acceptRanges), ("unicode/utf8.first", laid_unicode_utf8_first)], narrowed := true }
def CodeApartUptoSaid : Prop := codeApartUptoRow.holds Tryd.pinned (OpenSpec.upto codeApartSpec)

/-- 'cribblelaw16.CodeNumbers', WHERE WHAT IT READS IS OF BULK AT MOST 1048576: true; the input reads as it did. -/
def codeNumbersUptoRow : OpenClaim := { program := "ytpaphgdbfbkihaadoor", sum := "f09d5f232b15476baa43b8356c801593f115f3b9f6452a79a075c025bf0e3023", func := "cribble/cribblelaw16.CodeNumbers", spec := "codeNumbers", named := ["unicode/utf8.first", "unicode/utf8.acceptRanges"], apart := false, laid := [("unicode/utf8.acceptRanges", laid_unicode_utf8_acceptRanges), ("unicode/utf8.first", laid_unicode_utf8_first)], narrowed := true }
def CodeNumbersUptoSaid : Prop := codeNumbersUptoRow.holds Tryd.pinned (OpenSpec.upto codeNumbersSpec)

/-- 'cribblelaw17.CustomLengths', WHERE WHAT IT READS IS OF BULK AT MOST 1048576: true; the input reads as it did. -/
def customLengthsUptoRow : OpenClaim := { program := "ytpaphgdbfbkihaadoor", sum := "f09d5f232b15476baa43b8356c801593f115f3b9f6452a79a075c025bf0e3023", func := "cribble/cribblelaw17.CustomLengths", spec := "customLengths", unfollowed := true, recurses := true, named := ["cribble/custom.rates", "unicode/utf8.first", "unicode/utf8.acceptRanges"], leaving := true, apart := false, laid := [("unicode/utf8.acceptRanges", laid_unicode_utf8_acceptRanges), ("cribble/custom.rates", laid_cribble_custom_rates), ("unicode/utf8.first", laid_unicode_utf8_first)], narrowed := true }
def CustomLengthsUptoSaid : Prop := customLengthsUptoRow.holds Tryd.pinned (OpenSpec.upto customLengthsSpec)

/-- 'cribblelaw16.CodePads', WHERE WHAT IT READS IS OF BULK AT MOST 1048576: true; the input reads as it did. -/
def codePadsUptoRow : OpenClaim := { program := "ytpaphgdbfbkihaadoor", sum := "f09d5f232b15476baa43b8356c801593f115f3b9f6452a79a075c025bf0e3023", func := "cribble/cribblelaw16.CodePads", spec := "codePads", named := ["unicode/utf8.first", "unicode/utf8.acceptRanges"], apart := false, laid := [("unicode/utf8.acceptRanges", laid_unicode_utf8_acceptRanges), ("unicode/utf8.first", laid_unicode_utf8_first)], narrowed := true }
def CodePadsUptoSaid : Prop := codePadsUptoRow.holds Tryd.pinned (OpenSpec.upto codePadsSpec)

/-- 'cribblelaw16.CodeGets', WHERE WHAT IT READS IS OF BULK AT MOST 1048576: true; the input reads as it did. -/
def codeGetsUptoRow : OpenClaim := { program := "ytpaphgdbfbkihaadoor", sum := "f09d5f232b15476baa43b8356c801593f115f3b9f6452a79a075c025bf0e3023", func := "cribble/cribblelaw16.CodeGets", spec := "codeGets", named := ["unicode/utf8.first", "unicode/utf8.acceptRanges"], apart := false, laid := [("unicode/utf8.acceptRanges", laid_unicode_utf8_acceptRanges), ("unicode/utf8.first", laid_unicode_utf8_first)], narrowed := true }
def CodeGetsUptoSaid : Prop := codeGetsUptoRow.holds Tryd.pinned (OpenSpec.upto codeGetsSpec)

/-- 'cribblelaw17.CustomApart', WHERE WHAT IT READS IS OF BULK AT MOST 1048576: true; the input reads as it did. -/
def customApartUptoRow : OpenClaim := { program := "ytpaphgdbfbkihaadoor", sum := "f09d5f232b15476baa43b8356c801593f115f3b9f6452a79a075c025bf0e3023", func := "cribble/cribblelaw17.CustomApart", spec := "customApart", unfollowed := true, recurses := true, named := ["cribble/custom.rates", "unicode/utf8.first", "unicode/utf8.acceptRanges"], leaving := true, apart := false, laid := [("unicode/utf8.acceptRanges", laid_unicode_utf8_acceptRanges), ("cribble/custom.rates", laid_cribble_custom_rates), ("unicode/utf8.first", laid_unicode_utf8_first)], narrowed := true }
def CustomApartUptoSaid : Prop := customApartUptoRow.holds Tryd.pinned (OpenSpec.upto customApartSpec)

/-- 'cribblelaw17.CustomPrefixes', WHERE WHAT IT READS IS OF BULK AT MOST 1048576: true; the input reads as it did. -/
def customPrefixesUptoRow : OpenClaim := { program := "ytpaphgdbfbkihaadoor", sum := "f09d5f232b15476baa43b8356c801593f115f3b9f6452a79a075c025bf0e3023", func := "cribble/cribblelaw17.CustomPrefixes", spec := "customPrefixes", unfollowed := true, recurses := true, named := ["cribble/custom.rates", "unicode/utf8.first", "unicode/utf8.acceptRanges"], leaving := true, apart := false, laid := [("unicode/utf8.acceptRanges", laid_unicode_utf8_acceptRanges), ("cribble/custom.rates", laid_cribble_custom_rates), ("unicode/utf8.first", laid_unicode_utf8_first)], narrowed := true }
def CustomPrefixesUptoSaid : Prop := customPrefixesUptoRow.holds Tryd.pinned (OpenSpec.upto customPrefixesSpec)

/-- 'cribblelaw16.CodeTexts', WHERE WHAT IT READS IS OF BULK AT MOST 1048576: true; the input reads as it did. -/
def codeTextsUptoRow : OpenClaim := { program := "ytpaphgdbfbkihaadoor", sum := "f09d5f232b15476baa43b8356c801593f115f3b9f6452a79a075c025bf0e3023", func := "cribble/cribblelaw16.CodeTexts", spec := "codeTexts", named := ["unicode/utf8.first", "unicode/utf8.acceptRanges"], apart := false, laid := [("unicode/utf8.acceptRanges", laid_unicode_utf8_acceptRanges), ("unicode/utf8.first", laid_unicode_utf8_first)], narrowed := true }
def CodeTextsUptoSaid : Prop := codeTextsUptoRow.holds Tryd.pinned (OpenSpec.upto codeTextsSpec)

/-- 'cribblelaw17.CustomSums', WHERE WHAT IT READS IS OF BULK AT MOST 1048576: true; the input reads as it did. -/
def customSumsUptoRow : OpenClaim := { program := "ytpaphgdbfbkihaadoor", sum := "f09d5f232b15476baa43b8356c801593f115f3b9f6452a79a075c025bf0e3023", func := "cribble/cribblelaw17.CustomSums", spec := "customSums", unfollowed := true, recurses := true, named := ["cribble/custom.rates", "unicode/utf8.first", "unicode/utf8.acceptRanges", "cribble/step.offsets", "cribble/step.constants"], leaving := true, apart := false, laid := [("unicode/utf8.acceptRanges", laid_unicode_utf8_acceptRanges), ("cribble/step.offsets", laid_cribble_step_offsets), ("cribble/step.constants", laid_cribble_step_constants), ("cribble/custom.rates", laid_cribble_custom_rates), ("unicode/utf8.first", laid_unicode_utf8_first)], narrowed := true }
def CustomSumsUptoSaid : Prop := customSumsUptoRow.holds Tryd.pinned (OpenSpec.upto customSumsSpec)

end Rows
end Go.Proofs.YtpaphgdbfbkihaaDoor

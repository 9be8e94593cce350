/-
  NARROWER THAN 'FOR EVERY INPUT', by the rows' own cells (each row's printed sentence says how): UnsnapBytes: laid · UnsnapBlocks: laid.
  DERIVED. THE GIVEN ROWS OF THIS SEAT. 2 by the template 'for every input the law returns true; each argument reads behind the call as it read before'; 0 by the template 'total and deterministic' (their statements: YtbgneeokjhepcaaGreatDoorTotals.lean).
  GIVEN WITH THE SEED: the statements are not yours to turn. If you find one false, say at which input.
  Laid BY PROGRAM, IN A SANDBOX (cutbox-rows.mjs): the forced cells as the released guide's own fill.sh prints them over the translation 7872a1a9e90f888e… (all of the seat's roots in one cut). By AI agents, Wed Nov 11 2026. No macro, syntax, notation, axiom, sorry.
-/
import Derived.Test.YtbgneeokjhepcaaGreatDoorChecked
import GoSem.PinnedTables
import GoSem.Claim
import GoSem.ClaimJoined
import GoSem.ClaimMapViews
import Derived.JoinedTies
import Derived.KernelRfl
namespace Go.Proofs.YtbgneeokjhepcaaGreatDoor
/- THE CELL 'sum', in the pinned program and in every row, IS THE sha256 OF THE DUMP (.gsa) THAT YtbgneeokjhepcaaGreatDoorProg.lean LOADS. Nothing in Lean hashes anything: it is a label: what it is worth is what the hold of that sum in a sandbox is worth. -/
noncomputable def Tryz.pinned : Pinned := { name := "ytbgneeokjhepcaagreatdoor", sum := "7872a1a9e90f888e829a364c6a103b15123ef6c7d8601ad663b4d31ebbf2761d", checked := Tryz.checked }
namespace Rows
def none {H : Type} : Left H := { results := [], args := [] }

/- WHAT THE LISTED PACKAGE-LEVEL VARIABLES READ AS WHEN THE CALL BEGINS. Each datum BY PROGRAM (the guide's laid-datum.mjs) off the statement by which the dump's own 'gosem.cut.vars' lays the variable. In a bare row this is a premise. The card (YtbgneeokjhepcaaGreatDoorCards.lean) ties it to the program's text. -/
def laid_unicode_utf8_acceptRanges {H : Type} : DataW H := .agg [.agg [.lit (.int .u8 128), .lit (.int .u8 191)], .agg [.lit (.int .u8 160), .lit (.int .u8 191)], .agg [.lit (.int .u8 128), .lit (.int .u8 159)], .agg [.lit (.int .u8 144), .lit (.int .u8 191)], .agg [.lit (.int .u8 128), .lit (.int .u8 143)], .agg [.lit (.int .u8 0), .lit (.int .u8 0)], .agg [.lit (.int .u8 0), .lit (.int .u8 0)], .agg [.lit (.int .u8 0), .lit (.int .u8 0)], .agg [.lit (.int .u8 0), .lit (.int .u8 0)], .agg [.lit (.int .u8 0), .lit (.int .u8 0)], .agg [.lit (.int .u8 0), .lit (.int .u8 0)], .agg [.lit (.int .u8 0), .lit (.int .u8 0)], .agg [.lit (.int .u8 0), .lit (.int .u8 0)], .agg [.lit (.int .u8 0), .lit (.int .u8 0)], .agg [.lit (.int .u8 0), .lit (.int .u8 0)], .agg [.lit (.int .u8 0), .lit (.int .u8 0)]]
def laid_cribble_alg_entries {H : Type} : DataW H := .agg [.agg [.lit (.string []), .lit (.int .i64 0), .lit (.int .i64 0), .lit (.int .i64 0)], .agg [.lit (.string [115, 104, 97, 50, 50, 52]), .lit (.int .i64 1), .lit (.int .i64 28), .lit (.int .i64 64)], .agg [.lit (.string [115, 104, 97, 50, 53, 54]), .lit (.int .i64 1), .lit (.int .i64 32), .lit (.int .i64 64)], .agg [.lit (.string [115, 104, 97, 51, 56, 52]), .lit (.int .i64 1), .lit (.int .i64 48), .lit (.int .i64 128)], .agg [.lit (.string [115, 104, 97, 53, 49, 50]), .lit (.int .i64 1), .lit (.int .i64 64), .lit (.int .i64 128)], .agg [.lit (.string [115, 104, 97, 53, 49, 50, 45, 50, 50, 52]), .lit (.int .i64 1), .lit (.int .i64 28), .lit (.int .i64 128)], .agg [.lit (.string [115, 104, 97, 53, 49, 50, 45, 50, 53, 54]), .lit (.int .i64 1), .lit (.int .i64 32), .lit (.int .i64 128)], .agg [.lit (.string [115, 104, 97, 51, 45, 50, 50, 52]), .lit (.int .i64 2), .lit (.int .i64 28), .lit (.int .i64 144)], .agg [.lit (.string [115, 104, 97, 51, 45, 50, 53, 54]), .lit (.int .i64 2), .lit (.int .i64 32), .lit (.int .i64 136)], .agg [.lit (.string [115, 104, 97, 51, 45, 51, 56, 52]), .lit (.int .i64 2), .lit (.int .i64 48), .lit (.int .i64 104)], .agg [.lit (.string [115, 104, 97, 51, 45, 53, 49, 50]), .lit (.int .i64 2), .lit (.int .i64 64), .lit (.int .i64 72)], .agg [.lit (.string [115, 104, 97, 107, 101, 49, 50, 56]), .lit (.int .i64 3), .lit (.int .i64 32), .lit (.int .i64 168)], .agg [.lit (.string [115, 104, 97, 107, 101, 50, 53, 54]), .lit (.int .i64 3), .lit (.int .i64 64), .lit (.int .i64 136)], .agg [.lit (.string [99, 115, 104, 97, 107, 101, 49, 50, 56]), .lit (.int .i64 4), .lit (.int .i64 32), .lit (.int .i64 168)], .agg [.lit (.string [99, 115, 104, 97, 107, 101, 50, 53, 54]), .lit (.int .i64 4), .lit (.int .i64 64), .lit (.int .i64 136)]]
def laid_bytes_ErrTooLarge {H : Type} : DataW H := .iface "*errors.errorString" (.ptr (.agg [.lit (.string [98, 121, 116, 101, 115, 46, 66, 117, 102, 102, 101, 114, 58, 32, 116, 111, 111, 32, 108, 97, 114, 103, 101])]))
/-- One of Go's own tables, pinned by name: the form's constant. -/
def laid_unicode_utf8_first : DataW Unit := Go.Pinned.utf8First

/-- 'cribblelaw21.UnsnapBytes': WHATEVER THE INPUT: true; the input reads as it did. -/
def unsnapBytesSpec : ChangeSpec := { name := "unsnapBytes", fn := fun _ => fun
  | [d] => { results := [.lit (.bool true)], args := [d] }
  | _ => none }
def unsnapBytesRow : OpenClaim := { program := "ytbgneeokjhepcaagreatdoor", sum := "7872a1a9e90f888e829a364c6a103b15123ef6c7d8601ad663b4d31ebbf2761d", func := "cribble/cribblelaw21.UnsnapBytes", spec := "unsnapBytes", unfollowed := true, recurses := true, named := ["cribble/alg.entries", "math/bits.divideError", "math/bits.overflowError", "bytes.ErrTooLarge", "unicode/utf8.first", "unicode/utf8.acceptRanges"], apart := false, laid := [("unicode/utf8.acceptRanges", laid_unicode_utf8_acceptRanges), ("cribble/alg.entries", laid_cribble_alg_entries), ("bytes.ErrTooLarge", laid_bytes_ErrTooLarge), ("unicode/utf8.first", laid_unicode_utf8_first)] }
def UnsnapBytesSaid : Prop := unsnapBytesRow.holds Tryz.pinned (OpenSpec.ofChange unsnapBytesSpec)

/-- ITS FALSE NEIGHBOUR: 'it returns false'. Refute it at one input. -/
def unsnapBytesWrong : ChangeSpec := { name := "unsnapBytes", fn := fun _ => fun
  | [d] => { results := [.lit (.bool false)], args := [d] }
  | _ => none }
def UnsnapBytesWrongFalsely : Prop := unsnapBytesRow.holds Tryz.pinned (OpenSpec.ofChange unsnapBytesWrong)

/-- 'cribblelaw21.UnsnapBlocks': WHATEVER THE INPUT: true; the input reads as it did. -/
def unsnapBlocksSpec : ChangeSpec := { name := "unsnapBlocks", fn := fun _ => fun
  | [d1, d2] => { results := [.lit (.bool true)], args := [d1, d2] }
  | _ => none }
def unsnapBlocksRow : OpenClaim := { program := "ytbgneeokjhepcaagreatdoor", sum := "7872a1a9e90f888e829a364c6a103b15123ef6c7d8601ad663b4d31ebbf2761d", func := "cribble/cribblelaw21.UnsnapBlocks", spec := "unsnapBlocks", unfollowed := true, recurses := true, named := ["cribble/alg.entries", "math/bits.divideError", "math/bits.overflowError", "bytes.ErrTooLarge", "unicode/utf8.first", "unicode/utf8.acceptRanges"], apart := false, laid := [("unicode/utf8.acceptRanges", laid_unicode_utf8_acceptRanges), ("cribble/alg.entries", laid_cribble_alg_entries), ("bytes.ErrTooLarge", laid_bytes_ErrTooLarge), ("unicode/utf8.first", laid_unicode_utf8_first)] }
def UnsnapBlocksSaid : Prop := unsnapBlocksRow.holds Tryz.pinned (OpenSpec.ofChange unsnapBlocksSpec)

/-- ITS FALSE NEIGHBOUR: 'it returns false'. Refute it at one input. -/
def unsnapBlocksWrong : ChangeSpec := { name := "unsnapBlocks", fn := fun _ => fun
  | [d1, d2] => { results := [.lit (.bool false)], args := [d1, d2] }
  | _ => none }
def UnsnapBlocksWrongFalsely : Prop := unsnapBlocksRow.holds Tryz.pinned (OpenSpec.ofChange unsnapBlocksWrong)

/- THE SECOND FORM. 'bulk': how many values and letters a reading holds, each counted each time it is reached (what is shared counts as often as it is met; a slice's spare places count too). A statement '..UptoSaid' is the law's where the arguments, and the package variables that the reading takes, are together of bulk at most 1048576: NARROWER than '..Said'. Prove '..Said' where nothing that the law and all that it calls make is longer than what came in: it says more and counts as full. Else prove '..UptoSaid'. A law counts once. -/
mutual
def uptoBulk {H : Type} : DataW H → Nat
  | .lit (.string bytes) => bytes.length + 1
  | .lit _ => 1
  | .nil => 1
  | .ptr d => uptoBulk d + 1
  | .slice elems spare => uptoBulkAll elems + uptoBulkAll spare + 1
  | .agg parts => uptoBulkAll parts + 1
  | .iface _ d => uptoBulk d + 1
  | .map entries => uptoBulkEntries entries + 1
  | .held _ => 1
def uptoBulkAll {H : Type} : List (DataW H) → Nat
  | [] => 0
  | d :: r => uptoBulk d + uptoBulkAll r
def uptoBulkEntries {H : Type} : List (Lit × DataW H) → Nat
  | [] => 0
  | x :: r => uptoBulkEntry x + uptoBulkEntries r
def uptoBulkEntry {H : Type} : Lit × DataW H → Nat
  | (.string bytes, d) => bytes.length + uptoBulk d + 1
  | (_, d) => uptoBulk d + 1
 end
def uptoSmall : (H : Type) → List (DataW H) → Bool := fun _ ds => decide (uptoBulkAll ds ≤ 1048576)
def OpenSpec.upto (s : _root_.Go.ChangeSpec) : _root_.Go.OpenSpec := { _root_.Go.OpenSpec.ofChange s with cond := some uptoSmall }

/-- 'cribblelaw21.UnsnapBytes', WHERE WHAT IT READS IS OF BULK AT MOST 1048576: true; the input reads as it did. -/
def unsnapBytesUptoRow : OpenClaim := { program := "ytbgneeokjhepcaagreatdoor", sum := "7872a1a9e90f888e829a364c6a103b15123ef6c7d8601ad663b4d31ebbf2761d", func := "cribble/cribblelaw21.UnsnapBytes", spec := "unsnapBytes", unfollowed := true, recurses := true, named := ["cribble/alg.entries", "math/bits.divideError", "math/bits.overflowError", "bytes.ErrTooLarge", "unicode/utf8.first", "unicode/utf8.acceptRanges"], apart := false, laid := [("unicode/utf8.acceptRanges", laid_unicode_utf8_acceptRanges), ("cribble/alg.entries", laid_cribble_alg_entries), ("bytes.ErrTooLarge", laid_bytes_ErrTooLarge), ("unicode/utf8.first", laid_unicode_utf8_first)], narrowed := true }
def UnsnapBytesUptoSaid : Prop := unsnapBytesUptoRow.holds Tryz.pinned (OpenSpec.upto unsnapBytesSpec)

/-- 'cribblelaw21.UnsnapBlocks', WHERE WHAT IT READS IS OF BULK AT MOST 1048576: true; the input reads as it did. -/
def unsnapBlocksUptoRow : OpenClaim := { program := "ytbgneeokjhepcaagreatdoor", sum := "7872a1a9e90f888e829a364c6a103b15123ef6c7d8601ad663b4d31ebbf2761d", func := "cribble/cribblelaw21.UnsnapBlocks", spec := "unsnapBlocks", unfollowed := true, recurses := true, named := ["cribble/alg.entries", "math/bits.divideError", "math/bits.overflowError", "bytes.ErrTooLarge", "unicode/utf8.first", "unicode/utf8.acceptRanges"], apart := false, laid := [("unicode/utf8.acceptRanges", laid_unicode_utf8_acceptRanges), ("cribble/alg.entries", laid_cribble_alg_entries), ("bytes.ErrTooLarge", laid_bytes_ErrTooLarge), ("unicode/utf8.first", laid_unicode_utf8_first)], narrowed := true }
def UnsnapBlocksUptoSaid : Prop := unsnapBlocksUptoRow.holds Tryz.pinned (OpenSpec.upto unsnapBlocksSpec)

end Rows
end Go.Proofs.YtbgneeokjhepcaaGreatDoor

/-
  No cell of these rows narrows 'for every input' (looked for: loops, veiled, ifaces, maps, wideKeys, modest, calm, conditions, laid).
  DERIVED. THE GIVEN ROWS OF THIS SEAT. 9 by the template 'for every input the law returns true; each argument reads behind the call as it read before'; 0 by the template 'total and deterministic' (their statements: YtljchidgchjoeaaTotals.lean).
  GIVEN WITH THE SEED: the statements are not yours to turn. If you find one false, say at which input.
  Laid BY PROGRAM, IN A SANDBOX (cutbox-rows.mjs): the forced cells as the released guide's own fill.sh prints them over the translation 967fda84280db54f… (all of the seat's roots in one cut). By AI agents, Wed Nov 11 2026. No macro, syntax, notation, axiom, sorry.
-/
import Derived.Test.YtljchidgchjoeaaChecked
import GoSem.Claim
import GoSem.ClaimJoined
import GoSem.ClaimMapViews
import Derived.JoinedTies
import Derived.KernelRfl
namespace Go.Proofs.Ytljchidgchjoeaa
/- THE CELL 'sum', in the pinned program and in every row, IS THE sha256 OF THE DUMP (.gsa) THAT YtljchidgchjoeaaProg.lean LOADS. Nothing in Lean hashes anything: it is a label: what it is worth is what the hold of that sum in a sandbox is worth. -/
noncomputable def Try.pinned : Pinned := { name := "ytljchidgchjoeaa", sum := "967fda84280db54f9d70a8e1d1a5b4787159b3daf5d4a082f17eaa50b70ecd0d", checked := Try.checked }
namespace Rows
def none {H : Type} : Left H := { results := [], args := [] }

/-- 'cribblelaw04.CountAdds': WHATEVER THE INPUT: true; the input reads as it did. -/
def countAddsSpec : ChangeSpec := { name := "countAdds", fn := fun _ => fun
  | [d1, d2] => { results := [.lit (.bool true)], args := [d1, d2] }
  | _ => none }
def countAddsRow : OpenClaim := { program := "ytljchidgchjoeaa", sum := "967fda84280db54f9d70a8e1d1a5b4787159b3daf5d4a082f17eaa50b70ecd0d", func := "cribble/cribblelaw04.CountAdds", spec := "countAdds", inPlace := ["math/bits.Add64", "math/bits.Sub64"], apart := false }
def CountAddsSaid : Prop := countAddsRow.holds Try.pinned (OpenSpec.ofChange countAddsSpec)

/-- ITS FALSE NEIGHBOUR: 'it returns false'. Refute it at one input. -/
def countAddsWrong : ChangeSpec := { name := "countAdds", fn := fun _ => fun
  | [d1, d2] => { results := [.lit (.bool false)], args := [d1, d2] }
  | _ => none }
def CountAddsWrongFalsely : Prop := countAddsRow.holds Try.pinned (OpenSpec.ofChange countAddsWrong)

/-- 'cribblelaw04.CountOrder': WHATEVER THE INPUT: true; the input reads as it did. -/
def countOrderSpec : ChangeSpec := { name := "countOrder", fn := fun _ => fun
  | [d1, d2] => { results := [.lit (.bool true)], args := [d1, d2] }
  | _ => none }
def countOrderRow : OpenClaim := { program := "ytljchidgchjoeaa", sum := "967fda84280db54f9d70a8e1d1a5b4787159b3daf5d4a082f17eaa50b70ecd0d", func := "cribble/cribblelaw04.CountOrder", spec := "countOrder", inPlace := ["math/bits.Add64"], apart := false }
def CountOrderSaid : Prop := countOrderRow.holds Try.pinned (OpenSpec.ofChange countOrderSpec)

/-- ITS FALSE NEIGHBOUR: 'it returns false'. Refute it at one input. -/
def countOrderWrong : ChangeSpec := { name := "countOrder", fn := fun _ => fun
  | [d1, d2] => { results := [.lit (.bool false)], args := [d1, d2] }
  | _ => none }
def CountOrderWrongFalsely : Prop := countOrderRow.holds Try.pinned (OpenSpec.ofChange countOrderWrong)

/-- 'cribblelaw04.CountPuts': WHATEVER THE INPUT: true; the input reads as it did. -/
def countPutsSpec : ChangeSpec := { name := "countPuts", fn := fun _ => fun
  | [d1, d2] => { results := [.lit (.bool true)], args := [d1, d2] }
  | _ => none }
def countPutsRow : OpenClaim := { program := "ytljchidgchjoeaa", sum := "967fda84280db54f9d70a8e1d1a5b4787159b3daf5d4a082f17eaa50b70ecd0d", func := "cribble/cribblelaw04.CountPuts", spec := "countPuts", inPlace := ["math/bits.Add64"], unfollowed := true, recurses := true, apart := false }
def CountPutsSaid : Prop := countPutsRow.holds Try.pinned (OpenSpec.ofChange countPutsSpec)

/-- ITS FALSE NEIGHBOUR: 'it returns false'. Refute it at one input. -/
def countPutsWrong : ChangeSpec := { name := "countPuts", fn := fun _ => fun
  | [d1, d2] => { results := [.lit (.bool false)], args := [d1, d2] }
  | _ => none }
def CountPutsWrongFalsely : Prop := countPutsRow.holds Try.pinned (OpenSpec.ofChange countPutsWrong)

/-- 'cribblelaw04.CountMods': WHATEVER THE INPUT: true; the input reads as it did. -/
def countModsSpec : ChangeSpec := { name := "countMods", fn := fun _ => fun
  | [d1, d2, d3] => { results := [.lit (.bool true)], args := [d1, d2, d3] }
  | _ => none }
def countModsRow : OpenClaim := { program := "ytljchidgchjoeaa", sum := "967fda84280db54f9d70a8e1d1a5b4787159b3daf5d4a082f17eaa50b70ecd0d", func := "cribble/cribblelaw04.CountMods", spec := "countMods", inPlace := ["math/bits.Add64"], named := ["math/bits.divideError", "math/bits.overflowError"], apart := false }
def CountModsSaid : Prop := countModsRow.holds Try.pinned (OpenSpec.ofChange countModsSpec)

/-- ITS FALSE NEIGHBOUR: 'it returns false'. Refute it at one input. -/
def countModsWrong : ChangeSpec := { name := "countMods", fn := fun _ => fun
  | [d1, d2, d3] => { results := [.lit (.bool false)], args := [d1, d2, d3] }
  | _ => none }
def CountModsWrongFalsely : Prop := countModsRow.holds Try.pinned (OpenSpec.ofChange countModsWrong)

/-- 'cribblelaw10.PadOf': WHATEVER THE INPUT: true; the input reads as it did. -/
def padOfSpec : ChangeSpec := { name := "padOf", fn := fun _ => fun
  | [d1, d2] => { results := [.lit (.bool true)], args := [d1, d2] }
  | _ => none }
def padOfRow : OpenClaim := { program := "ytljchidgchjoeaa", sum := "967fda84280db54f9d70a8e1d1a5b4787159b3daf5d4a082f17eaa50b70ecd0d", func := "cribble/cribblelaw10.PadOf", spec := "padOf", named := ["math/bits.divideError", "math/bits.overflowError"], apart := false }
def PadOfSaid : Prop := padOfRow.holds Try.pinned (OpenSpec.ofChange padOfSpec)

/-- ITS FALSE NEIGHBOUR: 'it returns false'. Refute it at one input. -/
def padOfWrong : ChangeSpec := { name := "padOf", fn := fun _ => fun
  | [d1, d2] => { results := [.lit (.bool false)], args := [d1, d2] }
  | _ => none }
def PadOfWrongFalsely : Prop := padOfRow.holds Try.pinned (OpenSpec.ofChange padOfWrong)

/-- 'cribblelaw10.PadWhole': WHATEVER THE INPUT: true; the input reads as it did. -/
def padWholeSpec : ChangeSpec := { name := "padWhole", fn := fun _ => fun
  | [d1, d2] => { results := [.lit (.bool true)], args := [d1, d2] }
  | _ => none }
def padWholeRow : OpenClaim := { program := "ytljchidgchjoeaa", sum := "967fda84280db54f9d70a8e1d1a5b4787159b3daf5d4a082f17eaa50b70ecd0d", func := "cribble/cribblelaw10.PadWhole", spec := "padWhole", named := ["math/bits.divideError", "math/bits.overflowError"], apart := false }
def PadWholeSaid : Prop := padWholeRow.holds Try.pinned (OpenSpec.ofChange padWholeSpec)

/-- ITS FALSE NEIGHBOUR: 'it returns false'. Refute it at one input. -/
def padWholeWrong : ChangeSpec := { name := "padWhole", fn := fun _ => fun
  | [d1, d2] => { results := [.lit (.bool false)], args := [d1, d2] }
  | _ => none }
def PadWholeWrongFalsely : Prop := padWholeRow.holds Try.pinned (OpenSpec.ofChange padWholeWrong)

/-- 'cribblelaw10.PadApart': WHATEVER THE INPUT: true; the input reads as it did. -/
def padApartSpec : ChangeSpec := { name := "padApart", fn := fun _ => fun
  | [d1, d2, d3] => { results := [.lit (.bool true)], args := [d1, d2, d3] }
  | _ => none }
def padApartRow : OpenClaim := { program := "ytljchidgchjoeaa", sum := "967fda84280db54f9d70a8e1d1a5b4787159b3daf5d4a082f17eaa50b70ecd0d", func := "cribble/cribblelaw10.PadApart", spec := "padApart", named := ["math/bits.divideError", "math/bits.overflowError"], apart := false }
def PadApartSaid : Prop := padApartRow.holds Try.pinned (OpenSpec.ofChange padApartSpec)

/-- ITS FALSE NEIGHBOUR: 'it returns false'. Refute it at one input. -/
def padApartWrong : ChangeSpec := { name := "padApart", fn := fun _ => fun
  | [d1, d2, d3] => { results := [.lit (.bool false)], args := [d1, d2, d3] }
  | _ => none }
def PadApartWrongFalsely : Prop := padApartRow.holds Try.pinned (OpenSpec.ofChange padApartWrong)

/-- 'cribblelaw04.CountBits': WHATEVER THE INPUT: true; the input reads as it did. -/
def countBitsSpec : ChangeSpec := { name := "countBits", fn := fun _ => fun
  | [d1, d2, d3] => { results := [.lit (.bool true)], args := [d1, d2, d3] }
  | _ => none }
def countBitsRow : OpenClaim := { program := "ytljchidgchjoeaa", sum := "967fda84280db54f9d70a8e1d1a5b4787159b3daf5d4a082f17eaa50b70ecd0d", func := "cribble/cribblelaw04.CountBits", spec := "countBits", inPlace := ["math/bits.Add64"], named := ["math/bits.divideError", "math/bits.overflowError"], apart := false }
def CountBitsSaid : Prop := countBitsRow.holds Try.pinned (OpenSpec.ofChange countBitsSpec)

/-- ITS FALSE NEIGHBOUR: 'it returns false'. Refute it at one input. -/
def countBitsWrong : ChangeSpec := { name := "countBits", fn := fun _ => fun
  | [d1, d2, d3] => { results := [.lit (.bool false)], args := [d1, d2, d3] }
  | _ => none }
def CountBitsWrongFalsely : Prop := countBitsRow.holds Try.pinned (OpenSpec.ofChange countBitsWrong)

/-- 'cribblelaw10.PadSplits': WHATEVER THE INPUT: true; the input reads as it did. -/
def padSplitsSpec : ChangeSpec := { name := "padSplits", fn := fun _ => fun
  | [d1, d2] => { results := [.lit (.bool true)], args := [d1, d2] }
  | _ => none }
def padSplitsRow : OpenClaim := { program := "ytljchidgchjoeaa", sum := "967fda84280db54f9d70a8e1d1a5b4787159b3daf5d4a082f17eaa50b70ecd0d", func := "cribble/cribblelaw10.PadSplits", spec := "padSplits", unfollowed := true, recurses := true, named := ["math/bits.divideError", "math/bits.overflowError"], apart := false }
def PadSplitsSaid : Prop := padSplitsRow.holds Try.pinned (OpenSpec.ofChange padSplitsSpec)

/-- ITS FALSE NEIGHBOUR: 'it returns false'. Refute it at one input. -/
def padSplitsWrong : ChangeSpec := { name := "padSplits", fn := fun _ => fun
  | [d1, d2] => { results := [.lit (.bool false)], args := [d1, d2] }
  | _ => none }
def PadSplitsWrongFalsely : Prop := padSplitsRow.holds Try.pinned (OpenSpec.ofChange padSplitsWrong)

/- THE SECOND FORM. 'bulk': how many values and letters a reading holds, each counted each time it is reached (what is shared counts as often as it is met; a slice's spare places count too). A statement '..UptoSaid' is the law's where the arguments, and the package variables that the reading takes, are together of bulk at most 1048576: NARROWER than '..Said'. Prove '..Said' where nothing that the law and all that it calls make is longer than what came in: it says more and counts as full. Else prove '..UptoSaid'. A law counts once. -/
mutual
def uptoBulk {H : Type} : DataW H → Nat
  | .lit (.string bytes) => bytes.length + 1
  | .lit _ => 1
  | .nil => 1
  | .ptr d => uptoBulk d + 1
  | .slice elems spare => uptoBulkAll elems + uptoBulkAll spare + 1
  | .agg parts => uptoBulkAll parts + 1
  | .iface _ d => uptoBulk d + 1
  | .map entries => uptoBulkEntries entries + 1
  | .held _ => 1
def uptoBulkAll {H : Type} : List (DataW H) → Nat
  | [] => 0
  | d :: r => uptoBulk d + uptoBulkAll r
def uptoBulkEntries {H : Type} : List (Lit × DataW H) → Nat
  | [] => 0
  | x :: r => uptoBulkEntry x + uptoBulkEntries r
def uptoBulkEntry {H : Type} : Lit × DataW H → Nat
  | (.string bytes, d) => bytes.length + uptoBulk d + 1
  | (_, d) => uptoBulk d + 1
 end
def uptoSmall : (H : Type) → List (DataW H) → Bool := fun _ ds => decide (uptoBulkAll ds ≤ 1048576)
def OpenSpec.upto (s : _root_.Go.ChangeSpec) : _root_.Go.OpenSpec := { _root_.Go.OpenSpec.ofChange s with cond := some uptoSmall }

/-- 'cribblelaw04.CountAdds', WHERE WHAT IT READS IS OF BULK AT MOST 1048576: true; the input reads as it did. -/
def countAddsUptoRow : OpenClaim := { program := "ytljchidgchjoeaa", sum := "967fda84280db54f9d70a8e1d1a5b4787159b3daf5d4a082f17eaa50b70ecd0d", func := "cribble/cribblelaw04.CountAdds", spec := "countAdds", inPlace := ["math/bits.Add64", "math/bits.Sub64"], apart := false, narrowed := true }
def CountAddsUptoSaid : Prop := countAddsUptoRow.holds Try.pinned (OpenSpec.upto countAddsSpec)

/-- 'cribblelaw04.CountOrder', WHERE WHAT IT READS IS OF BULK AT MOST 1048576: true; the input reads as it did. -/
def countOrderUptoRow : OpenClaim := { program := "ytljchidgchjoeaa", sum := "967fda84280db54f9d70a8e1d1a5b4787159b3daf5d4a082f17eaa50b70ecd0d", func := "cribble/cribblelaw04.CountOrder", spec := "countOrder", inPlace := ["math/bits.Add64"], apart := false, narrowed := true }
def CountOrderUptoSaid : Prop := countOrderUptoRow.holds Try.pinned (OpenSpec.upto countOrderSpec)

/-- 'cribblelaw04.CountPuts', WHERE WHAT IT READS IS OF BULK AT MOST 1048576: true; the input reads as it did. -/
def countPutsUptoRow : OpenClaim := { program := "ytljchidgchjoeaa", sum := "967fda84280db54f9d70a8e1d1a5b4787159b3daf5d4a082f17eaa50b70ecd0d", func := "cribble/cribblelaw04.CountPuts", spec := "countPuts", inPlace := ["math/bits.Add64"], unfollowed := true, recurses := true, apart := false, narrowed := true }
def CountPutsUptoSaid : Prop := countPutsUptoRow.holds Try.pinned (OpenSpec.upto countPutsSpec)

/-- 'cribblelaw04.CountMods', WHERE WHAT IT READS IS OF BULK AT MOST 1048576: true; the input reads as it did. -/
def countModsUptoRow : OpenClaim := { program := "ytljchidgchjoeaa", sum := "967fda84280db54f9d70a8e1d1a5b4787159b3daf5d4a082f17eaa50b70ecd0d", func := "cribble/cribblelaw04.CountMods", spec := "countMods", inPlace := ["math/bits.Add64"], named := ["math/bits.divideError", "math/bits.overflowError"], apart := false, narrowed := true }
def CountModsUptoSaid : Prop := countModsUptoRow.holds Try.pinned (OpenSpec.upto countModsSpec)

/-- 'cribblelaw10.PadOf', WHERE WHAT IT READS IS OF BULK AT MOST 1048576: true; the input reads as it did. -/
def padOfUptoRow : OpenClaim := { program := "ytljchidgchjoeaa", sum := "967fda84280db54f9d70a8e1d1a5b4787159b3daf5d4a082f17eaa50b70ecd0d", func := "cribble/cribblelaw10.PadOf", spec := "padOf", named := ["math/bits.divideError", "math/bits.overflowError"], apart := false, narrowed := true }
def PadOfUptoSaid : Prop := padOfUptoRow.holds Try.pinned (OpenSpec.upto padOfSpec)

/-- 'cribblelaw10.PadWhole', WHERE WHAT IT READS IS OF BULK AT MOST 1048576: true; the input reads as it did. -/
def padWholeUptoRow : OpenClaim := { program := "ytljchidgchjoeaa", sum := "967fda84280db54f9d70a8e1d1a5b4787159b3daf5d4a082f17eaa50b70ecd0d", func := "cribble/cribblelaw10.PadWhole", spec := "padWhole", named := ["math/bits.divideError", "math/bits.overflowError"], apart := false, narrowed := true }
def PadWholeUptoSaid : Prop := padWholeUptoRow.holds Try.pinned (OpenSpec.upto padWholeSpec)

/-- 'cribblelaw10.PadApart', WHERE WHAT IT READS IS OF BULK AT MOST 1048576: true; the input reads as it did. -/
def padApartUptoRow : OpenClaim := { program := "ytljchidgchjoeaa", sum := "967fda84280db54f9d70a8e1d1a5b4787159b3daf5d4a082f17eaa50b70ecd0d", func := "cribble/cribblelaw10.PadApart", spec := "padApart", named := ["math/bits.divideError", "math/bits.overflowError"], apart := false, narrowed := true }
def PadApartUptoSaid : Prop := padApartUptoRow.holds Try.pinned (OpenSpec.upto padApartSpec)

/-- 'cribblelaw04.CountBits', WHERE WHAT IT READS IS OF BULK AT MOST 1048576: true; the input reads as it did. -/
def countBitsUptoRow : OpenClaim := { program := "ytljchidgchjoeaa", sum := "967fda84280db54f9d70a8e1d1a5b4787159b3daf5d4a082f17eaa50b70ecd0d", func := "cribble/cribblelaw04.CountBits", spec := "countBits", inPlace := ["math/bits.Add64"], named := ["math/bits.divideError", "math/bits.overflowError"], apart := false, narrowed := true }
def CountBitsUptoSaid : Prop := countBitsUptoRow.holds Try.pinned (OpenSpec.upto countBitsSpec)

/-- 'cribblelaw10.PadSplits', WHERE WHAT IT READS IS OF BULK AT MOST 1048576: true; the input reads as it did. -/
def padSplitsUptoRow : OpenClaim := { program := "ytljchidgchjoeaa", sum := "967fda84280db54f9d70a8e1d1a5b4787159b3daf5d4a082f17eaa50b70ecd0d", func := "cribble/cribblelaw10.PadSplits", spec := "padSplits", unfollowed := true, recurses := true, named := ["math/bits.divideError", "math/bits.overflowError"], apart := false, narrowed := true }
def PadSplitsUptoSaid : Prop := padSplitsUptoRow.holds Try.pinned (OpenSpec.upto padSplitsSpec)

end Rows
end Go.Proofs.Ytljchidgchjoeaa

/-
  DERIVED. GIVEN WITH THE SEED: THE CARDS: each row of YtbgneeokjhepcaaGreatDoorRows.lean that lists a variable, with what it lists TIED to the program's text (the seventh form; the later family's looks); each row that meets fmt, with fmt's text TOLD by the authors' own Lean function (tested against real Go, not proved from fmt's source: count such statements apart). THE CARD IS WHAT COUNTS. Prove the row's statement (the work); the ties are given (YtbgneeokjhepcaaGreatDoorTie.lean); close each card by the builder's one call (the guide's Derived/Test/ToyasCard.lean, 'card_holds'). Laid BY PROGRAM, IN A SANDBOX (cutbox-door.mjs). By AI agents, Wed Nov 11 2026. No macro, syntax, notation, axiom, sorry.
-/
import Derived.Test.YtbgneeokjhepcaaGreatDoorRows
import GoSem.ClaimSeven
namespace Go.Proofs.YtbgneeokjhepcaaGreatDoor
namespace Rows

/-- THE TIED CARD OF 'cribblelaw21.UnsnapBytes'. -/
def unsnapBytesCard : Claim7 := { stood := { row := unsnapBytesRow, standIns := [], harness := (true, "527dfa3ff3b2c923ed61f003b45924151ca1bb352657ebc770486a11efbf9b2f"), looks := true }, kinds := [], alts := [], laidByText := true, laidKinds := [.data, .data, .sentinel, .pinned], laidTests := true, laidLooks := .later }
def UnsnapBytesCardSaid : Prop := Claim7.holds Tryz.pinned (.plain (OpenSpec.ofChange unsnapBytesSpec)) unsnapBytesCard

/-- THE TIED CARD OF 'cribblelaw21.UnsnapBlocks'. -/
def unsnapBlocksCard : Claim7 := { stood := { row := unsnapBlocksRow, standIns := [], harness := (true, "527dfa3ff3b2c923ed61f003b45924151ca1bb352657ebc770486a11efbf9b2f"), looks := true }, kinds := [], alts := [], laidByText := true, laidKinds := [.data, .data, .sentinel, .pinned], laidTests := true, laidLooks := .later }
def UnsnapBlocksCardSaid : Prop := Claim7.holds Tryz.pinned (.plain (OpenSpec.ofChange unsnapBlocksSpec)) unsnapBlocksCard

/-- THE SECOND FORM's CARD OF 'cribblelaw21.UnsnapBytes'. -/
def unsnapBytesUptoCard : Claim7 := { stood := { row := unsnapBytesUptoRow, standIns := [], harness := (true, "527dfa3ff3b2c923ed61f003b45924151ca1bb352657ebc770486a11efbf9b2f"), looks := true }, kinds := [], alts := [], laidByText := true, laidKinds := [.data, .data, .sentinel, .pinned], laidTests := true, laidLooks := .later }
def UnsnapBytesUptoCardSaid : Prop := Claim7.holds Tryz.pinned (.plain (OpenSpec.upto unsnapBytesSpec)) unsnapBytesUptoCard

/-- THE SECOND FORM's CARD OF 'cribblelaw21.UnsnapBlocks'. -/
def unsnapBlocksUptoCard : Claim7 := { stood := { row := unsnapBlocksUptoRow, standIns := [], harness := (true, "527dfa3ff3b2c923ed61f003b45924151ca1bb352657ebc770486a11efbf9b2f"), looks := true }, kinds := [], alts := [], laidByText := true, laidKinds := [.data, .data, .sentinel, .pinned], laidTests := true, laidLooks := .later }
def UnsnapBlocksUptoCardSaid : Prop := Claim7.holds Tryz.pinned (.plain (OpenSpec.upto unsnapBlocksSpec)) unsnapBlocksUptoCard
end Rows
end Go.Proofs.YtbgneeokjhepcaaGreatDoor

/-
  DERIVED. GIVEN WITH THE SEED: THE CARDS: each row of YtnghpimihklmdaaDoorRows.lean that lists a variable, with what it lists TIED to the program's text (the seventh form; the later family's looks); each row that meets fmt, with fmt's text TOLD by the authors' own Lean function (tested against real Go, not proved from fmt's source: count such statements apart). THE CARD IS WHAT COUNTS. Prove the row's statement (the work); the ties are given (YtnghpimihklmdaaDoorTie.lean); close each card by the builder's one call (the guide's Derived/Test/ToyasCard.lean, 'card_holds'). Laid BY PROGRAM, IN A SANDBOX (cutbox-door.mjs). By AI agents, Wed Nov 11 2026. No macro, syntax, notation, axiom, sorry.
-/
import Derived.Test.YtnghpimihklmdaaDoorRows
import GoSem.ClaimSeven
namespace Go.Proofs.YtnghpimihklmdaaDoor
namespace Rows

/-- THE TIED CARD OF 'cribblelaw20.SnapSizes'. -/
def snapSizesCard : Claim7 := { stood := { row := snapSizesRow, standIns := [], harness := (true, "6d370f9ea20f12c07f29b725af7d4975be386c755b041f37ffb46c6f62d6a4f2"), looks := false }, kinds := [], alts := [], goes := true, laidByText := true, laidKinds := [.data, .data, .pinned], laidTests := true, laidLooks := .later }
def SnapSizesCardSaid : Prop := Claim7.holds Tryd.pinned (.plain (OpenSpec.ofChange snapSizesSpec)) snapSizesCard

/-- THE TIED CARD OF 'cribblelaw15.SpongeNew'. -/
def spongeNewCard : Claim7 := { stood := { row := spongeNewRow, standIns := [], harness := (true, "6d370f9ea20f12c07f29b725af7d4975be386c755b041f37ffb46c6f62d6a4f2"), looks := false }, kinds := [], alts := [], goes := true, laidByText := true, laidKinds := [.data, .data], laidTests := true, laidLooks := .later }
def SpongeNewCardSaid : Prop := Claim7.holds Tryd.pinned (.plain (OpenSpec.ofChange spongeNewSpec)) spongeNewCard

/-- THE TIED CARD OF 'cribblelaw15.SpongePieces'. -/
def spongePiecesCard : Claim7 := { stood := { row := spongePiecesRow, standIns := [], harness := (true, "6d370f9ea20f12c07f29b725af7d4975be386c755b041f37ffb46c6f62d6a4f2"), looks := false }, kinds := [], alts := [], goes := true, laidByText := true, laidKinds := [.data, .data], laidTests := true, laidLooks := .later }
def SpongePiecesCardSaid : Prop := Claim7.holds Tryd.pinned (.plain (OpenSpec.ofChange spongePiecesSpec)) spongePiecesCard

/-- THE TIED CARD OF 'cribblelaw15.SpongeActs'. -/
def spongeActsCard : Claim7 := { stood := { row := spongeActsRow, standIns := [], harness := (true, "6d370f9ea20f12c07f29b725af7d4975be386c755b041f37ffb46c6f62d6a4f2"), looks := false }, kinds := [], alts := [], goes := true, laidByText := true, laidKinds := [.data, .data], laidTests := true, laidLooks := .later }
def SpongeActsCardSaid : Prop := Claim7.holds Tryd.pinned (.plain (OpenSpec.ofChange spongeActsSpec)) spongeActsCard

/-- THE TIED CARD OF 'cribblelaw15.SpongeResumes'. -/
def spongeResumesCard : Claim7 := { stood := { row := spongeResumesRow, standIns := [], harness := (true, "6d370f9ea20f12c07f29b725af7d4975be386c755b041f37ffb46c6f62d6a4f2"), looks := false }, kinds := [], alts := [], goes := true, laidByText := true, laidKinds := [.data, .data], laidTests := true, laidLooks := .later }
def SpongeResumesCardSaid : Prop := Claim7.holds Tryd.pinned (.plain (OpenSpec.ofChange spongeResumesSpec)) spongeResumesCard

/-- THE TIED CARD OF 'cribblelaw20.SnapSponges'. -/
def snapSpongesCard : Claim7 := { stood := { row := snapSpongesRow, standIns := [], harness := (true, "6d370f9ea20f12c07f29b725af7d4975be386c755b041f37ffb46c6f62d6a4f2"), looks := false }, kinds := [], alts := [], goes := true, laidByText := true, laidKinds := [.data, .data, .sentinel, .pinned], laidTests := true, laidLooks := .later }
def SnapSpongesCardSaid : Prop := Claim7.holds Tryd.pinned (.plain (OpenSpec.ofChange snapSpongesSpec)) snapSpongesCard

/-- THE TIED CARD OF 'cribblelaw20.SnapBlocks'. -/
def snapBlocksCard : Claim7 := { stood := { row := snapBlocksRow, standIns := [], harness := (true, "6d370f9ea20f12c07f29b725af7d4975be386c755b041f37ffb46c6f62d6a4f2"), looks := false }, kinds := [], alts := [], goes := true, laidByText := true, laidKinds := [.data, .data, .sentinel, .pinned], laidTests := true, laidLooks := .later }
def SnapBlocksCardSaid : Prop := Claim7.holds Tryd.pinned (.plain (OpenSpec.ofChange snapBlocksSpec)) snapBlocksCard

/-- THE TIED CARD OF 'cribblelaw20.SnapFlags'. -/
def snapFlagsCard : Claim7 := { stood := { row := snapFlagsRow, standIns := [], harness := (true, "6d370f9ea20f12c07f29b725af7d4975be386c755b041f37ffb46c6f62d6a4f2"), looks := false }, kinds := [], alts := [], goes := true, laidByText := true, laidKinds := [.data, .data, .sentinel, .pinned], laidTests := true, laidLooks := .later }
def SnapFlagsCardSaid : Prop := Claim7.holds Tryd.pinned (.plain (OpenSpec.ofChange snapFlagsSpec)) snapFlagsCard

/-- THE TIED CARD OF 'cribblelaw20.SnapApart'. -/
def snapApartCard : Claim7 := { stood := { row := snapApartRow, standIns := [], harness := (true, "6d370f9ea20f12c07f29b725af7d4975be386c755b041f37ffb46c6f62d6a4f2"), looks := false }, kinds := [], alts := [], goes := true, laidByText := true, laidKinds := [.data, .data, .sentinel, .pinned], laidTests := true, laidLooks := .later }
def SnapApartCardSaid : Prop := Claim7.holds Tryd.pinned (.plain (OpenSpec.ofChange snapApartSpec)) snapApartCard

/-- THE SECOND FORM's CARD OF 'cribblelaw20.SnapSizes'. -/
def snapSizesUptoCard : Claim7 := { stood := { row := snapSizesUptoRow, standIns := [], harness := (true, "6d370f9ea20f12c07f29b725af7d4975be386c755b041f37ffb46c6f62d6a4f2"), looks := false }, kinds := [], alts := [], goes := true, laidByText := true, laidKinds := [.data, .data, .pinned], laidTests := true, laidLooks := .later }
def SnapSizesUptoCardSaid : Prop := Claim7.holds Tryd.pinned (.plain (OpenSpec.upto snapSizesSpec)) snapSizesUptoCard

/-- THE SECOND FORM's CARD OF 'cribblelaw15.SpongeNew'. -/
def spongeNewUptoCard : Claim7 := { stood := { row := spongeNewUptoRow, standIns := [], harness := (true, "6d370f9ea20f12c07f29b725af7d4975be386c755b041f37ffb46c6f62d6a4f2"), looks := false }, kinds := [], alts := [], goes := true, laidByText := true, laidKinds := [.data, .data], laidTests := true, laidLooks := .later }
def SpongeNewUptoCardSaid : Prop := Claim7.holds Tryd.pinned (.plain (OpenSpec.upto spongeNewSpec)) spongeNewUptoCard

/-- THE SECOND FORM's CARD OF 'cribblelaw15.SpongePieces'. -/
def spongePiecesUptoCard : Claim7 := { stood := { row := spongePiecesUptoRow, standIns := [], harness := (true, "6d370f9ea20f12c07f29b725af7d4975be386c755b041f37ffb46c6f62d6a4f2"), looks := false }, kinds := [], alts := [], goes := true, laidByText := true, laidKinds := [.data, .data], laidTests := true, laidLooks := .later }
def SpongePiecesUptoCardSaid : Prop := Claim7.holds Tryd.pinned (.plain (OpenSpec.upto spongePiecesSpec)) spongePiecesUptoCard

/-- THE SECOND FORM's CARD OF 'cribblelaw15.SpongeActs'. -/
def spongeActsUptoCard : Claim7 := { stood := { row := spongeActsUptoRow, standIns := [], harness := (true, "6d370f9ea20f12c07f29b725af7d4975be386c755b041f37ffb46c6f62d6a4f2"), looks := false }, kinds := [], alts := [], goes := true, laidByText := true, laidKinds := [.data, .data], laidTests := true, laidLooks := .later }
def SpongeActsUptoCardSaid : Prop := Claim7.holds Tryd.pinned (.plain (OpenSpec.upto spongeActsSpec)) spongeActsUptoCard

/-- THE SECOND FORM's CARD OF 'cribblelaw15.SpongeResumes'. -/
def spongeResumesUptoCard : Claim7 := { stood := { row := spongeResumesUptoRow, standIns := [], harness := (true, "6d370f9ea20f12c07f29b725af7d4975be386c755b041f37ffb46c6f62d6a4f2"), looks := false }, kinds := [], alts := [], goes := true, laidByText := true, laidKinds := [.data, .data], laidTests := true, laidLooks := .later }
def SpongeResumesUptoCardSaid : Prop := Claim7.holds Tryd.pinned (.plain (OpenSpec.upto spongeResumesSpec)) spongeResumesUptoCard

/-- THE SECOND FORM's CARD OF 'cribblelaw20.SnapSponges'. -/
def snapSpongesUptoCard : Claim7 := { stood := { row := snapSpongesUptoRow, standIns := [], harness := (true, "6d370f9ea20f12c07f29b725af7d4975be386c755b041f37ffb46c6f62d6a4f2"), looks := false }, kinds := [], alts := [], goes := true, laidByText := true, laidKinds := [.data, .data, .sentinel, .pinned], laidTests := true, laidLooks := .later }
def SnapSpongesUptoCardSaid : Prop := Claim7.holds Tryd.pinned (.plain (OpenSpec.upto snapSpongesSpec)) snapSpongesUptoCard

/-- THE SECOND FORM's CARD OF 'cribblelaw20.SnapBlocks'. -/
def snapBlocksUptoCard : Claim7 := { stood := { row := snapBlocksUptoRow, standIns := [], harness := (true, "6d370f9ea20f12c07f29b725af7d4975be386c755b041f37ffb46c6f62d6a4f2"), looks := false }, kinds := [], alts := [], goes := true, laidByText := true, laidKinds := [.data, .data, .sentinel, .pinned], laidTests := true, laidLooks := .later }
def SnapBlocksUptoCardSaid : Prop := Claim7.holds Tryd.pinned (.plain (OpenSpec.upto snapBlocksSpec)) snapBlocksUptoCard

/-- THE SECOND FORM's CARD OF 'cribblelaw20.SnapFlags'. -/
def snapFlagsUptoCard : Claim7 := { stood := { row := snapFlagsUptoRow, standIns := [], harness := (true, "6d370f9ea20f12c07f29b725af7d4975be386c755b041f37ffb46c6f62d6a4f2"), looks := false }, kinds := [], alts := [], goes := true, laidByText := true, laidKinds := [.data, .data, .sentinel, .pinned], laidTests := true, laidLooks := .later }
def SnapFlagsUptoCardSaid : Prop := Claim7.holds Tryd.pinned (.plain (OpenSpec.upto snapFlagsSpec)) snapFlagsUptoCard

/-- THE SECOND FORM's CARD OF 'cribblelaw20.SnapApart'. -/
def snapApartUptoCard : Claim7 := { stood := { row := snapApartUptoRow, standIns := [], harness := (true, "6d370f9ea20f12c07f29b725af7d4975be386c755b041f37ffb46c6f62d6a4f2"), looks := false }, kinds := [], alts := [], goes := true, laidByText := true, laidKinds := [.data, .data, .sentinel, .pinned], laidTests := true, laidLooks := .later }
def SnapApartUptoCardSaid : Prop := Claim7.holds Tryd.pinned (.plain (OpenSpec.upto snapApartSpec)) snapApartUptoCard
end Rows
end Go.Proofs.YtnghpimihklmdaaDoor

/-
  DERIVED. GIVEN WITH THE SEED: THE CARDS: each row of YtmiongjabbpmkaaDoorRows.lean that lists a variable, with what it lists TIED to the program's text (the seventh form; the later family's looks); each row that meets fmt, with fmt's text TOLD by the authors' own Lean function (tested against real Go, not proved from fmt's source: count such statements apart). THE CARD IS WHAT COUNTS. Prove the row's statement (the work); the ties are given (YtmiongjabbpmkaaDoorTie.lean); close each card by the builder's one call (the guide's Derived/Test/ToyasCard.lean, 'card_holds'). Laid BY PROGRAM, IN A SANDBOX (cutbox-door.mjs). By AI agents, Wed Nov 11 2026. No macro, syntax, notation, axiom, sorry.
-/
import Derived.Test.YtmiongjabbpmkaaDoorRows
import GoSem.ClaimSeven
namespace Go.Proofs.YtmiongjabbpmkaaDoor
namespace Rows

/-- THE TIED CARD OF 'cribblelaw15.SpongePieces'. -/
def spongePiecesCard : Claim7 := { stood := { row := spongePiecesRow, standIns := [], harness := (true, "3065fce84ecbd7ce69c2fb3523d8692891a459c9df77393c211aa5f7234a43a7"), looks := false }, kinds := [], alts := [], goes := true, laidByText := true, laidKinds := [.data, .data], laidTests := true, laidLooks := .later }
def SpongePiecesCardSaid : Prop := Claim7.holds Tryd.pinned (.plain (OpenSpec.ofChange spongePiecesSpec)) spongePiecesCard

/-- THE TIED CARD OF 'cribblelaw15.SpongeActs'. -/
def spongeActsCard : Claim7 := { stood := { row := spongeActsRow, standIns := [], harness := (true, "3065fce84ecbd7ce69c2fb3523d8692891a459c9df77393c211aa5f7234a43a7"), looks := false }, kinds := [], alts := [], goes := true, laidByText := true, laidKinds := [.data, .data], laidTests := true, laidLooks := .later }
def SpongeActsCardSaid : Prop := Claim7.holds Tryd.pinned (.plain (OpenSpec.ofChange spongeActsSpec)) spongeActsCard

/-- THE TIED CARD OF 'cribblelaw15.SpongeResumes'. -/
def spongeResumesCard : Claim7 := { stood := { row := spongeResumesRow, standIns := [], harness := (true, "3065fce84ecbd7ce69c2fb3523d8692891a459c9df77393c211aa5f7234a43a7"), looks := false }, kinds := [], alts := [], goes := true, laidByText := true, laidKinds := [.data, .data], laidTests := true, laidLooks := .later }
def SpongeResumesCardSaid : Prop := Claim7.holds Tryd.pinned (.plain (OpenSpec.ofChange spongeResumesSpec)) spongeResumesCard

/-- THE TIED CARD OF 'cribblelaw17.CustomSums'. -/
def customSumsCard : Claim7 := { stood := { row := customSumsRow, standIns := [], harness := (true, "3065fce84ecbd7ce69c2fb3523d8692891a459c9df77393c211aa5f7234a43a7"), looks := false }, kinds := [], alts := [], goes := true, laidByText := true, laidKinds := [.data, .data, .data, .data, .pinned], laidTests := true, laidLooks := .later }
def CustomSumsCardSaid : Prop := Claim7.holds Tryd.pinned (.plain (OpenSpec.ofChange customSumsSpec)) customSumsCard

/-- THE SECOND FORM's CARD OF 'cribblelaw15.SpongePieces'. -/
def spongePiecesUptoCard : Claim7 := { stood := { row := spongePiecesUptoRow, standIns := [], harness := (true, "3065fce84ecbd7ce69c2fb3523d8692891a459c9df77393c211aa5f7234a43a7"), looks := false }, kinds := [], alts := [], goes := true, laidByText := true, laidKinds := [.data, .data], laidTests := true, laidLooks := .later }
def SpongePiecesUptoCardSaid : Prop := Claim7.holds Tryd.pinned (.plain (OpenSpec.upto spongePiecesSpec)) spongePiecesUptoCard

/-- THE SECOND FORM's CARD OF 'cribblelaw15.SpongeActs'. -/
def spongeActsUptoCard : Claim7 := { stood := { row := spongeActsUptoRow, standIns := [], harness := (true, "3065fce84ecbd7ce69c2fb3523d8692891a459c9df77393c211aa5f7234a43a7"), looks := false }, kinds := [], alts := [], goes := true, laidByText := true, laidKinds := [.data, .data], laidTests := true, laidLooks := .later }
def SpongeActsUptoCardSaid : Prop := Claim7.holds Tryd.pinned (.plain (OpenSpec.upto spongeActsSpec)) spongeActsUptoCard

/-- THE SECOND FORM's CARD OF 'cribblelaw15.SpongeResumes'. -/
def spongeResumesUptoCard : Claim7 := { stood := { row := spongeResumesUptoRow, standIns := [], harness := (true, "3065fce84ecbd7ce69c2fb3523d8692891a459c9df77393c211aa5f7234a43a7"), looks := false }, kinds := [], alts := [], goes := true, laidByText := true, laidKinds := [.data, .data], laidTests := true, laidLooks := .later }
def SpongeResumesUptoCardSaid : Prop := Claim7.holds Tryd.pinned (.plain (OpenSpec.upto spongeResumesSpec)) spongeResumesUptoCard

/-- THE SECOND FORM's CARD OF 'cribblelaw17.CustomSums'. -/
def customSumsUptoCard : Claim7 := { stood := { row := customSumsUptoRow, standIns := [], harness := (true, "3065fce84ecbd7ce69c2fb3523d8692891a459c9df77393c211aa5f7234a43a7"), looks := false }, kinds := [], alts := [], goes := true, laidByText := true, laidKinds := [.data, .data, .data, .data, .pinned], laidTests := true, laidLooks := .later }
def CustomSumsUptoCardSaid : Prop := Claim7.holds Tryd.pinned (.plain (OpenSpec.upto customSumsSpec)) customSumsUptoCard
end Rows
end Go.Proofs.YtmiongjabbpmkaaDoor

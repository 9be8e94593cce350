/-
  DERIVED. GIVEN WITH THE SEED: THE CARDS: each row of YtbgneeokjhepcaaDoorRows.lean that lists a variable, with what it lists TIED to the program's text (the seventh form; the later family's looks); each row that meets fmt, with fmt's text TOLD by the authors' own Lean function (tested against real Go, not proved from fmt's source: count such statements apart). THE CARD IS WHAT COUNTS. Prove the row's statement (the work); the ties are given (YtbgneeokjhepcaaDoorTie.lean); close each card by the builder's one call (the guide's Derived/Test/ToyasCard.lean, 'card_holds'). Laid BY PROGRAM, IN A SANDBOX (cutbox-door.mjs). By AI agents, Wed Nov 11 2026. No macro, syntax, notation, axiom, sorry.
-/
import Derived.Test.YtbgneeokjhepcaaDoorRows
import GoSem.ClaimSeven
namespace Go.Proofs.YtbgneeokjhepcaaDoor
namespace Rows

/-- THE TIED CARD OF 'cribblelaw21.UnsnapOne'. -/
def unsnapOneCard : Claim7 := { stood := { row := unsnapOneRow, standIns := [], harness := (true, "12d70d838f085b9b4aa9a1759468e55dd8d5aed70b152cad45b43cbd6d95d89f"), looks := true }, kinds := [], alts := [], laidByText := true, laidKinds := [.data, .data, .sentinel, .pinned], laidTests := true, laidLooks := .later }
def UnsnapOneCardSaid : Prop := Claim7.holds Tryd.pinned (.plain (OpenSpec.ofChange unsnapOneSpec)) unsnapOneCard

/-- THE TIED CARD OF 'cribblelaw21.UnsnapSponges'. -/
def unsnapSpongesCard : Claim7 := { stood := { row := unsnapSpongesRow, standIns := [], harness := (true, "12d70d838f085b9b4aa9a1759468e55dd8d5aed70b152cad45b43cbd6d95d89f"), looks := true }, kinds := [], alts := [], laidByText := true, laidKinds := [.data, .data, .sentinel, .pinned], laidTests := true, laidLooks := .later }
def UnsnapSpongesCardSaid : Prop := Claim7.holds Tryd.pinned (.plain (OpenSpec.ofChange unsnapSpongesSpec)) unsnapSpongesCard

/-- THE TIED CARD OF 'cribblelaw21.UnsnapDead'. -/
def unsnapDeadCard : Claim7 := { stood := { row := unsnapDeadRow, standIns := [], harness := (true, "12d70d838f085b9b4aa9a1759468e55dd8d5aed70b152cad45b43cbd6d95d89f"), looks := true }, kinds := [], alts := [], laidByText := true, laidKinds := [.data, .data, .sentinel, .pinned], laidTests := true, laidLooks := .later }
def UnsnapDeadCardSaid : Prop := Claim7.holds Tryd.pinned (.plain (OpenSpec.ofChange unsnapDeadSpec)) unsnapDeadCard

/-- THE SECOND FORM's CARD OF 'cribblelaw21.UnsnapOne'. -/
def unsnapOneUptoCard : Claim7 := { stood := { row := unsnapOneUptoRow, standIns := [], harness := (true, "12d70d838f085b9b4aa9a1759468e55dd8d5aed70b152cad45b43cbd6d95d89f"), looks := true }, kinds := [], alts := [], laidByText := true, laidKinds := [.data, .data, .sentinel, .pinned], laidTests := true, laidLooks := .later }
def UnsnapOneUptoCardSaid : Prop := Claim7.holds Tryd.pinned (.plain (OpenSpec.upto unsnapOneSpec)) unsnapOneUptoCard

/-- THE SECOND FORM's CARD OF 'cribblelaw21.UnsnapSponges'. -/
def unsnapSpongesUptoCard : Claim7 := { stood := { row := unsnapSpongesUptoRow, standIns := [], harness := (true, "12d70d838f085b9b4aa9a1759468e55dd8d5aed70b152cad45b43cbd6d95d89f"), looks := true }, kinds := [], alts := [], laidByText := true, laidKinds := [.data, .data, .sentinel, .pinned], laidTests := true, laidLooks := .later }
def UnsnapSpongesUptoCardSaid : Prop := Claim7.holds Tryd.pinned (.plain (OpenSpec.upto unsnapSpongesSpec)) unsnapSpongesUptoCard

/-- THE SECOND FORM's CARD OF 'cribblelaw21.UnsnapDead'. -/
def unsnapDeadUptoCard : Claim7 := { stood := { row := unsnapDeadUptoRow, standIns := [], harness := (true, "12d70d838f085b9b4aa9a1759468e55dd8d5aed70b152cad45b43cbd6d95d89f"), looks := true }, kinds := [], alts := [], laidByText := true, laidKinds := [.data, .data, .sentinel, .pinned], laidTests := true, laidLooks := .later }
def UnsnapDeadUptoCardSaid : Prop := Claim7.holds Tryd.pinned (.plain (OpenSpec.upto unsnapDeadSpec)) unsnapDeadUptoCard
end Rows
end Go.Proofs.YtbgneeokjhepcaaDoor

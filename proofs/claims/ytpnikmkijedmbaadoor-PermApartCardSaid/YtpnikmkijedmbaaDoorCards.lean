/-
  DERIVED. GIVEN WITH THE SEED: THE CARDS: each row of YtpnikmkijedmbaaDoorRows.lean that lists a variable, with what it lists TIED to the program's text (the seventh form; the later family's looks); each row that meets fmt, with fmt's text TOLD by the authors' own Lean function (tested against real Go, not proved from fmt's source: count such statements apart). THE CARD IS WHAT COUNTS. Prove the row's statement (the work); the ties are given (YtpnikmkijedmbaaDoorTie.lean); close each card by the builder's one call (the guide's Derived/Test/ToyasCard.lean, 'card_holds'). Laid BY PROGRAM, IN A SANDBOX (cutbox-door.mjs). By AI agents, Wed Nov 11 2026. No macro, syntax, notation, axiom, sorry.
-/
import Derived.Test.YtpnikmkijedmbaaDoorRows
import GoSem.ClaimSeven
namespace Go.Proofs.YtpnikmkijedmbaaDoor
namespace Rows

/-- THE TIED CARD OF 'cribblelaw12.StepOffsets'. -/
def stepOffsetsCard : Claim7 := { stood := { row := stepOffsetsRow, standIns := [], harness := (true, "6e31e28101501c86e0825771b57d1e57372664e2ad612ff584a29865f5dc439b"), looks := false }, kinds := [], alts := [], laidByText := true, laidKinds := [.data, .data], laidTests := true, laidLooks := .later }
def StepOffsetsCardSaid : Prop := Claim7.holds Tryd.pinned (.plain (OpenSpec.ofChange stepOffsetsSpec)) stepOffsetsCard

/-- THE TIED CARD OF 'cribblelaw12.StepMoves'. -/
def stepMovesCard : Claim7 := { stood := { row := stepMovesRow, standIns := [], harness := (true, "6e31e28101501c86e0825771b57d1e57372664e2ad612ff584a29865f5dc439b"), looks := false }, kinds := [], alts := [], laidByText := true, laidKinds := [.data, .data], laidTests := true, laidLooks := .later }
def StepMovesCardSaid : Prop := Claim7.holds Tryd.pinned (.plain (OpenSpec.ofChange stepMovesSpec)) stepMovesCard

/-- THE TIED CARD OF 'cribblelaw12.StepRows'. -/
def stepRowsCard : Claim7 := { stood := { row := stepRowsRow, standIns := [], harness := (true, "6e31e28101501c86e0825771b57d1e57372664e2ad612ff584a29865f5dc439b"), looks := false }, kinds := [], alts := [], laidByText := true, laidKinds := [.data, .data], laidTests := true, laidLooks := .later }
def StepRowsCardSaid : Prop := Claim7.holds Tryd.pinned (.plain (OpenSpec.ofChange stepRowsSpec)) stepRowsCard

/-- THE TIED CARD OF 'cribblelaw12.StepChi'. -/
def stepChiCard : Claim7 := { stood := { row := stepChiRow, standIns := [], harness := (true, "6e31e28101501c86e0825771b57d1e57372664e2ad612ff584a29865f5dc439b"), looks := false }, kinds := [], alts := [], laidByText := true, laidKinds := [.data, .data], laidTests := true, laidLooks := .later }
def StepChiCardSaid : Prop := Claim7.holds Tryd.pinned (.plain (OpenSpec.ofChange stepChiSpec)) stepChiCard

/-- THE TIED CARD OF 'cribblelaw12.StepLinear'. -/
def stepLinearCard : Claim7 := { stood := { row := stepLinearRow, standIns := [], harness := (true, "6e31e28101501c86e0825771b57d1e57372664e2ad612ff584a29865f5dc439b"), looks := false }, kinds := [], alts := [], laidByText := true, laidKinds := [.data, .data], laidTests := true, laidLooks := .later }
def StepLinearCardSaid : Prop := Claim7.holds Tryd.pinned (.plain (OpenSpec.ofChange stepLinearSpec)) stepLinearCard

/-- THE TIED CARD OF 'cribblelaw13.PermRounds'. -/
def permRoundsCard : Claim7 := { stood := { row := permRoundsRow, standIns := [], harness := (true, "6e31e28101501c86e0825771b57d1e57372664e2ad612ff584a29865f5dc439b"), looks := false }, kinds := [], alts := [], laidByText := true, laidKinds := [.data, .data], laidTests := true, laidLooks := .later }
def PermRoundsCardSaid : Prop := Claim7.holds Tryd.pinned (.plain (OpenSpec.ofChange permRoundsSpec)) permRoundsCard

/-- THE TIED CARD OF 'cribblelaw13.PermF'. -/
def permFCard : Claim7 := { stood := { row := permFRow, standIns := [], harness := (true, "6e31e28101501c86e0825771b57d1e57372664e2ad612ff584a29865f5dc439b"), looks := false }, kinds := [], alts := [], laidByText := true, laidKinds := [.data, .data], laidTests := true, laidLooks := .later }
def PermFCardSaid : Prop := Claim7.holds Tryd.pinned (.plain (OpenSpec.ofChange permFSpec)) permFCard

/-- THE TIED CARD OF 'cribblelaw13.PermPart'. -/
def permPartCard : Claim7 := { stood := { row := permPartRow, standIns := [], harness := (true, "6e31e28101501c86e0825771b57d1e57372664e2ad612ff584a29865f5dc439b"), looks := false }, kinds := [], alts := [], laidByText := true, laidKinds := [.data, .data], laidTests := true, laidLooks := .later }
def PermPartCardSaid : Prop := Claim7.holds Tryd.pinned (.plain (OpenSpec.ofChange permPartSpec)) permPartCard

/-- THE TIED CARD OF 'cribblelaw13.PermApart'. -/
def permApartCard : Claim7 := { stood := { row := permApartRow, standIns := [], harness := (true, "6e31e28101501c86e0825771b57d1e57372664e2ad612ff584a29865f5dc439b"), looks := false }, kinds := [], alts := [], laidByText := true, laidKinds := [.data, .data], laidTests := true, laidLooks := .later }
def PermApartCardSaid : Prop := Claim7.holds Tryd.pinned (.plain (OpenSpec.ofChange permApartSpec)) permApartCard

/-- THE TIED CARD OF 'cribblelaw13.PermBack'. -/
def permBackCard : Claim7 := { stood := { row := permBackRow, standIns := [], harness := (true, "6e31e28101501c86e0825771b57d1e57372664e2ad612ff584a29865f5dc439b"), looks := false }, kinds := [], alts := [], laidByText := true, laidKinds := [.data, .data], laidTests := true, laidLooks := .later }
def PermBackCardSaid : Prop := Claim7.holds Tryd.pinned (.plain (OpenSpec.ofChange permBackSpec)) permBackCard

/-- THE SECOND FORM's CARD OF 'cribblelaw12.StepOffsets'. -/
def stepOffsetsUptoCard : Claim7 := { stood := { row := stepOffsetsUptoRow, standIns := [], harness := (true, "6e31e28101501c86e0825771b57d1e57372664e2ad612ff584a29865f5dc439b"), looks := false }, kinds := [], alts := [], laidByText := true, laidKinds := [.data, .data], laidTests := true, laidLooks := .later }
def StepOffsetsUptoCardSaid : Prop := Claim7.holds Tryd.pinned (.plain (OpenSpec.upto stepOffsetsSpec)) stepOffsetsUptoCard

/-- THE SECOND FORM's CARD OF 'cribblelaw12.StepMoves'. -/
def stepMovesUptoCard : Claim7 := { stood := { row := stepMovesUptoRow, standIns := [], harness := (true, "6e31e28101501c86e0825771b57d1e57372664e2ad612ff584a29865f5dc439b"), looks := false }, kinds := [], alts := [], laidByText := true, laidKinds := [.data, .data], laidTests := true, laidLooks := .later }
def StepMovesUptoCardSaid : Prop := Claim7.holds Tryd.pinned (.plain (OpenSpec.upto stepMovesSpec)) stepMovesUptoCard

/-- THE SECOND FORM's CARD OF 'cribblelaw12.StepRows'. -/
def stepRowsUptoCard : Claim7 := { stood := { row := stepRowsUptoRow, standIns := [], harness := (true, "6e31e28101501c86e0825771b57d1e57372664e2ad612ff584a29865f5dc439b"), looks := false }, kinds := [], alts := [], laidByText := true, laidKinds := [.data, .data], laidTests := true, laidLooks := .later }
def StepRowsUptoCardSaid : Prop := Claim7.holds Tryd.pinned (.plain (OpenSpec.upto stepRowsSpec)) stepRowsUptoCard

/-- THE SECOND FORM's CARD OF 'cribblelaw12.StepChi'. -/
def stepChiUptoCard : Claim7 := { stood := { row := stepChiUptoRow, standIns := [], harness := (true, "6e31e28101501c86e0825771b57d1e57372664e2ad612ff584a29865f5dc439b"), looks := false }, kinds := [], alts := [], laidByText := true, laidKinds := [.data, .data], laidTests := true, laidLooks := .later }
def StepChiUptoCardSaid : Prop := Claim7.holds Tryd.pinned (.plain (OpenSpec.upto stepChiSpec)) stepChiUptoCard

/-- THE SECOND FORM's CARD OF 'cribblelaw12.StepLinear'. -/
def stepLinearUptoCard : Claim7 := { stood := { row := stepLinearUptoRow, standIns := [], harness := (true, "6e31e28101501c86e0825771b57d1e57372664e2ad612ff584a29865f5dc439b"), looks := false }, kinds := [], alts := [], laidByText := true, laidKinds := [.data, .data], laidTests := true, laidLooks := .later }
def StepLinearUptoCardSaid : Prop := Claim7.holds Tryd.pinned (.plain (OpenSpec.upto stepLinearSpec)) stepLinearUptoCard

/-- THE SECOND FORM's CARD OF 'cribblelaw13.PermRounds'. -/
def permRoundsUptoCard : Claim7 := { stood := { row := permRoundsUptoRow, standIns := [], harness := (true, "6e31e28101501c86e0825771b57d1e57372664e2ad612ff584a29865f5dc439b"), looks := false }, kinds := [], alts := [], laidByText := true, laidKinds := [.data, .data], laidTests := true, laidLooks := .later }
def PermRoundsUptoCardSaid : Prop := Claim7.holds Tryd.pinned (.plain (OpenSpec.upto permRoundsSpec)) permRoundsUptoCard

/-- THE SECOND FORM's CARD OF 'cribblelaw13.PermF'. -/
def permFUptoCard : Claim7 := { stood := { row := permFUptoRow, standIns := [], harness := (true, "6e31e28101501c86e0825771b57d1e57372664e2ad612ff584a29865f5dc439b"), looks := false }, kinds := [], alts := [], laidByText := true, laidKinds := [.data, .data], laidTests := true, laidLooks := .later }
def PermFUptoCardSaid : Prop := Claim7.holds Tryd.pinned (.plain (OpenSpec.upto permFSpec)) permFUptoCard

/-- THE SECOND FORM's CARD OF 'cribblelaw13.PermPart'. -/
def permPartUptoCard : Claim7 := { stood := { row := permPartUptoRow, standIns := [], harness := (true, "6e31e28101501c86e0825771b57d1e57372664e2ad612ff584a29865f5dc439b"), looks := false }, kinds := [], alts := [], laidByText := true, laidKinds := [.data, .data], laidTests := true, laidLooks := .later }
def PermPartUptoCardSaid : Prop := Claim7.holds Tryd.pinned (.plain (OpenSpec.upto permPartSpec)) permPartUptoCard

/-- THE SECOND FORM's CARD OF 'cribblelaw13.PermApart'. -/
def permApartUptoCard : Claim7 := { stood := { row := permApartUptoRow, standIns := [], harness := (true, "6e31e28101501c86e0825771b57d1e57372664e2ad612ff584a29865f5dc439b"), looks := false }, kinds := [], alts := [], laidByText := true, laidKinds := [.data, .data], laidTests := true, laidLooks := .later }
def PermApartUptoCardSaid : Prop := Claim7.holds Tryd.pinned (.plain (OpenSpec.upto permApartSpec)) permApartUptoCard

/-- THE SECOND FORM's CARD OF 'cribblelaw13.PermBack'. -/
def permBackUptoCard : Claim7 := { stood := { row := permBackUptoRow, standIns := [], harness := (true, "6e31e28101501c86e0825771b57d1e57372664e2ad612ff584a29865f5dc439b"), looks := false }, kinds := [], alts := [], laidByText := true, laidKinds := [.data, .data], laidTests := true, laidLooks := .later }
def PermBackUptoCardSaid : Prop := Claim7.holds Tryd.pinned (.plain (OpenSpec.upto permBackSpec)) permBackUptoCard
end Rows
end Go.Proofs.YtpnikmkijedmbaaDoor

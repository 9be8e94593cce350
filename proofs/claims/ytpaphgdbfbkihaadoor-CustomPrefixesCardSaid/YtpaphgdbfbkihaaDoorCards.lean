/-
  DERIVED. GIVEN WITH THE SEED: THE CARDS: each row of YtpaphgdbfbkihaaDoorRows.lean that lists a variable, with what it lists TIED to the program's text (the seventh form; the later family's looks); each row that meets fmt, with fmt's text TOLD by the authors' own Lean function (tested against real Go, not proved from fmt's source: count such statements apart). THE CARD IS WHAT COUNTS. Prove the row's statement (the work); the ties are given (YtpaphgdbfbkihaaDoorTie.lean); close each card by the builder's one call (the guide's Derived/Test/ToyasCard.lean, 'card_holds'). Laid BY PROGRAM, IN A SANDBOX (cutbox-door.mjs). By AI agents, Wed Nov 11 2026. No macro, syntax, notation, axiom, sorry.
-/
import Derived.Test.YtpaphgdbfbkihaaDoorRows
import GoSem.ClaimSeven
namespace Go.Proofs.YtpaphgdbfbkihaaDoor
namespace Rows

/-- THE TIED CARD OF 'cribblelaw16.CodeApart'. -/
def codeApartCard : Claim7 := { stood := { row := codeApartRow, standIns := [], harness := (true, "e402c64eac660cabd3136ed3304ec4490ce9d5ff281bcb0e2d726cdea4322cf0"), looks := false }, kinds := [], alts := [], laidByText := true, laidKinds := [.data, .pinned], laidTests := true, laidLooks := .later }
def CodeApartCardSaid : Prop := Claim7.holds Tryd.pinned (.plain (OpenSpec.ofChange codeApartSpec)) codeApartCard

/-- THE TIED CARD OF 'cribblelaw16.CodeNumbers'. -/
def codeNumbersCard : Claim7 := { stood := { row := codeNumbersRow, standIns := [], harness := (true, "e402c64eac660cabd3136ed3304ec4490ce9d5ff281bcb0e2d726cdea4322cf0"), looks := false }, kinds := [], alts := [], laidByText := true, laidKinds := [.data, .pinned], laidTests := true, laidLooks := .later }
def CodeNumbersCardSaid : Prop := Claim7.holds Tryd.pinned (.plain (OpenSpec.ofChange codeNumbersSpec)) codeNumbersCard

/-- THE TIED CARD OF 'cribblelaw17.CustomLengths'. -/
def customLengthsCard : Claim7 := { stood := { row := customLengthsRow, standIns := [], harness := (true, "e402c64eac660cabd3136ed3304ec4490ce9d5ff281bcb0e2d726cdea4322cf0"), looks := false }, kinds := [], alts := [], goes := true, laidByText := true, laidKinds := [.data, .data, .pinned], laidTests := true, laidLooks := .later }
def CustomLengthsCardSaid : Prop := Claim7.holds Tryd.pinned (.plain (OpenSpec.ofChange customLengthsSpec)) customLengthsCard

/-- THE TIED CARD OF 'cribblelaw16.CodePads'. -/
def codePadsCard : Claim7 := { stood := { row := codePadsRow, standIns := [], harness := (true, "e402c64eac660cabd3136ed3304ec4490ce9d5ff281bcb0e2d726cdea4322cf0"), looks := false }, kinds := [], alts := [], laidByText := true, laidKinds := [.data, .pinned], laidTests := true, laidLooks := .later }
def CodePadsCardSaid : Prop := Claim7.holds Tryd.pinned (.plain (OpenSpec.ofChange codePadsSpec)) codePadsCard

/-- THE TIED CARD OF 'cribblelaw16.CodeGets'. -/
def codeGetsCard : Claim7 := { stood := { row := codeGetsRow, standIns := [], harness := (true, "e402c64eac660cabd3136ed3304ec4490ce9d5ff281bcb0e2d726cdea4322cf0"), looks := false }, kinds := [], alts := [], laidByText := true, laidKinds := [.data, .pinned], laidTests := true, laidLooks := .later }
def CodeGetsCardSaid : Prop := Claim7.holds Tryd.pinned (.plain (OpenSpec.ofChange codeGetsSpec)) codeGetsCard

/-- THE TIED CARD OF 'cribblelaw17.CustomApart'. -/
def customApartCard : Claim7 := { stood := { row := customApartRow, standIns := [], harness := (true, "e402c64eac660cabd3136ed3304ec4490ce9d5ff281bcb0e2d726cdea4322cf0"), looks := false }, kinds := [], alts := [], goes := true, laidByText := true, laidKinds := [.data, .data, .pinned], laidTests := true, laidLooks := .later }
def CustomApartCardSaid : Prop := Claim7.holds Tryd.pinned (.plain (OpenSpec.ofChange customApartSpec)) customApartCard

/-- THE TIED CARD OF 'cribblelaw17.CustomPrefixes'. -/
def customPrefixesCard : Claim7 := { stood := { row := customPrefixesRow, standIns := [], harness := (true, "e402c64eac660cabd3136ed3304ec4490ce9d5ff281bcb0e2d726cdea4322cf0"), looks := false }, kinds := [], alts := [], goes := true, laidByText := true, laidKinds := [.data, .data, .pinned], laidTests := true, laidLooks := .later }
def CustomPrefixesCardSaid : Prop := Claim7.holds Tryd.pinned (.plain (OpenSpec.ofChange customPrefixesSpec)) customPrefixesCard

/-- THE TIED CARD OF 'cribblelaw16.CodeTexts'. -/
def codeTextsCard : Claim7 := { stood := { row := codeTextsRow, standIns := [], harness := (true, "e402c64eac660cabd3136ed3304ec4490ce9d5ff281bcb0e2d726cdea4322cf0"), looks := false }, kinds := [], alts := [], laidByText := true, laidKinds := [.data, .pinned], laidTests := true, laidLooks := .later }
def CodeTextsCardSaid : Prop := Claim7.holds Tryd.pinned (.plain (OpenSpec.ofChange codeTextsSpec)) codeTextsCard

/-- THE TIED CARD OF 'cribblelaw17.CustomSums'. -/
def customSumsCard : Claim7 := { stood := { row := customSumsRow, standIns := [], harness := (true, "e402c64eac660cabd3136ed3304ec4490ce9d5ff281bcb0e2d726cdea4322cf0"), looks := false }, kinds := [], alts := [], goes := true, laidByText := true, laidKinds := [.data, .data, .data, .data, .pinned], laidTests := true, laidLooks := .later }
def CustomSumsCardSaid : Prop := Claim7.holds Tryd.pinned (.plain (OpenSpec.ofChange customSumsSpec)) customSumsCard

/-- THE SECOND FORM's CARD OF 'cribblelaw16.CodeApart'. -/
def codeApartUptoCard : Claim7 := { stood := { row := codeApartUptoRow, standIns := [], harness := (true, "e402c64eac660cabd3136ed3304ec4490ce9d5ff281bcb0e2d726cdea4322cf0"), looks := false }, kinds := [], alts := [], laidByText := true, laidKinds := [.data, .pinned], laidTests := true, laidLooks := .later }
def CodeApartUptoCardSaid : Prop := Claim7.holds Tryd.pinned (.plain (OpenSpec.upto codeApartSpec)) codeApartUptoCard

/-- THE SECOND FORM's CARD OF 'cribblelaw16.CodeNumbers'. -/
def codeNumbersUptoCard : Claim7 := { stood := { row := codeNumbersUptoRow, standIns := [], harness := (true, "e402c64eac660cabd3136ed3304ec4490ce9d5ff281bcb0e2d726cdea4322cf0"), looks := false }, kinds := [], alts := [], laidByText := true, laidKinds := [.data, .pinned], laidTests := true, laidLooks := .later }
def CodeNumbersUptoCardSaid : Prop := Claim7.holds Tryd.pinned (.plain (OpenSpec.upto codeNumbersSpec)) codeNumbersUptoCard

/-- THE SECOND FORM's CARD OF 'cribblelaw17.CustomLengths'. -/
def customLengthsUptoCard : Claim7 := { stood := { row := customLengthsUptoRow, standIns := [], harness := (true, "e402c64eac660cabd3136ed3304ec4490ce9d5ff281bcb0e2d726cdea4322cf0"), looks := false }, kinds := [], alts := [], goes := true, laidByText := true, laidKinds := [.data, .data, .pinned], laidTests := true, laidLooks := .later }
def CustomLengthsUptoCardSaid : Prop := Claim7.holds Tryd.pinned (.plain (OpenSpec.upto customLengthsSpec)) customLengthsUptoCard

/-- THE SECOND FORM's CARD OF 'cribblelaw16.CodePads'. -/
def codePadsUptoCard : Claim7 := { stood := { row := codePadsUptoRow, standIns := [], harness := (true, "e402c64eac660cabd3136ed3304ec4490ce9d5ff281bcb0e2d726cdea4322cf0"), looks := false }, kinds := [], alts := [], laidByText := true, laidKinds := [.data, .pinned], laidTests := true, laidLooks := .later }
def CodePadsUptoCardSaid : Prop := Claim7.holds Tryd.pinned (.plain (OpenSpec.upto codePadsSpec)) codePadsUptoCard

/-- THE SECOND FORM's CARD OF 'cribblelaw16.CodeGets'. -/
def codeGetsUptoCard : Claim7 := { stood := { row := codeGetsUptoRow, standIns := [], harness := (true, "e402c64eac660cabd3136ed3304ec4490ce9d5ff281bcb0e2d726cdea4322cf0"), looks := false }, kinds := [], alts := [], laidByText := true, laidKinds := [.data, .pinned], laidTests := true, laidLooks := .later }
def CodeGetsUptoCardSaid : Prop := Claim7.holds Tryd.pinned (.plain (OpenSpec.upto codeGetsSpec)) codeGetsUptoCard

/-- THE SECOND FORM's CARD OF 'cribblelaw17.CustomApart'. -/
def customApartUptoCard : Claim7 := { stood := { row := customApartUptoRow, standIns := [], harness := (true, "e402c64eac660cabd3136ed3304ec4490ce9d5ff281bcb0e2d726cdea4322cf0"), looks := false }, kinds := [], alts := [], goes := true, laidByText := true, laidKinds := [.data, .data, .pinned], laidTests := true, laidLooks := .later }
def CustomApartUptoCardSaid : Prop := Claim7.holds Tryd.pinned (.plain (OpenSpec.upto customApartSpec)) customApartUptoCard

/-- THE SECOND FORM's CARD OF 'cribblelaw17.CustomPrefixes'. -/
def customPrefixesUptoCard : Claim7 := { stood := { row := customPrefixesUptoRow, standIns := [], harness := (true, "e402c64eac660cabd3136ed3304ec4490ce9d5ff281bcb0e2d726cdea4322cf0"), looks := false }, kinds := [], alts := [], goes := true, laidByText := true, laidKinds := [.data, .data, .pinned], laidTests := true, laidLooks := .later }
def CustomPrefixesUptoCardSaid : Prop := Claim7.holds Tryd.pinned (.plain (OpenSpec.upto customPrefixesSpec)) customPrefixesUptoCard

/-- THE SECOND FORM's CARD OF 'cribblelaw16.CodeTexts'. -/
def codeTextsUptoCard : Claim7 := { stood := { row := codeTextsUptoRow, standIns := [], harness := (true, "e402c64eac660cabd3136ed3304ec4490ce9d5ff281bcb0e2d726cdea4322cf0"), looks := false }, kinds := [], alts := [], laidByText := true, laidKinds := [.data, .pinned], laidTests := true, laidLooks := .later }
def CodeTextsUptoCardSaid : Prop := Claim7.holds Tryd.pinned (.plain (OpenSpec.upto codeTextsSpec)) codeTextsUptoCard

/-- THE SECOND FORM's CARD OF 'cribblelaw17.CustomSums'. -/
def customSumsUptoCard : Claim7 := { stood := { row := customSumsUptoRow, standIns := [], harness := (true, "e402c64eac660cabd3136ed3304ec4490ce9d5ff281bcb0e2d726cdea4322cf0"), looks := false }, kinds := [], alts := [], goes := true, laidByText := true, laidKinds := [.data, .data, .data, .data, .pinned], laidTests := true, laidLooks := .later }
def CustomSumsUptoCardSaid : Prop := Claim7.holds Tryd.pinned (.plain (OpenSpec.upto customSumsSpec)) customSumsUptoCard
end Rows
end Go.Proofs.YtpaphgdbfbkihaaDoor

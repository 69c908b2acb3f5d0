/-
  DERIVED. GIVEN WITH THE SEED: THE CARDS: each row of YtkkblmdgedmdfaaGreatDoorRows.lean that lists a variable, with what it lists TIED to the program's text (the seventh form; the later family's looks); each row that meets fmt, with fmt's text TOLD by the authors' own Lean function (tested against real Go, not proved from fmt's source: count such statements apart). THE CARD IS WHAT COUNTS. Prove the row's statement (the work); the ties are given (YtkkblmdgedmdfaaGreatDoorTie.lean); close each card by the builder's one call (the guide's Derived/Test/ToyasCard.lean, 'card_holds'). Laid BY PROGRAM, IN A SANDBOX (cutbox-door.mjs). By AI agents, Wed Nov 11 2026. No macro, syntax, notation, axiom, sorry.
-/
import Derived.Test.YtkkblmdgedmdfaaGreatDoorRows
import GoSem.ClaimSeven
namespace Go.Proofs.YtkkblmdgedmdfaaGreatDoor
namespace Rows

/-- THE TIED CARD OF 'whetstonelaw16.ParseNames'. -/
def parseNamesCard : Claim7 := { stood := { row := parseNamesRow, standIns := [], harness := (true, "4c673c400426cef220c8499489bde2d0528df7ef335b420dbf397665766068a3"), looks := true }, kinds := [], alts := [], laidByText := true, laidKinds := [.data, .data, .data, .sentinel, .sentinel], laidTests := true, laidLooks := .later }
def ParseNamesCardSaid : Prop := Claim7.holds Tryz.pinned (.plain (OpenSpec.ofChange parseNamesSpec)) parseNamesCard

/-- THE TIED CARD OF 'whetstonelaw16.ParseRow'. -/
def parseRowCard : Claim7 := { stood := { row := parseRowRow, standIns := [], harness := (true, "4c673c400426cef220c8499489bde2d0528df7ef335b420dbf397665766068a3"), looks := true }, kinds := [], alts := [], laidByText := true, laidKinds := [.data, .data, .data, .sentinel, .sentinel], laidTests := true, laidLooks := .later }
def ParseRowCardSaid : Prop := Claim7.holds Tryz.pinned (.plain (OpenSpec.ofChange parseRowSpec)) parseRowCard

/-- THE TIED CARD OF 'whetstonelaw16.ParseTells'. -/
def parseTellsCard : Claim7 := { stood := { row := parseTellsRow, standIns := [], harness := (true, "4c673c400426cef220c8499489bde2d0528df7ef335b420dbf397665766068a3"), looks := true }, kinds := [], alts := [], laidByText := true, laidKinds := [.data, .data, .data, .sentinel, .sentinel], laidTests := true, laidLooks := .later }
def ParseTellsCardSaid : Prop := Claim7.holds Tryz.pinned (.plain (OpenSpec.ofChange parseTellsSpec)) parseTellsCard

/-- THE TIED CARD OF 'whetstonelaw16.ParseForms'. -/
def parseFormsCard : Claim7 := { stood := { row := parseFormsRow, standIns := [], harness := (true, "4c673c400426cef220c8499489bde2d0528df7ef335b420dbf397665766068a3"), looks := true }, kinds := [], alts := [], laidByText := true, laidKinds := [.data, .data, .data, .sentinel, .sentinel], laidTests := true, laidLooks := .later }
def ParseFormsCardSaid : Prop := Claim7.holds Tryz.pinned (.plain (OpenSpec.ofChange parseFormsSpec)) parseFormsCard

/-- THE TIED CARD OF 'whetstonelaw16.ParseBlanks'. -/
def parseBlanksCard : Claim7 := { stood := { row := parseBlanksRow, standIns := [], harness := (true, "4c673c400426cef220c8499489bde2d0528df7ef335b420dbf397665766068a3"), looks := true }, kinds := [], alts := [], laidByText := true, laidKinds := [.data, .data, .data, .data, .sentinel, .sentinel, .pinned], laidTests := true, laidLooks := .later }
def ParseBlanksCardSaid : Prop := Claim7.holds Tryz.pinned (.plain (OpenSpec.ofChange parseBlanksSpec)) parseBlanksCard

/-- THE SECOND FORM's CARD OF 'whetstonelaw16.ParseNames'. -/
def parseNamesUptoCard : Claim7 := { stood := { row := parseNamesUptoRow, standIns := [], harness := (true, "4c673c400426cef220c8499489bde2d0528df7ef335b420dbf397665766068a3"), looks := true }, kinds := [], alts := [], laidByText := true, laidKinds := [.data, .data, .data, .sentinel, .sentinel], laidTests := true, laidLooks := .later }
def ParseNamesUptoCardSaid : Prop := Claim7.holds Tryz.pinned (.plain (OpenSpec.upto parseNamesSpec)) parseNamesUptoCard

/-- THE SECOND FORM's CARD OF 'whetstonelaw16.ParseRow'. -/
def parseRowUptoCard : Claim7 := { stood := { row := parseRowUptoRow, standIns := [], harness := (true, "4c673c400426cef220c8499489bde2d0528df7ef335b420dbf397665766068a3"), looks := true }, kinds := [], alts := [], laidByText := true, laidKinds := [.data, .data, .data, .sentinel, .sentinel], laidTests := true, laidLooks := .later }
def ParseRowUptoCardSaid : Prop := Claim7.holds Tryz.pinned (.plain (OpenSpec.upto parseRowSpec)) parseRowUptoCard

/-- THE SECOND FORM's CARD OF 'whetstonelaw16.ParseTells'. -/
def parseTellsUptoCard : Claim7 := { stood := { row := parseTellsUptoRow, standIns := [], harness := (true, "4c673c400426cef220c8499489bde2d0528df7ef335b420dbf397665766068a3"), looks := true }, kinds := [], alts := [], laidByText := true, laidKinds := [.data, .data, .data, .sentinel, .sentinel], laidTests := true, laidLooks := .later }
def ParseTellsUptoCardSaid : Prop := Claim7.holds Tryz.pinned (.plain (OpenSpec.upto parseTellsSpec)) parseTellsUptoCard

/-- THE SECOND FORM's CARD OF 'whetstonelaw16.ParseForms'. -/
def parseFormsUptoCard : Claim7 := { stood := { row := parseFormsUptoRow, standIns := [], harness := (true, "4c673c400426cef220c8499489bde2d0528df7ef335b420dbf397665766068a3"), looks := true }, kinds := [], alts := [], laidByText := true, laidKinds := [.data, .data, .data, .sentinel, .sentinel], laidTests := true, laidLooks := .later }
def ParseFormsUptoCardSaid : Prop := Claim7.holds Tryz.pinned (.plain (OpenSpec.upto parseFormsSpec)) parseFormsUptoCard

/-- THE SECOND FORM's CARD OF 'whetstonelaw16.ParseBlanks'. -/
def parseBlanksUptoCard : Claim7 := { stood := { row := parseBlanksUptoRow, standIns := [], harness := (true, "4c673c400426cef220c8499489bde2d0528df7ef335b420dbf397665766068a3"), looks := true }, kinds := [], alts := [], laidByText := true, laidKinds := [.data, .data, .data, .data, .sentinel, .sentinel, .pinned], laidTests := true, laidLooks := .later }
def ParseBlanksUptoCardSaid : Prop := Claim7.holds Tryz.pinned (.plain (OpenSpec.upto parseBlanksSpec)) parseBlanksUptoCard
end Rows
end Go.Proofs.YtkkblmdgedmdfaaGreatDoor

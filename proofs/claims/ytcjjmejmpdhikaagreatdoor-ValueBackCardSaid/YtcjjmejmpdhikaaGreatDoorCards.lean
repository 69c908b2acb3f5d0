/-
  DERIVED. GIVEN WITH THE SEED: THE CARDS: each row of YtcjjmejmpdhikaaGreatDoorRows.lean that lists a variable, with what it lists TIED to the program's text (the seventh form; the later family's looks); each row that meets fmt, with fmt's text TOLD by the authors' own Lean function (tested against real Go, not proved from fmt's source: count such statements apart). THE CARD IS WHAT COUNTS. Prove the row's statement (the work); the ties are given (YtcjjmejmpdhikaaGreatDoorTie.lean); close each card by the builder's one call (the guide's Derived/Test/ToyasCard.lean, 'card_holds'). Laid BY PROGRAM, IN A SANDBOX (cutbox-door.mjs). By AI agents, Wed Nov 11 2026. No macro, syntax, notation, axiom, sorry.
-/
import Derived.Test.YtcjjmejmpdhikaaGreatDoorRows
import GoSem.ClaimSeven
namespace Go.Proofs.YtcjjmejmpdhikaaGreatDoor
namespace Rows

/-- THE TIED CARD OF 'whetstonelaw20.ValueTexts'. -/
def valueTextsCard : Claim7 := { stood := { row := valueTextsRow, standIns := [], harness := (true, "6a07cec11b36096d112d989fd09e36f0f0d229c27ad0d7a079443892cbf6427e"), looks := true }, kinds := [], alts := [], laidByText := true, laidKinds := [.data, .data, .data, .sentinel, .sentinel], laidTests := true, laidLooks := .later }
def ValueTextsCardSaid : Prop := Claim7.holds Tryz.pinned (.plain (OpenSpec.ofChange valueTextsSpec)) valueTextsCard

/-- THE TIED CARD OF 'whetstonelaw20.ValueBack'. -/
def valueBackCard : Claim7 := { stood := { row := valueBackRow, standIns := [], harness := (true, "6a07cec11b36096d112d989fd09e36f0f0d229c27ad0d7a079443892cbf6427e"), looks := true }, kinds := [], alts := [], laidByText := true, laidKinds := [.data, .data, .data, .sentinel, .sentinel], laidTests := true, laidLooks := .later }
def ValueBackCardSaid : Prop := Claim7.holds Tryz.pinned (.plain (OpenSpec.ofChange valueBackSpec)) valueBackCard

/-- THE TIED CARD OF 'whetstonelaw20.ValueParsed'. -/
def valueParsedCard : Claim7 := { stood := { row := valueParsedRow, standIns := [], harness := (true, "6a07cec11b36096d112d989fd09e36f0f0d229c27ad0d7a079443892cbf6427e"), looks := true }, kinds := [], alts := [], laidByText := true, laidKinds := [.data, .data, .data, .sentinel, .sentinel], laidTests := true, laidLooks := .later }
def ValueParsedCardSaid : Prop := Claim7.holds Tryz.pinned (.plain (OpenSpec.ofChange valueParsedSpec)) valueParsedCard

/-- THE SECOND FORM's CARD OF 'whetstonelaw20.ValueTexts'. -/
def valueTextsUptoCard : Claim7 := { stood := { row := valueTextsUptoRow, standIns := [], harness := (true, "6a07cec11b36096d112d989fd09e36f0f0d229c27ad0d7a079443892cbf6427e"), looks := true }, kinds := [], alts := [], laidByText := true, laidKinds := [.data, .data, .data, .sentinel, .sentinel], laidTests := true, laidLooks := .later }
def ValueTextsUptoCardSaid : Prop := Claim7.holds Tryz.pinned (.plain (OpenSpec.upto valueTextsSpec)) valueTextsUptoCard

/-- THE SECOND FORM's CARD OF 'whetstonelaw20.ValueBack'. -/
def valueBackUptoCard : Claim7 := { stood := { row := valueBackUptoRow, standIns := [], harness := (true, "6a07cec11b36096d112d989fd09e36f0f0d229c27ad0d7a079443892cbf6427e"), looks := true }, kinds := [], alts := [], laidByText := true, laidKinds := [.data, .data, .data, .sentinel, .sentinel], laidTests := true, laidLooks := .later }
def ValueBackUptoCardSaid : Prop := Claim7.holds Tryz.pinned (.plain (OpenSpec.upto valueBackSpec)) valueBackUptoCard

/-- THE SECOND FORM's CARD OF 'whetstonelaw20.ValueParsed'. -/
def valueParsedUptoCard : Claim7 := { stood := { row := valueParsedUptoRow, standIns := [], harness := (true, "6a07cec11b36096d112d989fd09e36f0f0d229c27ad0d7a079443892cbf6427e"), looks := true }, kinds := [], alts := [], laidByText := true, laidKinds := [.data, .data, .data, .sentinel, .sentinel], laidTests := true, laidLooks := .later }
def ValueParsedUptoCardSaid : Prop := Claim7.holds Tryz.pinned (.plain (OpenSpec.upto valueParsedSpec)) valueParsedUptoCard
end Rows
end Go.Proofs.YtcjjmejmpdhikaaGreatDoor

/-
  DERIVED. GIVEN WITH THE SEED: THE CARDS: each row of YteajcnilihgheaaGreatDoorRows.lean that lists a variable, with what it lists TIED to the program's text (the seventh form; the later family's looks); each row that meets fmt, with fmt's text TOLD by the authors' own Lean function (tested against real Go, not proved from fmt's source: count such statements apart). THE CARD IS WHAT COUNTS. Prove the row's statement (the work); the ties are given (YteajcnilihgheaaGreatDoorTie.lean); close each card by the builder's one call (the guide's Derived/Test/ToyasCard.lean, 'card_holds'). Laid BY PROGRAM, IN A SANDBOX (cutbox-door.mjs). By AI agents, Wed Nov 11 2026. No macro, syntax, notation, axiom, sorry.
-/
import Derived.Test.YteajcnilihgheaaGreatDoorRows
import GoSem.ClaimSeven
namespace Go.Proofs.YteajcnilihgheaaGreatDoor
namespace Rows

/-- THE TIED CARD OF 'whetstonelaw19.RenameScopes'. -/
def renameScopesCard : Claim7 := { stood := { row := renameScopesRow, standIns := [], harness := (true, "437fdf750aea3aa0bfa40eb36098818c312fd12819ff943a5f4751e41a3b9790"), looks := false }, kinds := [], alts := [], laidByText := true, laidKinds := [.data, .data, .data, .data, .pinned], laidTests := true, laidLooks := .later }
def RenameScopesCardSaid : Prop := Claim7.holds Tryz.pinned (.plain (OpenSpec.ofChange renameScopesSpec)) renameScopesCard

/-- THE TIED CARD OF 'whetstonelaw19.RenameFresh'. -/
def renameFreshCard : Claim7 := { stood := { row := renameFreshRow, standIns := [], harness := (true, "437fdf750aea3aa0bfa40eb36098818c312fd12819ff943a5f4751e41a3b9790"), looks := false }, kinds := [], alts := [], laidByText := true, laidKinds := [.data, .data, .data, .data, .pinned], laidTests := true, laidLooks := .later }
def RenameFreshCardSaid : Prop := Claim7.holds Tryz.pinned (.plain (OpenSpec.ofChange renameFreshSpec)) renameFreshCard

/-- THE SECOND FORM's CARD OF 'whetstonelaw19.RenameScopes'. -/
def renameScopesUptoCard : Claim7 := { stood := { row := renameScopesUptoRow, standIns := [], harness := (true, "437fdf750aea3aa0bfa40eb36098818c312fd12819ff943a5f4751e41a3b9790"), looks := false }, kinds := [], alts := [], laidByText := true, laidKinds := [.data, .data, .data, .data, .pinned], laidTests := true, laidLooks := .later }
def RenameScopesUptoCardSaid : Prop := Claim7.holds Tryz.pinned (.plain (OpenSpec.upto renameScopesSpec)) renameScopesUptoCard

/-- THE SECOND FORM's CARD OF 'whetstonelaw19.RenameFresh'. -/
def renameFreshUptoCard : Claim7 := { stood := { row := renameFreshUptoRow, standIns := [], harness := (true, "437fdf750aea3aa0bfa40eb36098818c312fd12819ff943a5f4751e41a3b9790"), looks := false }, kinds := [], alts := [], laidByText := true, laidKinds := [.data, .data, .data, .data, .pinned], laidTests := true, laidLooks := .later }
def RenameFreshUptoCardSaid : Prop := Claim7.holds Tryz.pinned (.plain (OpenSpec.upto renameFreshSpec)) renameFreshUptoCard
end Rows
end Go.Proofs.YteajcnilihgheaaGreatDoor

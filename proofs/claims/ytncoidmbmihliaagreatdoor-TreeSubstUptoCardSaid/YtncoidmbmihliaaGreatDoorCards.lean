/-
  DERIVED. GIVEN WITH THE SEED: THE CARDS: each row of YtncoidmbmihliaaGreatDoorRows.lean that lists a variable, with what it lists TIED to the program's text (the seventh form; the later family's looks); each row that meets fmt, with fmt's text TOLD by the authors' own Lean function (tested against real Go, not proved from fmt's source: count such statements apart). THE CARD IS WHAT COUNTS. Prove the row's statement (the work); the ties are given (YtncoidmbmihliaaGreatDoorTie.lean); close each card by the builder's one call (the guide's Derived/Test/ToyasCard.lean, 'card_holds'). Laid BY PROGRAM, IN A SANDBOX (cutbox-door.mjs). By AI agents, Wed Nov 11 2026. No macro, syntax, notation, axiom, sorry.
-/
import Derived.Test.YtncoidmbmihliaaGreatDoorRows
import GoSem.ClaimSeven
namespace Go.Proofs.YtncoidmbmihliaaGreatDoor
namespace Rows

/-- THE TIED CARD OF 'whetstonelaw15.TreeSubst'. -/
def treeSubstCard : Claim7 := { stood := { row := treeSubstRow, standIns := [], harness := (true, "1133fbbd733c722263645f924856ba57e0acd233423b2942ba25099b6fab7c7a"), looks := true }, kinds := [], alts := [], laidByText := true, laidKinds := [.data, .data, .data], laidTests := true, laidLooks := .later }
def TreeSubstCardSaid : Prop := Claim7.holds Tryz.pinned (.plain (OpenSpec.ofChange treeSubstSpec)) treeSubstCard

/-- THE TIED CARD OF 'whetstonelaw15.TreeTwice'. -/
def treeTwiceCard : Claim7 := { stood := { row := treeTwiceRow, standIns := [], harness := (true, "1133fbbd733c722263645f924856ba57e0acd233423b2942ba25099b6fab7c7a"), looks := true }, kinds := [], alts := [], laidByText := true, laidKinds := [.data, .data, .data], laidTests := true, laidLooks := .later }
def TreeTwiceCardSaid : Prop := Claim7.holds Tryz.pinned (.plain (OpenSpec.ofChange treeTwiceSpec)) treeTwiceCard

/-- THE SECOND FORM's CARD OF 'whetstonelaw15.TreeSubst'. -/
def treeSubstUptoCard : Claim7 := { stood := { row := treeSubstUptoRow, standIns := [], harness := (true, "1133fbbd733c722263645f924856ba57e0acd233423b2942ba25099b6fab7c7a"), looks := true }, kinds := [], alts := [], laidByText := true, laidKinds := [.data, .data, .data], laidTests := true, laidLooks := .later }
def TreeSubstUptoCardSaid : Prop := Claim7.holds Tryz.pinned (.plain (OpenSpec.upto treeSubstSpec)) treeSubstUptoCard

/-- THE SECOND FORM's CARD OF 'whetstonelaw15.TreeTwice'. -/
def treeTwiceUptoCard : Claim7 := { stood := { row := treeTwiceUptoRow, standIns := [], harness := (true, "1133fbbd733c722263645f924856ba57e0acd233423b2942ba25099b6fab7c7a"), looks := true }, kinds := [], alts := [], laidByText := true, laidKinds := [.data, .data, .data], laidTests := true, laidLooks := .later }
def TreeTwiceUptoCardSaid : Prop := Claim7.holds Tryz.pinned (.plain (OpenSpec.upto treeTwiceSpec)) treeTwiceUptoCard
end Rows
end Go.Proofs.YtncoidmbmihliaaGreatDoor

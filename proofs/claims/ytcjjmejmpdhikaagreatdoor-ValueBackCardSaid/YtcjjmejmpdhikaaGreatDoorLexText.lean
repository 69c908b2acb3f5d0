/-
  The text of trees (textR): the definition alone, for a seat without lex.Text.
-/
import Derived.Test.YtcjjmejmpdhikaaGreatDoorLexSpec
namespace Go.Proofs.YtcjjmejmpdhikaaGreatDoor

mutual
def textI : Tr → List UInt8
  | .mk x k r _ => if r then 40 :: (textR true k ++ [41]) else x
def textR : Bool → List Tr → List UInt8
  | _, [] => []
  | first, t :: l => (if first then [] else [32]) ++ (textI t ++ textR false l)
end

end Go.Proofs.YtcjjmejmpdhikaaGreatDoor

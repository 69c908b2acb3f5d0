/-
  Where every tree lies in the text: the definition alone.
-/
import Derived.Test.YtcjjmejmpdhikaaGreatDoorLexSpec
namespace Go.Proofs.YtcjjmejmpdhikaaGreatDoor
set_option linter.unusedSimpArgs false
set_option linter.unusedVariables false

def stopT (t : Nat) : List Tr → Nat
  | [] => t
  | .mk _ _ _ a :: _ => a.toNat

/-- every tree of the list lies in the text where it says, from f on, and below t -/
def Pl (s : List UInt8) : List Tr → Nat → Nat → Prop
  | [], _, _ => True
  | .mk x k r a :: l, f, t => ∃ p : Nat, a = p ∧ f ≤ p ∧ p < t ∧
      (if r then s[p]? = some 40 ∧ x = [] ∧ stopT t l ≤ t ∧ Pl s k (p + 1) (stopT t l) ∧ Pl s l (p + 1) t
       else k = [] ∧ x ≠ [] ∧ x.length ≤ t - p ∧ (s.drop p).take x.length = x ∧ Pl s l (p + x.length) t)

end Go.Proofs.YtcjjmejmpdhikaaGreatDoor

/-
  EV: the tables in package-level variables that the statement's row lists, as the seat has them: the powers of ten.
-/
import Derived.Below
namespace Go.Proofs.YtcjjmejmpdhikaaGreatDoor

/-- the cells of a listed table -/
def globRow (g : Nat) : Option (List Value) :=
  match g with
  | 1 => some [.int .u64 1, .int .u64 10, .int .u64 100, .int .u64 1000, .int .u64 10000, .int .u64 100000, .int .u64 1000000, .int .u64 10000000, .int .u64 100000000, .int .u64 1000000000, .int .u64 10000000000, .int .u64 100000000000, .int .u64 1000000000000, .int .u64 10000000000000, .int .u64 100000000000000, .int .u64 1000000000000000, .int .u64 10000000000000000, .int .u64 100000000000000000, .int .u64 1000000000000000000, .int .u64 10000000000000000000]
  | _ => none

end Go.Proofs.YtcjjmejmpdhikaaGreatDoor

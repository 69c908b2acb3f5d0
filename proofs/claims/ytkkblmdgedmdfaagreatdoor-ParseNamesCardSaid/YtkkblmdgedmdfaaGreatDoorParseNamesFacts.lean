/- The closed facts of ParseNames' row, each by itself (in one piece the kernel runs out of memory). -/
import Derived.Test.YtkkblmdgedmdfaaGreatDoorRows
import Derived.Test.YtkkblmdgedmdfaaGreatDoorChecked
import Derived.WalkKit
import Derived.ProofKit
import Derived.JoinedOf
namespace Go.Proofs.YtkkblmdgedmdfaaGreatDoor.parseNames
theorem k0 : (Rows.parseNamesRow.inPlace == Tryz.prog.inPlace 3) = true := by kernel_rfl
theorem k1 : (Rows.parseNamesRow.unfollowed == Tryz.prog.unfollowed 3) = true := by kernel_rfl
theorem k2 : (Rows.parseNamesRow.recurses == Tryz.prog.recurses 3) = true := by kernel_rfl
theorem k3 : (Rows.parseNamesRow.named == Tryz.prog.varsNamed 3) = true := by kernel_rfl
theorem k4 : laidOutB Tryz.prog = true := by kernel_rfl
theorem k5 : mapsRowed Tryz.prog = true := by kernel_rfl
theorem k6 : Tryz.prog.stopsHeard = true := by kernel_rfl
theorem k7 : Tryz.prog.mayEnter = true := by kernel_rfl
theorem k8 : (Rows.parseNamesRow.lifted == Tryz.prog.liftsFinal) = true := by kernel_rfl
theorem k9 : (Tryz.prog.make == some Rows.parseNamesRow.make) = true := by kernel_rfl
theorem k10 : (Rows.parseNamesRow.plainKeys == Tryz.prog.plainKeys) = true := by kernel_rfl
theorem k11 : namedTie Tryz.prog Rows.parseNamesRow.named Rows.parseNamesSpec.vars = true := by kernel_rfl
set_option maxRecDepth 100000 in
theorem closed : joinedFacts Tryz.prog 3 Tryz.f3 Rows.parseNamesSpec Rows.parseNamesRow = true := by
  unfold joinedFacts
  rw [k0, k1, k2, k3, k4, k5, k6, k7, k8, k9, k10, k11]
  kernel_rfl

theorem closed' : joinedFacts Tryz.pinned.checked.prog 3 Tryz.f3 (OpenSpec.ofChange Rows.parseNamesSpec).bare Rows.parseNamesRow = true :=
  (show joinedFacts Tryz.pinned.checked.prog 3 Tryz.f3 (OpenSpec.ofChange Rows.parseNamesSpec).bare Rows.parseNamesRow = joinedFacts Tryz.prog 3 Tryz.f3 Rows.parseNamesSpec Rows.parseNamesRow by kernel_rfl).trans closed

end Go.Proofs.YtkkblmdgedmdfaaGreatDoor.parseNames

/- QueueFair: the closed facts of its row. -/
import Derived.Test.YthilcedkapakpaaGreatDoorRows
import Derived.JoinedCond
set_option linter.unusedSimpArgs false
set_option linter.unusedVariables false
namespace Go.Proofs.YthilcedkapakpaaGreatDoor.queueFair
open Go

theorem g1 : (Rows.queueFairRow.inPlace == Tryz.pinned.checked.prog.inPlace 6) = true := by kernel_rfl
theorem g2 : (Rows.queueFairRow.unfollowed == Tryz.pinned.checked.prog.unfollowed 6) = true := by kernel_rfl
theorem g3 : (Rows.queueFairRow.recurses == Tryz.pinned.checked.prog.recurses 6) = true := by kernel_rfl
theorem g4 : (Rows.queueFairRow.named == Tryz.pinned.checked.prog.varsNamed 6) = true := by kernel_rfl

theorem facts : joinedFacts Tryz.pinned.checked.prog 6 Tryz.f6 (OpenSpec.ofChange Rows.queueFairSpec).bare Rows.queueFairRow = true := by
  unfold joinedFacts
  rw [g1, g2, g3, g4]
  kernel_rfl

end Go.Proofs.YthilcedkapakpaaGreatDoor.queueFair

/- QueueOnce: the closed facts of its row. -/
import Derived.Test.YthilcedkapakpaaGreatDoorRows
import Derived.JoinedCond
set_option linter.unusedSimpArgs false
set_option linter.unusedVariables false
namespace Go.Proofs.YthilcedkapakpaaGreatDoor.queueOnce
open Go

theorem g1 : (Rows.queueOnceRow.inPlace == Tryz.pinned.checked.prog.inPlace 5) = true := by kernel_rfl
theorem g2 : (Rows.queueOnceRow.unfollowed == Tryz.pinned.checked.prog.unfollowed 5) = true := by kernel_rfl
theorem g3 : (Rows.queueOnceRow.recurses == Tryz.pinned.checked.prog.recurses 5) = true := by kernel_rfl
theorem g4 : (Rows.queueOnceRow.named == Tryz.pinned.checked.prog.varsNamed 5) = true := by kernel_rfl

theorem facts : joinedFacts Tryz.pinned.checked.prog 5 Tryz.f5 (OpenSpec.ofChange Rows.queueOnceSpec).bare Rows.queueOnceRow = true := by
  unfold joinedFacts
  rw [g1, g2, g3, g4]
  kernel_rfl

end Go.Proofs.YthilcedkapakpaaGreatDoor.queueOnce

/- QueueAll: the closed facts of its row. -/
import Derived.Test.YthilcedkapakpaaGreatDoorRows
import Derived.JoinedCond
set_option linter.unusedSimpArgs false
set_option linter.unusedVariables false
namespace Go.Proofs.YthilcedkapakpaaGreatDoor.queueAll
open Go

theorem g1 : (Rows.queueAllRow.inPlace == Tryz.pinned.checked.prog.inPlace 4) = true := by kernel_rfl
theorem g2 : (Rows.queueAllRow.unfollowed == Tryz.pinned.checked.prog.unfollowed 4) = true := by kernel_rfl
theorem g3 : (Rows.queueAllRow.recurses == Tryz.pinned.checked.prog.recurses 4) = true := by kernel_rfl
theorem g4 : (Rows.queueAllRow.named == Tryz.pinned.checked.prog.varsNamed 4) = true := by kernel_rfl

theorem facts : joinedFacts Tryz.pinned.checked.prog 4 Tryz.f4 (OpenSpec.ofChange Rows.queueAllSpec).bare Rows.queueAllRow = true := by
  unfold joinedFacts
  rw [g1, g2, g3, g4]
  kernel_rfl

end Go.Proofs.YthilcedkapakpaaGreatDoor.queueAll

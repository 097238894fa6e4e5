/- QueueAgain: the closed facts of its row. -/
import Derived.Test.YthilcedkapakpaaGreatDoorRows
import Derived.JoinedCond
namespace Go.Proofs.YthilcedkapakpaaGreatDoor.queueAgain
open Go

theorem g1 : (Rows.queueAgainRow.inPlace == Tryz.pinned.checked.prog.inPlace 12) = true := by kernel_rfl
theorem g2 : (Rows.queueAgainRow.unfollowed == Tryz.pinned.checked.prog.unfollowed 12) = true := by kernel_rfl
theorem g3 : (Rows.queueAgainRow.recurses == Tryz.pinned.checked.prog.recurses 12) = true := by kernel_rfl
theorem g4 : (Rows.queueAgainRow.named == Tryz.pinned.checked.prog.varsNamed 12) = true := by kernel_rfl

theorem facts : joinedFacts Tryz.pinned.checked.prog 12 Tryz.f12 (OpenSpec.ofChange Rows.queueAgainSpec).bare Rows.queueAgainRow = true := by
  unfold joinedFacts
  rw [g1, g2, g3, g4]
  kernel_rfl

end Go.Proofs.YthilcedkapakpaaGreatDoor.queueAgain

/- QueueToken: the closed facts of its row. -/
import Derived.Test.YthilcedkapakpaaGreatDoorRows
import Derived.JoinedCond
namespace Go.Proofs.YthilcedkapakpaaGreatDoor.queueToken
open Go

theorem g1 : (Rows.queueTokenRow.inPlace == Tryz.pinned.checked.prog.inPlace 13) = true := by kernel_rfl
theorem g2 : (Rows.queueTokenRow.unfollowed == Tryz.pinned.checked.prog.unfollowed 13) = true := by kernel_rfl
theorem g3 : (Rows.queueTokenRow.recurses == Tryz.pinned.checked.prog.recurses 13) = true := by kernel_rfl
theorem g4 : (Rows.queueTokenRow.named == Tryz.pinned.checked.prog.varsNamed 13) = true := by kernel_rfl

theorem facts : joinedFacts Tryz.pinned.checked.prog 13 Tryz.f13 (OpenSpec.ofChange Rows.queueTokenSpec).bare Rows.queueTokenRow = true := by
  unfold joinedFacts
  rw [g1, g2, g3, g4]
  kernel_rfl

end Go.Proofs.YthilcedkapakpaaGreatDoor.queueToken

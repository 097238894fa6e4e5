/- TopicRise: the closed facts of its row. -/
import Derived.Test.YthilcedkapakpaaGreatDoorRows
import Derived.JoinedCond
set_option linter.unusedSimpArgs false
set_option linter.unusedVariables false
namespace Go.Proofs.YthilcedkapakpaaGreatDoor.topicRise
open Go

theorem g1 : (Rows.topicRiseRow.inPlace == Tryz.pinned.checked.prog.inPlace 7) = true := by kernel_rfl
theorem g2 : (Rows.topicRiseRow.unfollowed == Tryz.pinned.checked.prog.unfollowed 7) = true := by kernel_rfl
theorem g3 : (Rows.topicRiseRow.recurses == Tryz.pinned.checked.prog.recurses 7) = true := by kernel_rfl
theorem g4 : (Rows.topicRiseRow.named == Tryz.pinned.checked.prog.varsNamed 7) = true := by kernel_rfl

theorem facts : joinedFacts Tryz.pinned.checked.prog 7 Tryz.f7 (OpenSpec.ofChange Rows.topicRiseSpec).bare Rows.topicRiseRow = true := by
  unfold joinedFacts
  rw [g1, g2, g3, g4]
  kernel_rfl

end Go.Proofs.YthilcedkapakpaaGreatDoor.topicRise

/- TopicFetch: the closed facts of its row. -/
import Derived.Test.YthilcedkapakpaaGreatDoorRows
import Derived.JoinedCond
set_option linter.unusedSimpArgs false
set_option linter.unusedVariables false
namespace Go.Proofs.YthilcedkapakpaaGreatDoor.topicFetch
open Go

theorem g1 : (Rows.topicFetchRow.inPlace == Tryz.pinned.checked.prog.inPlace 14) = true := by kernel_rfl
theorem g2 : (Rows.topicFetchRow.unfollowed == Tryz.pinned.checked.prog.unfollowed 14) = true := by kernel_rfl
theorem g3 : (Rows.topicFetchRow.recurses == Tryz.pinned.checked.prog.recurses 14) = true := by kernel_rfl
theorem g4 : (Rows.topicFetchRow.named == Tryz.pinned.checked.prog.varsNamed 14) = true := by kernel_rfl

theorem facts : joinedFacts Tryz.pinned.checked.prog 14 Tryz.f14 (OpenSpec.ofChange Rows.topicFetchSpec).bare Rows.topicFetchRow = true := by
  unfold joinedFacts
  rw [g1, g2, g3, g4]
  kernel_rfl

end Go.Proofs.YthilcedkapakpaaGreatDoor.topicFetch

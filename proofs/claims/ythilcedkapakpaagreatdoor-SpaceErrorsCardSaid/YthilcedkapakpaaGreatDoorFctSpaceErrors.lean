/- SpaceErrors: the closed facts of its row. -/
import Derived.Test.YthilcedkapakpaaGreatDoorRows
import Derived.JoinedCond
set_option linter.unusedSimpArgs false
set_option linter.unusedVariables false
namespace Go.Proofs.YthilcedkapakpaaGreatDoor.spaceErrors
open Go

theorem g1 : (Rows.spaceErrorsRow.inPlace == Tryz.pinned.checked.prog.inPlace 9) = true := by kernel_rfl
theorem g2 : (Rows.spaceErrorsRow.unfollowed == Tryz.pinned.checked.prog.unfollowed 9) = true := by kernel_rfl
theorem g3 : (Rows.spaceErrorsRow.recurses == Tryz.pinned.checked.prog.recurses 9) = true := by kernel_rfl
theorem g4 : (Rows.spaceErrorsRow.named == Tryz.pinned.checked.prog.varsNamed 9) = true := by kernel_rfl

theorem facts : joinedFacts Tryz.pinned.checked.prog 9 Tryz.f9 (OpenSpec.ofChange Rows.spaceErrorsSpec).bare Rows.spaceErrorsRow = true := by
  unfold joinedFacts
  rw [g1, g2, g3, g4]
  kernel_rfl

end Go.Proofs.YthilcedkapakpaaGreatDoor.spaceErrors

/- SpaceAll: the closed facts of its row. -/
import Derived.Test.YthilcedkapakpaaGreatDoorRows
import Derived.JoinedCond
set_option linter.unusedSimpArgs false
set_option linter.unusedVariables false
namespace Go.Proofs.YthilcedkapakpaaGreatDoor.spaceAll
open Go

theorem g1 : (Rows.spaceAllRow.inPlace == Tryz.pinned.checked.prog.inPlace 8) = true := by kernel_rfl
theorem g2 : (Rows.spaceAllRow.unfollowed == Tryz.pinned.checked.prog.unfollowed 8) = true := by kernel_rfl
theorem g3 : (Rows.spaceAllRow.recurses == Tryz.pinned.checked.prog.recurses 8) = true := by kernel_rfl
theorem g4 : (Rows.spaceAllRow.named == Tryz.pinned.checked.prog.varsNamed 8) = true := by kernel_rfl

theorem facts : joinedFacts Tryz.pinned.checked.prog 8 Tryz.f8 (OpenSpec.ofChange Rows.spaceAllSpec).bare Rows.spaceAllRow = true := by
  unfold joinedFacts
  rw [g1, g2, g3, g4]
  kernel_rfl

end Go.Proofs.YthilcedkapakpaaGreatDoor.spaceAll

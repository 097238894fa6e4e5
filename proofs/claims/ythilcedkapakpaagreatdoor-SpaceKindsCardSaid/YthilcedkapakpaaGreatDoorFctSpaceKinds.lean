/- SpaceKinds: the closed facts of its row. -/
import Derived.Test.YthilcedkapakpaaGreatDoorRows
import Derived.JoinedCond
set_option linter.unusedSimpArgs false
set_option linter.unusedVariables false
namespace Go.Proofs.YthilcedkapakpaaGreatDoor.spaceKinds
open Go

theorem g1 : (Rows.spaceKindsRow.inPlace == Tryz.pinned.checked.prog.inPlace 15) = true := by kernel_rfl
theorem g2 : (Rows.spaceKindsRow.unfollowed == Tryz.pinned.checked.prog.unfollowed 15) = true := by kernel_rfl
theorem g3 : (Rows.spaceKindsRow.recurses == Tryz.pinned.checked.prog.recurses 15) = true := by kernel_rfl
theorem g4 : (Rows.spaceKindsRow.named == Tryz.pinned.checked.prog.varsNamed 15) = true := by kernel_rfl

theorem facts : joinedFacts Tryz.pinned.checked.prog 15 Tryz.f15 (OpenSpec.ofChange Rows.spaceKindsSpec).bare Rows.spaceKindsRow = true := by
  unfold joinedFacts
  rw [g1, g2, g3, g4]
  kernel_rfl

end Go.Proofs.YthilcedkapakpaaGreatDoor.spaceKinds

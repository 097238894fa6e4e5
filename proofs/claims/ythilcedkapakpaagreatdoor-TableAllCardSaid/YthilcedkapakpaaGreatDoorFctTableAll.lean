/- TableAll: the closed facts of its row. -/
import Derived.Test.YthilcedkapakpaaGreatDoorRows
import Derived.JoinedCond
set_option linter.unusedSimpArgs false
set_option linter.unusedVariables false
namespace Go.Proofs.YthilcedkapakpaaGreatDoor.tableAll
open Go

theorem g1 : (Rows.tableAllRow.inPlace == Tryz.pinned.checked.prog.inPlace 3) = true := by kernel_rfl
theorem g2 : (Rows.tableAllRow.unfollowed == Tryz.pinned.checked.prog.unfollowed 3) = true := by kernel_rfl
theorem g3 : (Rows.tableAllRow.recurses == Tryz.pinned.checked.prog.recurses 3) = true := by kernel_rfl
theorem g4 : (Rows.tableAllRow.named == Tryz.pinned.checked.prog.varsNamed 3) = true := by kernel_rfl

theorem facts : joinedFacts Tryz.pinned.checked.prog 3 Tryz.f3 (OpenSpec.ofChange Rows.tableAllSpec).bare Rows.tableAllRow = true := by
  unfold joinedFacts
  rw [g1, g2, g3, g4]
  kernel_rfl

end Go.Proofs.YthilcedkapakpaaGreatDoor.tableAll

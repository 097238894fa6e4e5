/- TableLast: the closed facts of its row. -/
import Derived.Test.YthilcedkapakpaaGreatDoorRows
import Derived.JoinedCond
set_option linter.unusedSimpArgs false
set_option linter.unusedVariables false
namespace Go.Proofs.YthilcedkapakpaaGreatDoor.tableLast
open Go

theorem g1 : (Rows.tableLastRow.inPlace == Tryz.pinned.checked.prog.inPlace 11) = true := by kernel_rfl
theorem g2 : (Rows.tableLastRow.unfollowed == Tryz.pinned.checked.prog.unfollowed 11) = true := by kernel_rfl
theorem g3 : (Rows.tableLastRow.recurses == Tryz.pinned.checked.prog.recurses 11) = true := by kernel_rfl
theorem g4 : (Rows.tableLastRow.named == Tryz.pinned.checked.prog.varsNamed 11) = true := by kernel_rfl

theorem facts : joinedFacts Tryz.pinned.checked.prog 11 Tryz.f11 (OpenSpec.ofChange Rows.tableLastSpec).bare Rows.tableLastRow = true := by
  unfold joinedFacts
  rw [g1, g2, g3, g4]
  kernel_rfl

end Go.Proofs.YthilcedkapakpaaGreatDoor.tableLast

/- SpaceFetch: the closed facts of its row. -/
import Derived.Test.YthilcedkapakpaaGreatDoorRows
import Derived.JoinedCond
set_option linter.unusedSimpArgs false
set_option linter.unusedVariables false
namespace Go.Proofs.YthilcedkapakpaaGreatDoor.spaceFetch
open Go

theorem g1 : (Rows.spaceFetchRow.inPlace == Tryz.pinned.checked.prog.inPlace 16) = true := by kernel_rfl
theorem g2 : (Rows.spaceFetchRow.unfollowed == Tryz.pinned.checked.prog.unfollowed 16) = true := by kernel_rfl
theorem g3 : (Rows.spaceFetchRow.recurses == Tryz.pinned.checked.prog.recurses 16) = true := by kernel_rfl
theorem g4 : (Rows.spaceFetchRow.named == Tryz.pinned.checked.prog.varsNamed 16) = true := by kernel_rfl

theorem facts : joinedFacts Tryz.pinned.checked.prog 16 Tryz.f16 (OpenSpec.ofChange Rows.spaceFetchSpec).bare Rows.spaceFetchRow = true := by
  unfold joinedFacts
  rw [g1, g2, g3, g4]
  kernel_rfl

end Go.Proofs.YthilcedkapakpaaGreatDoor.spaceFetch

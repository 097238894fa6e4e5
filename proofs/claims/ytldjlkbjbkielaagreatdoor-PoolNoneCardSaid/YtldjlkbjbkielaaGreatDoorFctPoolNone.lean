/- PoolNone: the closed facts of its row. -/
import Derived.Test.YtldjlkbjbkielaaGreatDoorRows
import Derived.JoinedCond
set_option linter.unusedSimpArgs false
set_option linter.unusedVariables false
namespace Go.Proofs.YtldjlkbjbkielaaGreatDoor.poolNone
open Go

theorem g1 : (Rows.poolNoneRow.inPlace == Tryz.pinned.checked.prog.inPlace 15) = true := by kernel_rfl
theorem g2 : (Rows.poolNoneRow.unfollowed == Tryz.pinned.checked.prog.unfollowed 15) = true := by kernel_rfl
theorem g3 : (Rows.poolNoneRow.recurses == Tryz.pinned.checked.prog.recurses 15) = true := by kernel_rfl
theorem g4 : (Rows.poolNoneRow.named == Tryz.pinned.checked.prog.varsNamed 15) = true := by kernel_rfl

theorem facts : joinedFacts Tryz.pinned.checked.prog 15 Tryz.f15 (OpenSpec.ofChange Rows.poolNoneSpec).bare Rows.poolNoneRow = true := by
  unfold joinedFacts
  rw [g1, g2, g3, g4]
  kernel_rfl

end Go.Proofs.YtldjlkbjbkielaaGreatDoor.poolNone

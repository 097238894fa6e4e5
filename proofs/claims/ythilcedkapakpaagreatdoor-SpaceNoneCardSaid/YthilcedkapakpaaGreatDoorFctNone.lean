/- SpaceNone: the closed facts of its row. -/
import Derived.Test.YthilcedkapakpaaGreatDoorRows
import Derived.JoinedCond
namespace Go.Proofs.YthilcedkapakpaaGreatDoor.spaceNone
open Go

theorem g1 : (Rows.spaceNoneRow.inPlace == Tryz.pinned.checked.prog.inPlace 10) = true := by kernel_rfl
theorem g2 : (Rows.spaceNoneRow.unfollowed == Tryz.pinned.checked.prog.unfollowed 10) = true := by kernel_rfl
theorem g3 : (Rows.spaceNoneRow.recurses == Tryz.pinned.checked.prog.recurses 10) = true := by kernel_rfl
theorem g4 : (Rows.spaceNoneRow.named == Tryz.pinned.checked.prog.varsNamed 10) = true := by kernel_rfl

theorem facts : joinedFacts Tryz.pinned.checked.prog 10 Tryz.f10 (OpenSpec.ofChange Rows.spaceNoneSpec).bare Rows.spaceNoneRow = true := by
  unfold joinedFacts
  rw [g1, g2, g3, g4]
  kernel_rfl

end Go.Proofs.YthilcedkapakpaaGreatDoor.spaceNone

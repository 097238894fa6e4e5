/- ShardNone: the closed facts of its row. -/
import Derived.Test.YtldjlkbjbkielaaGreatDoorRows
import Derived.JoinedCond
set_option linter.unusedSimpArgs false
set_option linter.unusedVariables false
namespace Go.Proofs.YtldjlkbjbkielaaGreatDoor.shardNone
open Go

theorem g1 : (Rows.shardNoneRow.inPlace == Tryz.pinned.checked.prog.inPlace 14) = true := by kernel_rfl
theorem g2 : (Rows.shardNoneRow.unfollowed == Tryz.pinned.checked.prog.unfollowed 14) = true := by kernel_rfl
theorem g3 : (Rows.shardNoneRow.recurses == Tryz.pinned.checked.prog.recurses 14) = true := by kernel_rfl
theorem g4 : (Rows.shardNoneRow.named == Tryz.pinned.checked.prog.varsNamed 14) = true := by kernel_rfl

theorem facts : joinedFacts Tryz.pinned.checked.prog 14 Tryz.f14 (OpenSpec.ofChange Rows.shardNoneSpec).bare Rows.shardNoneRow = true := by
  unfold joinedFacts
  rw [g1, g2, g3, g4]
  kernel_rfl

end Go.Proofs.YtldjlkbjbkielaaGreatDoor.shardNone

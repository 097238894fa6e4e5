/- ShardNone: closed facts of its card. -/
import Derived.Test.YtldjlkbjbkielaaGreatDoorRows
import Derived.SevenTiedAt
set_option linter.unusedSimpArgs false
set_option linter.unusedVariables false
set_option maxRecDepth 100000
namespace Go.Proofs.YtldjlkbjbkielaaGreatDoor.shardNone
open Go
theorem c1 : Rows.shardNoneRow.wfByText (OpenSpec.ofChange Rows.shardNoneSpec) = true := by kernel_rfl
theorem c3 : false = Rows.shardNoneRow.goesBy Tryz.pinned.checked.prog := by kernel_rfl
end Go.Proofs.YtldjlkbjbkielaaGreatDoor.shardNone

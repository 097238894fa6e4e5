/- VaultTime: closed facts of its card. -/
import Derived.Test.YtldjlkbjbkielaaGreatDoorRows
import Derived.SevenTiedAt
set_option linter.unusedSimpArgs false
set_option linter.unusedVariables false
set_option maxRecDepth 100000
namespace Go.Proofs.YtldjlkbjbkielaaGreatDoor.vaultTime
open Go
theorem c1 : Rows.vaultTimeRow.wfByText (OpenSpec.ofChange Rows.vaultTimeSpec) = true := by kernel_rfl
theorem c3 : false = Rows.vaultTimeRow.goesBy Tryz.pinned.checked.prog := by kernel_rfl
end Go.Proofs.YtldjlkbjbkielaaGreatDoor.vaultTime

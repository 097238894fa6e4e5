/- VaultLocks: closed facts of its card. -/
import Derived.Test.YtldjlkbjbkielaaGreatDoorRows
import Derived.SevenTiedAt
set_option linter.unusedSimpArgs false
set_option linter.unusedVariables false
set_option maxRecDepth 100000
namespace Go.Proofs.YtldjlkbjbkielaaGreatDoor.vaultLocks
open Go
theorem c1 : Rows.vaultLocksRow.wfByText (OpenSpec.ofChange Rows.vaultLocksSpec) = true := by kernel_rfl
theorem c3 : false = Rows.vaultLocksRow.goesBy Tryz.pinned.checked.prog := by kernel_rfl
end Go.Proofs.YtldjlkbjbkielaaGreatDoor.vaultLocks

/- VaultDrop: closed facts of its card. -/
import Derived.Test.YtldjlkbjbkielaaGreatDoorRows
import Derived.SevenTiedAt
set_option linter.unusedSimpArgs false
set_option linter.unusedVariables false
set_option maxRecDepth 100000
namespace Go.Proofs.YtldjlkbjbkielaaGreatDoor.vaultDrop
open Go
theorem c1 : Rows.vaultDropRow.wfByText (OpenSpec.ofChange Rows.vaultDropSpec) = true := by kernel_rfl
theorem c3 : false = Rows.vaultDropRow.goesBy Tryz.pinned.checked.prog := by kernel_rfl
end Go.Proofs.YtldjlkbjbkielaaGreatDoor.vaultDrop

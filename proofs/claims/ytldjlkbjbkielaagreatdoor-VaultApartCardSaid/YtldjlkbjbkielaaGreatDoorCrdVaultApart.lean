/- VaultApart: closed facts of its card. -/
import Derived.Test.YtldjlkbjbkielaaGreatDoorRows
import Derived.SevenTiedAt
set_option linter.unusedSimpArgs false
set_option linter.unusedVariables false
set_option maxRecDepth 100000
namespace Go.Proofs.YtldjlkbjbkielaaGreatDoor.vaultApart
open Go
theorem c1 : Rows.vaultApartRow.wfByText (OpenSpec.ofChange Rows.vaultApartSpec) = true := by kernel_rfl
theorem c3 : false = Rows.vaultApartRow.goesBy Tryz.pinned.checked.prog := by kernel_rfl
end Go.Proofs.YtldjlkbjbkielaaGreatDoor.vaultApart

/- VaultEq: closed facts of its card. -/
import Derived.Test.YthhegdifbnghpaaGreatDoorRows
import Derived.SevenTiedAt
set_option linter.unusedSimpArgs false
set_option linter.unusedVariables false
set_option maxRecDepth 100000
namespace Go.Proofs.YthhegdifbnghpaaGreatDoor.vaultEq
open Go
theorem c1 : Rows.vaultEqRow.wfByText (OpenSpec.ofChange Rows.vaultEqSpec) = true := by kernel_rfl
theorem c3 : false = Rows.vaultEqRow.goesBy Tryz.pinned.checked.prog := by kernel_rfl
end Go.Proofs.YthhegdifbnghpaaGreatDoor.vaultEq

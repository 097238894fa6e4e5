/- DeskWants: closed facts of its card. -/
import Derived.Test.YthhegdifbnghpaaGreatDoorRows
import Derived.SevenTiedAt
set_option linter.unusedSimpArgs false
set_option linter.unusedVariables false
set_option maxRecDepth 100000
namespace Go.Proofs.YthhegdifbnghpaaGreatDoor.deskWants
open Go
theorem c1 : Rows.deskWantsRow.wfByText (OpenSpec.ofChange Rows.deskWantsSpec) = true := by kernel_rfl
theorem c3 : false = Rows.deskWantsRow.goesBy Tryz.pinned.checked.prog := by kernel_rfl
end Go.Proofs.YthhegdifbnghpaaGreatDoor.deskWants

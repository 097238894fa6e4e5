/- DeskVotes: closed facts of its card. -/
import Derived.Test.YthhegdifbnghpaaGreatDoorRows
import Derived.SevenTiedAt
set_option linter.unusedSimpArgs false
set_option linter.unusedVariables false
set_option maxRecDepth 100000
namespace Go.Proofs.YthhegdifbnghpaaGreatDoor.deskVotes
open Go
theorem c1 : Rows.deskVotesRow.wfByText (OpenSpec.ofChange Rows.deskVotesSpec) = true := by kernel_rfl
theorem c3 : false = Rows.deskVotesRow.goesBy Tryz.pinned.checked.prog := by kernel_rfl
end Go.Proofs.YthhegdifbnghpaaGreatDoor.deskVotes

/- Closed facts of the program, that all rows ask. -/
import Derived.Test.YthhegdifbnghpaaGreatDoorRows
import Derived.JoinedCond
set_option linter.unusedSimpArgs false
set_option linter.unusedVariables false
namespace Go.Proofs.YthhegdifbnghpaaGreatDoor.Fcts
open Go
theorem b2 : laidOutB Tryz.pinned.checked.prog = true := by kernel_rfl
theorem b3 : mapsRowed Tryz.pinned.checked.prog = true := by kernel_rfl
theorem b7 : (Tryz.pinned.checked.prog.stops == []) = true := by kernel_rfl
theorem b9 : (Tryz.pinned.checked.prog.stopKnobs == []) = true := by kernel_rfl
theorem b24 : Tryz.pinned.checked.prog.stopsHeard = true := by kernel_rfl
theorem b25 : Tryz.pinned.checked.prog.mayEnter = true := by kernel_rfl
end Go.Proofs.YthhegdifbnghpaaGreatDoor.Fcts

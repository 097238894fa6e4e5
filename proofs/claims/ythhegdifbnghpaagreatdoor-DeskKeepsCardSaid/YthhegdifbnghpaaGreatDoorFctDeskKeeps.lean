/- DeskKeeps: the closed facts of its row. -/
import Derived.Test.YthhegdifbnghpaaGreatDoorFctShare
set_option linter.unusedSimpArgs false
set_option linter.unusedVariables false
namespace Go.Proofs.YthhegdifbnghpaaGreatDoor.deskKeeps
open Go

theorem a1 : Rows.deskKeepsRow.wf (OpenSpec.ofChange (OpenSpec.ofChange Rows.deskKeepsSpec).bare) = true := by kernel_rfl
theorem a4 : Tryz.f3.params.all (Tryz.pinned.checked.prog.readableRec ·) = true := by kernel_rfl
theorem a5 : namedTie Tryz.pinned.checked.prog Rows.deskKeepsRow.named (OpenSpec.ofChange Rows.deskKeepsSpec).bare.vars = true := by kernel_rfl
theorem a6 : (Rows.deskKeepsRow.stops == []) = true := by kernel_rfl
theorem a8 : (Rows.deskKeepsRow.knobs == []) = true := by kernel_rfl
theorem g1 : (Rows.deskKeepsRow.inPlace == Tryz.pinned.checked.prog.inPlace 3) = true := by kernel_rfl
theorem g2 : (Rows.deskKeepsRow.unfollowed == Tryz.pinned.checked.prog.unfollowed 3) = true := by kernel_rfl
theorem g3 : (Rows.deskKeepsRow.recurses == Tryz.pinned.checked.prog.recurses 3) = true := by kernel_rfl
theorem g4 : (Rows.deskKeepsRow.named == Tryz.pinned.checked.prog.varsNamed 3) = true := by kernel_rfl
theorem a14 : (Rows.deskKeepsRow.maps == (Tryz.f3.params.toList ++ (OpenSpec.ofChange Rows.deskKeepsSpec).bare.plain.varTypes Tryz.pinned.checked.prog).any (Tryz.pinned.checked.prog.mapsRec ·)) = true := by kernel_rfl
theorem a15 : (Rows.deskKeepsRow.ifaces == (Tryz.f3.params.toList ++ (OpenSpec.ofChange Rows.deskKeepsSpec).bare.plain.varTypes Tryz.pinned.checked.prog).any (Tryz.pinned.checked.prog.ifacesRec ·)) = true := by kernel_rfl
theorem a16 : (Rows.deskKeepsRow.mapsOut == Tryz.pinned.checked.prog.mapsAmong Tryz.f3.resultTypes.toList) = true := by kernel_rfl
theorem a17 : (Rows.deskKeepsRow.loops == (Tryz.f3.params.toList ++ (OpenSpec.ofChange Rows.deskKeepsSpec).bare.plain.varTypes Tryz.pinned.checked.prog).any (Tryz.pinned.checked.prog.loopsFrom ·)) = true := by kernel_rfl
theorem a17b : (Rows.deskKeepsRow.wideKeys == (Tryz.f3.params.toList ++ (OpenSpec.ofChange Rows.deskKeepsSpec).bare.plain.varTypes Tryz.pinned.checked.prog ++ Tryz.f3.resultTypes.toList).any (Tryz.pinned.checked.prog.wideKeysFrom ·)) = true := by kernel_rfl
theorem a18 : (OpenSpec.ofChange Rows.deskKeepsSpec).bare.vars.all (Tryz.pinned.checked.prog.varReadable ·) = true := by kernel_rfl
theorem a19 : Tryz.f3.resultTypes.all (fun t => Tryz.pinned.checked.prog.readableRec t && decide (t < Tryz.pinned.checked.prog.types.size)) = true := by kernel_rfl
theorem a20 : (Rows.deskKeepsRow.ifacesOut == Tryz.f3.resultTypes.toList.any (Tryz.pinned.checked.prog.ifacesRec ·)) = true := by kernel_rfl
theorem a21 : (Rows.deskKeepsRow.loopsOut == Tryz.f3.resultTypes.toList.any (Tryz.pinned.checked.prog.loopsFrom ·)) = true := by kernel_rfl
theorem a22 : (Rows.deskKeepsRow.plainKeys == Tryz.pinned.checked.prog.plainKeys) = true := by kernel_rfl
theorem a23 : Rows.deskKeepsRow.shortTexts.isNone = true := by kernel_rfl
theorem a24b : (Rows.deskKeepsRow.lifted == Tryz.pinned.checked.prog.liftsFinal) = true := by kernel_rfl
theorem a24c : (Tryz.pinned.checked.prog.make == some Rows.deskKeepsRow.make) = true := by kernel_rfl
theorem a25 : (Rows.deskKeepsRow.kinds == (if Rows.deskKeepsRow.domain.isEmpty then [] else Tryz.f3.params.toList.map fun t => match Tryz.pinned.checked.prog.underlying t with | some (.int k) => some k | _ => none)) = true := by kernel_rfl
theorem a26 : (Rows.deskKeepsRow.pinned == Rows.deskKeepsRow.pinnedBy) = true := by kernel_rfl
theorem a27 : (Rows.deskKeepsRow.veiled == (Tryz.f3.params.toList ++ (OpenSpec.ofChange Rows.deskKeepsSpec).bare.plain.varTypes Tryz.pinned.checked.prog ++ Tryz.f3.resultTypes.toList).any (Tryz.pinned.checked.prog.veiledRec ·)) = true := by kernel_rfl
theorem a28 : Rows.deskKeepsRow.veiledFits Tryz.pinned.checked.prog Tryz.f3.params.toList (Tryz.f3.params.toList ++ (OpenSpec.ofChange Rows.deskKeepsSpec).bare.plain.varTypes Tryz.pinned.checked.prog ++ Tryz.f3.resultTypes.toList) = true := by kernel_rfl

end Go.Proofs.YthhegdifbnghpaaGreatDoor.deskKeeps

/- DeskLast: the closed facts of its row. -/
import Derived.Test.YthhegdifbnghpaaGreatDoorFctShare
set_option linter.unusedSimpArgs false
set_option linter.unusedVariables false
namespace Go.Proofs.YthhegdifbnghpaaGreatDoor.deskLast
open Go

theorem a1 : Rows.deskLastRow.wf (OpenSpec.ofChange (OpenSpec.ofChange Rows.deskLastSpec).bare) = true := by kernel_rfl
theorem a4 : Tryz.f6.params.all (Tryz.pinned.checked.prog.readableRec ·) = true := by kernel_rfl
theorem a5 : namedTie Tryz.pinned.checked.prog Rows.deskLastRow.named (OpenSpec.ofChange Rows.deskLastSpec).bare.vars = true := by kernel_rfl
theorem a6 : (Rows.deskLastRow.stops == []) = true := by kernel_rfl
theorem a8 : (Rows.deskLastRow.knobs == []) = true := by kernel_rfl
theorem g1 : (Rows.deskLastRow.inPlace == Tryz.pinned.checked.prog.inPlace 6) = true := by kernel_rfl
theorem g2 : (Rows.deskLastRow.unfollowed == Tryz.pinned.checked.prog.unfollowed 6) = true := by kernel_rfl
theorem g3 : (Rows.deskLastRow.recurses == Tryz.pinned.checked.prog.recurses 6) = true := by kernel_rfl
theorem g4 : (Rows.deskLastRow.named == Tryz.pinned.checked.prog.varsNamed 6) = true := by kernel_rfl
theorem a14 : (Rows.deskLastRow.maps == (Tryz.f6.params.toList ++ (OpenSpec.ofChange Rows.deskLastSpec).bare.plain.varTypes Tryz.pinned.checked.prog).any (Tryz.pinned.checked.prog.mapsRec ·)) = true := by kernel_rfl
theorem a15 : (Rows.deskLastRow.ifaces == (Tryz.f6.params.toList ++ (OpenSpec.ofChange Rows.deskLastSpec).bare.plain.varTypes Tryz.pinned.checked.prog).any (Tryz.pinned.checked.prog.ifacesRec ·)) = true := by kernel_rfl
theorem a16 : (Rows.deskLastRow.mapsOut == Tryz.pinned.checked.prog.mapsAmong Tryz.f6.resultTypes.toList) = true := by kernel_rfl
theorem a17 : (Rows.deskLastRow.loops == (Tryz.f6.params.toList ++ (OpenSpec.ofChange Rows.deskLastSpec).bare.plain.varTypes Tryz.pinned.checked.prog).any (Tryz.pinned.checked.prog.loopsFrom ·)) = true := by kernel_rfl
theorem a17b : (Rows.deskLastRow.wideKeys == (Tryz.f6.params.toList ++ (OpenSpec.ofChange Rows.deskLastSpec).bare.plain.varTypes Tryz.pinned.checked.prog ++ Tryz.f6.resultTypes.toList).any (Tryz.pinned.checked.prog.wideKeysFrom ·)) = true := by kernel_rfl
theorem a18 : (OpenSpec.ofChange Rows.deskLastSpec).bare.vars.all (Tryz.pinned.checked.prog.varReadable ·) = true := by kernel_rfl
theorem a19 : Tryz.f6.resultTypes.all (fun t => Tryz.pinned.checked.prog.readableRec t && decide (t < Tryz.pinned.checked.prog.types.size)) = true := by kernel_rfl
theorem a20 : (Rows.deskLastRow.ifacesOut == Tryz.f6.resultTypes.toList.any (Tryz.pinned.checked.prog.ifacesRec ·)) = true := by kernel_rfl
theorem a21 : (Rows.deskLastRow.loopsOut == Tryz.f6.resultTypes.toList.any (Tryz.pinned.checked.prog.loopsFrom ·)) = true := by kernel_rfl
theorem a22 : (Rows.deskLastRow.plainKeys == Tryz.pinned.checked.prog.plainKeys) = true := by kernel_rfl
theorem a23 : Rows.deskLastRow.shortTexts.isNone = true := by kernel_rfl
theorem a24b : (Rows.deskLastRow.lifted == Tryz.pinned.checked.prog.liftsFinal) = true := by kernel_rfl
theorem a24c : (Tryz.pinned.checked.prog.make == some Rows.deskLastRow.make) = true := by kernel_rfl
theorem a25 : (Rows.deskLastRow.kinds == (if Rows.deskLastRow.domain.isEmpty then [] else Tryz.f6.params.toList.map fun t => match Tryz.pinned.checked.prog.underlying t with | some (.int k) => some k | _ => none)) = true := by kernel_rfl
theorem a26 : (Rows.deskLastRow.pinned == Rows.deskLastRow.pinnedBy) = true := by kernel_rfl
theorem a27 : (Rows.deskLastRow.veiled == (Tryz.f6.params.toList ++ (OpenSpec.ofChange Rows.deskLastSpec).bare.plain.varTypes Tryz.pinned.checked.prog ++ Tryz.f6.resultTypes.toList).any (Tryz.pinned.checked.prog.veiledRec ·)) = true := by kernel_rfl
theorem a28 : Rows.deskLastRow.veiledFits Tryz.pinned.checked.prog Tryz.f6.params.toList (Tryz.f6.params.toList ++ (OpenSpec.ofChange Rows.deskLastSpec).bare.plain.varTypes Tryz.pinned.checked.prog ++ Tryz.f6.resultTypes.toList) = true := by kernel_rfl

end Go.Proofs.YthhegdifbnghpaaGreatDoor.deskLast

/- DeskWants: the closed facts of its row. -/
import Derived.Test.YthhegdifbnghpaaGreatDoorFctShare
set_option linter.unusedSimpArgs false
set_option linter.unusedVariables false
namespace Go.Proofs.YthhegdifbnghpaaGreatDoor.deskWants
open Go

theorem a1 : Rows.deskWantsRow.wf (OpenSpec.ofChange (OpenSpec.ofChange Rows.deskWantsSpec).bare) = true := by kernel_rfl
theorem a4 : Tryz.f5.params.all (Tryz.pinned.checked.prog.readableRec ·) = true := by kernel_rfl
theorem a5 : namedTie Tryz.pinned.checked.prog Rows.deskWantsRow.named (OpenSpec.ofChange Rows.deskWantsSpec).bare.vars = true := by kernel_rfl
theorem a6 : (Rows.deskWantsRow.stops == []) = true := by kernel_rfl
theorem a8 : (Rows.deskWantsRow.knobs == []) = true := by kernel_rfl
theorem g1 : (Rows.deskWantsRow.inPlace == Tryz.pinned.checked.prog.inPlace 5) = true := by kernel_rfl
theorem g2 : (Rows.deskWantsRow.unfollowed == Tryz.pinned.checked.prog.unfollowed 5) = true := by kernel_rfl
theorem g3 : (Rows.deskWantsRow.recurses == Tryz.pinned.checked.prog.recurses 5) = true := by kernel_rfl
theorem g4 : (Rows.deskWantsRow.named == Tryz.pinned.checked.prog.varsNamed 5) = true := by kernel_rfl
theorem a14 : (Rows.deskWantsRow.maps == (Tryz.f5.params.toList ++ (OpenSpec.ofChange Rows.deskWantsSpec).bare.plain.varTypes Tryz.pinned.checked.prog).any (Tryz.pinned.checked.prog.mapsRec ·)) = true := by kernel_rfl
theorem a15 : (Rows.deskWantsRow.ifaces == (Tryz.f5.params.toList ++ (OpenSpec.ofChange Rows.deskWantsSpec).bare.plain.varTypes Tryz.pinned.checked.prog).any (Tryz.pinned.checked.prog.ifacesRec ·)) = true := by kernel_rfl
theorem a16 : (Rows.deskWantsRow.mapsOut == Tryz.pinned.checked.prog.mapsAmong Tryz.f5.resultTypes.toList) = true := by kernel_rfl
theorem a17 : (Rows.deskWantsRow.loops == (Tryz.f5.params.toList ++ (OpenSpec.ofChange Rows.deskWantsSpec).bare.plain.varTypes Tryz.pinned.checked.prog).any (Tryz.pinned.checked.prog.loopsFrom ·)) = true := by kernel_rfl
theorem a17b : (Rows.deskWantsRow.wideKeys == (Tryz.f5.params.toList ++ (OpenSpec.ofChange Rows.deskWantsSpec).bare.plain.varTypes Tryz.pinned.checked.prog ++ Tryz.f5.resultTypes.toList).any (Tryz.pinned.checked.prog.wideKeysFrom ·)) = true := by kernel_rfl
theorem a18 : (OpenSpec.ofChange Rows.deskWantsSpec).bare.vars.all (Tryz.pinned.checked.prog.varReadable ·) = true := by kernel_rfl
theorem a19 : Tryz.f5.resultTypes.all (fun t => Tryz.pinned.checked.prog.readableRec t && decide (t < Tryz.pinned.checked.prog.types.size)) = true := by kernel_rfl
theorem a20 : (Rows.deskWantsRow.ifacesOut == Tryz.f5.resultTypes.toList.any (Tryz.pinned.checked.prog.ifacesRec ·)) = true := by kernel_rfl
theorem a21 : (Rows.deskWantsRow.loopsOut == Tryz.f5.resultTypes.toList.any (Tryz.pinned.checked.prog.loopsFrom ·)) = true := by kernel_rfl
theorem a22 : (Rows.deskWantsRow.plainKeys == Tryz.pinned.checked.prog.plainKeys) = true := by kernel_rfl
theorem a23 : Rows.deskWantsRow.shortTexts.isNone = true := by kernel_rfl
theorem a24b : (Rows.deskWantsRow.lifted == Tryz.pinned.checked.prog.liftsFinal) = true := by kernel_rfl
theorem a24c : (Tryz.pinned.checked.prog.make == some Rows.deskWantsRow.make) = true := by kernel_rfl
theorem a25 : (Rows.deskWantsRow.kinds == (if Rows.deskWantsRow.domain.isEmpty then [] else Tryz.f5.params.toList.map fun t => match Tryz.pinned.checked.prog.underlying t with | some (.int k) => some k | _ => none)) = true := by kernel_rfl
theorem a26 : (Rows.deskWantsRow.pinned == Rows.deskWantsRow.pinnedBy) = true := by kernel_rfl
theorem a27 : (Rows.deskWantsRow.veiled == (Tryz.f5.params.toList ++ (OpenSpec.ofChange Rows.deskWantsSpec).bare.plain.varTypes Tryz.pinned.checked.prog ++ Tryz.f5.resultTypes.toList).any (Tryz.pinned.checked.prog.veiledRec ·)) = true := by kernel_rfl
theorem a28 : Rows.deskWantsRow.veiledFits Tryz.pinned.checked.prog Tryz.f5.params.toList (Tryz.f5.params.toList ++ (OpenSpec.ofChange Rows.deskWantsSpec).bare.plain.varTypes Tryz.pinned.checked.prog ++ Tryz.f5.resultTypes.toList) = true := by kernel_rfl

end Go.Proofs.YthhegdifbnghpaaGreatDoor.deskWants

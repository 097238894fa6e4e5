/- DeskVotes: the closed facts of its row. -/
import Derived.Test.YthhegdifbnghpaaGreatDoorFctShare
set_option linter.unusedSimpArgs false
set_option linter.unusedVariables false
namespace Go.Proofs.YthhegdifbnghpaaGreatDoor.deskVotes
open Go

theorem a1 : Rows.deskVotesRow.wf (OpenSpec.ofChange (OpenSpec.ofChange Rows.deskVotesSpec).bare) = true := by kernel_rfl
theorem a4 : Tryz.f4.params.all (Tryz.pinned.checked.prog.readableRec ·) = true := by kernel_rfl
theorem a5 : namedTie Tryz.pinned.checked.prog Rows.deskVotesRow.named (OpenSpec.ofChange Rows.deskVotesSpec).bare.vars = true := by kernel_rfl
theorem a6 : (Rows.deskVotesRow.stops == []) = true := by kernel_rfl
theorem a8 : (Rows.deskVotesRow.knobs == []) = true := by kernel_rfl
theorem g1 : (Rows.deskVotesRow.inPlace == Tryz.pinned.checked.prog.inPlace 4) = true := by kernel_rfl
theorem g2 : (Rows.deskVotesRow.unfollowed == Tryz.pinned.checked.prog.unfollowed 4) = true := by kernel_rfl
theorem g3 : (Rows.deskVotesRow.recurses == Tryz.pinned.checked.prog.recurses 4) = true := by kernel_rfl
theorem g4 : (Rows.deskVotesRow.named == Tryz.pinned.checked.prog.varsNamed 4) = true := by kernel_rfl
theorem a14 : (Rows.deskVotesRow.maps == (Tryz.f4.params.toList ++ (OpenSpec.ofChange Rows.deskVotesSpec).bare.plain.varTypes Tryz.pinned.checked.prog).any (Tryz.pinned.checked.prog.mapsRec ·)) = true := by kernel_rfl
theorem a15 : (Rows.deskVotesRow.ifaces == (Tryz.f4.params.toList ++ (OpenSpec.ofChange Rows.deskVotesSpec).bare.plain.varTypes Tryz.pinned.checked.prog).any (Tryz.pinned.checked.prog.ifacesRec ·)) = true := by kernel_rfl
theorem a16 : (Rows.deskVotesRow.mapsOut == Tryz.pinned.checked.prog.mapsAmong Tryz.f4.resultTypes.toList) = true := by kernel_rfl
theorem a17 : (Rows.deskVotesRow.loops == (Tryz.f4.params.toList ++ (OpenSpec.ofChange Rows.deskVotesSpec).bare.plain.varTypes Tryz.pinned.checked.prog).any (Tryz.pinned.checked.prog.loopsFrom ·)) = true := by kernel_rfl
theorem a17b : (Rows.deskVotesRow.wideKeys == (Tryz.f4.params.toList ++ (OpenSpec.ofChange Rows.deskVotesSpec).bare.plain.varTypes Tryz.pinned.checked.prog ++ Tryz.f4.resultTypes.toList).any (Tryz.pinned.checked.prog.wideKeysFrom ·)) = true := by kernel_rfl
theorem a18 : (OpenSpec.ofChange Rows.deskVotesSpec).bare.vars.all (Tryz.pinned.checked.prog.varReadable ·) = true := by kernel_rfl
theorem a19 : Tryz.f4.resultTypes.all (fun t => Tryz.pinned.checked.prog.readableRec t && decide (t < Tryz.pinned.checked.prog.types.size)) = true := by kernel_rfl
theorem a20 : (Rows.deskVotesRow.ifacesOut == Tryz.f4.resultTypes.toList.any (Tryz.pinned.checked.prog.ifacesRec ·)) = true := by kernel_rfl
theorem a21 : (Rows.deskVotesRow.loopsOut == Tryz.f4.resultTypes.toList.any (Tryz.pinned.checked.prog.loopsFrom ·)) = true := by kernel_rfl
theorem a22 : (Rows.deskVotesRow.plainKeys == Tryz.pinned.checked.prog.plainKeys) = true := by kernel_rfl
theorem a23 : Rows.deskVotesRow.shortTexts.isNone = true := by kernel_rfl
theorem a24b : (Rows.deskVotesRow.lifted == Tryz.pinned.checked.prog.liftsFinal) = true := by kernel_rfl
theorem a24c : (Tryz.pinned.checked.prog.make == some Rows.deskVotesRow.make) = true := by kernel_rfl
theorem a25 : (Rows.deskVotesRow.kinds == (if Rows.deskVotesRow.domain.isEmpty then [] else Tryz.f4.params.toList.map fun t => match Tryz.pinned.checked.prog.underlying t with | some (.int k) => some k | _ => none)) = true := by kernel_rfl
theorem a26 : (Rows.deskVotesRow.pinned == Rows.deskVotesRow.pinnedBy) = true := by kernel_rfl
theorem a27 : (Rows.deskVotesRow.veiled == (Tryz.f4.params.toList ++ (OpenSpec.ofChange Rows.deskVotesSpec).bare.plain.varTypes Tryz.pinned.checked.prog ++ Tryz.f4.resultTypes.toList).any (Tryz.pinned.checked.prog.veiledRec ·)) = true := by kernel_rfl
theorem a28 : Rows.deskVotesRow.veiledFits Tryz.pinned.checked.prog Tryz.f4.params.toList (Tryz.f4.params.toList ++ (OpenSpec.ofChange Rows.deskVotesSpec).bare.plain.varTypes Tryz.pinned.checked.prog ++ Tryz.f4.resultTypes.toList) = true := by kernel_rfl

end Go.Proofs.YthhegdifbnghpaaGreatDoor.deskVotes

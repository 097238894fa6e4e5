/- ShardClock: the closed facts of its row. -/
import Derived.Test.YthhegdifbnghpaaGreatDoorFctShare
set_option linter.unusedSimpArgs false
set_option linter.unusedVariables false
namespace Go.Proofs.YthhegdifbnghpaaGreatDoor.shardClock
open Go

theorem a1 : Rows.shardClockRow.wf (OpenSpec.ofChange (OpenSpec.ofChange Rows.shardClockSpec).bare) = true := by kernel_rfl
theorem a4 : Tryz.f7.params.all (Tryz.pinned.checked.prog.readableRec ·) = true := by kernel_rfl
theorem a5 : namedTie Tryz.pinned.checked.prog Rows.shardClockRow.named (OpenSpec.ofChange Rows.shardClockSpec).bare.vars = true := by kernel_rfl
theorem a6 : (Rows.shardClockRow.stops == []) = true := by kernel_rfl
theorem a8 : (Rows.shardClockRow.knobs == []) = true := by kernel_rfl
theorem g1 : (Rows.shardClockRow.inPlace == Tryz.pinned.checked.prog.inPlace 7) = true := by kernel_rfl
theorem g2 : (Rows.shardClockRow.unfollowed == Tryz.pinned.checked.prog.unfollowed 7) = true := by kernel_rfl
theorem g3 : (Rows.shardClockRow.recurses == Tryz.pinned.checked.prog.recurses 7) = true := by kernel_rfl
theorem g4 : (Rows.shardClockRow.named == Tryz.pinned.checked.prog.varsNamed 7) = true := by kernel_rfl
theorem a14 : (Rows.shardClockRow.maps == (Tryz.f7.params.toList ++ (OpenSpec.ofChange Rows.shardClockSpec).bare.plain.varTypes Tryz.pinned.checked.prog).any (Tryz.pinned.checked.prog.mapsRec ·)) = true := by kernel_rfl
theorem a15 : (Rows.shardClockRow.ifaces == (Tryz.f7.params.toList ++ (OpenSpec.ofChange Rows.shardClockSpec).bare.plain.varTypes Tryz.pinned.checked.prog).any (Tryz.pinned.checked.prog.ifacesRec ·)) = true := by kernel_rfl
theorem a16 : (Rows.shardClockRow.mapsOut == Tryz.pinned.checked.prog.mapsAmong Tryz.f7.resultTypes.toList) = true := by kernel_rfl
theorem a17 : (Rows.shardClockRow.loops == (Tryz.f7.params.toList ++ (OpenSpec.ofChange Rows.shardClockSpec).bare.plain.varTypes Tryz.pinned.checked.prog).any (Tryz.pinned.checked.prog.loopsFrom ·)) = true := by kernel_rfl
theorem a17b : (Rows.shardClockRow.wideKeys == (Tryz.f7.params.toList ++ (OpenSpec.ofChange Rows.shardClockSpec).bare.plain.varTypes Tryz.pinned.checked.prog ++ Tryz.f7.resultTypes.toList).any (Tryz.pinned.checked.prog.wideKeysFrom ·)) = true := by kernel_rfl
theorem a18 : (OpenSpec.ofChange Rows.shardClockSpec).bare.vars.all (Tryz.pinned.checked.prog.varReadable ·) = true := by kernel_rfl
theorem a19 : Tryz.f7.resultTypes.all (fun t => Tryz.pinned.checked.prog.readableRec t && decide (t < Tryz.pinned.checked.prog.types.size)) = true := by kernel_rfl
theorem a20 : (Rows.shardClockRow.ifacesOut == Tryz.f7.resultTypes.toList.any (Tryz.pinned.checked.prog.ifacesRec ·)) = true := by kernel_rfl
theorem a21 : (Rows.shardClockRow.loopsOut == Tryz.f7.resultTypes.toList.any (Tryz.pinned.checked.prog.loopsFrom ·)) = true := by kernel_rfl
theorem a22 : (Rows.shardClockRow.plainKeys == Tryz.pinned.checked.prog.plainKeys) = true := by kernel_rfl
theorem a23 : Rows.shardClockRow.shortTexts.isNone = true := by kernel_rfl
theorem a24b : (Rows.shardClockRow.lifted == Tryz.pinned.checked.prog.liftsFinal) = true := by kernel_rfl
theorem a24c : (Tryz.pinned.checked.prog.make == some Rows.shardClockRow.make) = true := by kernel_rfl
theorem a25 : (Rows.shardClockRow.kinds == (if Rows.shardClockRow.domain.isEmpty then [] else Tryz.f7.params.toList.map fun t => match Tryz.pinned.checked.prog.underlying t with | some (.int k) => some k | _ => none)) = true := by kernel_rfl
theorem a26 : (Rows.shardClockRow.pinned == Rows.shardClockRow.pinnedBy) = true := by kernel_rfl
theorem a27 : (Rows.shardClockRow.veiled == (Tryz.f7.params.toList ++ (OpenSpec.ofChange Rows.shardClockSpec).bare.plain.varTypes Tryz.pinned.checked.prog ++ Tryz.f7.resultTypes.toList).any (Tryz.pinned.checked.prog.veiledRec ·)) = true := by kernel_rfl
theorem a28 : Rows.shardClockRow.veiledFits Tryz.pinned.checked.prog Tryz.f7.params.toList (Tryz.f7.params.toList ++ (OpenSpec.ofChange Rows.shardClockSpec).bare.plain.varTypes Tryz.pinned.checked.prog ++ Tryz.f7.resultTypes.toList) = true := by kernel_rfl

end Go.Proofs.YthhegdifbnghpaaGreatDoor.shardClock

/- VaultTime: the closed facts of its row. -/
import Derived.Test.YtldjlkbjbkielaaGreatDoorFctShare
set_option linter.unusedSimpArgs false
set_option linter.unusedVariables false
namespace Go.Proofs.YtldjlkbjbkielaaGreatDoor.vaultTime
open Go

theorem a1 : Rows.vaultTimeRow.wf (OpenSpec.ofChange (OpenSpec.ofChange Rows.vaultTimeSpec).bare) = true := by kernel_rfl
theorem a4 : Tryz.f10.params.all (Tryz.pinned.checked.prog.readableRec ·) = true := by kernel_rfl
theorem a5 : namedTie Tryz.pinned.checked.prog Rows.vaultTimeRow.named (OpenSpec.ofChange Rows.vaultTimeSpec).bare.vars = true := by kernel_rfl
theorem a6 : (Rows.vaultTimeRow.stops == []) = true := by kernel_rfl
theorem a8 : (Rows.vaultTimeRow.knobs == []) = true := by kernel_rfl
theorem g1 : (Rows.vaultTimeRow.inPlace == Tryz.pinned.checked.prog.inPlace 10) = true := by kernel_rfl
theorem g2 : (Rows.vaultTimeRow.unfollowed == Tryz.pinned.checked.prog.unfollowed 10) = true := by kernel_rfl
theorem g3 : (Rows.vaultTimeRow.recurses == Tryz.pinned.checked.prog.recurses 10) = true := by kernel_rfl
theorem g4 : (Rows.vaultTimeRow.named == Tryz.pinned.checked.prog.varsNamed 10) = true := by kernel_rfl
theorem a14 : (Rows.vaultTimeRow.maps == (Tryz.f10.params.toList ++ (OpenSpec.ofChange Rows.vaultTimeSpec).bare.plain.varTypes Tryz.pinned.checked.prog).any (Tryz.pinned.checked.prog.mapsRec ·)) = true := by kernel_rfl
theorem a15 : (Rows.vaultTimeRow.ifaces == (Tryz.f10.params.toList ++ (OpenSpec.ofChange Rows.vaultTimeSpec).bare.plain.varTypes Tryz.pinned.checked.prog).any (Tryz.pinned.checked.prog.ifacesRec ·)) = true := by kernel_rfl
theorem a16 : (Rows.vaultTimeRow.mapsOut == Tryz.pinned.checked.prog.mapsAmong Tryz.f10.resultTypes.toList) = true := by kernel_rfl
theorem a17 : (Rows.vaultTimeRow.loops == (Tryz.f10.params.toList ++ (OpenSpec.ofChange Rows.vaultTimeSpec).bare.plain.varTypes Tryz.pinned.checked.prog).any (Tryz.pinned.checked.prog.loopsFrom ·)) = true := by kernel_rfl
theorem a17b : (Rows.vaultTimeRow.wideKeys == (Tryz.f10.params.toList ++ (OpenSpec.ofChange Rows.vaultTimeSpec).bare.plain.varTypes Tryz.pinned.checked.prog ++ Tryz.f10.resultTypes.toList).any (Tryz.pinned.checked.prog.wideKeysFrom ·)) = true := by kernel_rfl
theorem a18 : (OpenSpec.ofChange Rows.vaultTimeSpec).bare.vars.all (Tryz.pinned.checked.prog.varReadable ·) = true := by kernel_rfl
theorem a19 : Tryz.f10.resultTypes.all (fun t => Tryz.pinned.checked.prog.readableRec t && decide (t < Tryz.pinned.checked.prog.types.size)) = true := by kernel_rfl
theorem a20 : (Rows.vaultTimeRow.ifacesOut == Tryz.f10.resultTypes.toList.any (Tryz.pinned.checked.prog.ifacesRec ·)) = true := by kernel_rfl
theorem a21 : (Rows.vaultTimeRow.loopsOut == Tryz.f10.resultTypes.toList.any (Tryz.pinned.checked.prog.loopsFrom ·)) = true := by kernel_rfl
theorem a22 : (Rows.vaultTimeRow.plainKeys == Tryz.pinned.checked.prog.plainKeys) = true := by kernel_rfl
theorem a23 : Rows.vaultTimeRow.shortTexts.isNone = true := by kernel_rfl
theorem a24b : (Rows.vaultTimeRow.lifted == Tryz.pinned.checked.prog.liftsFinal) = true := by kernel_rfl
theorem a24c : (Tryz.pinned.checked.prog.make == some Rows.vaultTimeRow.make) = true := by kernel_rfl
theorem a25 : (Rows.vaultTimeRow.kinds == (if Rows.vaultTimeRow.domain.isEmpty then [] else Tryz.f10.params.toList.map fun t => match Tryz.pinned.checked.prog.underlying t with | some (.int k) => some k | _ => none)) = true := by kernel_rfl
theorem a26 : (Rows.vaultTimeRow.pinned == Rows.vaultTimeRow.pinnedBy) = true := by kernel_rfl
theorem a27 : (Rows.vaultTimeRow.veiled == (Tryz.f10.params.toList ++ (OpenSpec.ofChange Rows.vaultTimeSpec).bare.plain.varTypes Tryz.pinned.checked.prog ++ Tryz.f10.resultTypes.toList).any (Tryz.pinned.checked.prog.veiledRec ·)) = true := by kernel_rfl
theorem a28 : Rows.vaultTimeRow.veiledFits Tryz.pinned.checked.prog Tryz.f10.params.toList (Tryz.f10.params.toList ++ (OpenSpec.ofChange Rows.vaultTimeSpec).bare.plain.varTypes Tryz.pinned.checked.prog ++ Tryz.f10.resultTypes.toList) = true := by kernel_rfl

end Go.Proofs.YtldjlkbjbkielaaGreatDoor.vaultTime

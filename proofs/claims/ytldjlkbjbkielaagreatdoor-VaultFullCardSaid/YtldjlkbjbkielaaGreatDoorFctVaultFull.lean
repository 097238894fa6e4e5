/- VaultFull: the closed facts of its row. -/
import Derived.Test.YtldjlkbjbkielaaGreatDoorFctShare
set_option linter.unusedSimpArgs false
set_option linter.unusedVariables false
namespace Go.Proofs.YtldjlkbjbkielaaGreatDoor.vaultFull
open Go

theorem a1 : Rows.vaultFullRow.wf (OpenSpec.ofChange (OpenSpec.ofChange Rows.vaultFullSpec).bare) = true := by kernel_rfl
theorem a4 : Tryz.f8.params.all (Tryz.pinned.checked.prog.readableRec ·) = true := by kernel_rfl
theorem a5 : namedTie Tryz.pinned.checked.prog Rows.vaultFullRow.named (OpenSpec.ofChange Rows.vaultFullSpec).bare.vars = true := by kernel_rfl
theorem a6 : (Rows.vaultFullRow.stops == []) = true := by kernel_rfl
theorem a8 : (Rows.vaultFullRow.knobs == []) = true := by kernel_rfl
theorem g1 : (Rows.vaultFullRow.inPlace == Tryz.pinned.checked.prog.inPlace 8) = true := by kernel_rfl
theorem g2 : (Rows.vaultFullRow.unfollowed == Tryz.pinned.checked.prog.unfollowed 8) = true := by kernel_rfl
theorem g3 : (Rows.vaultFullRow.recurses == Tryz.pinned.checked.prog.recurses 8) = true := by kernel_rfl
theorem g4 : (Rows.vaultFullRow.named == Tryz.pinned.checked.prog.varsNamed 8) = true := by kernel_rfl
theorem a14 : (Rows.vaultFullRow.maps == (Tryz.f8.params.toList ++ (OpenSpec.ofChange Rows.vaultFullSpec).bare.plain.varTypes Tryz.pinned.checked.prog).any (Tryz.pinned.checked.prog.mapsRec ·)) = true := by kernel_rfl
theorem a15 : (Rows.vaultFullRow.ifaces == (Tryz.f8.params.toList ++ (OpenSpec.ofChange Rows.vaultFullSpec).bare.plain.varTypes Tryz.pinned.checked.prog).any (Tryz.pinned.checked.prog.ifacesRec ·)) = true := by kernel_rfl
theorem a16 : (Rows.vaultFullRow.mapsOut == Tryz.pinned.checked.prog.mapsAmong Tryz.f8.resultTypes.toList) = true := by kernel_rfl
theorem a17 : (Rows.vaultFullRow.loops == (Tryz.f8.params.toList ++ (OpenSpec.ofChange Rows.vaultFullSpec).bare.plain.varTypes Tryz.pinned.checked.prog).any (Tryz.pinned.checked.prog.loopsFrom ·)) = true := by kernel_rfl
theorem a17b : (Rows.vaultFullRow.wideKeys == (Tryz.f8.params.toList ++ (OpenSpec.ofChange Rows.vaultFullSpec).bare.plain.varTypes Tryz.pinned.checked.prog ++ Tryz.f8.resultTypes.toList).any (Tryz.pinned.checked.prog.wideKeysFrom ·)) = true := by kernel_rfl
theorem a18 : (OpenSpec.ofChange Rows.vaultFullSpec).bare.vars.all (Tryz.pinned.checked.prog.varReadable ·) = true := by kernel_rfl
theorem a19 : Tryz.f8.resultTypes.all (fun t => Tryz.pinned.checked.prog.readableRec t && decide (t < Tryz.pinned.checked.prog.types.size)) = true := by kernel_rfl
theorem a20 : (Rows.vaultFullRow.ifacesOut == Tryz.f8.resultTypes.toList.any (Tryz.pinned.checked.prog.ifacesRec ·)) = true := by kernel_rfl
theorem a21 : (Rows.vaultFullRow.loopsOut == Tryz.f8.resultTypes.toList.any (Tryz.pinned.checked.prog.loopsFrom ·)) = true := by kernel_rfl
theorem a22 : (Rows.vaultFullRow.plainKeys == Tryz.pinned.checked.prog.plainKeys) = true := by kernel_rfl
theorem a23 : Rows.vaultFullRow.shortTexts.isNone = true := by kernel_rfl
theorem a24b : (Rows.vaultFullRow.lifted == Tryz.pinned.checked.prog.liftsFinal) = true := by kernel_rfl
theorem a24c : (Tryz.pinned.checked.prog.make == some Rows.vaultFullRow.make) = true := by kernel_rfl
theorem a25 : (Rows.vaultFullRow.kinds == (if Rows.vaultFullRow.domain.isEmpty then [] else Tryz.f8.params.toList.map fun t => match Tryz.pinned.checked.prog.underlying t with | some (.int k) => some k | _ => none)) = true := by kernel_rfl
theorem a26 : (Rows.vaultFullRow.pinned == Rows.vaultFullRow.pinnedBy) = true := by kernel_rfl
theorem a27 : (Rows.vaultFullRow.veiled == (Tryz.f8.params.toList ++ (OpenSpec.ofChange Rows.vaultFullSpec).bare.plain.varTypes Tryz.pinned.checked.prog ++ Tryz.f8.resultTypes.toList).any (Tryz.pinned.checked.prog.veiledRec ·)) = true := by kernel_rfl
theorem a28 : Rows.vaultFullRow.veiledFits Tryz.pinned.checked.prog Tryz.f8.params.toList (Tryz.f8.params.toList ++ (OpenSpec.ofChange Rows.vaultFullSpec).bare.plain.varTypes Tryz.pinned.checked.prog ++ Tryz.f8.resultTypes.toList) = true := by kernel_rfl

end Go.Proofs.YtldjlkbjbkielaaGreatDoor.vaultFull

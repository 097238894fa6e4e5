/- VaultAgain: the closed facts of its row. -/
import Derived.Test.YtldjlkbjbkielaaGreatDoorFctShare
set_option linter.unusedSimpArgs false
set_option linter.unusedVariables false
namespace Go.Proofs.YtldjlkbjbkielaaGreatDoor.vaultAgain
open Go

theorem a1 : Rows.vaultAgainRow.wf (OpenSpec.ofChange (OpenSpec.ofChange Rows.vaultAgainSpec).bare) = true := by kernel_rfl
theorem a4 : Tryz.f5.params.all (Tryz.pinned.checked.prog.readableRec ·) = true := by kernel_rfl
theorem a5 : namedTie Tryz.pinned.checked.prog Rows.vaultAgainRow.named (OpenSpec.ofChange Rows.vaultAgainSpec).bare.vars = true := by kernel_rfl
theorem a6 : (Rows.vaultAgainRow.stops == []) = true := by kernel_rfl
theorem a8 : (Rows.vaultAgainRow.knobs == []) = true := by kernel_rfl
theorem g1 : (Rows.vaultAgainRow.inPlace == Tryz.pinned.checked.prog.inPlace 5) = true := by kernel_rfl
theorem g2 : (Rows.vaultAgainRow.unfollowed == Tryz.pinned.checked.prog.unfollowed 5) = true := by kernel_rfl
theorem g3 : (Rows.vaultAgainRow.recurses == Tryz.pinned.checked.prog.recurses 5) = true := by kernel_rfl
theorem g4 : (Rows.vaultAgainRow.named == Tryz.pinned.checked.prog.varsNamed 5) = true := by kernel_rfl
theorem a14 : (Rows.vaultAgainRow.maps == (Tryz.f5.params.toList ++ (OpenSpec.ofChange Rows.vaultAgainSpec).bare.plain.varTypes Tryz.pinned.checked.prog).any (Tryz.pinned.checked.prog.mapsRec ·)) = true := by kernel_rfl
theorem a15 : (Rows.vaultAgainRow.ifaces == (Tryz.f5.params.toList ++ (OpenSpec.ofChange Rows.vaultAgainSpec).bare.plain.varTypes Tryz.pinned.checked.prog).any (Tryz.pinned.checked.prog.ifacesRec ·)) = true := by kernel_rfl
theorem a16 : (Rows.vaultAgainRow.mapsOut == Tryz.pinned.checked.prog.mapsAmong Tryz.f5.resultTypes.toList) = true := by kernel_rfl
theorem a17 : (Rows.vaultAgainRow.loops == (Tryz.f5.params.toList ++ (OpenSpec.ofChange Rows.vaultAgainSpec).bare.plain.varTypes Tryz.pinned.checked.prog).any (Tryz.pinned.checked.prog.loopsFrom ·)) = true := by kernel_rfl
theorem a17b : (Rows.vaultAgainRow.wideKeys == (Tryz.f5.params.toList ++ (OpenSpec.ofChange Rows.vaultAgainSpec).bare.plain.varTypes Tryz.pinned.checked.prog ++ Tryz.f5.resultTypes.toList).any (Tryz.pinned.checked.prog.wideKeysFrom ·)) = true := by kernel_rfl
theorem a18 : (OpenSpec.ofChange Rows.vaultAgainSpec).bare.vars.all (Tryz.pinned.checked.prog.varReadable ·) = true := by kernel_rfl
theorem a19 : Tryz.f5.resultTypes.all (fun t => Tryz.pinned.checked.prog.readableRec t && decide (t < Tryz.pinned.checked.prog.types.size)) = true := by kernel_rfl
theorem a20 : (Rows.vaultAgainRow.ifacesOut == Tryz.f5.resultTypes.toList.any (Tryz.pinned.checked.prog.ifacesRec ·)) = true := by kernel_rfl
theorem a21 : (Rows.vaultAgainRow.loopsOut == Tryz.f5.resultTypes.toList.any (Tryz.pinned.checked.prog.loopsFrom ·)) = true := by kernel_rfl
theorem a22 : (Rows.vaultAgainRow.plainKeys == Tryz.pinned.checked.prog.plainKeys) = true := by kernel_rfl
theorem a23 : Rows.vaultAgainRow.shortTexts.isNone = true := by kernel_rfl
theorem a24b : (Rows.vaultAgainRow.lifted == Tryz.pinned.checked.prog.liftsFinal) = true := by kernel_rfl
theorem a24c : (Tryz.pinned.checked.prog.make == some Rows.vaultAgainRow.make) = true := by kernel_rfl
theorem a25 : (Rows.vaultAgainRow.kinds == (if Rows.vaultAgainRow.domain.isEmpty then [] else Tryz.f5.params.toList.map fun t => match Tryz.pinned.checked.prog.underlying t with | some (.int k) => some k | _ => none)) = true := by kernel_rfl
theorem a26 : (Rows.vaultAgainRow.pinned == Rows.vaultAgainRow.pinnedBy) = true := by kernel_rfl
theorem a27 : (Rows.vaultAgainRow.veiled == (Tryz.f5.params.toList ++ (OpenSpec.ofChange Rows.vaultAgainSpec).bare.plain.varTypes Tryz.pinned.checked.prog ++ Tryz.f5.resultTypes.toList).any (Tryz.pinned.checked.prog.veiledRec ·)) = true := by kernel_rfl
theorem a28 : Rows.vaultAgainRow.veiledFits Tryz.pinned.checked.prog Tryz.f5.params.toList (Tryz.f5.params.toList ++ (OpenSpec.ofChange Rows.vaultAgainSpec).bare.plain.varTypes Tryz.pinned.checked.prog ++ Tryz.f5.resultTypes.toList) = true := by kernel_rfl

end Go.Proofs.YtldjlkbjbkielaaGreatDoor.vaultAgain

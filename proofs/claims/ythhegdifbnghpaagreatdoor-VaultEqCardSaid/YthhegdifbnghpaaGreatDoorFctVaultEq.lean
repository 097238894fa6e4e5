/- VaultEq: the closed facts of its row. -/
import Derived.Test.YthhegdifbnghpaaGreatDoorFctShare
set_option linter.unusedSimpArgs false
set_option linter.unusedVariables false
namespace Go.Proofs.YthhegdifbnghpaaGreatDoor.vaultEq
open Go

theorem a1 : Rows.vaultEqRow.wf (OpenSpec.ofChange (OpenSpec.ofChange Rows.vaultEqSpec).bare) = true := by kernel_rfl
theorem a4 : Tryz.f13.params.all (Tryz.pinned.checked.prog.readableRec ·) = true := by kernel_rfl
theorem a5 : namedTie Tryz.pinned.checked.prog Rows.vaultEqRow.named (OpenSpec.ofChange Rows.vaultEqSpec).bare.vars = true := by kernel_rfl
theorem a6 : (Rows.vaultEqRow.stops == []) = true := by kernel_rfl
theorem a8 : (Rows.vaultEqRow.knobs == []) = true := by kernel_rfl
theorem g1 : (Rows.vaultEqRow.inPlace == Tryz.pinned.checked.prog.inPlace 13) = true := by kernel_rfl
theorem g2 : (Rows.vaultEqRow.unfollowed == Tryz.pinned.checked.prog.unfollowed 13) = true := by kernel_rfl
theorem g3 : (Rows.vaultEqRow.recurses == Tryz.pinned.checked.prog.recurses 13) = true := by kernel_rfl
theorem g4 : (Rows.vaultEqRow.named == Tryz.pinned.checked.prog.varsNamed 13) = true := by kernel_rfl
theorem a14 : (Rows.vaultEqRow.maps == (Tryz.f13.params.toList ++ (OpenSpec.ofChange Rows.vaultEqSpec).bare.plain.varTypes Tryz.pinned.checked.prog).any (Tryz.pinned.checked.prog.mapsRec ·)) = true := by kernel_rfl
theorem a15 : (Rows.vaultEqRow.ifaces == (Tryz.f13.params.toList ++ (OpenSpec.ofChange Rows.vaultEqSpec).bare.plain.varTypes Tryz.pinned.checked.prog).any (Tryz.pinned.checked.prog.ifacesRec ·)) = true := by kernel_rfl
theorem a16 : (Rows.vaultEqRow.mapsOut == Tryz.pinned.checked.prog.mapsAmong Tryz.f13.resultTypes.toList) = true := by kernel_rfl
theorem a17 : (Rows.vaultEqRow.loops == (Tryz.f13.params.toList ++ (OpenSpec.ofChange Rows.vaultEqSpec).bare.plain.varTypes Tryz.pinned.checked.prog).any (Tryz.pinned.checked.prog.loopsFrom ·)) = true := by kernel_rfl
theorem a17b : (Rows.vaultEqRow.wideKeys == (Tryz.f13.params.toList ++ (OpenSpec.ofChange Rows.vaultEqSpec).bare.plain.varTypes Tryz.pinned.checked.prog ++ Tryz.f13.resultTypes.toList).any (Tryz.pinned.checked.prog.wideKeysFrom ·)) = true := by kernel_rfl
theorem a18 : (OpenSpec.ofChange Rows.vaultEqSpec).bare.vars.all (Tryz.pinned.checked.prog.varReadable ·) = true := by kernel_rfl
theorem a19 : Tryz.f13.resultTypes.all (fun t => Tryz.pinned.checked.prog.readableRec t && decide (t < Tryz.pinned.checked.prog.types.size)) = true := by kernel_rfl
theorem a20 : (Rows.vaultEqRow.ifacesOut == Tryz.f13.resultTypes.toList.any (Tryz.pinned.checked.prog.ifacesRec ·)) = true := by kernel_rfl
theorem a21 : (Rows.vaultEqRow.loopsOut == Tryz.f13.resultTypes.toList.any (Tryz.pinned.checked.prog.loopsFrom ·)) = true := by kernel_rfl
theorem a22 : (Rows.vaultEqRow.plainKeys == Tryz.pinned.checked.prog.plainKeys) = true := by kernel_rfl
theorem a23 : Rows.vaultEqRow.shortTexts.isNone = true := by kernel_rfl
theorem a24b : (Rows.vaultEqRow.lifted == Tryz.pinned.checked.prog.liftsFinal) = true := by kernel_rfl
theorem a24c : (Tryz.pinned.checked.prog.make == some Rows.vaultEqRow.make) = true := by kernel_rfl
theorem a25 : (Rows.vaultEqRow.kinds == (if Rows.vaultEqRow.domain.isEmpty then [] else Tryz.f13.params.toList.map fun t => match Tryz.pinned.checked.prog.underlying t with | some (.int k) => some k | _ => none)) = true := by kernel_rfl
theorem a26 : (Rows.vaultEqRow.pinned == Rows.vaultEqRow.pinnedBy) = true := by kernel_rfl
theorem a27 : (Rows.vaultEqRow.veiled == (Tryz.f13.params.toList ++ (OpenSpec.ofChange Rows.vaultEqSpec).bare.plain.varTypes Tryz.pinned.checked.prog ++ Tryz.f13.resultTypes.toList).any (Tryz.pinned.checked.prog.veiledRec ·)) = true := by kernel_rfl
theorem a28 : Rows.vaultEqRow.veiledFits Tryz.pinned.checked.prog Tryz.f13.params.toList (Tryz.f13.params.toList ++ (OpenSpec.ofChange Rows.vaultEqSpec).bare.plain.varTypes Tryz.pinned.checked.prog ++ Tryz.f13.resultTypes.toList) = true := by kernel_rfl

end Go.Proofs.YthhegdifbnghpaaGreatDoor.vaultEq

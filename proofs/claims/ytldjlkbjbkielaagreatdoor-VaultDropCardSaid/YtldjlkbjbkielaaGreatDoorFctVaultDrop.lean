/- VaultDrop: the closed facts of its row. -/
import Derived.Test.YtldjlkbjbkielaaGreatDoorFctShare
set_option linter.unusedSimpArgs false
set_option linter.unusedVariables false
namespace Go.Proofs.YtldjlkbjbkielaaGreatDoor.vaultDrop
open Go

theorem a1 : Rows.vaultDropRow.wf (OpenSpec.ofChange (OpenSpec.ofChange Rows.vaultDropSpec).bare) = true := by kernel_rfl
theorem a4 : Tryz.f9.params.all (Tryz.pinned.checked.prog.readableRec ·) = true := by kernel_rfl
theorem a5 : namedTie Tryz.pinned.checked.prog Rows.vaultDropRow.named (OpenSpec.ofChange Rows.vaultDropSpec).bare.vars = true := by kernel_rfl
theorem a6 : (Rows.vaultDropRow.stops == []) = true := by kernel_rfl
theorem a8 : (Rows.vaultDropRow.knobs == []) = true := by kernel_rfl
theorem g1 : (Rows.vaultDropRow.inPlace == Tryz.pinned.checked.prog.inPlace 9) = true := by kernel_rfl
theorem g2 : (Rows.vaultDropRow.unfollowed == Tryz.pinned.checked.prog.unfollowed 9) = true := by kernel_rfl
theorem g3 : (Rows.vaultDropRow.recurses == Tryz.pinned.checked.prog.recurses 9) = true := by kernel_rfl
theorem g4 : (Rows.vaultDropRow.named == Tryz.pinned.checked.prog.varsNamed 9) = true := by kernel_rfl
theorem a14 : (Rows.vaultDropRow.maps == (Tryz.f9.params.toList ++ (OpenSpec.ofChange Rows.vaultDropSpec).bare.plain.varTypes Tryz.pinned.checked.prog).any (Tryz.pinned.checked.prog.mapsRec ·)) = true := by kernel_rfl
theorem a15 : (Rows.vaultDropRow.ifaces == (Tryz.f9.params.toList ++ (OpenSpec.ofChange Rows.vaultDropSpec).bare.plain.varTypes Tryz.pinned.checked.prog).any (Tryz.pinned.checked.prog.ifacesRec ·)) = true := by kernel_rfl
theorem a16 : (Rows.vaultDropRow.mapsOut == Tryz.pinned.checked.prog.mapsAmong Tryz.f9.resultTypes.toList) = true := by kernel_rfl
theorem a17 : (Rows.vaultDropRow.loops == (Tryz.f9.params.toList ++ (OpenSpec.ofChange Rows.vaultDropSpec).bare.plain.varTypes Tryz.pinned.checked.prog).any (Tryz.pinned.checked.prog.loopsFrom ·)) = true := by kernel_rfl
theorem a17b : (Rows.vaultDropRow.wideKeys == (Tryz.f9.params.toList ++ (OpenSpec.ofChange Rows.vaultDropSpec).bare.plain.varTypes Tryz.pinned.checked.prog ++ Tryz.f9.resultTypes.toList).any (Tryz.pinned.checked.prog.wideKeysFrom ·)) = true := by kernel_rfl
theorem a18 : (OpenSpec.ofChange Rows.vaultDropSpec).bare.vars.all (Tryz.pinned.checked.prog.varReadable ·) = true := by kernel_rfl
theorem a19 : Tryz.f9.resultTypes.all (fun t => Tryz.pinned.checked.prog.readableRec t && decide (t < Tryz.pinned.checked.prog.types.size)) = true := by kernel_rfl
theorem a20 : (Rows.vaultDropRow.ifacesOut == Tryz.f9.resultTypes.toList.any (Tryz.pinned.checked.prog.ifacesRec ·)) = true := by kernel_rfl
theorem a21 : (Rows.vaultDropRow.loopsOut == Tryz.f9.resultTypes.toList.any (Tryz.pinned.checked.prog.loopsFrom ·)) = true := by kernel_rfl
theorem a22 : (Rows.vaultDropRow.plainKeys == Tryz.pinned.checked.prog.plainKeys) = true := by kernel_rfl
theorem a23 : Rows.vaultDropRow.shortTexts.isNone = true := by kernel_rfl
theorem a24b : (Rows.vaultDropRow.lifted == Tryz.pinned.checked.prog.liftsFinal) = true := by kernel_rfl
theorem a24c : (Tryz.pinned.checked.prog.make == some Rows.vaultDropRow.make) = true := by kernel_rfl
theorem a25 : (Rows.vaultDropRow.kinds == (if Rows.vaultDropRow.domain.isEmpty then [] else Tryz.f9.params.toList.map fun t => match Tryz.pinned.checked.prog.underlying t with | some (.int k) => some k | _ => none)) = true := by kernel_rfl
theorem a26 : (Rows.vaultDropRow.pinned == Rows.vaultDropRow.pinnedBy) = true := by kernel_rfl
theorem a27 : (Rows.vaultDropRow.veiled == (Tryz.f9.params.toList ++ (OpenSpec.ofChange Rows.vaultDropSpec).bare.plain.varTypes Tryz.pinned.checked.prog ++ Tryz.f9.resultTypes.toList).any (Tryz.pinned.checked.prog.veiledRec ·)) = true := by kernel_rfl
theorem a28 : Rows.vaultDropRow.veiledFits Tryz.pinned.checked.prog Tryz.f9.params.toList (Tryz.f9.params.toList ++ (OpenSpec.ofChange Rows.vaultDropSpec).bare.plain.varTypes Tryz.pinned.checked.prog ++ Tryz.f9.resultTypes.toList) = true := by kernel_rfl

end Go.Proofs.YtldjlkbjbkielaaGreatDoor.vaultDrop

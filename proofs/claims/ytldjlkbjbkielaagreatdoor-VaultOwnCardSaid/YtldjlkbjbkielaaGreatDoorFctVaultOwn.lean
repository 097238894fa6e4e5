/- VaultOwn: the closed facts of its row. -/
import Derived.Test.YtldjlkbjbkielaaGreatDoorFctShare
set_option linter.unusedSimpArgs false
set_option linter.unusedVariables false
namespace Go.Proofs.YtldjlkbjbkielaaGreatDoor.vaultOwn
open Go

theorem a1 : Rows.vaultOwnRow.wf (OpenSpec.ofChange (OpenSpec.ofChange Rows.vaultOwnSpec).bare) = true := by kernel_rfl
theorem a4 : Tryz.f6.params.all (Tryz.pinned.checked.prog.readableRec ·) = true := by kernel_rfl
theorem a5 : namedTie Tryz.pinned.checked.prog Rows.vaultOwnRow.named (OpenSpec.ofChange Rows.vaultOwnSpec).bare.vars = true := by kernel_rfl
theorem a6 : (Rows.vaultOwnRow.stops == []) = true := by kernel_rfl
theorem a8 : (Rows.vaultOwnRow.knobs == []) = true := by kernel_rfl
theorem g1 : (Rows.vaultOwnRow.inPlace == Tryz.pinned.checked.prog.inPlace 6) = true := by kernel_rfl
theorem g2 : (Rows.vaultOwnRow.unfollowed == Tryz.pinned.checked.prog.unfollowed 6) = true := by kernel_rfl
theorem g3 : (Rows.vaultOwnRow.recurses == Tryz.pinned.checked.prog.recurses 6) = true := by kernel_rfl
theorem g4 : (Rows.vaultOwnRow.named == Tryz.pinned.checked.prog.varsNamed 6) = true := by kernel_rfl
theorem a14 : (Rows.vaultOwnRow.maps == (Tryz.f6.params.toList ++ (OpenSpec.ofChange Rows.vaultOwnSpec).bare.plain.varTypes Tryz.pinned.checked.prog).any (Tryz.pinned.checked.prog.mapsRec ·)) = true := by kernel_rfl
theorem a15 : (Rows.vaultOwnRow.ifaces == (Tryz.f6.params.toList ++ (OpenSpec.ofChange Rows.vaultOwnSpec).bare.plain.varTypes Tryz.pinned.checked.prog).any (Tryz.pinned.checked.prog.ifacesRec ·)) = true := by kernel_rfl
theorem a16 : (Rows.vaultOwnRow.mapsOut == Tryz.pinned.checked.prog.mapsAmong Tryz.f6.resultTypes.toList) = true := by kernel_rfl
theorem a17 : (Rows.vaultOwnRow.loops == (Tryz.f6.params.toList ++ (OpenSpec.ofChange Rows.vaultOwnSpec).bare.plain.varTypes Tryz.pinned.checked.prog).any (Tryz.pinned.checked.prog.loopsFrom ·)) = true := by kernel_rfl
theorem a17b : (Rows.vaultOwnRow.wideKeys == (Tryz.f6.params.toList ++ (OpenSpec.ofChange Rows.vaultOwnSpec).bare.plain.varTypes Tryz.pinned.checked.prog ++ Tryz.f6.resultTypes.toList).any (Tryz.pinned.checked.prog.wideKeysFrom ·)) = true := by kernel_rfl
theorem a18 : (OpenSpec.ofChange Rows.vaultOwnSpec).bare.vars.all (Tryz.pinned.checked.prog.varReadable ·) = true := by kernel_rfl
theorem a19 : Tryz.f6.resultTypes.all (fun t => Tryz.pinned.checked.prog.readableRec t && decide (t < Tryz.pinned.checked.prog.types.size)) = true := by kernel_rfl
theorem a20 : (Rows.vaultOwnRow.ifacesOut == Tryz.f6.resultTypes.toList.any (Tryz.pinned.checked.prog.ifacesRec ·)) = true := by kernel_rfl
theorem a21 : (Rows.vaultOwnRow.loopsOut == Tryz.f6.resultTypes.toList.any (Tryz.pinned.checked.prog.loopsFrom ·)) = true := by kernel_rfl
theorem a22 : (Rows.vaultOwnRow.plainKeys == Tryz.pinned.checked.prog.plainKeys) = true := by kernel_rfl
theorem a23 : Rows.vaultOwnRow.shortTexts.isNone = true := by kernel_rfl
theorem a24b : (Rows.vaultOwnRow.lifted == Tryz.pinned.checked.prog.liftsFinal) = true := by kernel_rfl
theorem a24c : (Tryz.pinned.checked.prog.make == some Rows.vaultOwnRow.make) = true := by kernel_rfl
theorem a25 : (Rows.vaultOwnRow.kinds == (if Rows.vaultOwnRow.domain.isEmpty then [] else Tryz.f6.params.toList.map fun t => match Tryz.pinned.checked.prog.underlying t with | some (.int k) => some k | _ => none)) = true := by kernel_rfl
theorem a26 : (Rows.vaultOwnRow.pinned == Rows.vaultOwnRow.pinnedBy) = true := by kernel_rfl
theorem a27 : (Rows.vaultOwnRow.veiled == (Tryz.f6.params.toList ++ (OpenSpec.ofChange Rows.vaultOwnSpec).bare.plain.varTypes Tryz.pinned.checked.prog ++ Tryz.f6.resultTypes.toList).any (Tryz.pinned.checked.prog.veiledRec ·)) = true := by kernel_rfl
theorem a28 : Rows.vaultOwnRow.veiledFits Tryz.pinned.checked.prog Tryz.f6.params.toList (Tryz.f6.params.toList ++ (OpenSpec.ofChange Rows.vaultOwnSpec).bare.plain.varTypes Tryz.pinned.checked.prog ++ Tryz.f6.resultTypes.toList) = true := by kernel_rfl

end Go.Proofs.YtldjlkbjbkielaaGreatDoor.vaultOwn

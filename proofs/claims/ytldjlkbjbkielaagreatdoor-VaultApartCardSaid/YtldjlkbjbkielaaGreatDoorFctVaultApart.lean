/- VaultApart: the closed facts of its row. -/
import Derived.Test.YtldjlkbjbkielaaGreatDoorFctShare
set_option linter.unusedSimpArgs false
set_option linter.unusedVariables false
namespace Go.Proofs.YtldjlkbjbkielaaGreatDoor.vaultApart
open Go

theorem a1 : Rows.vaultApartRow.wf (OpenSpec.ofChange (OpenSpec.ofChange Rows.vaultApartSpec).bare) = true := by kernel_rfl
theorem a4 : Tryz.f11.params.all (Tryz.pinned.checked.prog.readableRec ·) = true := by kernel_rfl
theorem a5 : namedTie Tryz.pinned.checked.prog Rows.vaultApartRow.named (OpenSpec.ofChange Rows.vaultApartSpec).bare.vars = true := by kernel_rfl
theorem a6 : (Rows.vaultApartRow.stops == []) = true := by kernel_rfl
theorem a8 : (Rows.vaultApartRow.knobs == []) = true := by kernel_rfl
theorem g1 : (Rows.vaultApartRow.inPlace == Tryz.pinned.checked.prog.inPlace 11) = true := by kernel_rfl
theorem g2 : (Rows.vaultApartRow.unfollowed == Tryz.pinned.checked.prog.unfollowed 11) = true := by kernel_rfl
theorem g3 : (Rows.vaultApartRow.recurses == Tryz.pinned.checked.prog.recurses 11) = true := by kernel_rfl
theorem g4 : (Rows.vaultApartRow.named == Tryz.pinned.checked.prog.varsNamed 11) = true := by kernel_rfl
theorem a14 : (Rows.vaultApartRow.maps == (Tryz.f11.params.toList ++ (OpenSpec.ofChange Rows.vaultApartSpec).bare.plain.varTypes Tryz.pinned.checked.prog).any (Tryz.pinned.checked.prog.mapsRec ·)) = true := by kernel_rfl
theorem a15 : (Rows.vaultApartRow.ifaces == (Tryz.f11.params.toList ++ (OpenSpec.ofChange Rows.vaultApartSpec).bare.plain.varTypes Tryz.pinned.checked.prog).any (Tryz.pinned.checked.prog.ifacesRec ·)) = true := by kernel_rfl
theorem a16 : (Rows.vaultApartRow.mapsOut == Tryz.pinned.checked.prog.mapsAmong Tryz.f11.resultTypes.toList) = true := by kernel_rfl
theorem a17 : (Rows.vaultApartRow.loops == (Tryz.f11.params.toList ++ (OpenSpec.ofChange Rows.vaultApartSpec).bare.plain.varTypes Tryz.pinned.checked.prog).any (Tryz.pinned.checked.prog.loopsFrom ·)) = true := by kernel_rfl
theorem a17b : (Rows.vaultApartRow.wideKeys == (Tryz.f11.params.toList ++ (OpenSpec.ofChange Rows.vaultApartSpec).bare.plain.varTypes Tryz.pinned.checked.prog ++ Tryz.f11.resultTypes.toList).any (Tryz.pinned.checked.prog.wideKeysFrom ·)) = true := by kernel_rfl
theorem a18 : (OpenSpec.ofChange Rows.vaultApartSpec).bare.vars.all (Tryz.pinned.checked.prog.varReadable ·) = true := by kernel_rfl
theorem a19 : Tryz.f11.resultTypes.all (fun t => Tryz.pinned.checked.prog.readableRec t && decide (t < Tryz.pinned.checked.prog.types.size)) = true := by kernel_rfl
theorem a20 : (Rows.vaultApartRow.ifacesOut == Tryz.f11.resultTypes.toList.any (Tryz.pinned.checked.prog.ifacesRec ·)) = true := by kernel_rfl
theorem a21 : (Rows.vaultApartRow.loopsOut == Tryz.f11.resultTypes.toList.any (Tryz.pinned.checked.prog.loopsFrom ·)) = true := by kernel_rfl
theorem a22 : (Rows.vaultApartRow.plainKeys == Tryz.pinned.checked.prog.plainKeys) = true := by kernel_rfl
theorem a23 : Rows.vaultApartRow.shortTexts.isNone = true := by kernel_rfl
theorem a24b : (Rows.vaultApartRow.lifted == Tryz.pinned.checked.prog.liftsFinal) = true := by kernel_rfl
theorem a24c : (Tryz.pinned.checked.prog.make == some Rows.vaultApartRow.make) = true := by kernel_rfl
theorem a25 : (Rows.vaultApartRow.kinds == (if Rows.vaultApartRow.domain.isEmpty then [] else Tryz.f11.params.toList.map fun t => match Tryz.pinned.checked.prog.underlying t with | some (.int k) => some k | _ => none)) = true := by kernel_rfl
theorem a26 : (Rows.vaultApartRow.pinned == Rows.vaultApartRow.pinnedBy) = true := by kernel_rfl
theorem a27 : (Rows.vaultApartRow.veiled == (Tryz.f11.params.toList ++ (OpenSpec.ofChange Rows.vaultApartSpec).bare.plain.varTypes Tryz.pinned.checked.prog ++ Tryz.f11.resultTypes.toList).any (Tryz.pinned.checked.prog.veiledRec ·)) = true := by kernel_rfl
theorem a28 : Rows.vaultApartRow.veiledFits Tryz.pinned.checked.prog Tryz.f11.params.toList (Tryz.f11.params.toList ++ (OpenSpec.ofChange Rows.vaultApartSpec).bare.plain.varTypes Tryz.pinned.checked.prog ++ Tryz.f11.resultTypes.toList) = true := by kernel_rfl

end Go.Proofs.YtldjlkbjbkielaaGreatDoor.vaultApart

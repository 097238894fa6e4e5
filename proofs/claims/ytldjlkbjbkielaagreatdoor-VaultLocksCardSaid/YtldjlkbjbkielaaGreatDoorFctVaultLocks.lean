/- VaultLocks: the closed facts of its row. -/
import Derived.Test.YtldjlkbjbkielaaGreatDoorFctShare
set_option linter.unusedSimpArgs false
set_option linter.unusedVariables false
namespace Go.Proofs.YtldjlkbjbkielaaGreatDoor.vaultLocks
open Go

theorem a1 : Rows.vaultLocksRow.wf (OpenSpec.ofChange (OpenSpec.ofChange Rows.vaultLocksSpec).bare) = true := by kernel_rfl
theorem a4 : Tryz.f7.params.all (Tryz.pinned.checked.prog.readableRec ·) = true := by kernel_rfl
theorem a5 : namedTie Tryz.pinned.checked.prog Rows.vaultLocksRow.named (OpenSpec.ofChange Rows.vaultLocksSpec).bare.vars = true := by kernel_rfl
theorem a6 : (Rows.vaultLocksRow.stops == []) = true := by kernel_rfl
theorem a8 : (Rows.vaultLocksRow.knobs == []) = true := by kernel_rfl
theorem g1 : (Rows.vaultLocksRow.inPlace == Tryz.pinned.checked.prog.inPlace 7) = true := by kernel_rfl
theorem g2 : (Rows.vaultLocksRow.unfollowed == Tryz.pinned.checked.prog.unfollowed 7) = true := by kernel_rfl
theorem g3 : (Rows.vaultLocksRow.recurses == Tryz.pinned.checked.prog.recurses 7) = true := by kernel_rfl
theorem g4 : (Rows.vaultLocksRow.named == Tryz.pinned.checked.prog.varsNamed 7) = true := by kernel_rfl
theorem a14 : (Rows.vaultLocksRow.maps == (Tryz.f7.params.toList ++ (OpenSpec.ofChange Rows.vaultLocksSpec).bare.plain.varTypes Tryz.pinned.checked.prog).any (Tryz.pinned.checked.prog.mapsRec ·)) = true := by kernel_rfl
theorem a15 : (Rows.vaultLocksRow.ifaces == (Tryz.f7.params.toList ++ (OpenSpec.ofChange Rows.vaultLocksSpec).bare.plain.varTypes Tryz.pinned.checked.prog).any (Tryz.pinned.checked.prog.ifacesRec ·)) = true := by kernel_rfl
theorem a16 : (Rows.vaultLocksRow.mapsOut == Tryz.pinned.checked.prog.mapsAmong Tryz.f7.resultTypes.toList) = true := by kernel_rfl
theorem a17 : (Rows.vaultLocksRow.loops == (Tryz.f7.params.toList ++ (OpenSpec.ofChange Rows.vaultLocksSpec).bare.plain.varTypes Tryz.pinned.checked.prog).any (Tryz.pinned.checked.prog.loopsFrom ·)) = true := by kernel_rfl
theorem a17b : (Rows.vaultLocksRow.wideKeys == (Tryz.f7.params.toList ++ (OpenSpec.ofChange Rows.vaultLocksSpec).bare.plain.varTypes Tryz.pinned.checked.prog ++ Tryz.f7.resultTypes.toList).any (Tryz.pinned.checked.prog.wideKeysFrom ·)) = true := by kernel_rfl
theorem a18 : (OpenSpec.ofChange Rows.vaultLocksSpec).bare.vars.all (Tryz.pinned.checked.prog.varReadable ·) = true := by kernel_rfl
theorem a19 : Tryz.f7.resultTypes.all (fun t => Tryz.pinned.checked.prog.readableRec t && decide (t < Tryz.pinned.checked.prog.types.size)) = true := by kernel_rfl
theorem a20 : (Rows.vaultLocksRow.ifacesOut == Tryz.f7.resultTypes.toList.any (Tryz.pinned.checked.prog.ifacesRec ·)) = true := by kernel_rfl
theorem a21 : (Rows.vaultLocksRow.loopsOut == Tryz.f7.resultTypes.toList.any (Tryz.pinned.checked.prog.loopsFrom ·)) = true := by kernel_rfl
theorem a22 : (Rows.vaultLocksRow.plainKeys == Tryz.pinned.checked.prog.plainKeys) = true := by kernel_rfl
theorem a23 : Rows.vaultLocksRow.shortTexts.isNone = true := by kernel_rfl
theorem a24b : (Rows.vaultLocksRow.lifted == Tryz.pinned.checked.prog.liftsFinal) = true := by kernel_rfl
theorem a24c : (Tryz.pinned.checked.prog.make == some Rows.vaultLocksRow.make) = true := by kernel_rfl
theorem a25 : (Rows.vaultLocksRow.kinds == (if Rows.vaultLocksRow.domain.isEmpty then [] else Tryz.f7.params.toList.map fun t => match Tryz.pinned.checked.prog.underlying t with | some (.int k) => some k | _ => none)) = true := by kernel_rfl
theorem a26 : (Rows.vaultLocksRow.pinned == Rows.vaultLocksRow.pinnedBy) = true := by kernel_rfl
theorem a27 : (Rows.vaultLocksRow.veiled == (Tryz.f7.params.toList ++ (OpenSpec.ofChange Rows.vaultLocksSpec).bare.plain.varTypes Tryz.pinned.checked.prog ++ Tryz.f7.resultTypes.toList).any (Tryz.pinned.checked.prog.veiledRec ·)) = true := by kernel_rfl
theorem a28 : Rows.vaultLocksRow.veiledFits Tryz.pinned.checked.prog Tryz.f7.params.toList (Tryz.f7.params.toList ++ (OpenSpec.ofChange Rows.vaultLocksSpec).bare.plain.varTypes Tryz.pinned.checked.prog ++ Tryz.f7.resultTypes.toList) = true := by kernel_rfl

end Go.Proofs.YtldjlkbjbkielaaGreatDoor.vaultLocks

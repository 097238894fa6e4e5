/- VaultNone: the closed facts of its row. -/
import Derived.Test.YtldjlkbjbkielaaGreatDoorRows
import Derived.JoinedCond
set_option linter.unusedSimpArgs false
set_option linter.unusedVariables false
namespace Go.Proofs.YtldjlkbjbkielaaGreatDoor.vaultNone
open Go

theorem g1 : (Rows.vaultNoneRow.inPlace == Tryz.pinned.checked.prog.inPlace 12) = true := by kernel_rfl
theorem g2 : (Rows.vaultNoneRow.unfollowed == Tryz.pinned.checked.prog.unfollowed 12) = true := by kernel_rfl
theorem g3 : (Rows.vaultNoneRow.recurses == Tryz.pinned.checked.prog.recurses 12) = true := by kernel_rfl
theorem g4 : (Rows.vaultNoneRow.named == Tryz.pinned.checked.prog.varsNamed 12) = true := by kernel_rfl

theorem facts : joinedFacts Tryz.pinned.checked.prog 12 Tryz.f12 (OpenSpec.ofChange Rows.vaultNoneSpec).bare Rows.vaultNoneRow = true := by
  unfold joinedFacts
  rw [g1, g2, g3, g4]
  kernel_rfl

end Go.Proofs.YtldjlkbjbkielaaGreatDoor.vaultNone

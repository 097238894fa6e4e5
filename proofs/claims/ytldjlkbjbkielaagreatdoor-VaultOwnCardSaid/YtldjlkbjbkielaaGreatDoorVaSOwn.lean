/- The shallow form of a statement speaks truly. -/
import Derived.Test.YtldjlkbjbkielaaGreatDoorVaTOwn
import Derived.Test.YtldjlkbjbkielaaGreatDoorVabn
set_option maxRecDepth 20000
set_option linter.unusedVariables false
set_option linter.unusedSimpArgs false
namespace Go.Abs
open Go Go.Proofs
variable {I : FuncId → Option Spec}
def A.estafettelaw14_VaultOwn : An := (.s (.s (.seq (.s (.cond (.s .l) .l)) (.seq (.draw #[0, 0, 2, 6, 15, 0, 0, 64, 192, 480, 31, 2047] (.qs [0, 1, 2, 3, 4, 5, 6, 7, 8, 9, 10, 11] .done)) (.s (.s (.s (.seq (.s (.cond (.s .l) .l)) (.s (.s (.s (.s (.seq (.s (.cond (.s .l) .l)) (.s (.s (.s .l))))))))))))))))
theorem S.estafettelaw14_VaultOwn (hI : SoundI Tryz.prog J I) (mI : MonoI I) : SoundF Tryz.prog J 6 (F.estafettelaw14_VaultOwn ⟨I, kk⟩) := by
 refine SoundF.of_walk (I := lkI [(16, F.estafettelaw14_begun ⟨I, kk⟩), (17, F.vault_New ⟨I, kk⟩), (22, F.vault_Vault_Prepare ⟨I, kk⟩), (19, F.vault_Vault_Decide ⟨I, kk⟩), (33, F.vault_Vault_Space ⟨I, kk⟩), (34, F.table_Table_Put ⟨I, kk⟩), (35, F.table_Table_Get ⟨I, kk⟩)]) (lkI_sound ⟨S.estafettelaw14_begun hI mI, S.vault_New hI mI, S.vault_Vault_Prepare hI mI, S.vault_Vault_Decide hI mI, S.vault_Vault_Space hI mI, S.table_Table_Put hI mI, S.table_Table_Get hI mI, trivial⟩) (lkI_mono _) mixed A.estafettelaw14_VaultOwn Tryz.func6 rfl (by kernel_rfl) (by kernel_rfl) Tryz.call6 fun args h K hs => ?_
 match args, hs with
 | [a0, a1], hs => exact ⟨Nat.le_of_ble_eq_true (by kernel_rfl), Eq.mp (by kernel_rfl) hs⟩
end Go.Abs

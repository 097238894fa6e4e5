/- The shallow form of a statement speaks truly. -/
import Derived.Test.YtldjlkbjbkielaaGreatDoorVaTAgain
import Derived.Test.YtldjlkbjbkielaaGreatDoorVabn
set_option maxRecDepth 20000
set_option linter.unusedVariables false
set_option linter.unusedSimpArgs false
namespace Go.Abs
open Go Go.Proofs
variable {I : FuncId → Option Spec}
def A.estafettelaw14_VaultAgain : An := (.s (.s (.seq (.s (.cond (.s .l) .l)) (.s (.s (.s (.s (.s (.s (.s (.s (.seq (.s (.cond (.s .l) .l)) (.s (.s (.s .l)))))))))))))))
theorem S.estafettelaw14_VaultAgain (hI : SoundI Tryz.prog J I) (mI : MonoI I) : SoundF Tryz.prog J 5 (F.estafettelaw14_VaultAgain ⟨I, kk⟩) := by
 refine SoundF.of_walk (I := lkI [(16, F.estafettelaw14_begun ⟨I, kk⟩), (17, F.vault_New ⟨I, kk⟩), (22, F.vault_Vault_Prepare ⟨I, kk⟩), (19, F.vault_Vault_Decide ⟨I, kk⟩), (21, F.estafettelaw12_Ops ⟨I, kk⟩), (24, F.estafettelaw14_texts ⟨I, kk⟩), (31, F.vault_Vault_At ⟨I, kk⟩), (32, F.vault_Vault_Waits ⟨I, kk⟩), (26, F.vault_Vault_Over ⟨I, kk⟩)]) (lkI_sound ⟨S.estafettelaw14_begun hI mI, S.vault_New hI mI, S.vault_Vault_Prepare hI mI, S.vault_Vault_Decide hI mI, S.estafettelaw12_Ops hI mI, S.estafettelaw14_texts hI mI, S.vault_Vault_At hI mI, S.vault_Vault_Waits hI mI, S.vault_Vault_Over hI mI, trivial⟩) (lkI_mono _) mixed A.estafettelaw14_VaultAgain Tryz.func5 rfl (by kernel_rfl) (by kernel_rfl) Tryz.call5 fun args h K hs => ?_
 match args, hs with
 | [a0, a1, a2, a3], hs => exact ⟨Nat.le_of_ble_eq_true (by kernel_rfl), Eq.mp (by kernel_rfl) hs⟩
end Go.Abs

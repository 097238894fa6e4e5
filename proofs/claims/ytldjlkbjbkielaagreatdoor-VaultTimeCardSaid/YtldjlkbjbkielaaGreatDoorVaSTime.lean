/- The shallow form of a statement speaks truly. -/
import Derived.Test.YtldjlkbjbkielaaGreatDoorVaTTime
import Derived.Test.YtldjlkbjbkielaaGreatDoorVabn
set_option maxRecDepth 20000
set_option linter.unusedVariables false
set_option linter.unusedSimpArgs false
namespace Go.Abs
open Go Go.Proofs
variable {I : FuncId → Option Spec}
def A.estafettelaw14_VaultTime : An := (.s (.s (.seq (.s (.cond (.s .l) .l)) (.s (.s (.s (.s (.s (.s (.seq (.s (.block (.loop 295147869994980745216 [13] (.seq (.s (.cond .l .l)) (.seq (.block (.draw #[0, 0, 0, 4, 12, 0, 0, 0, 192, 448, 960, 2016, 4095] (.qs [0, 1, 2, 3, 5, 6, 7, 8, 9, 10, 11] (.c 4 [1, 9] (.c 12 [] .done))))) .l))))) (.s (.s (.s .l)))))))))))))
theorem S.estafettelaw14_VaultTime (hI : SoundI Tryz.prog J I) (mI : MonoI I) : SoundF Tryz.prog J 10 (F.estafettelaw14_VaultTime ⟨I, kk⟩) := by
 refine SoundF.of_walk (I := lkI [(16, F.estafettelaw14_begun ⟨I, kk⟩), (17, F.vault_New ⟨I, kk⟩), (22, F.vault_Vault_Prepare ⟨I, kk⟩), (19, F.vault_Vault_Decide ⟨I, kk⟩), (33, F.vault_Vault_Space ⟨I, kk⟩), (40, F.queue_Queue_Items ⟨I, kk⟩)]) (lkI_sound ⟨S.estafettelaw14_begun hI mI, S.vault_New hI mI, S.vault_Vault_Prepare hI mI, S.vault_Vault_Decide hI mI, S.vault_Vault_Space hI mI, S.queue_Queue_Items hI mI, trivial⟩) (lkI_mono _) mixed A.estafettelaw14_VaultTime Tryz.func10 rfl (by kernel_rfl) (by kernel_rfl) Tryz.call10 fun args h K hs => ?_
 match args, hs with
 | [a0, a1, a2], hs => exact ⟨Nat.le_of_ble_eq_true (by kernel_rfl), Eq.mp (by kernel_rfl) hs⟩
end Go.Abs

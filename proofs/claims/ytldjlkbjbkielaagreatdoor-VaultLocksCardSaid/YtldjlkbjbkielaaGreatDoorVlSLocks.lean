/- The shallow form of a statement speaks truly. -/
import Derived.Test.YtldjlkbjbkielaaGreatDoorVlTLocks
import Derived.Test.YtldjlkbjbkielaaGreatDoorVlbn
set_option maxRecDepth 20000
set_option linter.unusedVariables false
set_option linter.unusedSimpArgs false
namespace Go.Abs
open Go Go.Proofs
variable {I : FuncId → Option Spec}
def A.estafettelaw14_VaultLocks : An := (.s (.s (.seq (.s (.cond (.s .l) .l)) (.s (.s (.s (.s (.s (.s (.s (.seq (.s (.cond (.s .l) .l)) (.s (.s (.seq (.s (.block (.loop 2658455991569831708914125973145518080 [18, 65] (.s (.seq (.cond .l .l) (.seq (.block (.s (.s (.block (.loop 1329227995784914692312186342872449024 [18, 70] (.s (.seq (.cond .l .l) (.seq (.block (.s (.s (.draw #[0, 1, 3, 3, 15, 31, 63, 3, 3, 387, 899, 1923, 4095, 8191, 16383, 32767, 65535, 65535, 262143, 524287, 1048575, 65535, 65535, 6356991, 14745599, 31522815, 67108863, 134217727, 268435455, 536870911, 1073741823] (.qs [0, 1, 2, 3, 4, 5, 6, 7, 8, 9, 10, 11, 12, 13, 14, 15, 16, 17, 18, 19, 20, 21, 22, 23, 24, 25, 26, 27, 28, 29, 30] .done))))) .l)))))))) .l)))))) (.seq (.s (.cond (.s .l) .l)) (.s (.s (.s .l))))))))))))))))))
theorem S.estafettelaw14_VaultLocks (hI : SoundI Tryz.prog J I) (mI : MonoI I) : SoundF Tryz.prog J 7 (F.estafettelaw14_VaultLocks ⟨I, kk⟩) := by
 refine SoundF.of_walk (I := lkI [(16, F.estafettelaw14_begun ⟨I, kk⟩), (17, F.vault_New ⟨I, kk⟩), (22, F.vault_Vault_Prepare ⟨I, kk⟩), (19, F.vault_Vault_Decide ⟨I, kk⟩), (36, F.estafettelaw14_few ⟨I, kk⟩), (32, F.vault_Vault_Waits ⟨I, kk⟩), (37, F.estafettelaw14_table ⟨I, kk⟩), (26, F.vault_Vault_Over ⟨I, kk⟩)]) (lkI_sound ⟨S.estafettelaw14_begun hI mI, S.vault_New hI mI, S.vault_Vault_Prepare hI mI, S.vault_Vault_Decide hI mI, S.estafettelaw14_few hI mI, S.vault_Vault_Waits hI mI, S.estafettelaw14_table hI mI, S.vault_Vault_Over hI mI, trivial⟩) (lkI_mono _) mixed A.estafettelaw14_VaultLocks Tryz.func7 rfl (by kernel_rfl) (by kernel_rfl) Tryz.call7 fun args h K hs => ?_
 match args, hs with
 | [a0, a1, a2], hs => exact ⟨Nat.le_of_ble_eq_true (by kernel_rfl), Eq.mp (by kernel_rfl) hs⟩
end Go.Abs

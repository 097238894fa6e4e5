/- The shallow form of a statement speaks truly. -/
import Derived.Test.YtldjlkbjbkielaaGreatDoorVaTFull
import Derived.Test.YtldjlkbjbkielaaGreatDoorVabn
set_option maxRecDepth 20000
set_option linter.unusedVariables false
set_option linter.unusedSimpArgs false
namespace Go.Abs
open Go Go.Proofs
variable {I : FuncId → Option Spec}
def A.estafettelaw14_VaultFull : An := (.s (.s (.seq (.s (.cond (.s .l) .l)) (.s (.s (.s (.seq (.s (.block (.loop 144115187807424400 [7, 8] (.seq (.s (.cond .l .l)) (.seq (.block (.s (.seq (.seq (.draw #[0, 0, 0, 4, 12, 28, 60, 127, 255, 511, 511, 1023, 4095] (.qs [0, 1, 2] (.c 3 [1] (.q 4 (.q 5 (.c 6 [1] (.c 7 [] (.qs [8, 9, 10, 11, 12] .done)))))))) (.s (.cond (.s .l) .l))) (.s (.cond (.s .l) .l))))) .l))))) (.s (.seq (.s (.block (.loop 9444588850551214583808 [12, 13] (.seq (.s (.cond .l .l)) (.seq (.block .l) .l))))) (.s (.s .l)))))))))))
theorem S.estafettelaw14_VaultFull (hI : SoundI Tryz.prog J I) (mI : MonoI I) : SoundF Tryz.prog J 8 (F.estafettelaw14_VaultFull ⟨I, kk⟩) := by
 refine SoundF.of_walk (I := lkI [(16, F.estafettelaw14_begun ⟨I, kk⟩), (17, F.vault_New ⟨I, kk⟩), (38, F.estafettelaw14_abc ⟨I, kk⟩), (22, F.vault_Vault_Prepare ⟨I, kk⟩), (19, F.vault_Vault_Decide ⟨I, kk⟩), (39, F.vault_Vault_Spaces ⟨I, kk⟩)]) (lkI_sound ⟨S.estafettelaw14_begun hI mI, S.vault_New hI mI, S.estafettelaw14_abc hI mI, S.vault_Vault_Prepare hI mI, S.vault_Vault_Decide hI mI, S.vault_Vault_Spaces hI mI, trivial⟩) (lkI_mono _) mixed A.estafettelaw14_VaultFull Tryz.func8 rfl (by kernel_rfl) (by kernel_rfl) Tryz.call8 fun args h K hs => ?_
 match args, hs with
 | [a0, a1], hs => exact ⟨Nat.le_of_ble_eq_true (by kernel_rfl), Eq.mp (by kernel_rfl) hs⟩
end Go.Abs

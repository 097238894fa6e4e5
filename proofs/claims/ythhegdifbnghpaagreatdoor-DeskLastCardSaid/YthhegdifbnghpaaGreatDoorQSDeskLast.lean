/- The shallow form of a statement speaks truly. -/
import Derived.Test.YthhegdifbnghpaaGreatDoorQTDeskLast
import Derived.Test.YthhegdifbnghpaaGreatDoorQbm
set_option maxRecDepth 20000
set_option linter.unusedVariables false
set_option linter.unusedSimpArgs false
namespace Go.Abs
open Go Go.Proofs
variable {I : FuncId → Option Spec}
def A.estafettelaw15_DeskLast : An := (.s (.s (.seq (.s (.cond (.s .l) .l)) (.s (.s (.s (.seq (.s (.block (.loop 36028797016868752 [7, 8] (.seq (.s (.cond .l .l)) (.seq (.block (.s (.s (.seq (.s (.cond (.s .l) .l)) (.s (.cond .l .l)))))) .l))))) (.s (.s .l)))))))))
theorem S.estafettelaw15_DeskLast (hI : SoundI Tryz.prog J I) (mI : MonoI I) : SoundF Tryz.prog J 6 (F.estafettelaw15_DeskLast ⟨I, kk⟩) := by
 refine SoundF.of_walk (I := lkI [(14, F.estafettelaw15_begun ⟨I, kk⟩), (15, F.desk_New ⟨I, kk⟩), (29, F.estafetteref12_Client ⟨I, kk⟩), (16, F.desk_Desk_Begin ⟨I, kk⟩), (19, F.desk_Desk_Answer ⟨I, kk⟩)]) (lkI_sound ⟨S.estafettelaw15_begun hI mI, S.desk_New hI mI, S.estafetteref12_Client hI mI, S.desk_Desk_Begin hI mI, S.desk_Desk_Answer hI mI, trivial⟩) (lkI_mono _) mixed A.estafettelaw15_DeskLast Tryz.func6 rfl (by kernel_rfl) (by kernel_rfl) Tryz.call6 fun args h K hs => ?_
 match args, hs with
 | [a0, a1], hs => exact ⟨Nat.le_of_ble_eq_true (by kernel_rfl), Eq.mp (by kernel_rfl) hs⟩
end Go.Abs

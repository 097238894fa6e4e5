/- The shallow form of a statement speaks truly. -/
import Derived.Test.YthhegdifbnghpaaGreatDoorWTDeskWants
import Derived.Test.YthhegdifbnghpaaGreatDoorWbp
set_option maxRecDepth 20000
set_option linter.unusedVariables false
set_option linter.unusedSimpArgs false
namespace Go.Abs
open Go Go.Proofs
variable {I : FuncId → Option Spec}
def A.estafettelaw15_DeskWants : An := (.s (.s (.seq (.s (.cond (.s .l) .l)) (.s (.s (.seq (.s (.cond (.s .l) .l)) (.s (.s (.s (.s (.seq (.s (.block (.loop 81129638414606681686992912137744 [9] (.seq (.s (.cond .l .l)) (.seq (.block (.seq (.s (.cond .l .l)) (.s (.seq (.s (.cond (.s .l) .l)) (.s (.seq (.s (.cond (.s .l) .l)) (.draw #[0, 0, 0, 0, 0, 24, 56, 120, 248, 510, 1023] (.qs [0, 1, 2, 3, 4, 5, 6, 7] (.c 8 [1] (.q 9 (.c 10 [] .done))))))))))) .l))))) (.seq (.s (.block (.loop 191561942608236107294712248755374041270646601268838416 [14] (.seq (.s (.cond .l .l)) (.seq (.block (.seq (.s (.cond .l .l)) (.s (.seq (.s (.cond (.s .l) .l)) (.s (.s (.cond (.s .l) .l))))))) .l))))) (.s .l)))))))))))))
theorem S.estafettelaw15_DeskWants (hI : SoundI Tryz.prog J I) (mI : MonoI I) : SoundF Tryz.prog J 5 (F.estafettelaw15_DeskWants ⟨I, kk⟩) := by
 refine SoundF.of_walk (I := lkI [(14, F.estafettelaw15_begun ⟨I, kk⟩), (22, F.estafettelaw12_Ops ⟨I, kk⟩), (23, F.estafetteref12_All ⟨I, kk⟩), (15, F.desk_New ⟨I, kk⟩), (16, F.desk_Desk_Begin ⟨I, kk⟩), (24, F.estafetteref12_Parts ⟨I, kk⟩), (21, F.desk_Desk_Wants ⟨I, kk⟩), (25, F.estafetteref12_Get ⟨I, kk⟩), (27, F.estafetteref12_Of ⟨I, kk⟩), (26, F.estafettelaw12_Eq ⟨I, kk⟩), (17, F.desk_Desk_Vote ⟨I, kk⟩), (28, F.estafetteref12_GetWord ⟨I, kk⟩), (18, F.desk_Desk_Done ⟨I, kk⟩), (20, F.desk_Desk_Open ⟨I, kk⟩)]) (lkI_sound ⟨S.estafettelaw15_begun hI mI, S.estafettelaw12_Ops hI mI, S.estafetteref12_All hI mI, S.desk_New hI mI, S.desk_Desk_Begin hI mI, S.estafetteref12_Parts hI mI, S.desk_Desk_Wants hI mI, S.estafetteref12_Get hI mI, S.estafetteref12_Of hI mI, S.estafettelaw12_Eq hI mI, S.desk_Desk_Vote hI mI, S.estafetteref12_GetWord hI mI, S.desk_Desk_Done hI mI, S.desk_Desk_Open hI mI, trivial⟩) (lkI_mono _) mixed A.estafettelaw15_DeskWants Tryz.func5 rfl (by kernel_rfl) (by kernel_rfl) Tryz.call5 fun args h K hs => ?_
 match args, hs with
 | [a0, a1], hs => exact ⟨Nat.le_of_ble_eq_true (by kernel_rfl), Eq.mp (by kernel_rfl) hs⟩
end Go.Abs

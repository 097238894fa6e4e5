/- The shallow form of a statement speaks truly. -/
import Derived.Test.YthhegdifbnghpaaGreatDoorKTDeskKeeps
import Derived.Test.YthhegdifbnghpaaGreatDoorKbn
set_option maxRecDepth 20000
set_option linter.unusedVariables false
set_option linter.unusedSimpArgs false
namespace Go.Abs
open Go Go.Proofs
variable {I : FuncId → Option Spec}
def A.estafettelaw15_DeskKeeps : An := (.s (.s (.seq (.s (.cond (.s .l) .l)) (.s (.s (.seq (.s (.block (.loop 9223372036837999504 [7] (.seq (.s (.cond .l .l)) (.seq (.block (.s (.seq (.s (.cond (.s .l) .l)) (.seq (.draw #[0, 0, 0, 4, 14, 30, 62, 62, 254, 510, 1022, 2047, 0, 8191] (.qs [0, 1, 2, 3, 4, 5, 6, 7, 8, 9, 10, 11] (.c 12 [0, 9] (.c 13 [] .done)))) (.seq (.s (.join 6755399441055744 [] (.cond .l .l))) (.s (.cond (.s .l) .l))))))) .l))))) (.seq (.s (.block (.loop 20282409603642447051910396525584 [10] (.seq (.s (.cond .l .l)) (.seq (.block (.s (.s (.seq (.s (.join 8192 [13] (.cond .l .l))) (.seq (.s (.join 8192 [13] (.cond .l .l))) (.s (.cond (.s .l) .l))))))) .l))))) (.s (.s .l)))))))))
theorem S.estafettelaw15_DeskKeeps (hI : SoundI Tryz.prog J I) (mI : MonoI I) : SoundF Tryz.prog J 3 (F.estafettelaw15_DeskKeeps ⟨I, kk⟩) := by
 refine SoundF.of_walk (I := lkI [(14, F.estafettelaw15_begun ⟨I, kk⟩), (15, F.desk_New ⟨I, kk⟩), (16, F.desk_Desk_Begin ⟨I, kk⟩), (17, F.desk_Desk_Vote ⟨I, kk⟩), (18, F.desk_Desk_Done ⟨I, kk⟩), (19, F.desk_Desk_Answer ⟨I, kk⟩), (20, F.desk_Desk_Open ⟨I, kk⟩), (21, F.desk_Desk_Wants ⟨I, kk⟩)]) (lkI_sound ⟨S.estafettelaw15_begun hI mI, S.desk_New hI mI, S.desk_Desk_Begin hI mI, S.desk_Desk_Vote hI mI, S.desk_Desk_Done hI mI, S.desk_Desk_Answer hI mI, S.desk_Desk_Open hI mI, S.desk_Desk_Wants hI mI, trivial⟩) (lkI_mono _) mixed A.estafettelaw15_DeskKeeps Tryz.func3 rfl (by kernel_rfl) (by kernel_rfl) Tryz.call3 fun args h K hs => ?_
 match args, hs with
 | [a0, a1], hs => exact ⟨Nat.le_of_ble_eq_true (by kernel_rfl), Eq.mp (by kernel_rfl) hs⟩
end Go.Abs

/- The shallow form of a statement speaks truly. -/
import Derived.Test.YthhegdifbnghpaaGreatDoorVTDeskVotes
import Derived.Test.YthhegdifbnghpaaGreatDoorVbm
set_option maxRecDepth 20000
set_option linter.unusedVariables false
set_option linter.unusedSimpArgs false
namespace Go.Abs
open Go Go.Proofs
variable {I : FuncId → Option Spec}
def A.estafettelaw15_DeskVotes : An := (.s (.s (.seq (.s (.cond (.s .l) .l)) (.s (.s (.seq (.s (.cond (.s .l) .l)) (.s (.s (.seq (.s (.cond (.s .l) .l)) (.s (.s (.s (.seq (.s (.block (.loop 18444492273896005632 [13, 17] (.seq (.s (.cond .l .l)) (.seq (.block (.s (.cond .l .l))) .l))))) (.seq (.s (.block (.loop 45671926166590716193865151003937100290546524416 [13, 14, 15, 18] (.seq (.s (.cond .l .l)) (.seq (.block (.s (.seq (.draw #[0, 0, 0, 4, 0, 28, 60, 124, 124, 508, 1020, 2044, 4092, 8188, 0, 32767, 0, 131071] (.qs [0, 1, 2, 3, 4, 5, 6, 7, 8, 9, 10, 11, 12, 13, 14, 15] (.c 16 [0, 10] (.c 17 [] .done)))) (.seq (.s (.join 643966504915940535960325228331008 [] (.cond .l .l))) (.s (.seq (.s (.join 348279002543580517354763910706414764466176 [13, 15] (.cond (.s (.s .l)) .l))) (.s (.seq (.s (.cond (.s .l) .l)) .l)))))))) .l))))) (.s (.s .l))))))))))))))))
theorem S.estafettelaw15_DeskVotes (hI : SoundI Tryz.prog J I) (mI : MonoI I) : SoundF Tryz.prog J 4 (F.estafettelaw15_DeskVotes ⟨I, kk⟩) := by
 refine SoundF.of_walk (I := lkI [(14, F.estafettelaw15_begun ⟨I, kk⟩), (22, F.estafettelaw12_Ops ⟨I, kk⟩), (23, F.estafetteref12_All ⟨I, kk⟩), (15, F.desk_New ⟨I, kk⟩), (16, F.desk_Desk_Begin ⟨I, kk⟩), (24, F.estafetteref12_Parts ⟨I, kk⟩), (17, F.desk_Desk_Vote ⟨I, kk⟩), (19, F.desk_Desk_Answer ⟨I, kk⟩)]) (lkI_sound ⟨S.estafettelaw15_begun hI mI, S.estafettelaw12_Ops hI mI, S.estafetteref12_All hI mI, S.desk_New hI mI, S.desk_Desk_Begin hI mI, S.estafetteref12_Parts hI mI, S.desk_Desk_Vote hI mI, S.desk_Desk_Answer hI mI, trivial⟩) (lkI_mono _) mixed A.estafettelaw15_DeskVotes Tryz.func4 rfl (by kernel_rfl) (by kernel_rfl) Tryz.call4 fun args h K hs => ?_
 match args, hs with
 | [a0, a1, a2, a3], hs => exact ⟨Nat.le_of_ble_eq_true (by kernel_rfl), Eq.mp (by kernel_rfl) hs⟩
end Go.Abs

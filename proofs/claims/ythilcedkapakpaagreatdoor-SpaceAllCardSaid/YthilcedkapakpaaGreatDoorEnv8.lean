/- The functions behind function values, in the laws; and their sound forms there. -/
import Derived.Test.YthilcedkapakpaaGreatDoorSnd8
set_option linter.unusedSimpArgs false
set_option linter.unusedVariables false
namespace Go.Abs
open Go Go.Proofs

def E0 : FE := ⟨fun _ => none, kk⟩

def I8 : FuncId → Option Spec := lkI [(69, F.queue_Queue_Ack_1 E0), (85, F.space_Space_Eq_1 E0), (98, F.space_alike_1 E0)]

def E8 : FE := ⟨I8, kk⟩

theorem I8_sound : SoundI Tryz.prog J I8 :=
  lkI_sound ⟨S.queue_Queue_Ack_1 (I := fun _ => none) (fun _ _ h => by cases h) (fun _ _ h => by cases h), S.space_Space_Eq_1 (I := fun _ => none) (fun _ _ h => by cases h) (fun _ _ h => by cases h),
    S.space_alike_1 (I := fun _ => none) (fun _ _ h => by cases h) (fun _ _ h => by cases h), trivial⟩

theorem I8_mono : MonoI I8 := lkI_mono _

theorem E8_ack : E8.I (E8.k 0) = some (cl (F.queue_Queue_Ack_1 E0)) := rfl
theorem E8_eq : E8.I (E8.k 1) = some (cl (F.space_Space_Eq_1 E0)) := rfl
theorem E8_alike : E8.I (E8.k 2) = some (cl (F.space_alike_1 E0)) := rfl

end Go.Abs

/- What is closed in the laws of the seat: begun, SpaceNone: the kernel runs them. -/
import Derived.Test.YthilcedkapakpaaGreatDoorClo0
import Derived.Test.YthilcedkapakpaaGreatDoorWlk8
import Derived.Test.YthilcedkapakpaaGreatDoorLay8
import Derived.Test.YthilcedkapakpaaGreatDoorLib0
set_option linter.unusedSimpArgs false
set_option linter.unusedVariables false
namespace Go.Abs
open Go Go.Proofs
variable {J : World → Prop}

theorem mixed0 : Tryz.prog.follows .mixedOrders = true := by kernel_rfl

def L8 : LibB := fun f => if Nat.beq f 114 then some fmtB else if Nat.beq f 115 then some trimB else none

theorem L8_sound : ∀ f g, L8 f = some g → SoundF Tryz.prog J f (fnSpec g) := by
  intro f g h
  unfold L8 at h
  split at h
  · rename_i hf
    cases h
    rw [Nat.eq_of_beq_eq_true hf]
    have e : Tryz.lays173_ren.f 173 = 114 := by kernel_rfl
    have h := fmtB_sound (J := J) Tryz.lays173 (by rw [e]; exact Tryz.call114)
    rw [e] at h
    exact h
  · split at h
    · rename_i hf
      cases h
      rw [Nat.eq_of_beq_eq_true hf]
      have e : Tryz.lays160_ren.f 160 = 115 := by kernel_rfl
      have h := trimB_sound (J := J) Tryz.lays160 (by kernel_rfl) (by rw [e]; exact Tryz.call115)
      rw [e] at h
      exact h
    · cases h

/-- **begun() yields true, whenever, and leaves all as it was.** -/
theorem begun_sound : SoundF Tryz.prog J 17 (fun args h K => args = [] ∧ K (.bool true) h) :=
  SoundF.alone (callB_sound (T := lkA W8.TB) (F := 200) mixed0 L8_sound (lkA_walked W8.TB_ok) 40 17) rfl (by simp) ⟨isT, by kernel_rfl, fun _ _ => isT_eq⟩

/-- **SpaceNone() yields true.** -/
theorem none_sound : SoundF Tryz.prog J 10 (fun args h K => args = [] ∧ K (.bool true) h) :=
  SoundF.alone (callB_sound (T := lkA W8.TB) (F := 200) mixed0 L8_sound (lkA_walked W8.TB_ok) 40 10) rfl (by simp) ⟨isT, by kernel_rfl, fun _ _ => isT_eq⟩

theorem S.estafettelaw8_begun {I : FuncId → Option Spec} {kk : Nat → Nat} (_ : SoundI Tryz.prog J I) (_ : MonoI I) : SoundF Tryz.prog J 17 (F.estafettelaw8_begun ⟨I, kk⟩) := begun_sound

end Go.Abs

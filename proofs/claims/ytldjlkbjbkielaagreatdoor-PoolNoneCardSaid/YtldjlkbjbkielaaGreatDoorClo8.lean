/- What is closed in the laws below: estafettelaw8.Begun, estafettelaw12.Begun: the kernel runs them. -/
import Derived.Test.YtldjlkbjbkielaaGreatDoorMrg4
import Derived.Test.YtldjlkbjbkielaaGreatDoorWlk8
import Derived.Test.YtldjlkbjbkielaaGreatDoorLay8
import Derived.Test.YtldjlkbjbkielaaGreatDoorLib0
import Derived.Test.YtldjlkbjbkielaaGreatDoorLib1
set_option linter.unusedSimpArgs false
set_option linter.unusedVariables false
namespace Go.Abs
open Go Go.Proofs

theorem mixed0 : Tryz.prog.follows .mixedOrders = true := by kernel_rfl

/-- What is reckoned. -/
def PU : List (Nat × (List V → AHeap → Ans)) := [(321, stillU fmtB), (322, stillU trimB), (287, cloneU), (97, sortedU [324, 299, 180]), (93, colU [171, 250, 201])]

theorem nI : SoundI Tryz.prog J8 (fun _ => none) := fun _ _ h => by cases h
theorem nM : MonoI (fun _ => none) := fun _ _ h => by cases h

theorem PU_sound : ∀ f g, lkL PU f = some g → SoundF Tryz.prog J8 f (anySpecU g) := by
  refine lkL_ok (p := fun f g => SoundF Tryz.prog J8 f (anySpecU g)) fun x hx => ?_
  simp only [PU, List.mem_cons, List.not_mem_nil, or_false] at hx
  rcases hx with rfl | rfl | rfl | rfl | rfl
  · have e : Tryz.lays173_ren.f 173 = 321 := by kernel_rfl
    have h := fmtB_sound (J := J8) J8_free Tryz.lays173 (by rw [e]; exact Tryz.call321)
    rw [e] at h
    exact stillU_sound h fmtB_still
  · have e : Tryz.lays160_ren.f 160 = 322 := by kernel_rfl
    have h := trimB_sound (J := J8) J8_free Tryz.lays160 (by kernel_rfl) (by rw [e]; exact Tryz.call322)
    rw [e] at h
    exact stillU_sound h trimB_still
  · exact cloneU_sound (S.maps_clone nI nM)
  · refine sortedU_sound (fun g hg => ?_) (S.slices_Sorted_string nI nM)
    simp only [List.mem_cons, List.not_mem_nil, or_false] at hg
    rcases hg with rfl | rfl | rfl
    · exact .inl rfl
    · exact .inr (.inl rfl)
    · exact .inr (.inr rfl)
  · refine colU_sound (fun g hg => ?_) (S.slices_Collect_api_Id nI nM)
    simp only [List.mem_cons, List.not_mem_nil, or_false] at hg
    rcases hg with rfl | rfl | rfl
    · exact .inl rfl
    · exact .inr (.inl rfl)
    · exact .inr (.inr rfl)

set_option maxRecDepth 100000

theorem begun1 : SoundF Tryz.prog J8 217 TrueF := closedU mixed0 PU_sound W8.TB_ok 40 217 (by kernel_rfl)
def P1 := (217, trueU) :: PU
theorem P1_sound : ∀ f g, lkL P1 f = some g → SoundF Tryz.prog J8 f (anySpecU g) := moreU PU_sound begun1

/-- **estafettelaw8.Begun() yields true, whenever, and leaves all as it was.** -/
theorem begun8 : SoundF Tryz.prog J8 70 TrueF := closedU mixed0 P1_sound W8.TB_ok 40 70 (by kernel_rfl)

theorem begun7 : SoundF Tryz.prog J8 218 TrueF := closedU mixed0 P1_sound W8.TB_ok 40 218 (by kernel_rfl)
def P7 := (218, trueU) :: P1
theorem P7_sound : ∀ f g, lkL P7 f = some g → SoundF Tryz.prog J8 f (anySpecU g) := moreU P1_sound begun7

/-- **estafettelaw12.Begun() yields true, whenever, and leaves all as it was.** -/
theorem begun12 : SoundF Tryz.prog J8 71 TrueF := closedU mixed0 P7_sound W8.TB_ok 40 71 (by kernel_rfl)

theorem S.estafettelaw8_Begun {I : FuncId → Option Spec} (_ : SoundI Tryz.prog J8 I) (_ : MonoI I) : SoundF Tryz.prog J8 70 (F.estafettelaw8_Begun ⟨I, kk⟩) := begun8
theorem S.estafettelaw12_Begun {I : FuncId → Option Spec} (_ : SoundI Tryz.prog J8 I) (_ : MonoI I) : SoundF Tryz.prog J8 71 (F.estafettelaw12_Begun ⟨I, kk⟩) := begun12

end Go.Abs

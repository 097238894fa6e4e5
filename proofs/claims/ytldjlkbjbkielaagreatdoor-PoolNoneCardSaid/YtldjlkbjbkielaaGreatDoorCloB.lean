/- The closed statements of the pool: the kernel runs them. -/
import Derived.Test.YtldjlkbjbkielaaGreatDoorCloA
set_option linter.unusedSimpArgs false
set_option linter.unusedVariables false
set_option maxRecDepth 100000
namespace Go.Abs
open Go Go.Proofs

/-- **estafettelaw17.begun() yields true.** -/
theorem begun17 : SoundF Tryz.prog J8 61 TrueF := closedU mixed0 PD_sound W9.TB_ok 60 61 (by kernel_rfl)
def PE : List (Nat × (List V → AHeap → Ans)) := (61, trueU) :: PD
theorem PE_sound : ∀ f g, lkL PE f = some g → SoundF Tryz.prog J8 f (anySpecU g) := moreU PD_sound begun17

/-- **PoolNone() yields true.** -/
theorem poolNone : SoundF Tryz.prog J8 15 TrueF := closedU mixed0 PE_sound W9.TB_ok 60 15 (by kernel_rfl)

end Go.Abs

/- The closed statements: the kernel runs them. -/
import Derived.Test.YtldjlkbjbkielaaGreatDoorClo8
import Derived.Test.YtldjlkbjbkielaaGreatDoorWlk9
set_option linter.unusedSimpArgs false
set_option linter.unusedVariables false
set_option maxRecDepth 100000
namespace Go.Abs
open Go Go.Proofs

def PB : List (Nat × (List V → AHeap → Ans)) := (70, trueU) :: (71, trueU) :: P7
theorem PB_sound : ∀ f g, lkL PB f = some g → SoundF Tryz.prog J8 f (anySpecU g) := moreU (moreU P7_sound begun12) begun8

/-- **estafettelaw14.begun() yields true, whenever, and leaves all as it was.** -/
theorem begun14 : SoundF Tryz.prog J8 16 TrueF := closedU mixed0 PB_sound W9.TB_ok 60 16 (by kernel_rfl)
def PC : List (Nat × (List V → AHeap → Ans)) := (16, trueU) :: PB
theorem PC_sound : ∀ f g, lkL PC f = some g → SoundF Tryz.prog J8 f (anySpecU g) := moreU PB_sound begun14

end Go.Abs

/- The closed statements of the shards: the kernel runs them. -/
import Derived.Test.YtldjlkbjbkielaaGreatDoorClo9
set_option linter.unusedSimpArgs false
set_option linter.unusedVariables false
set_option maxRecDepth 100000
namespace Go.Abs
open Go Go.Proofs

/-- **estafettelaw15.begun() yields true.** -/
theorem begun15 : SoundF Tryz.prog J8 45 TrueF := closedU mixed0 PC_sound W9.TB_ok 60 45 (by kernel_rfl)
def PD : List (Nat × (List V → AHeap → Ans)) := (45, trueU) :: PC
theorem PD_sound : ∀ f g, lkL PD f = some g → SoundF Tryz.prog J8 f (anySpecU g) := moreU PC_sound begun15

/-- **ShardNone() yields true.** -/
theorem shardNone : SoundF Tryz.prog J8 14 TrueF := closedU mixed0 PD_sound W9.TB_ok 60 14 (by kernel_rfl)

end Go.Abs

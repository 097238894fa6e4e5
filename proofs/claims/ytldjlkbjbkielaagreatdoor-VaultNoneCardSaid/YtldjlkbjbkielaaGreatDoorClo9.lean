/- The closed statements: the kernel runs them. -/
import Derived.Test.YtldjlkbjbkielaaGreatDoorClo8
import Derived.Test.YtldjlkbjbkielaaGreatDoorWlk9
set_option linter.unusedSimpArgs false
set_option linter.unusedVariables false
set_option maxRecDepth 100000
namespace Go.Abs
open Go Go.Proofs

def PB : List (Nat × (List V → AHeap → KB → Bool)) := (70, detB trueB) :: (71, detB trueB) :: P7
theorem PB_sound : ∀ f g, lkL PB f = some g → SoundF Tryz.prog J8 f (anySpec g) := more_sound (more_sound P7_sound begun12) begun8

/-- **estafettelaw14.begun() yields true, whenever, and leaves all as it was.** -/
theorem begun14 : SoundF Tryz.prog J8 16 TrueF := closed_of PB_sound W9.TB_ok 60 16 (by kernel_rfl)
def PC : List (Nat × (List V → AHeap → KB → Bool)) := (16, detB trueB) :: PB
theorem PC_sound : ∀ f g, lkL PC f = some g → SoundF Tryz.prog J8 f (anySpec g) := more_sound PB_sound begun14

/-- **VaultNone() yields true.** -/
theorem vaultNone : SoundF Tryz.prog J8 12 TrueF := closed_of PC_sound W9.TB_ok 60 12 (by kernel_rfl)

end Go.Abs

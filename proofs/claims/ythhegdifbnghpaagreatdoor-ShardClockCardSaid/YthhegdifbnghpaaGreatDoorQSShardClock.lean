/- The shallow form of a statement speaks truly. -/
import Derived.Test.YthhegdifbnghpaaGreatDoorQTShardClock
import Derived.Test.YthhegdifbnghpaaGreatDoorQbm
set_option maxRecDepth 20000
set_option linter.unusedVariables false
set_option linter.unusedSimpArgs false
namespace Go.Abs
open Go Go.Proofs
variable {I : FuncId → Option Spec}
def A.estafettelaw15_ShardClock : An := (.s (.s (.seq (.s (.cond (.s .l) .l)) (.s (.s (.seq (.s (.block (.loop 144115188075853924 [5, 6] (.seq (.s (.cond .l .l)) (.seq (.block (.s (.seq (.s (.join 1082331758624 [5] (.cond .l .l))) (.s (.s (.s (.cond (.s .l) .l))))))) .l))))) (.s .l)))))))
theorem S.estafettelaw15_ShardClock (hI : SoundI Tryz.prog J I) (mI : MonoI I) : SoundF Tryz.prog J 7 (F.estafettelaw15_ShardClock ⟨I, kk⟩) := by
 refine SoundF.of_walk (I := lkI [(14, F.estafettelaw15_begun ⟨I, kk⟩), (30, F.shard_New ⟨I, kk⟩), (31, F.shard_Shard_Apply ⟨I, kk⟩), (32, F.shard_Shard_Now ⟨I, kk⟩)]) (lkI_sound ⟨S.estafettelaw15_begun hI mI, S.shard_New hI mI, S.shard_Shard_Apply hI mI, S.shard_Shard_Now hI mI, trivial⟩) (lkI_mono _) mixed A.estafettelaw15_ShardClock Tryz.func7 rfl (by kernel_rfl) (by kernel_rfl) Tryz.call7 fun args h K hs => ?_
 match args, hs with
 | [a0], hs => exact ⟨Nat.le_of_ble_eq_true (by kernel_rfl), Eq.mp (by kernel_rfl) hs⟩
end Go.Abs

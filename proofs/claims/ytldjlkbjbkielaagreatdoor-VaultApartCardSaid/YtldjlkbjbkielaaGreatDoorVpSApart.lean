/- The shallow form of a statement speaks truly. -/
import Derived.Test.YtldjlkbjbkielaaGreatDoorVpTApart
import Derived.Test.YtldjlkbjbkielaaGreatDoorVpbn
set_option maxRecDepth 20000
set_option linter.unusedVariables false
set_option linter.unusedSimpArgs false
namespace Go.Abs
open Go Go.Proofs
variable {I : FuncId → Option Spec}
def A.tB : An := (.s (.s (.seq (.s (.cond (.s .l) .l)) (.seq (.draw #[0, 0, 2, 6, 15, 0, 0, 64, 192, 480, 0, 0, 2048, 6144, 15360, 0, 0, 65536, 196608, 491520, 31, 1049599, 3178495, 8388607] (.qs [0, 1, 2, 3, 4, 5, 6, 7, 8, 9, 10, 11, 12, 13, 14, 15, 16, 17, 18, 19, 20, 21, 22, 23] .done)) (.s (.s (.seq (.s (.block (.loop 20282409603647058737928856408064 [62] (.s (.seq (.cond .l .l) (.seq (.block (.s (.s (.s (.s (.s (.s (.cond (.s .l) .l)))))))) .l)))))) (.s (.s (.s (.s (.s (.seq (.s (.cond (.s .l) .l)) (.s (.s (.seq (.s (.cond (.s .l) .l)) (.s .l)))))))))))))))))
theorem S.tB (hI : aN Tryz.prog J I) (mI : aH I) : aD Tryz.prog J 11 (F.tB ⟨I, kk⟩) := by
 refine aD.aR (I := lkI [(16, F.oT ⟨I, kk⟩), (17, F.iF ⟨I, kk⟩), (22, F.gM ⟨I, kk⟩), (19, F.gL ⟨I, kk⟩), (33, F.nL ⟨I, kk⟩), (42, F.rI ⟨I, kk⟩), (35, F.dK ⟨I, kk⟩)]) (aV ⟨S.oT hI mI, S.iF hI mI, S.gM hI mI, S.gL hI mI, S.nL hI mI, S.rI hI mI, S.dK hI mI, trivial⟩) (aU _) mixed A.tB Tryz.func11 rfl (by kernel_rfl) (by kernel_rfl) Tryz.call11 fun args h K hs => ?_
 match args, hs with
 | [a0, a1, a2, a3, a4, a5], hs => exact ⟨Nat.le_of_ble_eq_true (by kernel_rfl), Eq.mp (by kernel_rfl) hs⟩
end Go.Abs

/- The shallow form of a statement speaks truly. -/
import Derived.Test.YthhegdifbnghpaaGreatDoorQTEq
import Derived.Test.YthhegdifbnghpaaGreatDoorQbp
set_option maxRecDepth 20000
set_option linter.unusedVariables false
set_option linter.unusedSimpArgs false
namespace Go.Abs
open Go Go.Proofs
variable {I:FuncId→Option Spec}
def A.tJ:An:=(.s (.s (.seq (.s (.cond (.s .l) .l)) (.s (.seq (.s (.block (.loop 79228162514264337593543820560 [8] (.seq (.s (.cond .l .l)) (.seq (.block (.seq (.s (.block (.loop 77371252455336265033712640 [31] (.s (.seq (.cond .l .l) (.seq (.block (.s (.s (.cond (.draw #[0,0,0,6,14,30,0,0,192,448,960,2047] (.qs [0,1,2,3,4,5,6,7,8,9,10] (.c 11 [] .done))) (.s (.cond (.draw #[0,0,0,6,14,30,0,0,192,448,960,1984,0,0,12288,28672,61440,131071] (.qs [0,1,2,3,4,5,6,7,8,9,10,12,13,14,15,16] (.c 11 [5,16] (.c 17 [] .done)))) .l)))))) .l)))))) (.s (.cond (.s .l) .l)))) .l))))) (.s (.s (.s .l))))))))
theorem S.tJ (hI:aO Tryz.prog J I) (mI:aJ I):aD Tryz.prog J 13 (F.tJ ⟨I,kk⟩):=by
 refine aD.aT (I:=lkI [(47,F.pE ⟨I,kk⟩),(48,F.iH ⟨I,kk⟩),(50,F.jG ⟨I,kk⟩),(59,F.qZ ⟨I,kk⟩),(52,F.lS ⟨I,kk⟩),(60,F.oY ⟨I,kk⟩),(55,F.lR ⟨I,kk⟩)]) (aX ⟨S.pE hI mI,S.iH hI mI,S.jG hI mI,S.qZ hI mI,S.lS hI mI,S.oY hI mI,S.lR hI mI,trivial⟩) (aW _) mixed A.tJ Tryz.func13 rfl (by kernel_rfl) (by kernel_rfl) Tryz.call13 fun args h K hs=>?_
 match args,hs with
 | [a0,a1],hs=>exact⟨Nat.le_of_ble_eq_true (by kernel_rfl),Eq.mp (by kernel_rfl) hs⟩
end Go.Abs

/- Specs, written by hand, of functions of Go's library. -/
import Derived.Test.YthilcedkapakpaaGreatDoorLibA
set_option linter.unusedSimpArgs false
set_option linter.unusedVariables false
namespace Go.Abs
open Go
def F.strconv_FormatInt (_ : FE) : Spec := L.FormatInt
def F.strconv_ParseInt (_ : FE) : Spec := L.ParseInt
def F.strings_Trim (_ : FE) : Spec := L.Trim
def F.slices_Sorted_string (E : FE) : Spec := L.Sorted fun g => g = E.k 3 ∨ g = E.k 4
def F.maps_clone (_ : FE) : Spec := L.clone
/-- What begins each law: it yields true, and leaves all as it was (the kernel runs it). -/
def F.estafettelaw8_begun (_ : FE) : Spec := fun args h K => args = [] ∧ K (.bool true) h
end Go.Abs

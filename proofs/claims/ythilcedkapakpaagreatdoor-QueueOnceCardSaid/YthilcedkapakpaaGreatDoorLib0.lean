/- Specs, written by hand, of functions of Go's library. (placeholders as yet) -/
import Derived.Test.YthilcedkapakpaaGreatDoorAbs25
set_option linter.unusedSimpArgs false
set_option linter.unusedVariables false
namespace Go.Abs
open Go
def F.strconv_FormatInt (_ : FE) : Spec := fun _ _ _ => False
def F.strconv_ParseInt (_ : FE) : Spec := fun _ _ _ => False
def F.strings_Trim (_ : FE) : Spec := fun _ _ _ => False
def F.slices_Sorted_string (_ : FE) : Spec := fun _ _ _ => False
def F.maps_clone (_ : FE) : Spec := fun _ _ _ => False
/-- What begins each law: it yields true, and leaves all as it was (the kernel runs it). -/
def F.estafettelaw8_begun (_ : FE) : Spec := fun args h K => args = [] ∧ K (.bool true) h
end Go.Abs

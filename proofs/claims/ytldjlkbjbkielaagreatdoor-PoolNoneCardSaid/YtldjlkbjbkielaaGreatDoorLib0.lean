/- Specs, written by hand, of functions of Go's library, and of what is closed. -/
import Derived.Test.YtldjlkbjbkielaaGreatDoorLib2
import Derived.Test.YtldjlkbjbkielaaGreatDoorLib3
import Derived.Test.YtldjlkbjbkielaaGreatDoorLib4
set_option linter.unusedSimpArgs false
set_option linter.unusedVariables false
namespace Go.Abs
open Go
def F.strconv_FormatInt (_ : FE) : Spec := L.FormatInt
def F.strconv_ParseInt (_ : FE) : Spec := L.ParseInt
def F.strings_Trim (_ : FE) : Spec := L.Trim
def F.slices_Sorted_string (E : FE) : Spec := L.Sorted fun g => g = E.k 3 ∨ g = E.k 4 ∨ g = E.k 12
def F.slices_Collect_api_Id (E : FE) : Spec := L.CollectId fun g => g = E.k 11 ∨ g = E.k 13 ∨ g = E.k 16
def F.maps_clone (_ : FE) : Spec := L.clone
/-- What is closed: it yields true, and leaves all as it was (the kernel runs it). -/
def F.estafettelaw8_Begun (_ : FE) : Spec := fun args h K => args = [] ∧ K (.bool true) h
def F.estafettelaw12_Begun (_ : FE) : Spec := fun args h K => args = [] ∧ K (.bool true) h
end Go.Abs

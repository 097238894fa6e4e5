/- Specs, written by hand, of functions of Go's library: they speak truly. (placeholders as yet) -/
import Derived.Test.YthilcedkapakpaaGreatDoorLib0
set_option linter.unusedSimpArgs false
set_option linter.unusedVariables false
namespace Go.Abs
open Go
variable {P : Program} {J : World → Prop} {I : FuncId → Option Spec} {kk : Nat → Nat} {f : FuncId}
theorem S.strconv_FormatInt (hI : SoundI P J I) (mI : MonoI I) : SoundF P J f (F.strconv_FormatInt ⟨I, kk⟩) := SoundF.no
theorem S.strconv_ParseInt (hI : SoundI P J I) (mI : MonoI I) : SoundF P J f (F.strconv_ParseInt ⟨I, kk⟩) := SoundF.no
theorem S.strings_Trim (hI : SoundI P J I) (mI : MonoI I) : SoundF P J f (F.strings_Trim ⟨I, kk⟩) := SoundF.no
theorem S.slices_Sorted_string (hI : SoundI P J I) (mI : MonoI I) : SoundF P J f (F.slices_Sorted_string ⟨I, kk⟩) := SoundF.no
theorem S.maps_clone (hI : SoundI P J I) (mI : MonoI I) : SoundF P J f (F.maps_clone ⟨I, kk⟩) := SoundF.no
end Go.Abs

/- Specs on abstract heaps, part 29: spaces that are compared with what is the same. -/
import Derived.Test.YthhegdifbnghpaaGreatDoorKaw
set_option linter.unusedSimpArgs false
set_option linter.unusedVariables false
namespace Go.Abs
open Go Go.Proofs
variable {E E1 E2 : FE} {h h' : AHeap} {fp : List Nat} {p q : V} {l : List ByteArray} {g : List En}
theorem Mod.nil {a : List Nat} (m : Mod h [] h' a) : Mod h [] h' [] := ⟨m.next, m.same, by simp, by simp⟩
def xs (i : Nat) : ByteArray := ⟨(List.replicate i (120 : UInt8)).toArray⟩
end Go.Abs

/- Specs on abstract heaps, part 27: numbers that are read. -/
import Derived.Test.YthhegdifbnghpaaGreatDoorWax
import Derived.Test.YthhegdifbnghpaaGreatDoorWav
import Derived.Test.YthhegdifbnghpaaGreatDoorWat
set_option linter.unusedSimpArgs false
set_option linter.unusedVariables false
namespace Go.Abs
open Go
variable {E E0 : FE} {h : AHeap} {X : Fr} {L : List Pl} {p pw : V} {most next : Int} {items lost : List Msg}
structure WQ (most next : Int) (items lost : List Msg) (k : Nat) : Prop where
 m1 : 1 ≤ most ∧ most ≤ 9
 n1 : 1 ≤ next ∧ next ≤ k + 1
 len : items.length + lost.length ≤ 64
 its : ∀ m ∈ items, 1 ≤ m.id ∧ 0 ≤ m.count ∧ m.count ≤ 9
theorem WQ.mono {k k' : Nat} (w : WQ most next items lost k) (h : k ≤ k') : WQ most next items lost k' := ⟨w.m1, by have := w.n1; omega, w.len, w.its⟩
end Go.Abs

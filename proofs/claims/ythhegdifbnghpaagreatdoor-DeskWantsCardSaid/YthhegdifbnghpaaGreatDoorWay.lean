/- Specs on abstract heaps, part 29: spaces that are compared with what is the same. -/
import Derived.Test.YthhegdifbnghpaaGreatDoorWax
set_option linter.unusedSimpArgs false
set_option linter.unusedVariables false
namespace Go.Abs
open Go Go.Proofs
variable {E E1 E2 : FE} {h h' : AHeap} {fp : List Nat} {p q : V} {l : List ByteArray} {g : List En}
theorem Mod.nil {a : List Nat} (m : Mod h [] h' a) : Mod h [] h' [] := ⟨m.next, m.same, by simp, by simp⟩
def xs (i : Nat) : ByteArray := ⟨(List.replicate i (120 : UInt8)).toArray⟩
end Go.Abs
namespace Go.Abs
open Go Go.Proofs
variable {E E1 : FE} {h h' : AHeap} {p q pt qt : V} {l : List ByteArray} {g : List En} {fa fb : List Nat}
theorem To.vals {fp : List Nat} (t : To h fp p l g) : ∀ e ∈ g, ∃ n : Int, e.v = i64 n := by
 obtain ⟨b, m, fl, vl, clk, _, _, _, _, _, _, _, _, _, _, _, h7⟩ := t
 exact h7
end Go.Abs

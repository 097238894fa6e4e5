/- Specs on abstract heaps, part 31: operations on spaces: what they do; on tables, on queues. -/
import Derived.Test.YthhegdifbnghpaaGreatDoorWay
import Derived.Test.YthhegdifbnghpaaGreatDoorWaz
set_option linter.unusedSimpArgs false
set_option linter.unusedVariables false
namespace Go.Abs
open Go Go.Proofs
variable {E E1 : FE} {h h' : AHeap} {p q pt qt : V} {l : List ByteArray} {g : List En} {fp fa fb : List Nat}
inductive SpSt where
 | tab (g : List En)
 | qu (most next : Int) (items lost : List Msg)
 | to (l : List ByteArray) (g : List En)
def SpSt.cells : SpSt → V → List V
 | .tab _, pt => cTab pt
 | .qu .., pt => cQu pt
 | .to .., pt => cTo pt
def SpSt.pl : SpSt → V → Pl
 | .tab g, pt => plTab pt g
 | .qu a b c d, pt => plQu pt a b c d
 | .to l g, pt => plTo pt l g
def SpS (h : AHeap) (fp : List Nat) (p : V) (S : SpSt) : Prop := ∃ pt, Spa h fp p (S.cells pt) (S.pl pt)
end Go.Abs
namespace Go.Abs
open Go Go.Proofs
variable {E E0 E1 : FE} {h h' : AHeap} {p q pt qt : V} {l : List ByteArray} {g : List En} {fp fa fb : List Nat} {most next : Int} {items lost : List Msg}
abbrev BB : Nat := 1152921504606846976
structure QI (k : Nat) (most next : Int) (items lost : List Msg) : Prop where
 m1 : 1 ≤ most ∧ most ≤ 9
 n1 : 1 ≤ next ∧ next ≤ k + 1
 len : items.length + lost.length ≤ 64
 its : ∀ m ∈ items, 1 ≤ m.id ∧ m.id < next ∧ 0 ≤ m.count ∧ m.count ≤ 9 ∧ m.val.size ≤ BB
 lst : ∀ m ∈ lost, 1 ≤ m.id ∧ m.id < next ∧ 0 ≤ m.count ∧ m.count ≤ 9 ∧ m.val.size ≤ BB
variable {k : Nat}
theorem QI.mono {k' : Nat} (q : QI k most next items lost) (hk : k ≤ k') : QI k' most next items lost := ⟨q.m1, by have := q.n1; omega, q.len, q.its, q.lst⟩
end Go.Abs
namespace Go.Abs
open Go Go.Proofs
variable {E E0 E1 : FE} {h h' : AHeap} {p q pt qt : V} {l : List ByteArray} {g : List En} {fp fa fb : List Nat} {k : Nat}
def SI (k : Nat) : SpSt → Prop
 | .tab g => (∀ e ∈ g, ∃ s, e.v = str s ∧ s.size ≤ BB) ∧ (∀ e ∈ g, e.k.size ≤ maxLen) ∧ g.length ≤ k
 | .qu a b i l => QI k a b i l
 | .to l g => l.length ≤ 64 ∧ (∀ v ∈ l, v.size ≤ BB) ∧ (∀ e ∈ g, ∃ n : Int, e.v = i64 n ∧ 0 ≤ n ∧ n ≤ l.length) ∧ (∀ e ∈ g, e.k.size ≤ maxLen) ∧ g.length ≤ k
theorem SI.mono {S : SpSt} {k' : Nat} (s : SI k S) (hk : k ≤ k') : SI k' S := by
 cases S with
 | tab g => exact ⟨s.1, s.2.1, Nat.le_trans s.2.2 hk⟩
 | qu a b i l => exact QI.mono s hk
 | to l g => exact ⟨s.1, s.2.1, s.2.2.1, s.2.2.2.1, Nat.le_trans s.2.2.2.2 hk⟩
end Go.Abs

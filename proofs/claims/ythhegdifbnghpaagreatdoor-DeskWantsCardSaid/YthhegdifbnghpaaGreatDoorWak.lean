/- Our own abstract machine, part 23: what the printed shallow forms are made of, and what their proofs lean on. -/
import Derived.Test.YthhegdifbnghpaaGreatDoorWaj
import Derived.KernelRfl
set_option linter.unusedSimpArgs false
set_option linter.unusedVariables false
namespace Go.Abs
open Go
def iface (t : TypeId) (x : V) (h : AHeap) (K : V → AHeap → Prop) : Prop := K (.iface t x) h
structure FE where
 I : FuncId → Option Spec
 k : Nat → Nat
def lkI : List (Nat × Spec) → FuncId → Option Spec
 | [], _ => none
 | (n, s) :: l, f => if f = n then some (cl s) else lkI l f
def AllF (P : Program) (J : World → Prop) : List (Nat × Spec) → Prop
 | [] => True
 | (n, s) :: l => SoundF P J n s ∧ AllF P J l
theorem lkI_sound {P : Program} {J : World → Prop} : ∀ {l : List (Nat × Spec)}, AllF P J l → SoundI P J (lkI l)
 | [], _, f, s, h => by cases h
 | (n, t) :: l, ⟨h1, h2⟩, f, s, h => by
  unfold lkI at h
  split at h
  · rename_i hf; cases h; subst hf; exact h1.cl
  · exact lkI_sound h2 f s h
theorem lkI_mono : ∀ (l : List (Nat × Spec)), MonoI (lkI l)
 | [], f, s, h => by cases h
 | (n, t) :: l, f, s, h => by
  unfold lkI at h
  split at h
  · cases h; exact cl_mono t
  · exact lkI_mono l f s h
theorem SoundF.no {P : Program} {J : World → Prop} {f : FuncId} : SoundF P J f fun _ _ _ => False := fun _ _ _ _ _ _ _ _ hs => hs.elim
theorem SoundF.ex {P : Program} {J : World → Prop} {f : FuncId} {s : Nat → Spec} (h : ∀ n, SoundF P J f (s n)) : SoundF P J f fun args h K => ∃ n, s n args h K := by
 rintro B hJ r hp w args args' Q ⟨n, hs⟩ hR ha
 exact h n B hJ r hp w args args' Q hs hR ha
end Go.Abs

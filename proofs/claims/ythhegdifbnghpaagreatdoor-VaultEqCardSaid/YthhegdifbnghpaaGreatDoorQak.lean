/- Our own abstract machine, part 23: what the printed shallow forms are made of, and what their proofs lean on. -/
import Derived.Test.YthhegdifbnghpaaGreatDoorQaj
import Derived.KernelRfl
set_option linter.unusedSimpArgs false
set_option linter.unusedVariables false
namespace Go.Abs
open Go
def iface (t:TypeId) (x:V) (h:aA) (K:V→aA→Prop):Prop:=K (.iface t x) h
structure FE where
 I:FuncId→Option Spec
 k:Nat→Nat
def lkI:List (Nat×Spec)→FuncId→Option Spec
 | [],_=>none
 | (n,s)::l,f=>if f=n then some (cl s) else lkI l f
def aIh (P:Program) (J:World→Prop):List (Nat×Spec)→Prop
 | []=>True
 | (n,s)::l=>aD P J n s∧aIh P J l
theorem aX {P:Program} {J:World→Prop}:∀{l:List (Nat×Spec)},aIh P J l→aO P J (lkI l)
 | [],_,f,s,h=>by cases h
 | (n,t)::l,⟨h1,h2⟩,f,s,h=>by
  unfold lkI at h
  split at h
  ·rename_i hf;cases h;subst hf;exact h1.cl
  ·exact aX h2 f s h
theorem aW:∀(l:List (Nat×Spec)),aJ (lkI l)
 | [],f,s,h=>by cases h
 | (n,t)::l,f,s,h=>by
  unfold lkI at h
  split at h
  ·cases h;exact aJo t
  ·exact aW l f s h
theorem aD.no {P:Program} {J:World→Prop} {f:FuncId}:aD P J f fun _ _ _=>False:=fun _ _ _ _ _ _ _ _ hs=>hs.elim
theorem aD.ex {P:Program} {J:World→Prop} {f:FuncId} {s:Nat→Spec} (h:∀n,aD P J f (s n)):aD P J f fun args h K=>∃n,s n args h K:=by
 rintro B hJ r hp w args args' Q ⟨n,hs⟩ hR ha
 exact h n B hJ r hp w args args' Q hs hR ha
end Go.Abs

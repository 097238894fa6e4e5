/- Our own abstract machine, part 5: the evaluator of code, as a predicate transformer over abstract states. -/
import Derived.Test.YtldjlkbjbkielaaGreatDoorAbs4
set_option linter.unusedSimpArgs false
set_option linter.unusedVariables false
namespace Go.Abs
open Go

structure St where
  e : Nat → V
  h : AHeap

def St.put (s : St) (d : Option Tmp) (v : V) : St :=
  match d with
  | some d => { s with e := fun x => if x = d then v else s.e x }
  | none => s

def St.at (s : St) (h : AHeap) : St := { s with h := h }

/-- Is the operation carried out? (a guard has to be known) -/
def wantedA (ops : Array Oper) (o : Oper) (e : Nat → V) : Option Bool :=
  match o.guard with
  | none => some true
  | some (j, want) =>
    match (ops[j]?).bind (·.dst) with
    | some d => (match e d with | .bool b => some (b == want) | .chan none => some false | _ => none)
    | none => none

section
variable (P : Program) (I : FuncId → Option Spec)

/-- One operation of a region. -/
def evOp (ops : Array Oper) (i : Nat) (s : St) (K : St → Prop) : Prop :=
  match ops[i]? with
  | none => K s
  | some o =>
    match wantedA ops o s.e with
    | some true => aDo P I o.op s.e s.h fun v h => K ((s.put o.dst v).at h)
    | some false => K (s.put o.dst gone)
    | none => False

def evOps (ops : Array Oper) : List Nat → St → (St → Prop) → Prop
  | [], s, K => K s
  | i :: rest, s, K => evOp P I ops i s fun s => evOps ops rest s K

/-- In whatever order. -/
def evAny (ops : Array Oper) : Nat → Array Bool → St → (St → Prop) → Prop
  | 0, listed, s, K => Region.ready .any ops listed = [] ∧ K s
  | fuel + 1, listed, s, K =>
    (Region.ready .any ops listed = [] → K s) ∧
    ∀ i ∈ Region.ready .any ops listed, evOp P I ops i s fun s => evAny ops fuel (listed.setIfInBounds i true) s K

inductive Ex where
  | normal
  | exit (id : Nat)
  | ret

def Ex.exit' : Ex → Exit
  | .normal => .normal
  | .exit id => .exit id
  | .ret => .ret

def loopK (step : St → (Ex → St → Prop) → Prop) : Nat → St → (Ex → St → Prop) → Prop
  | 0, _, _ => False
  | n + 1, s, K => step s fun x s => match x with
    | .normal => loopK step n s K
    | x => K x s

def evC : Code → St → (Ex → St → Prop) → Prop
  | .skip, s, K => K .normal s
  | .region _ ops false, s, K => evOps P I ops (List.range ops.size) s fun s => K .normal s
  | .region _ ops true, s, K => evAny P I ops ops.size (Array.replicate ops.size false) s fun s => K .normal s
  | .seq a b, s, K => evC a s fun x s => match x with
    | .normal => evC b s K
    | x => K x s
  | .cond c a b, s, K => match aEv s.e c with
    | .bool true => evC a s K
    | .bool false => evC b s K
    | _ => False
  | .block id c, s, K => evC c s fun x s => match x with
    | .exit j => if j = id then K .normal s else K (.exit j) s
    | x => K x s
  | .loop c, s, K => ∃ n, loopK (evC c) n s K
  | .exit id, s, K => K (.exit id) s
  | .label _, s, K => K .normal s
  | .ret, s, K => K .ret s
  | .rangeFunc _ _ _ _, _, _ => False
  | .scope _, _, _ => False
  | .goto _, _, _ => False
  | .refuse _, _, _ => False

/-- What the result variables hold. -/
def evRes (h : AHeap) (e : Nat → V) : List ResultVar → Option (List V)
  | [] => some []
  | .tmp t :: r => (evRes h e r).map fun l => e t :: l
  | .cell a t :: r => (aLoad P t (e a) h).bind fun v => (evRes h e r).map fun l => v :: l

def resV : List V → V
  | [v] => v
  | l => .tuple l.toArray

def args0 (args : List V) : Nat → V := fun i => args.getD i junk

/-- A function: its body, then its results. -/
def evF (f : Func) (args : List V) (h : AHeap) (K : V → AHeap → Prop) : Prop :=
  match f.body with
  | none => False
  | some c => evC P I c ⟨args0 args, h⟩ fun x s =>
    match x with
    | .exit _ => False
    | _ =>
      match evRes P s.h s.e f.results.toList with
      | some l => K (resV l) s.h
      | none => False

end
end Go.Abs

/- Our own abstract machine, part 19: regions that draw their order: ONE order, with checks, serves all. -/
import Derived.Test.YthhegdifbnghpaaGreatDoorQaf
set_option linter.unusedSimpArgs false
set_option linter.unusedVariables false
namespace Go.Abs
open Go
def bC (c a b:V):Option V:=
 match c with
 | .bool true=>some a
 | .bool false=>some b
 | _=>none
@[simp] theorem aR (b:Bool) (x y:V):bC (.bool b) x y=some (if b then x else y):=by cases b<;>rfl
section
variable (P:Program) (I:FuncId→Option Spec)
def isQ:Op→Bool
 | .move _ | .assign _ | .build _ _ | .load _ _ | .nilCheck _ | .binOp .. | .unOp .. | .slice .. | .fieldAddr .. | .field .. | .indexAddr .. | .index .. | .lookup .. | .typeAssert .. | .extract ..=>true
 | .pick ..=>true
 | .makeFunc ..=>true
 | .convert s d _=>(match vE P s d with | .toBytes=>false | .mark=>false | _=>true)
 | .call { callee:=.builtin .len,.. } | .call { callee:=.builtin .min,.. } | .call { callee:=.builtin .max,.. }=>true
 | _=>false
def isP:Op→Bool
 | .move _ | .assign _ | .build _ _ | .nilCheck _ | .unOp .. | .fieldAddr .. | .field .. | .indexAddr .. | .index .. | .typeAssert .. | .extract ..=>true
 | .pick ..=>true
 | .makeFunc ..=>true
 | .convert s d _=>(match vE P s d with | .int _=>true | .str=>true | _=>false)
 | .binOp _ t _ _ _=>(match eqK P t with | .ptr _=>false | _=>true)
 | .call { callee:=.builtin .min,.. } | .call { callee:=.builtin .max,.. }=>true
 | .call { callee:=.builtin .len,argTypes,.. }=>(match vX P argTypes with | .map=>false | _=>true)
 | _=>false
def gG (o:Op) (e:Nat→V) (h:aA):Option V:=
 match o with
 | .move x=>some (aEv e x)
 | .assign x=>some (aEv e x)
 | .pick c a b=>bC (aEv e c) (aEv e a) (aEv e b)
 | .build t ps=>cA (aAg P t) (ps.toList.map fun p=>(p.1,aEv e p.2))
 | .load t a=>ldD (oG P t) (aEv e a) h
 | .nilCheck x=>aM (aEv e x)
 | .binOp op t x y _=>aC (eqK P t) op (jN x||jN y) (aEv e x) (aEv e y) h
 | .unOp op _ x=>aUn op (aEv e x)
 | .convert s d x=>(eQ (vE P s d) (aEv e x) h).map (·.1)
 | .makeFunc fn f c=>some (.func fn (f.map (aEv e)) (c.map (aEv e)))
 | .slice t x lo hi mx=>cK (slK P t) (aEv e x) (lo.map (aEv e)) (hi.map (aEv e)) (mx.map (aEv e)) h
 | .fieldAddr t x i=>aF (aBg P t i) (aEv e x)
 | .field t x i=>aF8 (aBf P t i) (aEv e x)
 | .indexAddr t x i=>aV (ixK P t) (aEv e x) (aEv e i)
 | .index t x i=>iQ (ixK P t) (aEv e x) (aEv e i)
 | .lookup t x i ok=>bW (pJ P t) (aEv e x) (aEv e i) ok h
 | .typeAssert x _ t ok=>qW (aAj P t) (aEv e x) t ok
 | .extract t i=>bJ (aEv e t) i
 | .call c=>
  match c.callee,fM e c.args with
  | .builtin .len,[x]=>bH (vX P c.argTypes) x h
  | .builtin .min,l=>gI false l
  | .builtin .max,l=>gI true l
  | _,_=>none
 | _=>none
variable {P I}
theorem aSo {k:zQ} (hk:(match k with | .toBytes=>false | .mark=>false | _=>true)=true) {x:V} {h:aA} (K:V→aA→Prop):kP (eQ k x h) K=kV ((eQ k x h).map (·.1)) h K:=by
 cases k with
 | toBytes=>cases hk
 | mark=>cases hk
 | int k=>simp only[eQ];cases x<;>simp
 | str=>simp only[eQ];cases x<;>simp
 | toStr=>simp only[eQ];cases (jB 1 x h).bind bytesOf<;>simp
 | bad=>simp[eQ]
theorem sH {o:Op} (hq:isQ P o=true) (e:Nat→V) (h:aA) (K:V→aA→Prop):doD P I o e h K=kV (gG P o e h) h K:=by
 cases o<;>simp only[isQ,Bool.false_eq_true]at hq<;>simp only[doD,gG]<;>try (first | rfl | exact (mC _ _ _).symm)
 case pick c a b=>
  generalize aEv e c=cv
  cases cv<;>try (simp[bC];done)
  rename_i t
  cases t<;>simp
 case convert s d x=>exact aSo hq K
 case call c=>
  obtain⟨callee,args,ats⟩:=c
  cases callee with
  | value f=>simp at hq
  | invoke r m=>simp at hq
  | builtin b=>
   cases b<;>simp at hq<;>simp only[lW]
   case len=>
    generalize fM e args=l
    match l with
    | []=>simp
    | [x]=>rfl
    | _::_::_=>simp
theorem aRf {k:EqK} (hk:∀p,k≠.ptr p) (op:BinOp) (c:Bool) (x y:V) (h h':aA):aC k op c x y h=aC k op c x y h':=by
 have:∀c x y,eqD k c x y h=eqD k c x y h':=by
  intro c x y
  unfold eqD
  split
  case h_4=>rename_i p a b;exact absurd rfl (hk _)
  all_goals rfl
 unfold aC
 simp only[this]
theorem aZj {o:Op} (hp:isP P o=true) (e:Nat→V) (h h':aA):gG P o e h=gG P o e h':=by
 cases o<;>simp only[isP,Bool.false_eq_true]at hp<;>simp only[gG]
 case convert s d x=>
  split at hp
  ·rename_i hk;rw[hk];simp only[eQ];cases aEv e x<;>rfl
  ·rename_i hk;rw[hk];simp only[eQ];cases aEv e x<;>rfl
  ·cases hp
 case binOp op t x y yt=>
  refine aRf (fun p hk=>?_) _ _ _ _ _ _
  rw[hk]at hp
  cases hp
 case call c=>
  obtain⟨callee,args,ats⟩:=c
  cases callee with
  | value f=>simp at hp
  | invoke r m=>simp at hp
  | builtin b=>
   cases b<;>simp at hp<;>try rfl
   case len=>
    generalize fM e args=l
    match l with
    | []=>rfl
    | [x]=>
     simp only
     unfold bH
     split at hp
     ·cases hp
     ·rename_i hk
      generalize vX P ats=k at hk
      cases k<;>first | (exact absurd rfl hk) | rfl | (cases x<;>rfl)
    | _::_::_=>rfl
theorem aH8 {o:Op} (hq:isQ P o=true) {e e':Nat→V} (h:∀x∈o.operands,aEv e x=aEv e' x) (hp:aA):gG P o e hp=gG P o e' hp:=by
 have h1:=aF3 (P:=P) (I:=fun _=>none) h hp (fun v _=>gG P o e hp=some v)
 rw[sH hq,sH hq]at h1
 have h2:=aF3 (P:=P) (I:=fun _=>none) h hp (fun v _=>gG P o e' hp=some v)
 rw[sH hq,sH hq]at h2
 cases ha:gG P o e hp with
 | some v=>
  rw[ha]at h1
  cases hb:gG P o e' hp with
  | some u=>
   rw[hb]at h1
   have:(kV (some v) hp fun x _=>some v=some x):=by simp
   rw[h1]at this
   simpa using this
  | none=>
   rw[hb]at h1
   have:(kV (some v) hp fun x _=>some v=some x):=by simp
   rw[h1]at this
   simp at this
 | none=>
  cases hb:gG P o e' hp with
  | none=>rfl
  | some u=>
   rw[ha,hb]at h2
   have:(kV (some u) hp fun x _=>some u=some x):=by simp
   rw[←h2]at this
   simp at this
end
/-! ### One order serves all -/
section
variable (P:Program) (I:FuncId→Option Spec)
def bef (B:Array Nat) (i w:Nat):Bool:=(B.getD i 0).testBit w
def chk (ops:Array Oper) (j:Nat) (e:Nat→V) (h:aA):Prop:=
 match ops[j]? with
 | some o=>
  match eN ops o e,o.dst with
  | some true,some d=>gG P o.op e h=some (e d)
  | some false,_=>True
  | _,_=>False
 | none=>False
def pD (ops:Array Oper) (e:Nat→V) (h:aA):List Nat→Prop→Prop
 | [],p=>p
 | j::l,p=>chk P ops j e h∧pD ops e h l p
inductive Tr where
 | done
 | q (i:Nat) (t:Tr)
 | c (i:Nat) (ws:List Nat) (t:Tr)
 | fork (a b:Tr)
def Tr.kZ:Tr→List Nat
 | .done=>[]
 | .q _ _=>[]
 | .c i _ _=>[i]
 | .fork a b=>a.kZ++b.kZ
def Tr.isC:Tr→Bool
 | .c ..=>true
 | .fork ..=>true
 | _=>false
def dQ (ops:Array Oper):Tr→St→(St→Prop)→Prop
 | .done,s,K=>K s
 | .q i t,s,K=>
  match ops[i]? with
  | none=>False
  | some o=>
   match eN ops o s.e with
   | some true=>doD P I o.op s.e s.h fun v h=>dQ ops t ((s.put o.dst v).at h) K
   | some false=>dQ ops t (s.put o.dst gone) K
   | none=>False
 | .c i ws t,s,K=>
  match ops[i]? with
  | none=>False
  | some o=>
   match eN ops o s.e with
   | some true=>doD P I o.op s.e s.h fun v h=>pD P ops s.e h ws (dQ ops t ((s.put o.dst v).at h) K)
   | some false=>dQ ops t (s.put o.dst gone) K
   | none=>False
 | .fork a b,s,K=>dQ ops a s K∧dQ ops b s K
def aF4 (o:Oper):List Nat:=(o.after.toList.filter fun e=>Region.binds .any e).map (·.on)
def aFk (ops:Array Oper) (B:Array Nat):Bool:=
 (List.range ops.size).all fun i=>match ops[i]? with
  | none=>false
  | some o=>
   ((aF4 o).all fun w=>bef B i w&&decide (w<ops.size)) &&
   ((List.range ops.size).all fun w=>!bef B i w||(decide (B.getD w 0<B.getD i 0)&&((aF4 o).any fun k=>k==w||bef B k w))) &&
   decide (B.getD i 0<2 ^ ops.size)
def aH3 (ops:Array Oper) (B:Array Nat):Bool:=
 (List.range ops.size).all fun w=>match ops[w]? with
  | none=>false
  | some ow=>match ow.dst with
   | none=>true
   | some d=>(List.range ops.size).all fun i=>match ops[i]? with
    | none=>false
    | some oi=>(i==w&&!(oi.looksAt ops).contains d)||(i != w&&oi.dst != some d&&(!(oi.looksAt ops).contains d||((bef B i w&&!bef B w i)||(bef B w i&&!bef B i w&&(isP P oi.op||!isQ P oi.op)))))
def sG (ops:Array Oper) (B:Array Nat) (m:Nat):Tr→Bool
 | .q ..=>true
 | t=>(List.range ops.size).all fun i=>m.testBit i||t.kZ.contains i||(B.getD i 0 &&& m) != B.getD i 0
def aEc (ops:Array Oper) (B:Array Nat) (m i:Nat) (quiet:Bool):Bool:=
 match ops[i]? with
 | none=>false
 | some o=>!m.testBit i&&(B.getD i 0 &&& m)==B.getD i 0&&isQ P o.op==quiet&&(!quiet||o.dst.isSome)
def aPk (ops:Array Oper) (B:Array Nat) (m i:Nat) (ws:List Nat):Bool:=
 (List.range ops.size).all fun j=>!m.testBit j||bef B i j||ws.contains j||(match ops[j]? with | some o=>isP P o.op||!isQ P o.op | none=>true)
def eW (ops:Array Oper) (B:Array Nat) (m:Nat):Tr→Bool
 | .done=>true
 | .q i t=>aEc P ops B m i true&&sG ops B (m ||| 2 ^ i) t&&eW ops B (m ||| 2 ^ i) t
 | .c i ws t=>aEc P ops B m i false&&aPk P ops B m i ws&&sG ops B (m ||| 2 ^ i) t&&eW ops B (m ||| 2 ^ i) t
 | .fork a b=>a.isC&&b.isC&&eW ops B m a&&eW ops B m b
def vF (ops:Array Oper) (B:Array Nat) (t:Tr):Bool:=
 aFk ops B&&aH3 P ops B&&sG ops B 0 t&&eW P ops B 0 t
end
end Go.Abs

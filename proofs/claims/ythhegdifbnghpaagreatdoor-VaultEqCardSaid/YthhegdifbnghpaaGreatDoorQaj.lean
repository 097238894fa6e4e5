/- Our own abstract machine, part 22: the walker: what has to hold of code, with places where values are forgotten (joins, loops). -/
import Derived.Test.YthhegdifbnghpaaGreatDoorQai
set_option linter.unusedSimpArgs false
set_option linter.unusedVariables false
namespace Go.Abs
open Go
def kv (x:Option V) (K:V→Prop):Prop:=
 match x with
 | some v=>K v
 | none=>False
def kw (x:Option V) (K:V→Prop):Prop:=
 match x with
 | some v=>K v
 | none=>False
@[simp] theorem aB (v:V) (K:V→Prop):kv (some v) K=K v:=propext (Iff.intro (fun h=>h) (fun h=>h))
@[simp] theorem aU7 (K:V→Prop):kv none K=False:=propext (Iff.intro (fun h=>h) (fun h=>h))
theorem aLr {x:Option V} {K:V→Prop} (h:kw x K):∃v,x=some v∧K v:=by
 cases x with
 | none=>exact h.elim
 | some v=>exact⟨v,rfl,h⟩
inductive ifV (c:V) (A B:Prop):Prop
 | yes (hc:c = .bool true) (a:A)
 | no (hc:c = .bool false) (b:B)
@[simp] theorem aG (b:Bool) (A B:Prop):ifV (.bool b) A B=if b then A else B:=by
 cases b
 ·exact propext (Iff.intro (fun h=>match h with | .yes hc _=>nomatch hc | .no _ b=>b) (fun h=>ifV.no rfl h))
 ·exact propext (Iff.intro (fun h=>match h with | .yes _ a=>a | .no hc _=>nomatch hc) (fun h=>ifV.yes rfl h))
def gdV (c:V) (want:Bool) (x:Option V):Option V:=
 match c with
 | .bool b=>if b==want then x else some gone
 | .chan none=>some gone
 | _=>none
inductive gdC (c:V) (want:Bool) (h:aA) (t:(V→aA→Prop)→Prop) (K:V→aA→Prop):Prop
 | intro (K0:V→aA→Prop) (h1:(match c with | .bool b=>(b=want∧t K0)∨(b≠want∧K0 gone h) | .chan none=>K0 gone h | _=>False)∧∀v h,K0 v h→K v h)
def mix (W:Nat) (e e0:Nat→V):Nat→V:=fun t=>if W.testBit t then e t else e0 t
inductive An where
 | leaf
 | draw (B:Array Nat) (t:Tr)
 | seq (a b:An)
 | cond (a b:An)
 | block (a:An)
 | loop (W:Nat) (L:List Nat) (a:An)
 | join (W:Nat) (L:List Nat) (a:An)
section
variable (P:Program) (I:FuncId→Option Spec)
noncomputable def gvT (ops:Array Oper) (o:Oper) (e:Nat→V) (h:aA):Option V:=
 match o.guard with
 | none=>gG P o.op e h
 | some (g,want)=>
  match (ops[g]?).bind (·.dst) with
  | some d=>gdV (e d) want (gG P o.op e h)
  | none=>none
def xT (ops:Array Oper) (e:Nat→V) (h:aA):List Nat→Prop→Prop
 | [],p=>p
 | j::l,p=>
  match ops[j]? with
  | some o=>
   match o.dst with
   | some d=>gvT P ops o e h=some (e d)∧xT ops e h l p
   | none=>False
  | none=>False
def stepT (ops:Array Oper) (ws:List Nat) (o:Oper) (s:St) (K:St→Prop):Prop:=
 if isQ P o.op then kw (gvT P ops o s.e s.h) fun v=>K (s.put o.dst v)
 else
  match o.guard with
  | none=>doD P I o.op s.e s.h fun v h=>xT P ops s.e h ws (K ((s.put o.dst v).at h))
  | some (g,want)=>
   match (ops[g]?).bind (·.dst) with
   | some d=>gdC (s.e d) want s.h (fun K0=>doD P I o.op s.e s.h fun v h=>xT P ops s.e h ws (K0 v h)) fun v h=>K ((s.put o.dst v).at h)
   | none=>False
def aC2 (ops:Array Oper):List Oper→St→(St→Prop)→Prop
 | [],s,K=>K s
 | o::rest,s,K=>stepT P I ops [] o s fun s=>aC2 ops rest s K
def tB (ops:Array Oper):Tr→St→(St→Prop)→Prop
 | .done,s,K=>K s
 | .q i t,s,K=>match ops[i]? with | some o=>stepT P I ops [] o s fun s=>tB ops t s K | none=>False
 | .c i ws t,s,K=>match ops[i]? with | some o=>stepT P I ops ws o s fun s=>tB ops t s K | none=>False
 | .fork a b,s,K=>tB ops a s K∧tB ops b s K
def qD:An→Code→St→(Ex→St→Prop)→Prop
 | .leaf,c,s,K=>(match c with
  | .skip=>K .normal s
  | .region _ ops false=>aC2 P I ops ops.toList s fun s=>K .normal s
  | .exit id=>K (.exit id) s
  | .label _=>K .normal s
  | .ret=>K .ret s
  | _=>False)
 | .draw _ t,c,s,K=>(match c with
  | .region _ ops true=>tB P I ops t s fun s=>K .normal s
  | _=>False)
 | .seq a b,c,s,K=>(match c with
  | .seq c d=>qD a c s fun x s=>match x with
   | .normal=>qD b d s K
   | x=>K x s
  | _=>False)
 | .cond a b,c,s,K=>(match c with
  | .cond x c d=>ifV (aEv s.e x) (qD a c s K) (qD b d s K)
  | _=>False)
 | .block a,c,s,K=>(match c with
  | .block id c=>qD a c s fun x s=>match x with
   | .exit j=>if j=id then K .normal s else K (.exit j) s
   | x=>K x s
  | _=>False)
 | .loop W L a,c,s,K=>(match c with
  | .loop c=>∃(Inv:Nat→List V→aA→Prop) (n:Nat),Inv n (L.map s.e) s.h ∧
   ∀n e h,Inv n (L.map e) h→qD a c ⟨mix W e s.e,h⟩ fun x s=>match x with
    | .normal=>∃m,m<n∧Inv m (L.map s.e) s.h
    | x=>K x s
  | _=>False)
 | .join W L a,c,s,K=>∃K0:List V→aA→Prop,(qD a c s fun x s=>match x with
  | .normal=>K0 (L.map s.e) s.h
  | x=>K x s)∧∀e h,K0 (L.map e) h→K .normal ⟨mix W e s.e,h⟩
def aDm (h:aA) (e:Nat→V):List ResultVar→(List V→Prop)→Prop
 | [],k=>k []
 | .tmp t::r,k=>aDm h e r fun l=>k (e t::l)
 | .cell a t::r,k=>kw (ldD (oG P t) (e a) h) fun v=>aDm h e r fun l=>k (v::l)
def aGg (a:An) (f:Func) (args:List V) (h:aA) (K:V→aA→Prop):Prop:=
 match f.body with
 | none=>False
 | some c=>qD P I a c ⟨tD args,h⟩ fun x s=>
  match x with
  | .exit _=>False
  | _=>aDm P s.h s.e f.results.toList fun l=>K (mX l) s.h
def jH (W:Nat):Code→Bool
 | .region _ ops _=>ops.all fun o=>match o.dst with | some d=>W.testBit d | none=>true
 | .seq a b=>jH W a&&jH W b
 | .cond _ a b=>jH W a&&jH W b
 | .block _ c=>jH W c
 | .loop c=>jH W c
 | .rangeFunc _ _ _ _=>false
 | .scope _=>false
 | _=>true
def eA:An→Code→Bool
 | .leaf,_=>true
 | .draw B t,c=>(match c with
  | .region _ ops true=>vF P ops B t
  | _=>false)
 | .seq a b,c=>(match c with
  | .seq c d=>eA a c&&eA b d
  | _=>false)
 | .cond a b,c=>(match c with
  | .cond _ c d=>eA a c&&eA b d
  | _=>false)
 | .block a,c=>(match c with
  | .block _ c=>eA a c
  | _=>false)
 | .loop W _ a,c=>(match c with
  | .loop c=>jH W c&&eA a c
  | _=>false)
 | .join W _ a,c=>jH W c&&eA a c
end
/-! ### It suffices -/
section
variable {P:Program} {I:FuncId→Option Spec}
theorem aCn (hM:aJ I) {ops:Array Oper} {i:Nat} {s:St} {K K':St→Prop} (hk:∀s,K s→K' s) (h:opD P I ops i s K):opD P I ops i s K':=by
 unfold opD at h ⊢
 cases ho:ops[i]? with
 | none=>rw[ho]at h;exact hk _ h
 | some o=>
  rw[ho]at h
  simp only at h ⊢
  cases hw:eN ops o s.e with
  | none=>rw[hw]at h;exact h
  | some b=>
   rw[hw]at h
   cases b with
   | true=>exact lZ hM (fun v h=>hk _) h
   | false=>exact hk _ h
theorem aNc (hM:aJ I) {ops:Array Oper} {W:Nat} (hW:∀o∈ops,∀d,o.dst=some d→W.testBit d=true) {i:Nat} {s:St} {K:St→Prop} (h:opD P I ops i s K) :
 opD P I ops i s fun s'=>K s'∧∀t,W.testBit t=false→s'.e t=s.e t:=by
 have put:∀o∈ops,∀v t,W.testBit t=false→(s.put o.dst v).e t=s.e t:=by
  intro o ho v t ht
  refine uC fun hd=>?_
  rw[hW o ho t hd]at ht
  cases ht
 unfold opD at h ⊢
 cases ho:ops[i]? with
 | none=>rw[ho]at h;exact⟨h,fun _ _=>rfl⟩
 | some o=>
  have hmem:o∈ops:=by
   obtain⟨hi,rfl⟩:=Array.getElem?_eq_some_iff.1 ho
   exact Array.getElem_mem hi
  rw[ho]at h
  simp only at h ⊢
  cases hw:eN ops o s.e with
  | none=>rw[hw]at h;exact h
  | some b=>
   rw[hw]at h
   cases b with
   | true=>exact lZ hM (fun v h' hh=>⟨hh,fun t ht=>put o hmem v t ht⟩) h
   | false=>exact⟨h,fun t ht=>put o hmem _ t ht⟩
theorem aC1 (hM:aJ I) {ops:Array Oper}:∀{l:List Nat} {s:St} {K K':St→Prop},(∀s,K s→K' s)→lF P I ops l s K→lF P I ops l s K'
 | [],_,_,_,hk,h=>hk _ h
 | _::_,_,_,_,hk,h=>aCn hM (fun _ h=>aC1 hM hk h) h
theorem aNg (hM:aJ I) {ops:Array Oper} {W:Nat} (hW:∀o∈ops,∀d,o.dst=some d→W.testBit d=true):∀{l:List Nat} {s:St} {K:St→Prop},lF P I ops l s K →
 lF P I ops l s fun s'=>K s'∧∀t,W.testBit t=false→s'.e t=s.e t
 | [],_,_,h=>⟨h,fun _ _=>rfl⟩
 | _::_,_,_,h=>aCn hM (fun _ ⟨h,h2⟩=>aC1 hM (fun _ ⟨a,b⟩=>⟨a,fun t ht=>(b t ht).trans (h2 t ht)⟩) (aNg hM hW h)) (aNc hM hW h)
theorem aFe (hM:aJ I) {ops:Array Oper}:∀{n:Nat} {L:Array Bool} {s:St} {K K':St→Prop},(∀s,K s→K' s)→pX P I ops n L s K→pX P I ops n L s K'
 | 0,_,_,_,_,hk,h=>⟨h.1,hk _ h.2⟩
 | _+1,_,_,_,_,hk,h=>⟨fun hr=>hk _ (h.1 hr),fun i hi=>aCn hM (fun _ h=>aFe hM hk h) (h.2 i hi)⟩
theorem aJb (hM:aJ I) {ops:Array Oper} {W:Nat} (hW:∀o∈ops,∀d,o.dst=some d→W.testBit d=true):∀{n:Nat} {L:Array Bool} {s:St} {K:St→Prop},pX P I ops n L s K →
 pX P I ops n L s fun s'=>K s'∧∀t,W.testBit t=false→s'.e t=s.e t
 | 0,_,_,_,h=>⟨h.1,h.2,fun _ _=>rfl⟩
 | _+1,_,_,_,h=>⟨fun hr=>⟨h.1 hr,fun _ _=>rfl⟩,fun i hi=>aCn hM (fun _ ⟨h,h2⟩=>aFe hM (fun _ ⟨a,b⟩=>⟨a,fun t ht=>(b t ht).trans (h2 t ht)⟩) (aJb hM hW h)) (aNc hM hW (h.2 i hi))⟩
theorem aB1 {step:St→(Ex→St→Prop)→Prop} (hs:∀s K K',(∀x s,K x s→K' x s)→step s K→step s K'):∀{n:Nat} {s:St} {K K':Ex→St→Prop},(∀x s,K x s→K' x s)→pI step n s K→pI step n s K'
 | 0,_,_,_,_,h=>h
 | _+1,_,_,_,hk,h=>hs _ _ _ (fun x s hh=>by cases x<;>first | exact aB1 hs hk hh | exact hk _ _ hh) h
theorem iO (hM:aJ I):∀(c:Code) {s:St} {K K':Ex→St→Prop},(∀x s,K x s→K' x s)→cS P I c s K→cS P I c s K':=by
 intro c
 induction c with
 | skip=>intro s K K' hk h;exact hk _ _ h
 | region id ops draw=>
  intro s K K' hk h
  cases draw with
  | false=>exact aC1 hM (fun s h=>hk _ s h) h
  | true=>exact aFe hM (fun s h=>hk _ s h) h
 | seq a b iha ihb=>
  intro s K K' hk h
  refine iha (fun x s hh=>?_) h
  cases x with
  | normal=>exact ihb hk hh
  | exit j=>exact hk _ _ hh
  | ret=>exact hk _ _ hh
 | cond c a b iha ihb=>
  intro s K K' hk h
  simp only[cS]at h ⊢
  split at h
  ·exact iha hk h
  ·exact ihb hk h
  ·exact h
 | block id c ih=>
  intro s K K' hk h
  refine ih (fun x s hh=>?_) h
  cases x with
  | normal=>exact hk _ _ hh
  | exit j=>
   simp only at hh ⊢
   split at hh
   ·rename_i hj;rw[if_pos hj];exact hk _ _ hh
   ·rename_i hj;rw[if_neg hj];exact hk _ _ hh
  | ret=>exact hk _ _ hh
 | loop c ih=>intro s K K' hk h;obtain⟨n,h⟩:=h;exact⟨n,aB1 (step:=cS P I c) (fun s K K' hk h=>ih hk h) hk h⟩
 | exit id=>intro s K K' hk h;exact hk _ _ h
 | label id=>intro s K K' hk h;exact hk _ _ h
 | ret=>intro s K K' hk h;exact hk _ _ h
 | _=>intro s K K' hk h;exact h
theorem aJt (hM:aJ I) {W:Nat}:∀(c:Code) {s:St} {K:Ex→St→Prop},jH W c=true→cS P I c s K →
 cS P I c s fun x s'=>K x s'∧∀t,W.testBit t=false→s'.e t=s.e t:=by
 have ofOps:∀ops:Array Oper,(ops.all fun o=>match o.dst with | some d=>W.testBit d | none=>true)=true→∀o∈ops,∀d,o.dst=some d→W.testBit d=true:=by
  intro ops h o ho d hd
  obtain⟨i,hi,rfl⟩:=Array.getElem_of_mem ho
  have:=Array.all_eq_true.1 h i hi
  simpa[hd]using this
 intro c
 induction c with
 | skip=>intro s K hw h;exact⟨h,fun _ _=>rfl⟩
 | region id ops draw=>
  intro s K hw h
  cases draw with
  | false=>exact aNg hM (ofOps ops hw) h
  | true=>exact aJb hM (ofOps ops hw) h
 | seq a b iha ihb=>
  intro s K hw h
  simp only[jH,Bool.and_eq_true]at hw
  refine iO hM a (fun x s' hh=>?_) (iha hw.1 h)
  obtain⟨hh,h2⟩:=hh
  cases x with
  | normal=>exact iO hM b (fun x s'' ⟨a,b⟩=>⟨a,fun t ht=>(b t ht).trans (h2 t ht)⟩) (ihb hw.2 hh)
  | exit j=>exact⟨hh,h2⟩
  | ret=>exact⟨hh,h2⟩
 | cond c a b iha ihb=>
  intro s K hw h
  simp only[jH,Bool.and_eq_true]at hw
  simp only[cS]at h ⊢
  split at h
  ·exact iha hw.1 h
  ·exact ihb hw.2 h
  ·exact h
 | block id c ih=>
  intro s K hw h
  refine iO hM c (fun x s' hh=>?_) (ih hw h)
  obtain⟨hh,h2⟩:=hh
  cases x with
  | normal=>exact⟨hh,h2⟩
  | exit j=>
   simp only at hh ⊢
   split at hh
   ·rename_i hj;rw[if_pos hj];exact⟨hh,h2⟩
   ·rename_i hj;rw[if_neg hj];exact⟨hh,h2⟩
  | ret=>exact⟨hh,h2⟩
 | loop c ih=>
  intro s K hw h
  obtain⟨n,h⟩:=h
  refine⟨n,?_⟩
  have hw:jH W c=true:=hw
  induction n generalizing s with
  | zero=>exact h
  | succ n ihn=>
   refine iO hM c (fun x s' hh=>?_) (ih hw h)
   obtain⟨hh,h2⟩:=hh
   cases x with
   | normal=>exact aB1 (step:=cS P I c) (fun s K K' hk h=>iO hM c hk h) (fun x s'' ⟨a,b⟩=>⟨a,fun t ht=>(b t ht).trans (h2 t ht)⟩) (ihn hh)
   | exit j=>exact⟨hh,h2⟩
   | ret=>exact⟨hh,h2⟩
 | exit id=>intro s K hw h;exact⟨h,fun _ _=>rfl⟩
 | label id=>intro s K hw h;exact⟨h,fun _ _=>rfl⟩
 | ret=>intro s K hw h;exact⟨h,fun _ _=>rfl⟩
 | _=>intro s K hw h;exact h.elim
theorem aFp {ops:Array Oper} {e:Nat→V} {h:aA} {p:Prop}:∀{l:List Nat},xT P ops e h l p→pD P ops e h l p
 | [],hp=>hp
 | j::l,hp=>by
  simp only[xT]at hp
  simp only[pD]
  cases ho:ops[j]? with
  | none=>simp only[ho]at hp
  | some o=>
   simp only[ho]at hp
   cases hd:o.dst with
   | none=>simp only[hd]at hp
   | some d=>
    simp only[hd]at hp
    refine⟨?_,aFp hp.2⟩
    have h1:=hp.1
    unfold gvT at h1
    simp only[chk,ho,eN]
    cases hg:o.guard with
    | none=>simp only[hg,hd]at h1 ⊢;exact h1
    | some gw=>
     obtain⟨g,want⟩:=gw
     simp only[hg]at h1 ⊢
     cases hgd:(ops[g]?).bind (·.dst) with
     | none=>simp only[hgd]at h1;cases h1
     | some dd=>
      simp only[hgd]at h1 ⊢
      unfold gdV at h1
      generalize e dd=c at h1
      cases c<;>try (cases h1;done)
      case chan q=>
       cases q with
       | none=>trivial
       | some q=>cases h1
      rename_i b
      simp only at h1 ⊢
      cases hb:(b==want) with
      | true=>simp only[hb,if_true,hd]at h1 ⊢;exact h1
      | false=>trivial
def opC (P:Program) (I:FuncId→Option Spec) (ops:Array Oper) (ws:List Nat) (o:Oper) (s:St) (K:St→Prop):Prop:=
 match eN ops o s.e with
 | some true=>doD P I o.op s.e s.h fun v h=>pD P ops s.e h ws (K ((s.put o.dst v).at h))
 | some false=>K (s.put o.dst gone)
 | none=>False
theorem aAh {ops:Array Oper} {e:Nat→V} {h:aA} {p q:Prop} (hpq:p→q):∀{l:List Nat},pD P ops e h l p→pD P ops e h l q
 | [],hp=>hpq hp
 | _::_,hp=>⟨hp.1,aAh hpq hp.2⟩
theorem aH0 (hM:aJ I) {ops:Array Oper} {ws:List Nat} {o:Oper} (hws:isQ P o.op=true→ws=[]) {s:St} {K:St→Prop} (h:stepT P I ops ws o s K):opC P I ops ws o s K:=by
 unfold stepT at h
 unfold opC eN
 by_cases hq:isQ P o.op=true
 ·rw[if_pos hq]at h
  rw[hws hq]
  obtain⟨v,hv,h⟩:=aLr h
  unfold gvT at hv
  cases hg:o.guard with
  | none=>
   simp only[hg]at hv ⊢
   rw[sH hq,hv]
   simp only[mC,pD]
   obtain⟨e,hh⟩:=s
   rw[uB,←uD]
   exact h
  | some gw=>
   obtain⟨g,want⟩:=gw
   simp only[hg]at hv ⊢
   cases hd:(ops[g]?).bind (·.dst) with
   | none=>simp only[hd]at hv;cases hv
   | some d=>
    simp only[hd]at hv ⊢
    unfold gdV at hv
    generalize s.e d=c at hv
    cases c<;>try (cases hv;done)
    case chan q=>
     cases q with
     | none=>
      simp only[Option.some.injEq]at hv ⊢
      rw[hv]
      exact h
     | some q=>cases hv
    rename_i b
    simp only at hv ⊢
    cases hb:(b==want) with
    | true=>
     simp only[hb,if_true]at hv ⊢
     rw[sH hq,hv]
     simp only[mC,pD]
     obtain⟨e,hh⟩:=s
     rw[uB,←uD]
     exact h
    | false=>
     simp only[hb,Bool.false_eq_true,if_false,Option.some.injEq]at hv ⊢
     rw[hv]
     exact h
 ·rw[if_neg hq]at h
  cases hg:o.guard with
  | none=>
   simp only[hg]at h ⊢
   exact lZ hM (fun v h hh=>aFp hh) h
  | some gw=>
   obtain⟨g,want⟩:=gw
   simp only[hg]at h ⊢
   cases hd:(ops[g]?).bind (·.dst) with
   | none=>simp only[hd]at h
   | some d=>
    simp only[hd]at h ⊢
    obtain⟨K0,h1,h2⟩:=h
    generalize s.e d=c at h1
    cases c<;>try exact h1
    case chan q=>
     cases q with
     | none=>
      obtain⟨e,hh⟩:=s
      have:=h2 _ _ h1
      simp only at this ⊢
      rw[uB,←uD]at this
      exact this
     | some q=>exact h1
    rename_i b
    simp only at h1 ⊢
    rcases h1 with ⟨rfl,h1⟩ | ⟨hb,h1⟩
    ·simp only[beq_self_eq_true]
     exact lZ hM (fun v h hh=>aAh (h2 v h) (aFp hh)) h1
    ·have:(b==want)=false:=by simpa using hb
     simp only[this]
     obtain⟨e,hh⟩:=s
     have:=h2 _ _ h1
     simp only at this
     rw[uB,←uD]at this
     exact this
theorem uN (hM:aJ I) {ops:Array Oper} {B:Array Nat}:∀(t:Tr) (m:Nat) {s:St} {K:St→Prop},eW P ops B m t=true→tB P I ops t s K→dQ P I ops t s K
 | .done,_,_,_,_,h=>h
 | .q i t,m,s,K,ht,h=>by
  simp only[eW,Bool.and_eq_true]at ht
  simp only[tB]at h
  simp only[dQ]
  cases ho:ops[i]? with
  | none=>simp only[ho]at h
  | some o=>
   simp only[ho]at h ⊢
   have:=aH0 hM (fun _=>rfl) h
   unfold opC at this
   split at this
   ·rename_i hw;simp only[hw];exact lZ hM (fun v h hh=>uN hM t _ ht.2 hh) this
   ·rename_i hw;simp only[hw];exact uN hM t _ ht.2 this
   ·exact this.elim
 | .c i ws t,m,s,K,ht,h=>by
  simp only[eW,Bool.and_eq_true]at ht
  obtain⟨⟨⟨h1,_⟩,_⟩,h2⟩:=ht
  obtain⟨o',ho',_,_,hq,_⟩:=aEd h1
  simp only[tB]at h
  simp only[dQ]
  cases ho:ops[i]? with
  | none=>simp only[ho]at h
  | some o=>
   rw[ho']at ho
   cases ho
   simp only[ho']at h
   simp only
   have:=aH0 hM (fun hh=>by rw[hq]at hh;cases hh) h
   unfold opC at this
   split at this
   ·rename_i hw;simp only[hw];exact lZ hM (fun v h hh=>aAh (fun hh=>uN hM t _ h2 hh) hh) this
   ·rename_i hw;simp only[hw];exact uN hM t _ h2 this
   ·exact this.elim
 | .fork a b,m,s,K,ht,h=>by
  simp only[eW,Bool.and_eq_true]at ht
  exact⟨uN hM a m ht.1.2 h.1,uN hM b m ht.2 h.2⟩
theorem aNi (hM:aJ I) {ops:Array Oper}:∀(l l0:List Oper) {s:St} {K:St→Prop},ops.toList=l0++l→aC2 P I ops l s K→lF P I ops (List.range' l0.length l.length) s K
 | [],_,_,_,_,h=>h
 | o::l,l0,s,K,he,h=>by
  simp only[List.length_cons,List.range'_succ,lF]
  have ho:ops[l0.length]? = some o:=by
   rw[←Array.getElem?_toList,he]
   simp
  unfold opD
  simp only[ho]
  have:=aH0 hM (fun _=>rfl) h
  have next:∀s,aC2 P I ops l s K→lF P I ops (List.range' (l0.length+1) l.length) s K:=fun s hh=>by
   have:=aNi hM l (l0++[o]) (by rw[he];simp) hh
   simpa using this
  unfold opC at this
  split at this
  ·rename_i hw;simp only[hw];exact lZ hM (fun v h hh=>next _ hh) this
  ·rename_i hw;simp only[hw];exact next _ this
  ·exact this.elim
theorem aMn {W:Nat} {e e0:Nat→V} (h:∀t,W.testBit t=false→e t=e0 t):mix W e e0=e:=by
 funext t
 unfold mix
 split
 ·rfl
 ·rename_i ht;exact (h t (by simpa using ht)).symm
theorem rW (hM:aJ I):∀(a:An) (c:Code) {s:St} {K:Ex→St→Prop},eA P a c=true→qD P I a c s K→cS P I c s K
 | .leaf,c,s,K,ha,h=>by
  cases c with
  | region id ops draw=>
   cases draw with
   | false=>
    have:=aNi hM ops.toList [] (by simp) h
    simp only[cS]
    simpa[List.range_eq_range']using this
   | true=>exact h.elim
  | _=>first | exact h | exact h.elim
 | .draw B t,c,s,K,ha,h=>by
  cases c with
  | region id ops draw=>
   cases draw with
   | false=>exact h.elim
   | true=>
    have ha:vF P ops B t=true:=ha
    exact aNa hM ha (uN hM t 0 (aJ2 ha).2.2 h)
  | _=>exact h.elim
 | .seq a b,c,s,K,ha,h=>by
  cases c with
  | seq c d=>
   have ha:(eA P a c&&eA P b d)=true:=ha
   simp only[Bool.and_eq_true]at ha
   refine iO hM c (fun x s' hh=>?_) (rW hM a c ha.1 h)
   cases x with
   | normal=>exact rW hM b d ha.2 hh
   | exit j=>exact hh
   | ret=>exact hh
  | _=>exact h.elim
 | .cond a b,c,s,K,ha,h=>by
  cases c with
  | cond x c d=>
   have ha:(eA P a c&&eA P b d)=true:=ha
   simp only[Bool.and_eq_true]at ha
   simp only[qD]at h
   simp only[cS]
   cases h with
   | yes hx h=>simp only[hx];exact rW hM a c ha.1 h
   | no hx h=>simp only[hx];exact rW hM b d ha.2 h
  | _=>exact h.elim
 | .block a,c,s,K,ha,h=>by
  cases c with
  | block id c=>exact rW hM a c ha h
  | _=>exact h.elim
 | .loop W L a,c,s,K,ha,h=>by
  cases c with
  | loop c=>
   have ha:(jH W c&&eA P a c)=true:=ha
   simp only[Bool.and_eq_true]at ha
   obtain⟨Inv,n,h0,h1⟩:=h
   have:∀n s',(∀t,W.testBit t=false→s'.e t=s.e t)→Inv n (L.map s'.e) s'.h→pI (cS P I c) (n+1) s' K:=by
    intro n
    induction n using Nat.strongRecOn with
    | ind n ih=>
     intro s' hs hi
     have h2:=rW hM a c ha.2 (h1 n s'.e s'.h hi)
     rw[aMn hs]at h2
     refine iO hM c (fun x s'' hh=>?_) (aJt hM c ha.1 h2)
     obtain⟨hh,hf⟩:=hh
     cases x with
     | normal=>
      obtain⟨m,hm,hi2⟩:=hh
      have h3:=ih m hm s'' (fun t ht=>(hf t ht).trans (hs t ht)) hi2
      obtain⟨d,rfl⟩:∃d,n=(m+1)+d:=⟨n - (m+1),by omega⟩
      clear hi ih h2 hm
      show pI (cS P I c) (m+1+d) s'' K
      have more:∀d k s,pI (cS P I c) k s K→pI (cS P I c) (k+d) s K:=by
       intro d k
       induction k with
       | zero=>intro s hh;exact hh.elim
       | succ k ihk=>
        intro s hh
        rw[Nat.add_right_comm]
        refine iO hM c (fun x s hx=>?_) hh
        cases x with
        | normal=>exact ihk _ hx
        | exit j=>exact hx
        | ret=>exact hx
      exact more d (m+1) s'' h3
     | exit j=>exact hh
     | ret=>exact hh
   exact⟨n+1,this n s (fun _ _=>rfl) h0⟩
  | _=>exact h.elim
 | .join W L a,c,s,K,ha,h=>by
  have ha:(jH W c&&eA P a c)=true:=ha
  simp only[Bool.and_eq_true]at ha
  obtain⟨K0,h0,h1⟩:=h
  refine iO hM c (fun x s' hh=>?_) (aJt hM c ha.1 (rW hM a c ha.2 h0))
  obtain⟨hh,hf⟩:=hh
  cases x with
  | normal=>
   have:=h1 s'.e s'.h hh
   rw[aMn hf]at this
   exact this
  | exit j=>exact hh
  | ret=>exact hh
theorem aDn {h:aA} {e:Nat→V}:∀{l:List ResultVar} {k:List V→Prop},aDm P h e l k→∃vs,oT P h e l=some vs∧k vs
 | [],_,hk=>⟨[],rfl,hk⟩
 | .tmp t::r,k,hk=>by
  obtain⟨vs,h1,h2⟩:=aDn (l:=r) hk
  exact⟨e t::vs,by simp[oT,h1],h2⟩
 | .cell a t::r,k,hk=>by
  obtain⟨v,hv,hk⟩:=aLr hk
  obtain⟨vs,h1,h2⟩:=aDn (l:=r) hk
  exact⟨v::vs,by simp[oT,hv,h1],h2⟩
theorem aT1 (hM:aJ I) {a:An} {f:Func} {c:Code} (hb:f.body=some c) (ha:eA P a c=true) {args:List V} {h:aA} {K:V→aA→Prop} (hf:aGg P I a f args h K):tL P I f args h K:=by
 unfold aGg at hf
 unfold tL
 simp only[hb]at hf ⊢
 refine iO hM c (fun x s hh=>?_) (rW hM a c ha hf)
 cases x with
 | exit j=>exact hh
 | normal=>obtain⟨vs,h1,h2⟩:=aDn hh;simp only[h1];exact h2
 | ret=>obtain⟨vs,h1,h2⟩:=aDn hh;simp only[h1];exact h2
end
theorem aD.aT {P:Program} {J:World→Prop} {I:FuncId→Option Spec} (hI:aO P J I) (hM:aJ I) (hm:P.follows .mixedOrders=true) {f:FuncId} {fn:Func} {c:Code} (a:An)
 (hf:P.funcs[f]? = some fn) (hb:fn.body=some c) (hok:codeOk fn.ntmps c=true) (ha:eA P a c=true)
 (hcall:∀(args:Array V) (w:World),(callFunc f args).run P w = .ok (.enter f args) w) {s:Spec}
 (hs:∀args h K,s args h K→args.length≤fn.ntmps∧aGg P I a fn args h K):aD P J f s:=
 (aD.aM6 hI hm hf hb hok hcall).tZ fun args h K hh=>⟨(hs args h K hh).1,aT1 hM hb ha (hs args h K hh).2⟩
end Go.Abs

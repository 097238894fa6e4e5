/- Closed code is run: all that a call may end in, each end once; it speaks truly. -/
import Derived.Test.YthhegdifbnghpaaGreatDoorQan
import Derived.Test.YthhegdifbnghpaaGreatDoorQak
set_option linter.unusedSimpArgs false
set_option linter.unusedVariables false
namespace Go.Abs
open Go
/-! ### Ends that are seen to be the same -/
def eqF:V→V→Bool
 | .func (.func g) f c,.func (.func g') f' c'=>Nat.beq g g'&&eqL f.toList f'.toList&&eqL c.toList c'.toList
 | .iface t v,.iface t' v'=>decide (t=t')&&eq0 v v'
 | a,b=>eqA a b
theorem aAw {a b:V} (h:eqF a b=true):a=b:=by
 unfold eqF at h
 split at h
 ·simp only[Bool.and_eq_true]at h
  rw[Nat.eq_of_beq_eq_true h.1.1,Array.ext' (yE h.1.2),Array.ext' (yE h.2)]
 ·simp only[Bool.and_eq_true,decide_eq_true_eq]at h
  rw[h.1,yD h.2]
 ·exact aJ4 h
def tI:List V→List V→Bool
 | [],[]=>true
 | a::l,b::m=>eqF a b&&tI l m
 | _,_=>false
theorem aF5:∀{a b:List V},tI a b=true→a=b
 | [],[],_=>rfl
 | a::l,b::m,h=>by
  simp only[tI,Bool.and_eq_true]at h
  rw[aAw h.1,aF5 h.2]
 | [],_::_,h=>by simp[tI]at h
 | _::_,[],h=>by simp[tI]at h
def eqT:V→V→Bool
 | .tuple a,.tuple b=>tI a.toList b.toList
 | a,b=>eqF a b
theorem aTe {a b:V} (h:eqT a b=true):a=b:=by
 unfold eqT at h
 split at h
 ·congr 1;exact Array.ext' (aF5 h)
 ·exact aAw h
def vG:List MapEntry→List MapEntry→Bool
 | [],[]=>true
 | a::l,b::m=>eqF a.key b.key&&eqF a.val b.val&&Nat.beq a.born b.born&&vG l m
 | _,_=>false
theorem aJ6:∀{a b:List MapEntry},vG a b=true→a=b
 | [],[],_=>rfl
 | ⟨k,v,n⟩::l,⟨k',v',n'⟩::m,h=>by
  simp only[vG,Bool.and_eq_true]at h
  rw[aJ6 h.2,aAw h.1.1.1,aAw h.1.1.2,Nat.eq_of_beq_eq_true h.1.2]
 | [],_::_,h=>by simp[vG]at h
 | _::_,[],h=>by simp[vG]at h
def aJ5:BK→BK→Bool
 | .ro,.ro=>true
 | .rw,.rw=>true
 | .str,.str=>true
 | .rs,.rs=>true
 | _,_=>false
theorem aTb {a b:BK} (h:aJ5 a b=true):a=b:=by cases a<;>cases b<;>first | rfl | cases h
def aF6:Option cH→Option cH→Bool
 | none,none=>true
 | some (.cells c e k),some (.cells c' e' k')=>tI c c'&&Nat.beq e e'&&aJ5 k k'
 | some (.map es n),some (.map es' n')=>vG es es'&&Nat.beq n n'
 | _,_=>false
theorem aTd {a b:Option cH} (h:aF6 a b=true):a=b:=by
 unfold aF6 at h
 split at h
 ·rfl
 ·simp only[Bool.and_eq_true]at h
  rw[aF5 h.1.1,Nat.eq_of_beq_eq_true h.1.2,aTb h.2]
 ·simp only[Bool.and_eq_true]at h
  rw[aJ6 h.1,Nat.eq_of_beq_eq_true h.2]
 ·cases h
def vH:kR→kR→Bool
 | [],[]=>true
 | (k,o)::l,(k',o')::m=>Nat.beq k k'&&aF6 o o'&&vH l m
 | _,_=>false
theorem aJ7:∀{a b:kR},vH a b=true→a=b
 | [],[],_=>rfl
 | (k,o)::l,(k',o')::m,h=>by
  simp only[vH,Bool.and_eq_true]at h
  rw[aJ7 h.2,Nat.eq_of_beq_eq_true h.1.1,aTd h.1.2]
 | [],_::_,h=>by simp[vH]at h
 | _::_,[],h=>by simp[vH]at h
def aAx (a b:Nd):Bool:=eqT a.1 b.1&&Nat.beq a.2.2 b.2.2&&vH a.2.1 b.2.1
theorem aTc {a b:Nd} (h:aAx a b=true):a=b:=by
 obtain⟨v,D,n⟩:=a
 obtain⟨v',D',n'⟩:=b
 simp only[aAx,Bool.and_eq_true]at h
 rw[aTe h.1.1,Nat.eq_of_beq_eq_true h.1.2,aJ7 h.2]
def xO (x:Nd):List Nd→Bool
 | []=>false
 | y::l=>cond (aAx x y) true (xO x l)
theorem aJc {x:Nd}:∀{l:List Nd},xO x l=true→x∈l
 | [],h=>by cases h
 | y::l,h=>by
  simp only[xO]at h
  cases e:aAx x y with
  | true=>simp[aTc e]
  | false=>rw[e]at h;exact List.mem_cons_of_mem _ (aJc (by simpa using h))
def xY:List Nd→List Nd
 | []=>[]
 | x::l=>cond (xO x l) (xY l) (x::xY l)
theorem aCa {x:Nd}:∀{l:List Nd},x∈l→x∈xY l
 | y::l,h=>by
  simp only[xY]
  cases e:xO y l with
  | true=>
   simp only[cond_true]
   rcases List.mem_cons.1 h with rfl | h
   ·exact aCa (aJc e)
   ·exact aCa h
  | false=>
   simp only[cond_false]
   rcases List.mem_cons.1 h with rfl | h
   ·simp
   ·exact List.mem_cons_of_mem _ (aCa h)
/-! ### Answers -/
abbrev Ans:=Option (List Nd)
def OkA (outs:List Nd) (a:Ans):Prop:=∃l,a=some l∧∀x∈l,x∈outs
def uni (a b:Ans):Ans:=
 match a,b with
 | some x,some y=>some (x++y)
 | _,_=>none
theorem OkA.of {a:Ans} {outs:List Nd} (h:a=some outs):OkA outs a:=⟨outs,h,fun _ h=>h⟩
theorem OkA.mono {a:Ans} {l outs:List Nd} (h:OkA l a) (hs:∀x∈l,x∈outs):OkA outs a:=⟨h.choose,h.choose_spec.1,fun x hx=>hs x (h.choose_spec.2 x hx)⟩
theorem aPf {a b:Ans} {outs:List Nd} (h:uni a b=some outs):OkA outs a∧OkA outs b:=by
 unfold uni at h
 split at h
 ·cases h
  exact⟨⟨_,rfl,fun x hx=>by simp[hx]⟩,⟨_,rfl,fun x hx=>by simp[hx]⟩⟩
 ·cases h
def aAc {α:Type} (f:α→Ans):List α→Ans
 | []=>some []
 | [x]=>f x
 | x::y::l=>uni (f x) (aAc f (y::l))
theorem aFd {α:Type} {f:α→Ans}:∀{l:List α} {outs:List Nd},aAc f l=some outs→∀x∈l,OkA outs (f x)
 | [],_,_,x,hx=>by simp at hx
 | [a],outs,h,x,hx=>by
  simp only[List.mem_singleton]at hx
  subst hx
  exact OkA.of h
 | a::b::l,outs,h,x,hx=>by
  obtain⟨h1,l2,h2,h3⟩:=aPf h
  rcases List.mem_cons.1 hx with rfl | hx
  ·exact h1
  ·exact (aFd h2 x hx).mono h3
/-! ### What was turned so far -/
def gW (base:Nat):List Nat→List Nat→List Nat
 | [],d=>d
 | b::l,d=>cond (Nat.blt b base) (cond (mL b d) (gW base l d) (gW base l (b::d))) (gW base l d)
theorem aFc {base:Nat}:∀{bs d:List Nat} {b:Nat},b<base→b∈bs∨b∈d→b∈gW base bs d
 | [],d,b,_,h=>by simpa[gW]using h
 | a::l,d,b,hb,h=>by
  simp only[gW]
  have next:∀d',(b∈l∨b∈d')→b∈gW base l d':=fun d'=>aFc hb
  cases e:Nat.blt a base with
  | true=>
   simp only[cond_true]
   cases e2:mL a d with
   | true=>
    have:=yR.1 e2
    simp only[cond_true]
    refine next _ ?_
    rcases h with h | h
    ·rcases List.mem_cons.1 h with rfl | h
     ·exact .inr this
     ·exact .inl h
    ·exact .inr h
   | false=>
    simp only[cond_false]
    refine next _ ?_
    rcases h with h | h
    ·rcases List.mem_cons.1 h with rfl | h
     ·exact .inr (by simp)
     ·exact .inl h
    ·exact .inr (by simp[h])
  | false=>
   simp only[cond_false]
   refine next _ ?_
   rcases h with h | h
   ·rcases List.mem_cons.1 h with rfl | h
    ·exact absurd (xQ.2 hb) (by rw[e];simp)
    ·exact .inl h
   ·exact .inr h
theorem aAb {base:Nat}:∀{bs d:List Nat},(∀b∈d,b<base)→∀b∈gW base bs d,b<base
 | [],d,h,b,hb=>h b hb
 | a::l,d,h,b,hb=>by
  simp only[gW]at hb
  cases e:Nat.blt a base with
  | true=>
   rw[e]at hb
   simp only[cond_true]at hb
   cases e2:mL a d with
   | true=>rw[e2]at hb;exact aAb h b hb
   | false=>
    rw[e2]at hb
    exact aAb (fun x hx=>by
     rcases List.mem_cons.1 hx with rfl | hx
     ·exact xQ.1 e
     ·exact h x hx) b hb
  | false=>rw[e]at hb;exact aAb h b hb
structure IvU (h0 h:aA) (d:List Nat):Prop where
 next:h0.next≤h.next
 lt:∀b∈d,b<h0.next
 same:∀b,b<h0.next→b∉d→h.get b=h0.get b
theorem IvU.start (h:aA):IvU h h []:=⟨Nat.le_refl _,by simp,fun _ _ _=>rfl⟩
theorem IvU.step {h0 h h':aA} {d bs:List Nat} (iv:IvU h0 h d) (f:Fr2 h h' bs):IvU h0 h' (gW h0.next bs d):=
 ⟨Nat.le_trans iv.next f.next,aAb iv.lt,fun b hb hn=>by
  have h1:b∉bs:=fun hm=>hn (aFc hb (.inl hm))
  have h2:b∉d:=fun hm=>hn (aFc hb (.inr hm))
  rw[f.same b (Nat.lt_of_lt_of_le hb iv.next) h1,iv.same b hb h2]⟩
def vT:kR→List Nat
 | []=>[]
 | (k,_)::D=>k::vT D
theorem aLk {p:Nat×Option cH}:∀{D:kR},p∈D→p.1∈vT D
 | (k,o)::D,h=>by
  rcases List.mem_cons.1 h with rfl | h
  ·simp[vT]
  ·simp[vT,aLk h]
theorem aY5 (h:aA) (D:kR) (n:Nat):Fr2 h (toH h D n) (vT D):=
 ⟨Nat.le_add_right _ _,fun b _ hn=>aLt fun p hp e=>hn (e▸aLk hp)⟩
/-! ### The evaluator -/
abbrev KU:=V→aA→List Nat→Ans
abbrev CU:=FuncId→List V→aA→Ans
def aHc (base:Nat) (x:V) (isString:Bool) (h:aA) (d:List Nat) (K:KU):Ans:=
 match x with
 | .pointer (some ⟨b,0,none⟩)=>
  match h.get b,isString with
  | some (.siter s pos),true=>
   if pos<s.size then
    K (.tuple #[.bool true,.int .i64 pos,.int .i32 (Utf8.decode s pos).1]) (h.put b (.siter s (pos+(Utf8.decode s pos).2))) (gW base [b] d)
   else K (.tuple #[.bool false]) h d
  | some (.miter none _ _ _),false=>K (.tuple #[.bool false]) h d
  | some (.miter (some m) since seen last),false=>
   match h.get m with
   | some (.map es clock)=>
    cond (!(!seen.isEmpty&&!es.isEmpty&&es.all (·.born≥last)))
     (aAc (fun c=>
      match c with
      | some e=>K (.tuple #[.bool true,e.key,e.val]) (h.put b (.miter (some m) since (seen.push e.born) clock)) (gW base [b] d)
      | none=>K (.tuple #[.bool false]) h d) (pZ es since seen)) none
   | _=>none
  | _,_=>none
 | _=>none
def kU (x:Option (V×aA)) (d:List Nat) (K:KU):Ans:=
 match x with
 | some (v,h)=>K v h d
 | none=>none
section
variable (P:Program) (C:CU) (base:Nat)
def doU (o:Op) (e:Nat→V) (h:aA) (d:List Nat) (K:KU):Ans:=
 match o with
 | .next it s=>aHc base (aEv e it) s h d K
 | .call c=>
  match c.callee with
  | .value f=>
   (match aEv e f with
   | .func (.func g) first captured=>
    (match C g (first.toList++fM e c.args++captured.toList) h with
    | some outs=>aAc (fun (nd:Nd)=>K nd.1 (toH h nd.2.1 nd.2.2) (gW base (vT nd.2.1) d)) outs
    | none=>none)
   | _=>none)
  | _=>kU (aOp P (.call c) e h) (gW base (wR (.call c) e) d) K
 | o=>kU (aOp P o e h) (gW base (wR o e) d) K
def opU (ops:Array Oper) (o:Oper) (s:St) (d:List Nat) (K:St→List Nat→Ans):Ans:=
 match eN ops o s.e with
 | some true=>doU P C base o.op s.e s.h d fun v h d=>K ((s.put o.dst v).at h) d
 | some false=>K (s.put o.dst gone) d
 | none=>none
def aC3 (ops:Array Oper):List Oper→St→List Nat→(St→List Nat→Ans)→Ans
 | [],s,d,K=>K s d
 | o::rest,s,d,K=>opU P C base ops o s d fun s d=>aC3 ops rest s d K
def pS (ops:Array Oper):Tr→St→List Nat→(St→List Nat→Ans)→Ans
 | .done,s,d,K=>K s d
 | .q i t,s,d,K=>
  match ops[i]? with
  | none=>none
  | some o=>opU P C base ops o s d fun s d=>pS ops t s d K
 | .c i ws t,s,d,K=>
  match ops[i]? with
  | none=>none
  | some o=>
   match eN ops o s.e with
   | some true=>doU P C base o.op s.e s.h d fun v h d=>cond (ws.all fun j=>xS P ops j s.e h) (pS ops t ((s.put o.dst v).at h) d K) none
   | some false=>pS ops t (s.put o.dst gone) d K
   | none=>none
 | .fork a b,s,d,K=>uni (pS ops a s d K) (pS ops b s d K)
def aG4 (step:St→List Nat→(Ex→St→List Nat→Ans)→Ans):Nat→St→List Nat→(Ex→St→List Nat→Ans)→Ans
 | 0,_,_,_=>none
 | n+1,s,d,K=>step s d fun x s d=>match x with
  | .normal=>aG4 step n s d K
  | x=>K x s d
def qE (F:Nat):An→Code→St→List Nat→(Ex→St→List Nat→Ans)→Ans
 | .leaf,c,s,d,K=>(match c with
  | .skip=>K .normal s d
  | .region _ ops false=>aC3 P C base ops ops.toList s d fun s d=>K .normal s d
  | .exit id=>K (.exit id) s d
  | .label _=>K .normal s d
  | .ret=>K .ret s d
  | _=>none)
 | .draw _ t,c,s,d,K=>(match c with
  | .region _ ops true=>pS P C base ops t s d fun s d=>K .normal s d
  | _=>none)
 | .seq a b,c,s,d,K=>(match c with
  | .seq c1 c2=>qE F a c1 s d fun x s d=>match x with
   | .normal=>qE F b c2 s d K
   | x=>K x s d
  | _=>none)
 | .cond a b,c,s,d,K=>(match c with
  | .cond x c1 c2=>(match aEv s.e x with
   | .bool true=>qE F a c1 s d K
   | .bool false=>qE F b c2 s d K
   | _=>none)
  | _=>none)
 | .block a,c,s,d,K=>(match c with
  | .block id c=>qE F a c s d fun x s d=>match x with
   | .exit j=>if j=id then K .normal s d else K (.exit j) s d
   | x=>K x s d
  | _=>none)
 | .loop _ _ a,c,s,d,K=>(match c with
  | .loop c=>aG4 (qE F a c) F s d K
  | _=>none)
 | .join _ _ a,c,s,d,K=>qE F a c s d K
end
section
variable (P:Program) (C:CU)
def aGh (F:Nat) (a:An) (f:Func) (args:List V) (h:aA):Ans:=
 match f.body with
 | none=>none
 | some c=>qE P C h.next F a c ⟨tD args,h⟩ [] fun x s d=>
  match x with
  | .exit _=>none
  | _=>
   match oT P s.h s.e f.results.toList with
   | some l=>(match sU h.next d (mX l) s.h with
    | some nd=>some [nd]
    | none=>none)
   | none=>none
end
abbrev aIm:=FuncId→Option (List V→aA→Ans)
def tF (P:Program) (L:aIm) (T:FuncId→Option An) (F:Nat):Nat→CU
 | 0,_,_,_=>none
 | n+1,f,args,h=>
  match L f with
  | some g=>g args h
  | none=>
   match T f,P.funcs[f]? with
   | some a,some fn=>cond (Nat.ble args.length fn.ntmps) (match aGh P (tF P L T F n) F a fn args h with
    | some l=>some (xY l)
    | none=>none) none
   | _,_=>none
/-! ### It speaks truly -/
def aO0 (C:CU) (f:FuncId):Spec:=fun args h K=>∃outs,C f args h=some outs∧∀nd∈outs,K nd.1 (toH h nd.2.1 nd.2.2)
def lQ (C:CU):FuncId→Option Spec:=fun f=>some (aO0 C f)
theorem kK (C:CU):aJ (lQ C):=by
 rintro f s ⟨rfl⟩ args h K K' hk ⟨outs,h1,h2⟩
 exact⟨outs,h1,fun nd hn=>hk _ _ (h2 nd hn)⟩
section
variable {P:Program} {C:CU} {h0:aA}
def aE2 (h0:aA) (outs:List Nd) (K:KU) (v:V) (h:aA):Prop:=∃d,IvU h0 h d∧OkA outs (K v h d)
theorem aWb {x:V} {b:Bool} {h:aA} {d:List Nat} {K:KU} {outs:List Nd} (iv:IvU h0 h d) (hb:aHc h0.next x b h d K=some outs):dS x b h (aE2 h0 outs K):=by
 unfold aHc at hb
 unfold dS
 split at hb
 ·rename_i bl
  have hput:∀o,IvU h0 (h.put bl o) (gW h0.next [bl] d):=fun o=>iv.step (Fr2.put o (by simp))
  simp only
  split at hb
  ·rename_i hg
   simp only[hg]
   split at hb
   ·rename_i hp;rw[if_pos hp];exact⟨_,hput _,OkA.of hb⟩
   ·rename_i hp;rw[if_neg hp];exact⟨_,iv,OkA.of hb⟩
  ·rename_i hg;simp only[hg];exact⟨_,iv,OkA.of hb⟩
  ·rename_i hg
   simp only[hg]
   split at hb
   ·rename_i hm
    simp only[hm]
    rename_i es clock
    generalize hgd:(!(!_&&!es.isEmpty&&es.all _))=gd at hb
    cases gd with
    | false=>simp only[cond_false]at hb;cases hb
    | true=>
     simp only[cond_true]at hb
     simp only[Bool.not_eq_true']at hgd
     refine⟨hgd,fun c hc=>?_⟩
     have:=aFd hb c hc
     cases c with
     | some e=>exact⟨_,hput _,this⟩
     | none=>exact⟨_,iv,this⟩
   ·cases hb
  ·cases hb
 ·cases hb
theorem aLf {x:Option (V×aA)} {d:List Nat} {K:KU} {outs:List Nd} (h:kU x d K=some outs):∃v h',x=some (v,h')∧K v h' d=some outs:=by
 unfold kU at h
 split at h
 ·exact⟨_,_,rfl,h⟩
 ·cases h
theorem aJ0 {o:Op} {e:Nat→V} {h:aA} {d:List Nat} {K:KU} {outs:List Nd} (iv:IvU h0 h d) (hb:doU P C h0.next o e h d K=some outs):doD P (lQ C) o e h (aE2 h0 outs K):=by
 rw[←aJ1]
 unfold doU at hb
 unfold aDo
 have fin:∀{o:Op} {v:V} {h':aA},aOp P o e h=some (v,h')→K v h' (gW h0.next (wR o e) d)=some outs→aE2 h0 outs K v h':=fun ho hk=>⟨_,iv.step (aQp ho),OkA.of hk⟩
 cases o
 case next it s=>exact aWb iv hb
 case call c=>
  obtain⟨callee,as,ts⟩:=c
  cases callee
  case value f=>
   simp only at hb ⊢
   unfold cR
   split at hb
   ·rename_i g first captured hf
    simp only[hf,lQ]
    split at hb
    ·rename_i outs' hc
     exact⟨outs',hc,fun nd hn=>⟨_,iv.step (aY5 h nd.2.1 nd.2.2),aFd hb nd hn⟩⟩
    ·cases hb
   ·cases hb
  all_goals
   obtain⟨v,h',hx,hk⟩:=aLf hb
   have:=fin hx hk
   simp only[hx]
   exact this
 all_goals
  obtain⟨v,h',hx,hk⟩:=aLf hb
  have:=fin hx hk
  simp only[hx]
  exact this
def iI (h0:aA) (outs:List Nd) (K:St→List Nat→Ans) (s:St):Prop:=∃d,IvU h0 s.h d∧OkA outs (K s d)
theorem aNd {ops:Array Oper} {o:Oper} {s:St} {d:List Nat} {K:St→List Nat→Ans} {outs:List Nd} (iv:IvU h0 s.h d) (hb:opU P C h0.next ops o s d K=some outs) :
 match eN ops o s.e with
 | some true=>doD P (lQ C) o.op s.e s.h fun v h=>iI h0 outs K ((s.put o.dst v).at h)
 | some false=>iI h0 outs K (s.put o.dst gone)
 | none=>False:=by
 unfold opU at hb
 generalize eN ops o s.e=w at hb ⊢
 cases w with
 | none=>cases hb
 | some b=>cases b with
  | true=>exact aJ0 iv hb
  | false=>
   refine⟨d,?_,OkA.of hb⟩
   have:(s.put o.dst gone).h=s.h:=by cases ho:o.dst<;>simp[St.put,ho]
   rw[this];exact iv
theorem iI.of {outs l:List Nd} {K:St→List Nat→Ans} {s:St} (h:iI h0 l K s) (hs:∀x∈l,x∈outs):iI h0 outs K s:=⟨h.choose,h.choose_spec.1,h.choose_spec.2.mono hs⟩
theorem aNj {ops:Array Oper}:∀(l l0:List Oper) {s:St} {d:List Nat} {K:St→List Nat→Ans} {outs:List Nd},IvU h0 s.h d→ops.toList=l0++l→aC3 P C h0.next ops l s d K=some outs→lF P (lQ C) ops (List.range' l0.length l.length) s (iI h0 outs K)
 | [],_,_,_,_,_,iv,_,h=>⟨_,iv,OkA.of h⟩
 | o::l,l0,s,d,K,outs,iv,he,h=>by
  simp only[List.length_cons,List.range'_succ,lF]
  have ho:ops[l0.length]? = some o:=by
   rw[←Array.getElem?_toList,he]
   simp
  unfold opD
  simp only[ho]
  have:=aNd iv h
  have next:∀s,iI h0 outs (fun s d=>aC3 P C h0.next ops l s d K) s→lF P (lQ C) ops (List.range' (l0.length+1) l.length) s (iI h0 outs K):=fun s hh=>by
   obtain⟨d',iv',l',h1,h2⟩:=hh
   have:=aNj l (l0++[o]) iv' (by rw[he];simp) h1
   have:=aC1 (kK C) (fun s hs=>iI.of hs h2) this
   simpa using this
  split at this
  ·rename_i hw;simp only[hw];exact lZ (kK C) (fun v h hh=>next _ hh) this
  ·rename_i hw;simp only[hw];exact next _ this
  ·exact this.elim
theorem qP {I:FuncId→Option Spec} (hM:aJ I) {ops:Array Oper}:∀{t:Tr} {s:St} {K K':St→Prop},(∀s,K s→K' s)→dQ P I ops t s K→dQ P I ops t s K'
 | .done,s,K,K',hk,h=>hk _ h
 | .q i t,s,K,K',hk,h=>by
  simp only[dQ]at h ⊢
  split at h
  ·exact h.elim
  ·split at h
   ·exact lZ hM (fun v h hh=>qP hM hk hh) h
   ·exact qP hM hk h
   ·exact h.elim
 | .c i ws t,s,K,K',hk,h=>by
  simp only[dQ]at h ⊢
  split at h
  ·exact h.elim
  ·split at h
   ·exact lZ hM (fun v h hh=>aAh (qP hM hk) hh) h
   ·exact qP hM hk h
   ·exact h.elim
 | .fork a b,s,K,K',hk,h=>⟨qP hM hk h.1,qP hM hk h.2⟩
theorem wS {ops:Array Oper}:∀(t:Tr) {s:St} {d:List Nat} {K:St→List Nat→Ans} {outs:List Nd},IvU h0 s.h d→pS P C h0.next ops t s d K=some outs→dQ P (lQ C) ops t s (iI h0 outs K)
 | .done,_,_,_,_,iv,h=>⟨_,iv,OkA.of h⟩
 | .q i t,s,d,K,outs,iv,h=>by
  simp only[pS]at h
  simp only[dQ]
  split at h
  ·cases h
  ·rename_i o ho
   simp only[ho]
   have next:∀s,iI h0 outs (fun s d=>pS P C h0.next ops t s d K) s→dQ P (lQ C) ops t s (iI h0 outs K):=fun s hh=>by
    obtain⟨d',iv',l',h1,h2⟩:=hh
    exact qP (kK C) (fun s hs=>iI.of hs h2) (wS t iv' h1)
   have:=aNd iv h
   split at this
   ·rename_i hw;simp only[hw];exact lZ (kK C) (fun v h hh=>next _ hh) this
   ·rename_i hw;simp only[hw];exact next _ this
   ·exact this.elim
 | .c i ws t,s,d,K,outs,iv,h=>by
  simp only[pS]at h
  simp only[dQ]
  split at h
  ·cases h
  ·rename_i o ho
   simp only[ho]
   split at h
   ·rename_i hw
    simp only[hw]
    refine lZ (kK C) (fun v h hh=>?_) (aJ0 iv h)
    obtain⟨d',iv',l',h1,h2⟩:=hh
    cases hc:(ws.all fun j=>xS P ops j s.e h) with
    | false=>
     have h1:(none:Ans)=some l':=by rw[←h1];dsimp only;rw[hc];rfl
     cases h1
    | true=>
     have h1:pS P C h0.next ops t ((s.put o.dst v).at h) d' K=some l':=by rw[←h1];dsimp only;rw[hc];rfl
     exact aJm (qP (kK C) (fun s hs=>iI.of hs h2) (wS t (s:=(s.put o.dst v).at h) iv' h1)) hc
   ·rename_i hw
    simp only[hw]
    have:(s.put o.dst gone).h=s.h:=by cases ho:o.dst<;>simp[St.put,ho]
    exact wS t (s:=s.put o.dst gone) (by rw[this];exact iv) h
   ·cases h
 | .fork a b,s,d,K,outs,iv,h=>by
  obtain⟨⟨l1,a1,a2⟩,⟨l2,b1,b2⟩⟩:=aPf h
  exact⟨qP (kK C) (fun s hs=>iI.of hs a2) (wS a iv a1),qP (kK C) (fun s hs=>iI.of hs b2) (wS b iv b1)⟩
def rP (h0:aA) (outs:List Nd) (K:Ex→St→List Nat→Ans) (x:Ex) (s:St):Prop:=∃d,IvU h0 s.h d∧OkA outs (K x s d)
theorem rP.of {outs l:List Nd} {K:Ex→St→List Nat→Ans} {x:Ex} {s:St} (h:rP h0 l K x s) (hs:∀x∈l,x∈outs):rP h0 outs K x s:=⟨h.choose,h.choose_spec.1,h.choose_spec.2.mono hs⟩
theorem aMb {c:Code} {step:St→List Nat→(Ex→St→List Nat→Ans)→Ans}
 (hs:∀s d K outs,IvU h0 s.h d→step s d K=some outs→cS P (lQ C) c s (rP h0 outs K)) :
 ∀(n:Nat) {s:St} {d:List Nat} {K:Ex→St→List Nat→Ans} {outs:List Nd},IvU h0 s.h d→aG4 step n s d K=some outs→pI (cS P (lQ C) c) n s (rP h0 outs K)
 | 0,_,_,_,_,_,h=>by cases h
 | n+1,s,d,K,outs,iv,h=>by
  refine iO (kK C) c (fun x s hh=>?_) (hs _ _ _ _ iv h)
  obtain⟨d',iv',l',h1,h2⟩:=hh
  cases x with
  | normal=>
   refine aB1 (step:=cS P (lQ C) c) (fun s K K' hk h=>iO (kK C) c hk h) (fun x s hx=>rP.of hx h2) (aMb hs n iv' h1)
  | exit j=>exact⟨d',iv',l',h1,h2⟩
  | ret=>exact⟨d',iv',l',h1,h2⟩
theorem rX (F:Nat):∀(a:An) (c:Code) {s:St} {d:List Nat} {K:Ex→St→List Nat→Ans} {outs:List Nd},eA P a c=true→IvU h0 s.h d→qE P C h0.next F a c s d K=some outs→cS P (lQ C) c s (rP h0 outs K)
 | .leaf,c,s,d,K,outs,ha,iv,h=>by
  cases c with
  | region id ops draw=>
   cases draw with
   | false=>
    have:=aNj ops.toList [] iv (by simp) h
    simp only[cS]
    have e:List.range' ([]:List Oper).length ops.toList.length=List.range ops.size:=by simp[List.range_eq_range']
    rw[e]at this
    exact this
   | true=>cases h
  | skip=>exact⟨d,iv,OkA.of h⟩
  | exit id=>exact⟨d,iv,OkA.of h⟩
  | label l=>exact⟨d,iv,OkA.of h⟩
  | ret=>exact⟨d,iv,OkA.of h⟩
  | _=>cases h
 | .draw B t,c,s,d,K,outs,ha,iv,h=>by
  cases c with
  | region id ops draw=>
   cases draw with
   | false=>cases h
   | true=>
    have ha:vF P ops B t=true:=ha
    exact aNa (kK C) ha (wS t iv h)
  | _=>cases h
 | .seq a b,c,s,d,K,outs,ha,iv,h=>by
  cases c with
  | seq c1 c2=>
   have ha:(eA P a c1&&eA P b c2)=true:=ha
   simp only[Bool.and_eq_true]at ha
   refine iO (kK C) c1 (fun x s' hh=>?_) (rX F a c1 ha.1 iv h)
   obtain⟨d',iv',l',h1,h2⟩:=hh
   cases x with
   | normal=>exact iO (kK C) c2 (fun x s hx=>rP.of hx h2) (rX F b c2 ha.2 iv' h1)
   | exit j=>exact⟨d',iv',l',h1,h2⟩
   | ret=>exact⟨d',iv',l',h1,h2⟩
  | _=>cases h
 | .cond a b,c,s,d,K,outs,ha,iv,h=>by
  cases c with
  | cond x c1 c2=>
   have ha:(eA P a c1&&eA P b c2)=true:=ha
   simp only[Bool.and_eq_true]at ha
   simp only[qE]at h
   simp only[cS]
   split at h
   ·rename_i hx;simp only[hx];exact rX F a c1 ha.1 iv h
   ·rename_i hx;simp only[hx];exact rX F b c2 ha.2 iv h
   ·cases h
  | _=>cases h
 | .block a,c,s,d,K,outs,ha,iv,h=>by
  cases c with
  | block id c=>
   refine iO (kK C) c (fun x s' hh=>?_) (rX F a c ha iv h)
   obtain⟨d',iv',l',h1,h2⟩:=hh
   cases x with
   | normal=>exact⟨d',iv',l',h1,h2⟩
   | exit j=>
    simp only at h1 ⊢
    split at h1
    ·rename_i hj;rw[if_pos hj];exact⟨d',iv',l',h1,h2⟩
    ·rename_i hj;rw[if_neg hj];exact⟨d',iv',l',h1,h2⟩
   | ret=>exact⟨d',iv',l',h1,h2⟩
  | _=>cases h
 | .loop W L a,c,s,d,K,outs,ha,iv,h=>by
  cases c with
  | loop c=>
   have ha:(jH W c&&eA P a c)=true:=ha
   simp only[Bool.and_eq_true]at ha
   exact⟨F,aMb (fun s d K outs iv hh=>rX F a c ha.2 iv hh) F iv h⟩
  | _=>cases h
 | .join W L a,c,s,d,K,outs,ha,iv,h=>by
  have ha:(jH W c&&eA P a c)=true:=ha
  simp only[Bool.and_eq_true]at ha
  exact rX F a c ha.2 iv h
def zR (h0:aA) (outs:List Nd) (v:V) (h:aA):Prop:=∃d nd,IvU h0 h d∧sU h0.next d v h=some nd∧nd∈outs
theorem aT2 (F:Nat) {a:An} {f:Func} {c:Code} (hb:f.body=some c) (ha:eA P a c=true) {args:List V} {h:aA} {outs:List Nd} (hf:aGh P C F a f args h=some outs) :
 tL P (lQ C) f args h (zR h outs):=by
 unfold aGh at hf
 unfold tL
 simp only[hb]at hf ⊢
 refine iO (kK C) c (fun x s hh=>?_) (rX (h0:=h) F a c (s:=⟨tD args,h⟩) ha (IvU.start h) hf)
 obtain⟨d',iv',l',h1,h2⟩:=hh
 have fin:(match oT P s.h s.e f.results.toList with
  | some l=>(match sU h.next d' (mX l) s.h with | some nd=>some [nd] | none=>none)
  | none=>none)=some l'→(match oT P s.h s.e f.results.toList with | some l=>zR h outs (mX l) s.h | none=>False):=by
  intro h3
  cases hr:oT P s.h s.e f.results.toList with
  | none=>rw[hr]at h3;cases h3
  | some l=>
   rw[hr]at h3
   show zR h outs (mX l) s.h
   cases hn:sU h.next d' (mX l) s.h with
   | none=>
    have h3:(match sU h.next d' (mX l) s.h with | some nd=>some [nd] | none=>none)=some l':=h3
    rw[hn]at h3;cases h3
   | some nd=>
    have h3:(match sU h.next d' (mX l) s.h with | some nd=>some [nd] | none=>none)=some l':=h3
    rw[hn]at h3
    cases h3
    exact⟨d',nd,iv',hn,h2 nd (by simp)⟩
 cases x with
 | exit j=>cases h1
 | normal=>exact fin h1
 | ret=>exact fin h1
end
theorem zO.mono {P:Program} {f:FuncId} {args:Array V} {w:World} {Q Q':V→World→Prop} (h:zO P f args w Q) (hq:∀v w',Q v w'→Q' v w'):zO P f args w Q':=by
 obtain⟨n,w',h1,h2⟩:=h
 refine⟨n,w',h1,?_⟩
 cases n
 case value v=>exact hq _ _ h2
 case enter g as=>
  refine Calls.mono h2 ?_
  rintro e w'' ⟨v,rfl,hh⟩
  exact⟨v,rfl,hq _ _ hh⟩
 all_goals exact h2
def kT (g:List V→aA→Ans):Spec:=fun args h K=>∃outs,g args h=some outs∧∀nd∈outs,K nd.1 (toH h nd.2.1 nd.2.2)
theorem aJl {P:Program} {J:World→Prop} {L:aIm} {T:FuncId→Option An} {F:Nat} (hm:P.follows .mixedOrders=true)
 (hL:∀f g,L f=some g→aD P J f (kT g)) (hT:∀f a,T f=some a→aI P f a):∀(n:Nat) (f:FuncId),aD P J f (aO0 (tF P L T F n) f)
 | 0,f=>by
  rintro B hJ r hp w args args' Q ⟨outs,h1,_⟩
  cases h1
 | n+1,f=>by
  cases hl:L f with
  | some g=>
   refine (hL f g hl).tZ fun args h K hs=>?_
   obtain⟨outs,h1,h2⟩:=hs
   simp only[tF,hl]at h1
   exact⟨outs,h1,h2⟩
  | none=>
   cases ht:T f with
   | none=>
    rintro B hJ r hp w args args' Q ⟨outs,h1,_⟩
    simp[tF,hl,ht]at h1
   | some a=>
    obtain⟨fn,c,hf,hb,hok,ha,hcall⟩:=hT f a ht
    have hI:aO P J (lQ (tF P L T F n)):=by
     rintro g s ⟨rfl⟩
     exact aJl hm hL hT n g
    rintro B hJ r hp w args args' Q ⟨outs,h1,h2⟩ hR hargs
    simp only[tF,hl,ht,hf]at h1
    generalize hle:Nat.ble args.length fn.ntmps=le at h1
    cases le with
    | false=>simp only[cond_false]at h1;cases h1
    | true=>
     simp only[cond_true]at h1
     split at h1
     ·rename_i l hfu
      cases h1
      have h3:=aT2 F hb ha hfu
      refine (aD.aM6 hI hm hf hb hok hcall B hJ r hp w args args' (zR hp l) ⟨Nat.le_of_ble_eq_true hle,h3⟩ hR hargs).mono ?_
      rintro v' w' ⟨r',v,h',⟨d,nd,iv,hn,hmem⟩,hR',hE,hv⟩
      obtain⟨v2,D,k⟩:=nd
      obtain⟨r2,a1,a2,a3⟩:=aWg hR hR' hE iv.lt iv.same hv hn
      exact⟨r2,v2,_,h2 _ (aCa hmem),a1,a2,a3⟩
     ·cases h1
end Go.Abs
namespace Go.Abs
open Go
def Sl (h:aA) (fp:List Nat) (v:V) (es n:Nat) (cs:List V):Prop:=
 cs.length=n*es∧((v = .slice none 0 0∧n=0∧fp=[]) ∨
  ∃b c all,v = .slice (some ⟨b,0,none⟩) n c∧fp=[b]∧b<h.next∧n≤c / 2∧h.get b=some (.cells all es .rw)∧c / 2*es≤all.length∧all.take (n*es)=cs)
variable {h:aA} {fp:List Nat} {v:V} {es n:Nat} {cs:List V}
theorem Sl.lt (s:Sl h fp v es n cs):∀x∈fp,x<h.next:=by
 obtain⟨_,⟨rfl,rfl,rfl⟩ | ⟨b,c,all,rfl,rfl,hb,_⟩⟩:=s
 ·simp
 ·simpa using hb
theorem Sl.same {h':aA} (s:Sl h fp v es n cs) (hl:h.next≤h'.next) (hs:∀x∈fp,h'.get x=h.get x):Sl h' fp v es n cs:=by
 obtain⟨h0,⟨rfl,rfl,rfl⟩ | ⟨b,c,all,rfl,rfl,hb,h1,h2,h3,h4⟩⟩:=s
 ·exact⟨h0,.inl ⟨rfl,rfl,rfl⟩⟩
 ·exact⟨h0,.inr ⟨b,c,all,rfl,rfl,by omega,h1,by rw[hs b (by simp),h2],h3,h4⟩⟩
theorem Sl.nil:Sl h [] (.slice none 0 0) es 0 []:=⟨by simp,.inl ⟨rfl,rfl,rfl⟩⟩
theorem Sl.len (s:Sl h fp v es n cs):bH .slice v h=some (i64 n):=by
 obtain⟨h0,⟨rfl,rfl,rfl⟩ | ⟨b,c,all,rfl,rfl,hb,h1,h2,h3,h4⟩⟩:=s<;>rfl
theorem Sl.isNil (s:Sl h fp v es n cs) (c:Bool):∃b,aC .slice .eql c v (.slice none 0 0) h=some (.bool b)∧(b=true→n=0∧v = .slice none 0 0):=by
 obtain⟨h0,⟨rfl,rfl,rfl⟩ | ⟨b,c,all,rfl,rfl,hb,h1,h2,h3,h4⟩⟩:=s
 ·exact⟨true,rfl,fun _=>⟨rfl,rfl⟩⟩
 ·exact⟨false,rfl,fun h=>by cases h⟩
theorem Sl.pre (s:Sl h fp v es n cs) {k:Nat} {t:IntKind} (hk:k≤n):∃v',cK (.slice es) v none (some (.int t k)) none h=some v'∧Sl h fp v' es k (cs.take (k*es)):=by
 obtain⟨h0,⟨rfl,rfl,rfl⟩ | ⟨b,c,all,rfl,rfl,hb,h1,h2,h3,h4⟩⟩:=s
 ·obtain rfl:k=0:=by omega
  refine⟨.slice none 0 0,?_,by simp,.inl ⟨rfl,rfl,rfl⟩⟩
  simp[cK,cD,dL]
 ·refine⟨.slice (some ⟨b,0,none⟩) k c,?_,?_,.inr ⟨b,c,all,rfl,rfl,hb,by omega,h2,h3,?_⟩⟩
  ·have hk2:(0:Int)≤k∧(k:Int)≤((c / 2:Nat):Int):=by omega
   simp only[cK,h2,if_true,cD,dL,if_pos hk2,Int.toNat_natCast]
  ·have:k*es≤n*es:=Nat.mul_le_mul_right _ hk
   simp;omega
  ·subst h4
   have:k*es≤n*es:=Nat.mul_le_mul_right _ hk
   rw[List.take_take,Nat.min_eq_left this]
theorem Sl.post (s:Sl h fp v es n cs) {k:Nat} {t:IntKind} (hk:k≤n):∃v',cK (.slice es) v (some (.int t k)) none none h=some v'∧dX v'=some (n - k)∧(n - k≠0→dT es v' h=some (cs.drop (k*es))):=by
 obtain⟨h0,⟨rfl,rfl,rfl⟩ | ⟨b,c,all,rfl,rfl,hb,h1,h2,h3,h4⟩⟩:=s
 ·obtain rfl:k=0:=by omega
  exact⟨.slice none 0 0,by simp[cK,cD,dL],rfl,by simp⟩
 ·have hsl:cK (.slice es) (.slice (some ⟨b,0,none⟩) n c) (some (.int t k)) none none h =
      if k=0 then some (.slice (some ⟨b,0,none⟩) n c) else if k<c / 2 then some (.slice (some ⟨b,0+k*es,none⟩) (n - k) (c - 2*k))
      else if c % 2=0 then some (.slice (some ⟨b,0,none⟩) (n - k) 0) else some (.slice none 0 1):=by
   simp[cK,cD,dL,h2,hk]
  have hlen:n*es≤all.length:=Nat.le_trans (Nat.mul_le_mul_right _ h1) h3
  have hdrop:∀o,o=k*es→h.rdN b o ((n - k)*es)=some (cs.drop (k*es)):=by
   rintro o rfl
   rw[kG h2,Nat.sub_mul]
   have:k*es≤n*es:=Nat.mul_le_mul_right _ hk
   rw[if_pos (by omega),←h4,List.drop_take]
  rw[hsl]
  by_cases hk0:k=0
  ·subst hk0
   refine⟨_,if_pos rfl,rfl,fun _=>?_⟩
   have:=hdrop 0 (by simp)
   simpa[dT,jB]using this
  ·rw[if_neg hk0]
   by_cases hk1:k<c / 2
   ·refine⟨_,if_pos hk1,rfl,fun _=>?_⟩
    have:=hdrop (0+k*es) (by simp)
    simpa[dT,jB]using this
   ·rw[if_neg hk1]
    have hz:n - k=0:=by omega
    split
    ·exact⟨_,rfl,by simp[dX],fun h=>absurd hz h⟩
    ·exact⟨_,rfl,by simp[dX,hz],fun h=>absurd hz h⟩
theorem Sl.src (s:Sl h fp v es n cs):dX v=some n∧dT es v h=some cs:=by
 obtain⟨h0,⟨rfl,rfl,rfl⟩ | ⟨b,c,all,rfl,rfl,hb,h1,h2,h3,h4⟩⟩:=s
 ·refine⟨rfl,?_⟩
  have:cs=[]:=by simpa using h0
  subst this;rfl
 ·refine⟨rfl,?_⟩
  show h.rdN b 0 (n*es)=some cs
  have hlen:n*es≤all.length:=Nat.le_trans (Nat.mul_le_mul_right _ h1) h3
  rw[kG h2,if_pos (by omega)]
  simpa using h4
theorem uJ (c:List V):∀(vs:List V) (o:Nat),o+vs.length≤c.length→dJ c o vs=c.take o++vs++c.drop (o+vs.length):=by
 intro vs
 induction vs generalizing c with
 | nil=>intro o _;simp[dJ]
 | cons v vs ih=>
  intro o ho
  simp only[dJ]
  simp only[List.length_cons]at ho
  rw[ih (c.set o v) (o+1) (by simp;omega)]
  have h1:(c.set o v).take (o+1)=c.take o++[v]:=by
   rw[List.take_add_one,List.take_set_of_le (Nat.le_refl _)]
   simp[show o<c.length by omega]
  have h2:(c.set o v).drop (o+1+vs.length)=c.drop (o+1+vs.length):=List.drop_set_of_lt (by omega)
  rw[h1,h2]
  simp[Nat.add_assoc,Nat.add_comm,Nat.add_left_comm]
theorem Sl.append (s:Sl h fp v es n cs) {x:V} {k bytes:Nat} {z:List V} {new:List V} (hz:z.length=es) (he:0<es) (hby:bytes≤64) (hx:dX x=some k) (hs:k≠0→dT es x h=some new)
 (hn:new.length=k*es) (h1:new.all dH=true) (hsum:n+k≤1099511627776) :
 ∃v' h' fp',dU (some (es,bytes,z)) v x h=some (v',h')∧Sl h' fp' v' es (n+k) (cs++new)∧Mod h fp h' fp':=by
 have hlt:=s.lt
 obtain⟨h0,⟨rfl,rfl,rfl⟩ | ⟨b,c,all,rfl,rfl,hb,hc,h2,h3,h4⟩⟩:=s
 ·have:cs=[]:=by simpa using h0
  subst this
  simp only[dU,hx,he,hby,hz,and_self,if_true]
  by_cases hk:k=0
  ·subst hk
   have:new=[]:=by simpa using hn
   subst this
   exact⟨_,_,[],if_pos rfl,Sl.nil,Mod.refl (by simp)⟩
  ·rw[if_neg hk,if_pos (by omega),hs hk]
   refine⟨_,_,[h.next],rfl,⟨by simp[hn],.inr ⟨h.next,2*k+1,new,by simp,rfl,by simp,by omega,by simp,?_,?_⟩⟩,by simp,fun x hx _=>?_,by simp,by simp⟩
   ·rw[show (2*k+1) / 2=k by omega,hn];exact Nat.le_refl _
   ·simp[←hn]
   ·simp;omega
 ·have hcs:cs.length=n*es:=h0
  simp only[dU,hx,he,hby,hz,and_self,if_true]
  by_cases hk:k=0
  ·subst hk
   have:new=[]:=by simpa using hn
   subst this
   exact⟨_,_,[b],if_pos rfl,⟨by simp[h0],.inr ⟨b,c,all,rfl,rfl,hb,by omega,h2,h3,by simp[h4]⟩⟩,Mod.refl hlt⟩
  ·rw[if_neg hk]
   have hlen:n*es≤all.length:=Nat.le_trans (Nat.mul_le_mul_right _ hc) h3
   by_cases hfit:n+k≤c / 2
   ·rw[if_pos hfit,hs hk,h2]
    have hfl:n*es+new.length≤all.length:=by
     rw[hn,←Nat.add_mul]
     exact Nat.le_trans (Nat.mul_le_mul_right _ hfit) h3
    have hw:h.wr b (0+n*es) new=some (h.put b (.cells (dJ all (n*es) new) es .rw)):=by
     simp[aA.wr,h2,hfl]
    simp only[h1,and_self,if_true,hw,Option.map_some]
    refine⟨_,_,[b],rfl,⟨by simp[h0,hn,Nat.add_mul],.inr ⟨b,c,dJ all (n*es) new,rfl,rfl,hb,hfit,by simp,by rw[sY];exact h3,?_⟩⟩,by simp,fun x _ hx=>?_,fun x hx=>.inl hx,hlt⟩
    ·rw[uJ all new (n*es) hfl,h4,Nat.add_mul,←hn,←h0,←List.length_append,List.take_left]
    ·simp at hx;simp[hx]
   ·rw[if_neg hfit,if_pos hsum,hs hk]
    have hrd:h.rdN b 0 (n*es)=some cs:=by
     rw[kG h2,if_pos (by omega)];simpa using h4
    simp only[hrd,h2]
    have fin:∀h',(h'=h∨h'=h.kill b)→∃fp',Sl (h'.new (.cells (cs++new) es .rw)) fp' (.slice (some ⟨h.next,0,none⟩) (n+k) (2*(n+k)+1)) es (n+k) (cs++new)∧Mod h [b] (h'.new (.cells (cs++new) es .rw)) fp':=by
     intro h' hh
     have hnx:h'.next=h.next:=by rcases hh with rfl | rfl<;>rfl
     refine⟨[h.next],⟨by simp[h0,hn,Nat.add_mul],.inr ⟨h.next,_,cs++new,rfl,rfl,by simp[hnx],by omega,by simp[hnx],?_,?_⟩⟩,by simp[hnx],fun x hx hb=>?_,by simp,by simp[hnx]⟩
     ·rw[show (2*(n+k)+1) / 2=n+k by omega];simp[h0,hn,Nat.add_mul]
     ·rw[Nat.add_mul,←h0,←hn,←List.length_append,List.take_length]
     ·simp at hb
      have:x≠h.next:=by omega
      rcases hh with rfl | rfl<;>simp[hnx,this,hb]
    split
    ·obtain⟨fp',a,b'⟩:=fin h (.inl rfl)
     exact⟨_,_,fp',rfl,a,b'⟩
    ·obtain⟨fp',a,b'⟩:=fin (h.kill b) (.inr rfl)
     simp only[h1,ne_eq,reduceCtorEq,not_false_eq_true,and_self,if_true]
     exact⟨_,_,fp',rfl,a,b'⟩
end Go.Abs

/- Our own abstract machine, part 20: one order, with checks, serves all: the proof. -/
import Derived.Test.YthhegdifbnghpaaGreatDoorQag
import Derived.Orders
set_option linter.unusedSimpArgs false
set_option linter.unusedVariables false
namespace Go.Abs
open Go
section
variable {P:Program} {I:FuncId→Option Spec} {ops:Array Oper} {B:Array Nat}
theorem aBy {o:Oper} {e e':Nat→V} (h:∀d∈o.looksAt ops,e d=e' d):∀x∈o.op.operands,aEv e x=aEv e' x:=by
 intro x hx
 cases x with
 | tmp t=>exact h t (List.mem_append_left _ (List.mem_filterMap.2 ⟨.tmp t,by simpa using hx,rfl⟩))
 | _=>rfl
theorem aBz {o:Oper} {e e':Nat→V} (h:∀d∈o.looksAt ops,e d=e' d):eN ops o e=eN ops o e':=by
 unfold eN
 cases hg:o.guard with
 | none=>rfl
 | some gw=>
  obtain⟨g,want⟩:=gw
  simp only
  cases hd:(ops[g]?).bind (·.dst) with
  | none=>rfl
  | some d=>
   have:e d=e' d:=h d (by
    unfold Oper.looksAt
    apply List.mem_append_right
    simp only[hg,hd]
    simp)
   simp only[this]
theorem rB {i:Nat} {o:Oper} (h:ops[i]? = some o):i<ops.size:=(Array.getElem?_eq_some_iff.1 h).1
structure Ok (P:Program) (ops:Array Oper) (B:Array Nat):Prop where
 fwd:∀(i:Nat) (o:Oper),ops[i]? = some o→∀e∈o.after,Region.binds .any e=true→bef B i e.on=true∧e.on<ops.size
 edge:∀(i:Nat) (o:Oper),ops[i]? = some o→∀w,bef B i w=true→w<ops.size∧B.getD w 0<B.getD i 0∧∃e∈o.after,Region.binds .any e=true∧(e.on=w∨bef B e.on w=true)
 uniq:∀(i w:Nat) (oi ow:Oper) (d:Nat),ops[i]? = some oi→ops[w]? = some ow→ow.dst=some d→oi.dst=some d→i=w
 reads:∀(i w:Nat) (oi ow:Oper) (d:Nat),ops[i]? = some oi→ops[w]? = some ow→ow.dst=some d→d∈oi.looksAt ops →
  i≠w∧((bef B i w=true∧bef B w i=false)∨(bef B w i=true∧bef B i w=false∧(isP P oi.op=true∨isQ P oi.op=false)))
theorem aJ2 {t:Tr} (h:vF P ops B t=true):Ok P ops B∧sG ops B 0 t=true∧eW P ops B 0 t=true:=by
 simp only[vF,Bool.and_eq_true]at h
 obtain⟨⟨⟨h3,h4⟩,h5⟩,h6⟩:=h
 refine⟨⟨?_,?_,?_,?_⟩,h5,h6⟩
 ·intro i o ho e he hb
  have hi:=rB ho
  simp only[aFk,List.all_eq_true,List.mem_range]at h3
  have:=h3 i hi
  simp only[ho,Bool.and_eq_true,List.all_eq_true]at this
  have:=this.1.1 e.on (List.mem_map.2 ⟨e,List.mem_filter.2 ⟨by simpa using he,hb⟩,rfl⟩)
  simpa using this
 ·intro i o ho w hb
  have hi:=rB ho
  simp only[aFk,List.all_eq_true,List.mem_range]at h3
  have:=h3 i hi
  simp only[ho,Bool.and_eq_true,List.all_eq_true,decide_eq_true_eq]at this
  obtain⟨⟨_,t1⟩,t2⟩:=this
  have hw:w<ops.size:=by
   rcases Nat.lt_or_ge w ops.size with h | h
   ·exact h
   ·have:(B.getD i 0).testBit w=false:=Nat.testBit_lt_two_pow (Nat.lt_of_lt_of_le t2 (Nat.pow_le_pow_right (by omega) h))
    unfold bef at hb
    rw[this]at hb
    cases hb
  have:=t1 w (by simpa using hw)
  rw[hb]at this
  simp only[Bool.not_true,Bool.false_or,Bool.and_eq_true,decide_eq_true_eq,List.any_eq_true,Bool.or_eq_true,beq_iff_eq]at this
  obtain⟨a1,k,hk,hk2⟩:=this
  simp only[aF4,List.mem_map,List.mem_filter]at hk
  obtain⟨e,⟨he1,he2⟩,rfl⟩:=hk
  exact⟨hw,a1,e,by simpa using he1,he2,hk2⟩
 ·intro i w oi ow d hi hw hd hd2
  have hi':=rB hi
  have hw':=rB hw
  simp only[aH3,List.all_eq_true,List.mem_range]at h4
  have:=h4 w hw'
  simp only[hw,hd,List.all_eq_true,List.mem_range]at this
  have:=this i hi'
  simp only[hi,hd2,Bool.or_eq_true,Bool.and_eq_true,beq_iff_eq,bne_self_eq_false,Bool.false_eq_true,and_false,false_and,or_false]at this
  exact this.1
 ·intro i w oi ow d hi hw hd hl
  have hi':=rB hi
  have hw':=rB hw
  simp only[aH3,List.all_eq_true,List.mem_range]at h4
  have:=h4 w hw'
  simp only[hw,hd,List.all_eq_true,List.mem_range]at this
  have:=this i hi'
  have hc:(oi.looksAt ops).contains d=true:=by simpa using hl
  simp only[hi,hc,Bool.not_true,Bool.and_false,Bool.false_or,Bool.and_eq_true,bne_iff_ne,ne_eq,Bool.or_eq_true,Bool.not_eq_true',Bool.false_eq_true,false_or]at this
  obtain⟨⟨a1,_⟩,a2⟩:=this
  refine⟨a1,?_⟩
  rcases a2 with ⟨b1,b2⟩ | ⟨⟨b1,b2⟩,b3⟩
  ·exact .inl ⟨b1,b2⟩
  ·exact .inr ⟨b1,b2,b3⟩
theorem aYr {b m:Nat} (h:(b &&& m==b)=true) {w:Nat} (hw:b.testBit w=true):m.testBit w=true:=by
 have h:=eq_of_beq h
 have:=Nat.testBit_and b m w
 rw[h,hw]at this
 simpa using this.symm
theorem jL {m i j:Nat}:(m ||| 2 ^ i).testBit j=true↔m.testBit j=true∨i=j:=by
 rw[Nat.testBit_or,Nat.testBit_two_pow]
 simp
theorem aEd {m i:Nat} {q:Bool} (h:aEc P ops B m i q=true):∃o,ops[i]? = some o∧m.testBit i=false∧(∀w,bef B i w=true→m.testBit w=true)∧isQ P o.op=q∧(q=true→o.dst.isSome=true):=by
 unfold aEc at h
 cases ho:ops[i]? with
 | none=>rw[ho]at h;cases h
 | some o=>
  rw[ho]at h
  simp only[Bool.and_eq_true,Bool.not_eq_true',beq_iff_eq,Bool.or_eq_true]at h
  obtain⟨⟨⟨h1,h2⟩,h3⟩,h4⟩:=h
  refine⟨o,rfl,h1,fun w hw=>aYr (by simpa using h2) hw,h3,fun hq=>?_⟩
  rcases h4 with h4 | h4
  ·rw[hq]at h4;cases h4
  ·exact h4
open Classical in
noncomputable def gM (ops:Array Oper) (B:Array Nat) (e0 e:Nat→V) (i:Nat):Nat→V:=fun d=>
 if ∃w ow,ops[w]? = some ow∧ow.dst=some d∧bef B i w=true then e d else e0 d
def Ev (P:Program) (ops:Array Oper) (B:Array Nat) (e0 e:Nat→V) (h:aA) (j:Nat):Prop:=
 ∃o,ops[j]? = some o∧isQ P o.op=true ∧
  ((eN ops o (gM ops B e0 e j)=some true∧∃v,gG P o.op (gM ops B e0 e j) h=some v∧∀d,o.dst=some d→e d=v) ∨
   (eN ops o (gM ops B e0 e j)=some false∧∀d,o.dst=some d→e d=gone))
def Unw (ops:Array Oper) (S:Nat→Prop) (d:Nat):Prop:=∀j o,S j→ops[j]? = some o→o.dst≠some d
def F1 (ops:Array Oper) (e0 e:Nat→V) (S:Nat→Prop):Prop:=∀d,Unw ops S d→e d=e0 d
def Cl (B:Array Nat) (S:Nat→Prop):Prop:=∀j,S j→∀w,bef B j w=true→S w
theorem aHt (hk:Ok P ops B) {S:Nat→Prop} {i:Nat} {o:Oper} (ho:ops[i]? = some o) (hS:Cl B S) (hi:¬S i) {e0 e e':Nat→V}
 (hv:∀d w ow,ops[w]? = some ow→ow.dst=some d→bef B i w=true→e d=e' d) (hf:F1 ops e0 e S) :
 ∀d∈o.looksAt ops,e d=gM ops B e0 e' i d:=by
 intro d hd
 unfold gM
 split
 ·rename_i hw
  obtain⟨w,ow,h1,h2,h3⟩:=hw
  exact hv d w ow h1 h2 h3
 ·rename_i hn
  refine hf d fun j oj hj hoj hdj=>?_
  obtain⟨_,hr⟩:=hk.reads i j o oj d ho hoj hdj hd
  rcases hr with ⟨h1,_⟩ | ⟨h1,_,_⟩
  ·exact hn ⟨j,oj,hoj,hdj,h1⟩
  ·exact hi (hS j hj i h1)
theorem Ev.bZ {S:Nat→Prop} (hS:Cl B S) {e0 e e2:Nat→V} {h:aA} {j:Nat} (hj:S j) (hev:Ev P ops B e0 e h j)
 (hs:∀d w ow,S w→ops[w]? = some ow→ow.dst=some d→e2 d=e d):Ev P ops B e0 e2 h j:=by
 obtain⟨o,ho,hq,hc⟩:=hev
 have e1:gM ops B e0 e2 j=gM ops B e0 e j:=by
  funext d
  unfold gM
  split
  ·rename_i hw
   obtain⟨w,ow,hw1,hw2,hw3⟩:=hw
   exact hs d w ow (hS j hj w hw3) hw1 hw2
  ·rfl
 refine⟨o,ho,hq,?_⟩
 rw[e1]
 rcases hc with ⟨c1,v,c2,c3⟩ | ⟨c1,c2⟩
 ·exact .inl ⟨c1,v,c2,fun d hd=>by rw[hs d j o hj ho hd];exact c3 d hd⟩
 ·exact .inr ⟨c1,fun d hd=>by rw[hs d j o hj ho hd];exact c2 d hd⟩
theorem uC {e:Nat→V} {h:aA} {dst:Option Tmp} {v:V} {d:Nat} (hd:dst≠some d):((⟨e,h⟩:St).put dst v).e d=e d:=by
 cases dst with
 | none=>rfl
 | some x=>
  simp only[St.put]
  rw[if_neg (fun hh=>hd (by rw[hh]))]
theorem aDa {e:Nat→V} {h:aA} {v:V} {d:Nat}:((⟨e,h⟩:St).put (some d) v).e d=v:=by simp[St.put]
theorem uD {e:Nat→V} {h:aA} {dst:Option Tmp} {v:V}:(⟨e,h⟩:St).put dst v=⟨((⟨e,h⟩:St).put dst v).e,h⟩:=by cases dst<;>rfl
theorem uB {e:Nat→V} {h h':aA} {dst:Option Tmp} {v:V}:((⟨e,h⟩:St).put dst v).at h'=⟨((⟨e,h⟩:St).put dst v).e,h'⟩:=by cases dst<;>rfl
theorem F1.put {e0 e:Nat→V} {h:aA} {m i:Nat} {o:Oper} (ho:ops[i]? = some o) (hf:F1 ops e0 e (m.testBit ·= true)) (v:V) :
 F1 ops e0 ((⟨e,h⟩:St).put o.dst v).e ((m ||| 2 ^ i).testBit ·= true):=by
 intro d hd
 have h1:o.dst≠some d:=hd i o (jL.2 (.inr rfl)) ho
 rw[uC h1]
 exact hf d fun j oj hj=>hd j oj (jL.2 (.inl hj))
theorem Cl.put {m i:Nat} (hS:Cl B (m.testBit ·= true)) (hi:∀w,bef B i w=true→m.testBit w=true):Cl B ((m ||| 2 ^ i).testBit ·= true):=by
 intro j hj w hw
 rcases jL.1 hj with hj | rfl
 ·exact jL.2 (.inl (hS j hj w hw))
 ·exact jL.2 (.inl (hi w hw))
def Tr.yV:Tr→Bool
 | .q ..=>false
 | _=>true
theorem advance (hk:Ok P ops B) {e0:Nat→V} {h:aA} {K:St→Prop}:∀(t:Tr) (m:Nat) (e:Nat→V),Cl B (m.testBit ·= true)→F1 ops e0 e (m.testBit ·= true) →
 sG ops B m t=true→eW P ops B m t=true→dQ P I ops t ⟨e,h⟩ K →
 ∃m2 t2 e2,t2.yV=true∧(∀j,m.testBit j=true→m2.testBit j=true)∧(∀j,m2.testBit j=true→m.testBit j=false→Ev P ops B e0 e2 h j) ∧
  Cl B (m2.testBit ·= true)∧F1 ops e0 e2 (m2.testBit ·= true)∧sG ops B m2 t2=true∧eW P ops B m2 t2=true∧dQ P I ops t2 ⟨e2,h⟩ K ∧
  (∀d w ow,m.testBit w=true→ops[w]? = some ow→ow.dst=some d→e2 d=e d)
 | .q i t,m,e,hS,hf,hc,ht,hone=>by
  simp only[eW,Bool.and_eq_true]at ht
  obtain⟨⟨ht1,ht2⟩,ht3⟩:=ht
  obtain⟨o,ho,hni,hpre,hq,_⟩:=aEd ht1
  have hsee:=aHt (e0:=e0) (e:=e) (e':=e) hk ho hS (by simp[hni]) (fun _ _ _ _ _ _=>rfl) hf
  have hw:=aBz (ops:=ops) (o:=o) hsee
  have go:∀(v:V),dQ P I ops t ⟨((⟨e,h⟩:St).put o.dst v).e,h⟩ K →
   ((eN ops o (gM ops B e0 e i)=some true∧gG P o.op (gM ops B e0 e i) h=some v)∨(eN ops o (gM ops B e0 e i)=some false∧v=gone)) →
   ∃m2 t2 e2,t2.yV=true∧(∀j,m.testBit j=true→m2.testBit j=true)∧(∀j,m2.testBit j=true→m.testBit j=false→Ev P ops B e0 e2 h j) ∧
    Cl B (m2.testBit ·= true)∧F1 ops e0 e2 (m2.testBit ·= true)∧sG ops B m2 t2=true∧eW P ops B m2 t2=true∧dQ P I ops t2 ⟨e2,h⟩ K ∧
    (∀d w ow,m.testBit w=true→ops[w]? = some ow→ow.dst=some d→e2 d=e d):=by
   intro v hone' hv
   obtain⟨m2,t2,e2,a1,a2,a3,a4,a5,a6,a7,a8,a9⟩:=advance hk t (m ||| 2 ^ i) ((⟨e,h⟩:St).put o.dst v).e (hS.put hpre) (hf.put ho v) ht2 ht3 hone'
   have same:∀d w ow,m.testBit w=true→ops[w]? = some ow→ow.dst=some d→e2 d=e d:=by
    intro d w ow hwm how hwd
    rw[a9 d w ow (jL.2 (.inl hwm)) how hwd]
    refine uC fun hd=>?_
    have:=hk.uniq i w o ow d ho how hwd hd
    subst this
    rw[hni]at hwm
    cases hwm
   refine⟨m2,t2,e2,a1,fun j hj=>a2 j (jL.2 (.inl hj)),fun j hj hjm=>?_,a4,a5,a6,a7,a8,same⟩
   by_cases hji:i=j
   ·subst hji
    have e1:gM ops B e0 e2 i=gM ops B e0 e i:=by
     funext d
     unfold gM
     split
     ·rename_i hx
      obtain⟨w,ow,b1,b2,b3⟩:=hx
      exact same d w ow (hpre w b3) b1 b2
     ·rfl
    have e3:∀d,o.dst=some d→e2 d=v:=by
     intro d hd
     rw[a9 d i o (jL.2 (.inr rfl)) ho hd,hd,aDa]
    refine⟨o,ho,hq,?_⟩
    rw[e1]
    rcases hv with ⟨v1,v2⟩ | ⟨v1,rfl⟩
    ·exact .inl ⟨v1,v,v2,e3⟩
    ·exact .inr ⟨v1,e3⟩
   ·refine a3 j hj ?_
    cases hb:(m ||| 2 ^ i).testBit j with
    | false=>rfl
    | true=>rcases jL.1 hb with hb | hb
            ·rw[hjm]at hb;cases hb
            ·exact absurd hb hji
  simp only[dQ,ho]at hone
  rw[hw]at hone
  split at hone
  ·rename_i hwt
   rw[sH hq,aH8 hq (aBy (ops:=ops) hsee)]at hone
   cases hvd:gG P o.op (gM ops B e0 e i) h with
   | none=>rw[hvd]at hone;simp at hone
   | some v=>
    rw[hvd]at hone
    simp only[mC]at hone
    rw[uB]at hone
    exact go v hone (.inl ⟨hwt,hvd⟩)
  ·rename_i hwt
   rw[uD]at hone
   exact go gone hone (.inr ⟨hwt,rfl⟩)
  ·exact hone.elim
 | .done,m,e,hS,hf,hc,ht,hone=>⟨m,.done,e,rfl,fun _ h=>h,fun j h1 h2=>absurd h1 (by rw[h2];exact Bool.false_ne_true),hS,hf,hc,ht,hone,fun _ _ _ _ _ _=>rfl⟩
 | .c i ws t,m,e,hS,hf,hc,ht,hone=>⟨m,.c i ws t,e,rfl,fun _ h=>h,fun j h1 h2=>absurd h1 (by rw[h2];exact Bool.false_ne_true),hS,hf,hc,ht,hone,fun _ _ _ _ _ _=>rfl⟩
 | .fork a b,m,e,hS,hf,hc,ht,hone=>⟨m,.fork a b,e,rfl,fun _ h=>h,fun j h1 h2=>absurd h1 (by rw[h2];exact Bool.false_ne_true),hS,hf,hc,ht,hone,fun _ _ _ _ _ _=>rfl⟩
theorem aJn {e:Nat→V} {h:aA} {p:Prop}:∀{l:List Nat},pD P ops e h l p→(∀j∈l,chk P ops j e h)∧p
 | [],hp=>⟨fun j hj=>by simp at hj,hp⟩
 | j::l,⟨h1,h2⟩=>by
  obtain⟨a,b⟩:=aJn h2
  refine⟨fun k hk=>?_,b⟩
  rcases List.mem_cons.1 hk with rfl | hk
  ·exact h1
  ·exact a k hk
theorem aC7 {m i:Nat} {s:St} {K:St→Prop}:∀(t:Tr),i∈t.kZ→eW P ops B m t=true→dQ P I ops t s K →
 ∃ws t',eW P ops B m (.c i ws t')=true∧dQ P I ops (.c i ws t') s K
 | .done,hi,_,_=>by simp[Tr.kZ]at hi
 | .q _ _,hi,_,_=>by simp[Tr.kZ]at hi
 | .c j ws t,hi,ht,ho=>by
  simp only[Tr.kZ,List.mem_singleton]at hi
  subst hi
  exact⟨ws,t,ht,ho⟩
 | .fork a b,hi,ht,ho=>by
  simp only[eW,Bool.and_eq_true]at ht
  rcases List.mem_append.1 hi with hi | hi
  ·exact aC7 a hi ht.1.2 ho.1
  ·exact aC7 b hi ht.2 ho.2
structure Inv (P:Program) (I:FuncId→Option Spec) (ops:Array Oper) (B:Array Nat) (e0:Nat→V) (K:St→Prop) (S:Nat→Prop) (e:Nat→V) (h:aA) (m:Nat) (t:Tr) (x:Nat→V):Prop where
 nq:t.yV=true
 cl:Cl B (m.testBit ·= true)
 cov:sG ops B m t=true
 tree:eW P ops B m t=true
 f1:F1 ops e0 x (m.testBit ·= true)
 one:dQ P I ops t ⟨x,h⟩ K
 sub:∀i,S i→m.testBit i=true
 scl:Cl B S
 chg:∀j o,m.testBit j=true→ops[j]? = some o→isQ P o.op=false→S j
 val:∀d w ow,S w→ops[w]? = some ow→ow.dst=some d→e d=x d
 f2:F1 ops e0 e S
 late:∀j,m.testBit j=true→¬S j→Ev P ops B e0 x h j
end
end Go.Abs

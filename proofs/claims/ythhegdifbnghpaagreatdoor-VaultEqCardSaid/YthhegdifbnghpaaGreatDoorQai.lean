/- Our own abstract machine, part 21: one order, with checks, serves all: the steps. -/
import Derived.Test.YthhegdifbnghpaaGreatDoorQah
set_option linter.unusedSimpArgs false
set_option linter.unusedVariables false
namespace Go.Abs
open Go
section
variable {P:Program} {I:FuncId→Option Spec} {ops:Array Oper} {B:Array Nat}
theorem Inv.seen (hk:Ok P ops B) {e0 e x:Nat→V} {K:St→Prop} {S:Nat→Prop} {h:aA} {m:Nat} {t:Tr} (v:Inv P I ops B e0 K S e h m t x) {i:Nat} {o:Oper} (ho:ops[i]? = some o)
 (hi:¬S i) (hp:∀w,bef B i w=true→S w):∀d∈o.looksAt ops,e d=gM ops B e0 x i d:=
 aHt hk ho v.scl hi (fun d w ow h1 h2 h3=>v.val d w ow (hp w h3) h1 h2) v.f2
def Add (S:Nat→Prop) (i:Nat):Nat→Prop:=fun j=>S j∨j=i
theorem Cl.add {S:Nat→Prop} {i:Nat} (hS:Cl B S) (hp:∀w,bef B i w=true→S w):Cl B (Add S i):=by
 intro j hj w hw
 rcases hj with hj | rfl
 ·exact .inl (hS j hj w hw)
 ·exact .inl (hp w hw)
theorem F1.add {S:Nat→Prop} {i:Nat} {o:Oper} (ho:ops[i]? = some o) {e0 e:Nat→V} {h:aA} (hf:F1 ops e0 e S) (v:V):F1 ops e0 ((⟨e,h⟩:St).put o.dst v).e (Add S i):=by
 intro d hd
 rw[uC (hd i o (.inr rfl) ho)]
 exact hf d fun j oj hj=>hd j oj (.inl hj)
theorem Inv.aVa (hk:Ok P ops B) {e0 e x:Nat→V} {K:St→Prop} {S:Nat→Prop} {h:aA} {m:Nat} {t:Tr} (v:Inv P I ops B e0 K S e h m t x) {i:Nat} {o:Oper} (ho:ops[i]? = some o)
 (hi:¬S i) (hp:∀w,bef B i w=true→S w) (hm:m.testBit i=true) {K':St→Prop}
 (hK:∀e',Inv P I ops B e0 K (Add S i) e' h m t x→K' ⟨e',h⟩):opD P I ops i ⟨e,h⟩ K':=by
 have hsee:=v.seen hk ho hi hp
 have hw:=aBz (ops:=ops) (o:=o) hsee
 obtain⟨o',ho',hq,hc⟩:=v.late i hm hi
 rw[ho]at ho';cases ho'
 have next:∀u,(∀d,o.dst=some d→x d=u)→K' ⟨((⟨e,h⟩:St).put o.dst u).e,h⟩:=by
  intro u hu
  refine hK _ ⟨v.nq,v.cl,v.cov,v.tree,v.f1,v.one,?_,v.scl.add hp,fun j oj hj hoj hqj=>.inl (v.chg j oj hj hoj hqj),?_,v.f2.add ho u,fun j hj hnj=>v.late j hj fun hs=>hnj (.inl hs)⟩
  ·rintro j (hj | rfl)
   ·exact v.sub j hj
   ·exact hm
  ·intro d w ow hsw how hwd
   by_cases hd:o.dst=some d
   ·rw[hd,aDa,hu d hd]
   ·rw[uC hd]
    rcases hsw with hsw | rfl
    ·exact v.val d w ow hsw how hwd
    ·rw[ho]at how;cases how;exact absurd hwd hd
 simp only[opD,ho]
 rw[hw]
 rcases hc with ⟨c1,u,c2,c3⟩ | ⟨c1,c2⟩
 ·rw[c1]
  simp only
  rw[sH hq,aH8 hq (aBy (ops:=ops) hsee),c2]
  simp only[mC]
  rw[uB]
  exact next u c3
 ·rw[c1]
  simp only
  rw[uD]
  exact next gone c2
theorem Inv.aT9 (hM:aJ I) (hk:Ok P ops B) {e0 e x:Nat→V} {K:St→Prop} {S:Nat→Prop} {h:aA} {m:Nat} {t:Tr} (v:Inv P I ops B e0 K S e h m t x) {i:Nat} {o:Oper} (ho:ops[i]? = some o)
 (hi:¬S i) (hp:∀w,bef B i w=true→S w) (hh:i∈t.kZ) {K':St→Prop}
 (hK:∀e' h' m' t' x',Inv P I ops B e0 K (Add S i) e' h' m' t' x'→K' ⟨e',h'⟩):opD P I ops i ⟨e,h⟩ K':=by
 obtain⟨ws,t',ht,hone⟩:=aC7 t hh v.tree v.one
 simp only[eW,Bool.and_eq_true]at ht
 obtain⟨⟨⟨ht1,ht2⟩,ht3⟩,ht4⟩:=ht
 obtain⟨o',ho',hni,hpre,hq,_⟩:=aEd ht1
 rw[ho]at ho';cases ho'
 have hsee:=v.seen hk ho hi hp
 have hsee2:=aHt (e0:=e0) (e:=x) (e':=x) hk ho v.cl (by simp[hni]) (fun _ _ _ _ _ _=>rfl) v.f1
 have hex:∀d∈o.looksAt ops,e d=x d:=fun d hd=>by rw[hsee d hd,hsee2 d hd]
 have hw:=aBz (ops:=ops) (o:=o) hex
 have hun:∀d w ow,m.testBit w=true→ops[w]? = some ow→ow.dst=some d→o.dst≠some d:=by
  intro d w ow hwm how hwd hd
  have:=hk.uniq i w o ow d ho how hwd hd
  subst this
  rw[hni]at hwm
  cases hwm
 have next:∀u h',dQ P I ops t' ⟨((⟨x,h⟩:St).put o.dst u).e,h'⟩ K→(∀j,m.testBit j=true→¬S j→Ev P ops B e0 x h' j)→K' ⟨((⟨e,h⟩:St).put o.dst u).e,h'⟩:=by
  intro u h' hone' hlate
  obtain⟨m2,t2,x2,a1,a2,a3,a4,a5,a6,a7,a8,a9⟩:=advance hk t' (m ||| 2 ^ i) ((⟨x,h⟩:St).put o.dst u).e (v.cl.put hpre) (v.f1.put ho u) ht3 ht4 hone'
  have same:∀d w ow,m.testBit w=true→ops[w]? = some ow→ow.dst=some d→x2 d=x d:=by
   intro d w ow hwm how hwd
   rw[a9 d w ow (jL.2 (.inl hwm)) how hwd,uC (hun d w ow hwm how hwd)]
  refine hK _ _ m2 t2 x2 ⟨a1,a4,a6,a7,a5,a8,?_,v.scl.add hp,?_,?_,v.f2.add ho u,?_⟩
  ·rintro j (hj | rfl)
   ·exact a2 j (jL.2 (.inl (v.sub j hj)))
   ·exact a2 j (jL.2 (.inr rfl))
  ·intro j oj hj hoj hqj
   by_cases hji:j=i
   ·exact .inr hji
   ·cases hb:m.testBit j with
    | true=>exact .inl (v.chg j oj hb hoj hqj)
    | false=>
     have hb2:(m ||| 2 ^ i).testBit j=false:=by
      cases hc:(m ||| 2 ^ i).testBit j with
      | false=>rfl
      | true=>
       rcases jL.1 hc with hc | hc
       ·rw[hb]at hc;cases hc
       ·exact absurd hc.symm hji
     obtain⟨oj',hoj',hqj',_⟩:=a3 j hj hb2
     rw[hoj]at hoj';cases hoj'
     rw[hqj]at hqj'
     cases hqj'
  ·intro d w ow hsw how hwd
   rcases hsw with hsw | rfl
   ·have hwm:=v.sub w hsw
    rw[uC (hun d w ow hwm how hwd),same d w ow hwm how hwd]
    exact v.val d w ow hsw how hwd
   ·rw[ho]at how;cases how
    rw[a9 d w o (jL.2 (.inr rfl)) ho hwd,hwd,aDa,aDa]
  ·intro j hj hnj
   cases hb:m.testBit j with
   | true=>exact (hlate j hb fun hs=>hnj (.inl hs)).bZ v.cl hb same
   | false=>
    refine a3 j hj ?_
    cases hc:(m ||| 2 ^ i).testBit j with
    | false=>rfl
    | true=>
     rcases jL.1 hc with hc | hc
     ·rw[hb]at hc;cases hc
     ·exact absurd (.inr hc.symm) hnj
 simp only[dQ,ho]at hone
 simp only[opD,ho]
 rw[hw]
 split at hone
 ·rename_i hwt
  rw[hwt]
  simp only
  rw[aF3 (aBy (ops:=ops) hex)]
  refine lZ hM (fun u h' hu=>?_) hone
  obtain⟨hck,hrest⟩:=aJn hu
  rw[uB]at hrest ⊢
  refine next u h' hrest fun j hj hnj=>?_
  obtain⟨oj,hoj,hqj,hc⟩:=v.late j hj hnj
  rcases hc with ⟨c1,y,c2,c3⟩ | ⟨c1,c2⟩
  ·refine⟨oj,hoj,hqj,.inl ⟨c1,?_⟩⟩
   cases hpj:isP P oj.op with
   | true=>exact⟨y,by rw[aZj hpj _ h' h];exact c2,c3⟩
   | false=>
    have hwj:j∈ws:=by
     simp only[aPk,List.all_eq_true,List.mem_range]at ht2
     have:=ht2 j (rB hoj)
     have hbn:bef B i j=false:=by
      cases hb:bef B i j with
      | false=>rfl
      | true=>exact absurd (hp j hb) hnj
     simp only[hj,hoj,hpj,hqj,hbn,Bool.not_true,Bool.false_or,Bool.or_false,Bool.or_self]at this
     simpa using this
    have:=hck j hwj
    simp only[chk,hoj]at this
    have hseej:∀d∈oj.looksAt ops,x d=gM ops B e0 x j d:=by
     intro d hd
     unfold gM
     split
     ·rfl
     ·rename_i hn
      refine v.f1 d fun w ow hwm how hwd=>?_
      obtain⟨_,hr⟩:=hk.reads j w oj ow d hoj how hwd hd
      rcases hr with ⟨h1,_⟩ | ⟨_,_,h3⟩
      ·exact hn ⟨w,ow,how,hwd,h1⟩
      ·rcases h3 with h3 | h3
       ·rw[hpj]at h3;cases h3
       ·rw[hqj]at h3;cases h3
    rw[aBz (ops:=ops) (o:=oj) hseej,c1]at this
    cases hdj:oj.dst with
    | none=>rw[hdj]at this;exact this.elim
    | some d=>
     rw[hdj]at this
     simp only at this
     rw[aH8 hqj (aBy (ops:=ops) hseej)]at this
     exact⟨x d,this,fun d' hd'=>by cases hd';rfl⟩
  ·exact⟨oj,hoj,hqj,.inr ⟨c1,c2⟩⟩
 ·rename_i hwt
  rw[hwt]
  simp only
  rw[uD]at hone ⊢
  exact next gone h hone v.late
 ·exact hone.elim
theorem progress (hk:Ok P ops B) {L:Array Bool} (hL:L.size=ops.size):∀(k i:Nat),B.getD i 0=k→i<ops.size→L.getD i false=false→∃j,j∈Region.ready .any ops L:=by
 intro k
 induction k using Nat.strongRecOn with
 | ind k ih=>
  intro i hik hi hl
  obtain⟨o,ho⟩:∃o,ops[i]? = some o:=⟨ops[i],by simp[hi]⟩
  by_cases hr:∀e∈o.after,Region.binds .any e=true→L.getD e.on false=true
  ·refine⟨i,?_⟩
   unfold Region.ready
   refine List.mem_filter.2 ⟨List.mem_range.2 hi,?_⟩
   have hl':L.getD i true=false:=by
    rw[Array.getD_eq_getD_getElem?]at hl ⊢
    rw[Array.getElem?_eq_getElem (by omega)]at hl ⊢
    exact hl
   simp only[hl',ho,Bool.not_false,Option.map_some,Option.getD_some,Bool.true_and,Array.all_eq_true_iff_forall_mem,Bool.or_eq_true,Bool.not_eq_true']
   intro e he
   cases hb:Region.binds .any e with
   | false=>exact .inl rfl
   | true=>exact .inr (hr e he hb)
  ·obtain⟨e,he,hb,hn⟩:∃e,e∈o.after∧Region.binds .any e=true∧¬L.getD e.on false=true:=by
    apply Classical.byContradiction
    intro hno
    exact hr fun e he hb=>Classical.byContradiction fun hn=>hno ⟨e,he,hb,hn⟩
   obtain⟨f1,f2⟩:=hk.fwd i o ho e he hb
   obtain⟨_,f3,_⟩:=hk.edge i o ho e.on f1
   exact ih _ (by omega) e.on rfl f2 (by simpa using hn)
theorem aJu {p q:Nat→Bool} {i:Nat} (hp:p i=true) (hq:q i=false) (hpq:∀j,q j=true→p j=true):∀{l:List Nat},i∈l→(l.filter q).length<(l.filter p).length
 | [],h=>by simp at h
 | a::l,h=>by
  have le:(l.filter q).length≤(l.filter p).length:=by
   clear h
   induction l with
   | nil=>simp
   | cons b l ih=>
    simp only[List.filter_cons]
    cases hb:q b with
    | true=>simp only[hpq b hb,if_true,List.length_cons];omega
    | false=>
     simp only[Bool.false_eq_true,if_false]
     cases p b<;>simp<;>omega
  simp only[List.filter_cons]
  by_cases hai:a=i
  ·subst hai
   simp only[hp,hq,if_true,Bool.false_eq_true,if_false,List.length_cons]
   omega
  ·have:=aJu hp hq hpq (l:=l) (by simpa[Ne.symm hai]using h)
   cases hb:q a with
   | true=>simp only[hpq a hb,if_true,List.length_cons];omega
   | false=>
    simp only[Bool.false_eq_true,if_false]
    cases p a<;>simp<;>omega
theorem aQz (hM:aJ I) (hk:Ok P ops B) {e0:Nat→V} {K:St→Prop}:∀(fuel:Nat) (L:Array Bool) (e:Nat→V) (h:aA) (m:Nat) (t:Tr) (x:Nat→V),L.size=ops.size →
 ((List.range ops.size).filter fun i=>!L.getD i false).length≤fuel→(∀i,L.getD i false=true→i<ops.size) →
 Inv P I ops B e0 K (fun i=>L.getD i false=true) e h m t x→pX P I ops fuel L ⟨e,h⟩ K:=by
 have fin:∀(L:Array Bool) (e:Nat→V) (h:aA) (m:Nat) (t:Tr) (x:Nat→V),L.size=ops.size→Region.ready .any ops L=[] →
  Inv P I ops B e0 K (fun i=>L.getD i false=true) e h m t x→K ⟨e,h⟩:=by
  intro L e h m t x hL hr v
  have all:∀i,i<ops.size→L.getD i false=true:=by
   intro i hi
   cases hl:L.getD i false with
   | true=>rfl
   | false=>
    obtain⟨j,hj⟩:=progress hk hL _ i rfl hi hl
    rw[hr]at hj
    simp at hj
  have hx:e=x:=by
   funext d
   by_cases hd:∃(w:Nat) (ow:Oper),ops[w]? = some ow∧ow.dst=some d
   ·obtain⟨w,ow,h1,h2⟩:=hd
    exact v.val d w ow (all w (rB h1)) h1 h2
   ·rw[v.f2 d fun w ow _ h1 h2=>hd ⟨w,ow,h1,h2⟩,v.f1 d fun w ow _ h1 h2=>hd ⟨w,ow,h1,h2⟩]
  subst hx
  have hone:=v.one
  have nohead:∀i,i∈t.kZ→False:=by
   intro i hi
   obtain⟨ws,t',ht,_⟩:=aC7 t hi v.tree v.one
   simp only[eW,Bool.and_eq_true]at ht
   obtain⟨o,ho,hni,_⟩:=aEd ht.1.1.1
   have:=v.sub i (all i (rB ho))
   rw[hni]at this
   cases this
  have ends:∀t:Tr,t.yV=true→eW P ops B m t=true→(∀i,i∈t.kZ→False)→t = .done:=by
   intro t
   induction t with
   | done=>intros;rfl
   | q i t _=>intro h;cases h
   | c i ws t _=>intro _ _ h;exact (h i (by simp[Tr.kZ])).elim
   | fork a b iha ihb=>
    intro _ ht h
    simp only[eW,Bool.and_eq_true]at ht
    have ha:a.yV=true:=by have:=ht.1.1.1;cases a<;>first | rfl | cases this
    have:=iha ha ht.1.2 fun i hi=>h i (by simp[Tr.kZ,hi])
    subst this
    have:=ht.1.1.1
    cases this
  have:=ends t v.nq v.tree nohead
  subst this
  exact hone
 intro fuel
 induction fuel with
 | zero=>
  intro L e h m t x hL hf hlt v
  have hr:Region.ready .any ops L=[]:=by
   apply List.eq_nil_iff_forall_not_mem.2
   intro i hi
   obtain⟨hi1,hi2⟩:=List.mem_filter.1 hi
   have hi1:=List.mem_range.1 hi1
   simp only[Bool.and_eq_true,Bool.not_eq_true']at hi2
   have hlf:L.getD i false=false:=by
    have:=hi2.1
    rw[Array.getD_eq_getD_getElem?]at this ⊢
    rw[Array.getElem?_eq_getElem (by omega)]at this ⊢
    exact this
   have:i∈((List.range ops.size).filter fun i=>!L.getD i false):=List.mem_filter.2 ⟨List.mem_range.2 hi1,by simp[hlf]⟩
   have:=List.length_pos_of_mem this
   omega
  exact⟨hr,fin L e h m t x hL hr v⟩
 | succ fuel ih=>
  intro L e h m t x hL hf hlt v
  refine⟨fun hr=>fin L e h m t x hL hr v,fun i hi=>?_⟩
  obtain⟨hi1,hi2⟩:=List.mem_filter.1 hi
  have hi1:=List.mem_range.1 hi1
  obtain⟨o,ho⟩:∃o,ops[i]? = some o:=⟨ops[i],by simp[hi1]⟩
  simp only[ho,Option.map_some,Option.getD_some,Bool.and_eq_true,Bool.not_eq_true',Array.all_eq_true_iff_forall_mem,Bool.or_eq_true]at hi2
  obtain⟨hi3,hi4⟩:=hi2
  have hlf:L.getD i false=false:=by
   rw[Array.getD_eq_getD_getElem?]at hi3 ⊢
   rw[Array.getElem?_eq_getElem (by omega)]at hi3 ⊢
   exact hi3
  have hp:∀w,bef B i w=true→L.getD w false=true:=by
   intro w hw
   obtain⟨_,_,ed,he,hb,hc⟩:=hk.edge i o ho w hw
   have hl:L.getD ed.on false=true:=by
    rcases hi4 ed he with h | h
    ·rw[hb]at h;cases h
    ·exact h
   rcases hc with rfl | hc
   ·exact hl
   ·exact v.scl ed.on hl w hc
  have hset:∀j,(L.setIfInBounds i true).getD j false=true↔(L.getD j false=true∨j=i):=by
   intro j
   simp only[Array.getD_eq_getD_getElem?,Array.getElem?_setIfInBounds]
   by_cases hji:i=j
   ·subst hji
    simp[hL,hi1]
   ·simp[hji,Ne.symm hji]
  have hS:(fun j=>(L.setIfInBounds i true).getD j false=true)=Add (fun j=>L.getD j false=true) i:=by
   funext j
   exact propext (hset j)
  have hcount:((List.range ops.size).filter fun i_1=>!(L.setIfInBounds i true).getD i_1 false).length≤fuel:=by
   have:=aJu (p:=fun j=>!L.getD j false) (q:=fun j=>!(L.setIfInBounds i true).getD j false) (i:=i) (by simp[hlf]) (by simp[(hset i).2 (.inr rfl)]) (fun j hj=>by
    simp only[Bool.not_eq_true']at hj ⊢
    cases hl:L.getD j false with
    | false=>rfl
    | true=>rw[(hset j).2 (.inl hl)]at hj;cases hj) (List.mem_range.2 hi1)
   omega
  have hns:¬(L.getD i false=true):=by rw[hlf];exact Bool.false_ne_true
  have hlt2:∀j,(L.setIfInBounds i true).getD j false=true→j<ops.size:=by
   intro j hj
   rcases (hset j).1 hj with hj | rfl
   ·exact hlt j hj
   ·exact hi1
  cases hm:m.testBit i with
  | true=>
   refine v.aVa hk ho hns hp hm fun e' v'=>?_
   exact ih _ e' h m t x (by simp[hL]) hcount hlt2 (by rw[hS];exact v')
  | false=>
   have hh:i∈t.kZ:=by
    have hc:=v.cov
    have hnq:=v.nq
    have:((List.range ops.size).all fun i=>m.testBit i||t.kZ.contains i||(B.getD i 0 &&& m) != B.getD i 0)=true:=by
     cases t with
     | q=>cases hnq
     | _=>exact hc
    simp only[List.all_eq_true,List.mem_range]at this
    have:=this i hi1
    have hsub:(B.getD i 0 &&& m)=B.getD i 0:=by
     apply Nat.eq_of_testBit_eq
     intro w
     rw[Nat.testBit_and]
     cases hb:(B.getD i 0).testBit w with
     | false=>rfl
     | true=>simp[v.sub w (hp w hb)]
    rw[hm,hsub]at this
    simpa using this
   refine v.aT9 hM hk ho hns hp hh fun e' h' m' t' x' v'=>?_
   exact ih _ e' h' m' t' x' (by simp[hL]) hcount hlt2 (by rw[hS];exact v')
theorem aNa (hM:aJ I) {t:Tr} (hd:vF P ops B t=true) {s:St} {K:St→Prop} (hone:dQ P I ops t s K):pX P I ops ops.size (Array.replicate ops.size false) s K:=by
 obtain⟨hk,hc,ht⟩:=aJ2 hd
 obtain⟨e,h⟩:=s
 have z:∀j,(Array.replicate ops.size false).getD j false=false:=by
  intro j
  rw[Array.getD_eq_getD_getElem?,Array.getElem?_replicate]
  split<;>rfl
 obtain⟨m2,t2,e2,a1,a2,a3,a4,a5,a6,a7,a8,a9⟩:=advance (e0:=e) hk t 0 e (fun j hj=>by simp at hj) (fun d _=>rfl) hc ht hone
 refine aQz hM hk (e0:=e) _ _ e h m2 t2 e2 (by simp) (by simpa using List.length_filter_le _ (List.range ops.size)) (fun i hi=>by rw[z]at hi;cases hi) ⟨a1,a4,a6,a7,a5,a8,?_,?_,?_,?_,fun d _=>rfl,?_⟩
 ·intro i hi;rw[z]at hi;cases hi
 ·intro i hi;rw[z]at hi;cases hi
 ·intro j o hj ho hq
  obtain⟨o',ho',hq',_⟩:=a3 j hj (by simp)
  rw[ho]at ho';cases ho'
  rw[hq]at hq';cases hq'
 ·intro d w ow hi;rw[z]at hi;cases hi
 ·intro j hj _
  exact a3 j hj (by simp)
end
end Go.Abs

/- Specs on abstract heaps, part 39: spaces that are compared, whichever they are. -/
import Derived.Test.YthhegdifbnghpaaGreatDoorQbc
import Derived.Test.YthhegdifbnghpaaGreatDoorQav
import Derived.Test.YthhegdifbnghpaaGreatDoorQam
import Derived.Deep.Slices
import Derived.Test.YthhegdifbnghpaaGreatDoorQay
import Derived.SizedLaws
import Derived.Test.YthhegdifbnghpaaGreatDoorQbb
import Derived.Test.YthhegdifbnghpaaGreatDoorQaw
import Derived.Test.YthhegdifbnghpaaGreatDoorQax
set_option linter.unusedSimpArgs false
set_option linter.unusedVariables false
namespace Go.Abs
open Go Go.Proofs
variable {E E1:FE} {h h':aA} {p q:V}
theorem aV2 (m n:Msg) (c:Bool):∃b:Bool,aC (.struct [(0,.int),(1,.string),(2,.int),(3,.int)]) .neq c m.agg n.agg h=some (.bool b)∧(b=false↔m=n):=by
 obtain⟨i1,v1,c1,t1⟩:=m
 obtain⟨i2,v2,c2,t2⟩:=n
 by_cases h1:i1=i2
 ·by_cases h2:v1=v2
  ·by_cases h3:c1=c2
   ·by_cases h4:t1=t2
    ·exact⟨false,by simp[aC,Msg.agg,eqD,fK,h1,h2,h3,h4],by simp[h1,h2,h3,h4]⟩
    ·exact⟨true,by simp[aC,Msg.agg,eqD,fK,h1,h2,h3,h4],by simp[h4]⟩
   ·exact⟨true,by simp[aC,Msg.agg,eqD,fK,h1,h2,h3],by simp[h3]⟩
  ·have:(v1.toList==v2.toList)=false:=by rw[aFj];simp[h2]
   exact⟨true,by simp[aC,Msg.agg,eqD,fK,h1,this],by simp[h2]⟩
 ·exact⟨true,by simp[aC,Msg.agg,eqD,fK,h1],by simp[h1]⟩
theorem aY2 {α:Type} {a b:List α} (hl:a.length=b.length) {i:Nat} (hi:i<a.length) (ht:a.take i=b.take i) (he:a[i]=b[i]'(by omega)):a.take (i+1)=b.take (i+1):=by
 rw[List.take_succ_eq_append_getElem hi,List.take_succ_eq_append_getElem (by omega:i<b.length),ht,he]
theorem aKa {v w:V} {a b:List Msg} {fa fb:List Nat} (ha:Ms h fa v a) (hb:Ms h fb w b) (hsz:a.length≤1000000) :
 cl (Go.Abs.F.lM E) [v,w] h fun r h'=>h'=h∧∃x:Bool,r = .bool x∧(x=true↔a=b):=by
 refine aN ?_
 have l1:=Sl.len ha
 have l2:=Sl.len hb
 simp only[Go.Abs.F.lM,l1,l2,aB,gK,aG]
 by_cases hl:a.length=b.length
 ·have e:((a.length:Int) != (b.length:Int))=false:=by simp[hl]
  rw[e]
  simp only[Bool.false_eq_true,if_false]
  refine⟨fun k vs h'=>∃i:Nat,i≤a.length∧k=a.length - i∧vs=[i64 i]∧h'=h∧a.take i=b.take i,a.length,⟨0,by omega,by omega,rfl,rfl,by simp⟩,?_⟩
  rintro k e h1 ⟨i,hi,rfl,he,e1,ht⟩
  rw[e1]
  simp only[List.cons.injEq,and_true]at he
  simp only[he,aB,cN,aG]
  by_cases hx:i<a.length
  ·have hx':(i:Int)<(a.length:Nat):=by omega
   have hxb:i<b.length:=by omega
   obtain⟨b1,x1,_,x2,_⟩:=Ms.at ha (i:=i) (m:=a[i]) (by simp[hx])
   obtain⟨b2,y1,_,y2,_⟩:=Ms.at hb (i:=i) (m:=b[i]) (by simp[hxb])
   obtain⟨c,hc1,hc2⟩:=aV2 (h:=h) a[i] b[i] false
   simp only[hx',decide_true,if_true,x1,x2,y1,y2,aB]
   rw[hc1,aB]
   simp only[aG]
   cases c with
   | true=>
    simp only[if_true]
    exact⟨trivial,false,rfl,by
     constructor
     ·intro h;cases h
     ·intro h
      subst h
      have:=hc2.2 rfl
      cases this⟩
   | false=>
    simp only[Bool.false_eq_true,if_false]
    rw[cY _ 1 (by omega) (by omega),aB]
    exact⟨a.length - (i+1),by omega,i+1,by omega,rfl,by simp,trivial,aY2 hl hx ht (hc2.1 rfl)⟩
  ·have hx':¬(i:Int)<(a.length:Nat):=by omega
   simp only[hx',decide_false,Bool.false_eq_true,if_false]
   rw[List.take_of_length_le (by omega),List.take_of_length_le (by omega)]at ht
   exact⟨trivial,true,rfl,by simp[ht]⟩
 ·have e:((a.length:Int) != (b.length:Int))=true:=by simp;omega
  rw[e]
  simp only[if_true]
  exact⟨trivial,false,rfl,by
   constructor
   ·intro h;cases h
   ·intro h;exact absurd (by rw[h]) hl⟩
def EqP:bR→bR→Prop
 | .tab g1,.tab g2=>∀k,bD k g1=bD k g2
 | .qu _ n1 i1 l1,.qu _ n2 i2 l2=>n1=n2∧i1=i2∧l1=l2
 | .to l1 g1,.to l2 g2=>l1=l2∧∀k,bD k g1=bD k g2
 | _,_=>False
theorem aLl {g1 g2:List En} (n1:(bT g1).Nodup) (n2:(bT g2).Nodup):eB g1=eB g2↔∀k,(bD k g1).isSome=(bD k g2).isSome:=by
 have mem:∀(g:List En) k,k∈bT g↔(bD k g).isSome=true:=by
  intro g k
  rw[Option.isSome_iff_ne_none,ne_eq,←get_none]
  simp
 constructor
 ·intro he k
  have h1:k∈bT g1↔k∈bT g2:=by rw[←(yN g1).mem_iff,←(yN g2).mem_iff,he]
  rw[mem,mem]at h1
  exact Bool.eq_iff_iff.2 h1
 ·intro hk
  have hp:(bT g1).Perm (bT g2):=(List.perm_ext_iff_of_nodup n1 n2).2 fun k=>by rw[mem,mem,hk]
  have hb:∀g:List En,(g.map ME).map (fun e=>hU e.key)=(bT g).map kl:=by
   intro g
   rw[bT,List.map_map,List.map_map]
   rfl
  unfold eB eR
  rw[hb,hb,mergeSort_of_perm (hp.map kl)]
theorem aKv {g1 g2:List En} (n1:(bT g1).Nodup) (n2:(bT g2).Nodup) {α:Type} (tx:ByteArray→List En→α) (htx:∀k,(bD k g1).isSome=true→(bD k g2).isSome=true→(tx k g1=tx k g2↔bD k g1=bD k g2)) :
 (eB g1=eB g2∧∀k∈eB g1,tx k g1=tx k g2)↔∀k,bD k g1=bD k g2:=by
 have mem:∀k,k∈eB g1↔(bD k g1).isSome=true:=by
  intro k
  rw[(yN g1).mem_iff,Option.isSome_iff_ne_none,ne_eq,←get_none]
  simp
 constructor
 ·rintro⟨hk,ht⟩ k
  have hs:=(aLl n1 n2).1 hk k
  cases hg:(bD k g1).isSome with
  | true=>exact (htx k hg (by rw[←hs,hg])).1 (ht k ((mem k).2 hg))
  | false=>
   have h1:bD k g1=none:=by simpa using hg
   have h2:bD k g2=none:=by rw[hg]at hs;simpa using hs.symm
   rw[h1,h2]
 ·intro he
  refine⟨(aLl n1 n2).2 fun k=>by rw[he],fun k hk=>?_⟩
  have h1:=(mem k).1 hk
  exact (htx k h1 (by rw[←he];exact h1)).2 (he k)
def txt (k:ByteArray) (g:List En):ByteArray:=match bD k g with | some (.string s)=>s | _=>⟨#[]⟩
theorem aPe {g:List En} (hv:∀e∈g,∃s,e.v=str s) (k:ByteArray):(bD k g).getD (str ⟨#[]⟩)=str (txt k g):=by
 unfold txt
 cases hk:bD k g with
 | none=>rfl
 | some v=>
  obtain⟨e,he,rfl⟩:=qJ hk
  obtain⟨s,hs⟩:=hv e he
  rw[hs]
  rfl
theorem aZg {g1 g2:List En} (h1:∀e∈g1,∃s,e.v=str s) (h2:∀e∈g2,∃s,e.v=str s) (k:ByteArray) (s1:(bD k g1).isSome=true) (s2:(bD k g2).isSome=true):txt k g1=txt k g2↔bD k g1=bD k g2:=by
 obtain⟨v1,e1⟩:=Option.isSome_iff_exists.1 s1
 obtain⟨v2,e2⟩:=Option.isSome_iff_exists.1 s2
 obtain⟨x1,m1,rfl⟩:=qJ e1
 obtain⟨x2,m2,rfl⟩:=qJ e2
 obtain⟨t1,q1⟩:=h1 x1 m1
 obtain⟨t2,q2⟩:=h2 x2 m2
 simp only[txt,e1,e2,q1,q2,Option.some.injEq,Value.string.injEq]
theorem aQ4 {g1 g2:List En} (h1:∀e∈g1,∃n:Int,e.v=i64 n) (h2:∀e∈g2,∃n:Int,e.v=i64 n) (k:ByteArray) (s1:(bD k g1).isSome=true) (s2:(bD k g2).isSome=true):atN k g1=atN k g2↔bD k g1=bD k g2:=by
 obtain⟨v1,e1⟩:=Option.isSome_iff_exists.1 s1
 obtain⟨v2,e2⟩:=Option.isSome_iff_exists.1 s2
 obtain⟨x1,m1,rfl⟩:=qJ e1
 obtain⟨x2,m2,rfl⟩:=qJ e2
 obtain⟨t1,q1⟩:=h1 x1 m1
 obtain⟨t2,q2⟩:=h2 x2 m2
 simp only[atN,e1,e2,q1,q2,Option.some.injEq,Value.int.injEq,true_and]
theorem aWi {l:List ByteArray} {P:ByteArray→Bool}:(!l.any P)=true↔∀k∈l,P k=false:=by
 rw[Bool.not_eq_true',List.any_eq_false]
 simp
theorem aQw {g1 g2:List En} {fa fb:List Nat} (hM:aJ E.I) (hE:E.I (E.k 2)=some (cl (Go.Abs.F.jD E1))) (a:Tab h fa p g1) (b:Tab h fb q g2) (v1:∀e∈g1,∃s,e.v=str s) (v2:∀e∈g2,∃s,e.v=str s)
 (s1:∀e∈g1,e.k.size≤maxLen) (s2:∀e∈g2,e.k.size≤maxLen) (l1:g1.length≤1000) (l2:g2.length≤1000) :
 cl (Go.Abs.F.nQ E) [p,q] h fun r h'=>(∃x:Bool,r = .bool x∧(x=true↔∀k,bD k g1=bD k g2))∧Mod h [] h' []:=by
 have hge:=aKv a.nd b.nd txt fun k=>aZg v1 v2 k
 refine aN ?_
 obtain⟨pa,_⟩:=a.tQ
 obtain⟨pb,_⟩:=b.tQ
 simp only[Go.Abs.F.nQ,aJk p pa,aJk q pb,aZ]
 have m0:Mod h [] ((h.new (.cells [p] 1 .rw)).new (.cells [q] 1 .rw)) []:=(Mod.lV _).trans (Mod.lV _)
 have g1':((h.new (.cells [p] 1 .rw)).new (.cells [q] 1 .rw)).get h.next=some (.cells [p] 1 .rw):=by simp
 have g2':((h.new (.cells [p] 1 .rw)).new (.cells [q] 1 .rw)).get (h.next+1)=some (.cells [q] 1 .rw):=by simp
 have n1:h.next<((h.new (.cells [p] 1 .rw)).new (.cells [q] 1 .rw)).next:=by simp;omega
 have n2:h.next+1<((h.new (.cells [p] 1 .rw)).new (.cells [q] 1 .rw)).next:=by simp
 simp only[rF]
 generalize (h.new (.cells [p] 1 .rw)).new (.cells [q] 1 .rw)=h0 at m0 g1' g2' n1 n2 ⊢
 have rp:∀{h'},Mod h0 [] h' []→h'.rd h.next 0=some p:=fun m=>by rw[rI m n1];exact aH g1' 0
 have rq:∀{h'},Mod h0 [] h' []→h'.rd (h.next+1) 0=some q:=fun m=>by rw[rI m n2];exact aH g2' 0
 have keepA:∀{h'},Mod h0 [] h' []→Tab h' fa p g1:=fun m=>a.same (m0.trans m).next fun x hx=>(m0.trans m).same x (a.lt x hx) (by simp)
 have keepB:∀{h'},Mod h0 [] h' []→Tab h' fb q g2:=fun m=>b.same (m0.trans m).next fun x hx=>(m0.trans m).same x (b.lt x hx) (by simp)
 have mr:Mod h0 [] h0 []:=Mod.refl (by simp)
 simp only[aS,rp mr,rq mr,aB]
 refine aK (aH1 (keepA mr) s1 l1) ?_
 rintro r1 h1 ⟨f1,t1,m1⟩
 have m1:=m1.nil
 simp only[aS,rq m1,true_and]
 refine aK (aH1 (keepB m1) s2 l2) ?_
 rintro r2 h2 ⟨f2,t2,m2⟩
 have m2':=m1.trans m2.nil
 have t1':Ts h2 f1 r1 (eB g1):=t1.same m2.next fun x hx=>m2.same x (t1.lt x hx) (by simp)
 refine aK (aAy t1'.rdt t2.rdt (by rw[tS];omega)) ?_
 rintro r h3 ⟨e3,rfl⟩
 rw[e3]
 by_cases hk:eB g1=eB g2
 ·simp only[hk,decide_true,dE,Bool.not_true,aB,aG,Bool.false_eq_true,if_false,aS,rp m2']
  refine aK (aH1 (keepA m2') s1 l1) ?_
  rintro r3 h4 ⟨f3,t3,m3⟩
  have m3':=m2'.trans m3.nil
  refine aK (aJe hM t3.rdt (by rw[tS];omega) (fun k=>!decide (txt k g1=txt k g2)) fun s _=>?_) ?_
  ·simp only[cR,hE]
   refine aN ?_
   show Go.Abs.F.jD E1 [str s,ptr h.next 0,ptr (h.next+1) 0] h4 _
   simp only[Go.Abs.F.jD,aS,rp m3',aB]
   refine aK (zL (keepA m3') v1 s) ?_
   rintro r h5 ⟨e5,rfl⟩
   rw[e5]
   simp only[bU,List.getElem?_toArray,List.getElem?_cons_zero,List.getElem?_cons_succ,aB,aS,rq m3']
   refine aK (zL (keepB m3') v2 s) ?_
   rintro r h6 ⟨e6,rfl⟩
   rw[e6]
   simp only[bU,List.getElem?_toArray,List.getElem?_cons_zero,List.getElem?_cons_succ,aB,aPe v1,aPe v2,zI]
   exact⟨trivial,trivial⟩
  ·rintro r h5 ⟨e5,rfl⟩
   rw[e5]
   simp only[dE,aB]
   refine⟨⟨_,rfl,?_⟩,m0.trans m3'⟩
   rw[aWi,←hge]
   simp[hk]
 ·simp only[hk,decide_false,dE,Bool.not_false,aB,aG,if_true]
  refine⟨⟨false,rfl,?_⟩,m0.trans m2'⟩
  rw[←hge]
  simp[hk]
end Go.Abs
namespace Go.Abs
open Go Go.RowKit
theorem aXw {P:Program} {fits:TypeId→Bool} {d:Nat} {e:TypeId} {count off n:Nat} (h:rowAt P fits d e count off n=true):off≤count*P.cellsOf e:=by
 cases d with
 | zero=>simp[rowAt]at h
 | succ d=>
  unfold rowAt at h
  simp only at h
  split at h
  ·cases h
  ·rename_i hs
   have hm:=Nat.div_add_mod off (P.cellsOf e)
   have hl:=Nat.mod_lt off (Nat.pos_of_ne_zero hs)
   rw[Bool.or_eq_true]at h
   rcases h with h | h
   ·simp only[Bool.and_eq_true,beq_iff_eq,decide_eq_true_eq]at h
    have:P.cellsOf e*(off / P.cellsOf e)≤P.cellsOf e*count:=Nat.mul_le_mul_left _ (by omega)
    rw[Nat.mul_comm count]
    omega
   ·rw[Bool.and_eq_true,decide_eq_true_eq]at h
    have:P.cellsOf e*(off / P.cellsOf e+1)≤P.cellsOf e*count:=Nat.mul_le_mul_left _ (by omega)
    rw[Nat.mul_add,Nat.mul_one]at this
    rw[Nat.mul_comm count]
    omega
theorem aL0 {P:Program}:∀{d:Nat} {e:TypeId} {count off:Nat} {u:TypeId} {n:Nat},liesAt P d e count off u n=true→off≤count*P.cellsOf e
 | 0,_,_,_,_,_,h=>by simp[liesAt]at h
 | d+1,e,count,off,u,n,h=>by
  unfold liesAt at h
  rw[Bool.or_eq_true]at h
  rcases h with h | h
  ·exact aXw h
  ·split at h
   ·exact aL0 h
   ·cases h
theorem aM7 {P:Program} {w:World} {base:Nat} {t e:TypeId} {a:Addr} {len cap:Nat} (ht:P.underlying t=some (.slice e)) (h:Value.okWide P w .any base t (.slice (some a) len cap)) :
 a.spot=none∧∃cc el fr,w.heap[a.block]? = some (.cells cc el fr)∧a.off≤cc.size:=by
 simp only[Value.okWide,ht,Cell.okWide]at h
 have h':w.has P .any base a e cap:=by
  simp only[Cell.ok,ht]at h
  first | exact h | exact h.2 | exact h.2.2 | exact h.1 | exact h.2.1
 obtain⟨_,hs,row,cells,hsh,hl⟩:=h'
 refine⟨hs,?_⟩
 unfold World.shape? at hsh
 split at hsh
 ·rename_i c el fr hb
  simp only[Option.some.injEq,Prod.mk.injEq]at hsh
  obtain⟨rfl,rfl⟩:=hsh
  refine⟨c,_,fr,hb,Nat.le_trans (aL0 hl) (Nat.div_mul_le_self _ _)⟩
 ·cases hsh
theorem R.aWl {J:World→Prop} {W:World} (hJ:J W) (es:Nat) :
 ∃r h v,R J W.heap.size r h W∧VR r v (.slice none 0 0)∧Ro h.next h v es 0 []:=
 ⟨fun _=>none,⟨fun _=>none,0⟩,.slice none 0 0,⟨Nat.le_refl _,fun _ _ h=>(by cases h),fun _ _ h=>(by cases h),fun _ _ _ _ _ _ h=>(by cases h),hJ⟩,.sliceNil,by simp,Nat.le_refl _,.inl ⟨rfl,rfl⟩⟩
theorem aD.aRu {P:Program} {J:World→Prop} {f:FuncId} {s:Spec} (hs:aD P J f s) (hcall:∀(args:Array V) (w:World),(callFunc f args).run P w = .ok (.enter f args) w)
 {w:World} (hJ:cP J w.heap.size) {r:Ren} {h:aA} (hR:R J w.heap.size r h w) {l:List V} {l':Array V} (hl:VRl r l l'.toList) {v0:V} (h0:bS v0=true) (hq:s l h fun v _=>v=v0) :
 Calls P f l' w fun e w'=>e = .returned v0∧Below w.heap.size w w':=by
 obtain⟨n,w1,h1,h2⟩:=hs _ hJ _ _ w l l' _ hq hR hl
 rw[hcall]at h1
 cases h1
 refine Calls.mono h2 ?_
 rintro e w' ⟨v',rfl,r',v,h',rfl,hR',hE,hv⟩
 exact⟨by rw[VR.oE h0 hv],hE.below hR⟩
end Go.Abs
namespace Go.Abs
open Go Go.RowKit
def uE (i:Nat):TypeDesc:=if i=0∨i=4 then .int .i64 else .string
theorem aWs {H:Type} {enc:TypeId×Value→H} {P:Program} {w:World} {base:Nat} {spare:Nat→Bool} {held:Bool} {fuel:Nat} {e:TypeId} {fs:Array Field} {cs:List V} {x:DataW H×List MemPlace}
 (he:P.underlying e=some (.struct fs)) (ce:P.cellsOf e=5) (hf:∀i,i<5→∃f,fs[i]? = some f∧f.offset=i∧P.cellsOf f.type=1∧P.underlying f.type=some (uE i)) (hn:fs.size=5)
 (h:DataW.trod enc P w base spare held fuel e cs=some x):∃o:Oq,cs=o.cells∧(o.key.size≤maxLen∧o.val.size≤maxLen)∧∀R,(∀n∈x.1.weights P e,n≤R)→o.key.size≤R∧o.val.size≤R:=by
 obtain⟨xs,n,_,hx1,hl,hxs,hr⟩:=DataW.trod_struct he h
 rw[ce]at hl
 have get:∀i,i<5→∃v y,cs[i]? = some v∧xs[i]? = some y∧∃f:Field,fs[i]? = some f∧P.underlying f.type=some (uE i)∧DataW.trod enc P w base spare held n f.type [v]=some y:=by
  intro i hi
  obtain⟨f,h1,h2,h3,h4⟩:=hf i hi
  have h5:=hr i f h1
  rw[h2,h3]at h5
  have hci:i<cs.length:=by omega
  have hxi:i<xs.length:=by omega
  refine⟨cs[i],xs[i],List.getElem?_eq_getElem hci,List.getElem?_eq_getElem hxi,f,h1,h4,?_⟩
  have h6:(cs.drop i).take 1=[cs[i]]:=by rw[List.drop_eq_getElem_cons hci];rfl
  rw[h6]at h5
  rw[h5,List.getElem?_eq_getElem hxi]
 have int:∀i,i<5→uE i = .int .i64→∃m:Int,cs[i]? = some (i64 m):=by
  intro i hi ho
  obtain⟨v,y,h1,_,f,_,h2,h3⟩:=get i hi
  rw[ho]at h2
  obtain⟨m,h4,_⟩:=DataW.trod_int h2 h3
  simp only[List.cons.injEq,and_true]at h4
  exact⟨m,by rw[h1,h4]⟩
 have txt:∀i,i<5→uE i = .string→∃s:ByteArray,cs[i]? = some (str s)∧s.size≤maxLen∧∀R,(∀n∈x.1.weights P e,n≤R)→s.size≤R:=by
  intro i hi ho
  obtain⟨v,y,h1,hy,f,hff,h2,h3⟩:=get i hi
  rw[ho]at h2
  obtain⟨m,h4,hyv,h5⟩:=DataW.trod_string h2 h3
  simp only[List.cons.injEq,and_true]at h4
  refine⟨m,by rw[h1,h4],h5,fun R hR=>?_⟩
  have hlen:m.data.toList.length=m.size:=by rw[Array.length_toList];rfl
  rw[←hlen]
  refine hR _ ?_
  rw[hx1]
  simp only[DataW.weights,he]
  refine DataW.weights_mem_each (j:=i) (t:=f.type) (d:=.lit (.string m.data.toList)) ?_ ?_ _ (by simp[DataW.weights])
  ·rw[List.getElem?_map,Array.getElem?_toList,hff];rfl
  ·rw[List.getElem?_map,hy,hyv];rfl
 obtain⟨a0,e0⟩:=int 0 (by decide) rfl
 obtain⟨a1,e1,_⟩:=txt 1 (by decide) rfl
 obtain⟨a2,e2,z2,w2⟩:=txt 2 (by decide) rfl
 obtain⟨a3,e3,z3,w3⟩:=txt 3 (by decide) rfl
 obtain⟨a4,e4⟩:=int 4 (by decide) rfl
 refine⟨⟨a0,a1,a2,a3,a4⟩,?_,⟨z2,z3⟩,fun R hR=>⟨w2 R hR,w3 R hR⟩⟩
 match cs,hl with
 | [c0,c1,c2,c3,c4],_=>
  simp only[List.getElem?_cons_zero,List.getElem?_cons_succ,Option.some.injEq]at e0 e1 e2 e3 e4
  simp[Oq.cells,e0,e1,e2,e3,e4]
def Oqs (N:Nat) (h:aA) (v:V) (l:List Oq):Prop:=Ro N h v 5 l.length (l.flatMap Oq.cells)
theorem aNl:∀(l:List Oq) (i:Nat) (o:Oq),l[i]? = some o→∀j,j<5→(l.flatMap Oq.cells)[i*5+j]? = o.cells[j]?
 | [],i,o,h,_,_=>by simp at h
 | a::l,0,o,h,j,hj=>by
  simp only[List.getElem?_cons_zero,Option.some.injEq]at h
  subst h
  rw[List.flatMap_cons,List.getElem?_append_left (by simp[Oq.cells];omega)]
  simp
 | a::l,i+1,o,h,j,hj=>by
  rw[List.getElem?_cons_succ]at h
  rw[List.flatMap_cons,List.getElem?_append_right (by simp[Oq.cells];omega),←aNl l i o h j hj]
  congr 1
  simp[Oq.cells]
  omega
end Go.Abs
namespace Go.Abs
open Go Go.Proofs
variable {E E0 E1:FE} {h h':aA} {p:V}
def bR.kind:bR→Int
 | .tab _=>1
 | .qu ..=>2
 | .to ..=>3
theorem SpS.lt {S:bR} {fp:List Nat} (s:SpS h fp p S):∀x∈fp,x<h.next:=by
 obtain⟨pt,s⟩:=s
 exact s.lt
theorem SpS.same {S:bR} {fp:List Nat} (s:SpS h fp p S) (hl:h.next≤h'.next) (hs:∀x∈fp,h'.get x=h.get x):SpS h' fp p S:=by
 obtain⟨pt,s⟩:=s
 exact⟨pt,s.same hl hs⟩
def pN (p:V) (S:bR):Pl:=⟨fun h f=>SpS h f p S,fun _ _ q=>q.lt,fun _ _ _ q hl hs=>q.same hl hs⟩
def kindOf (fn:Int):Int:=if 3≤fn∧fn≤5 then 1 else if 6≤fn∧fn≤9 then 2 else if 10≤fn∧fn≤12 then 3 else 0
end Go.Abs
namespace Go.Abs
open Go Go.Proofs
variable {E E1:FE} {h h':aA} {p q pt qt:V} {fa fb:List Nat} {k:Nat}
theorem aPz {g1 g2:List En} (hM:aJ E.I) (hE:E.I (E.k 2)=some (cl (Go.Abs.F.jD E1))) (a:Spa h fa p (pC pt) (jY pt g1)) (b:Spa h fb q (pC qt) (jY qt g2)) (v1:∀e∈g1,∃s,e.v=str s) (v2:∀e∈g2,∃s,e.v=str s)
 (s1:∀e∈g1,e.k.size≤maxLen) (s2:∀e∈g2,e.k.size≤maxLen) (l1:g1.length≤1000) (l2:g2.length≤1000) :
 cl (Go.Abs.F.fF E) [p,q] h fun r h'=>(∃x:Bool,r = .bool x∧(x=true↔EqP (.tab g1) (.tab g2)))∧Mod h [] h' []:=by
 refine aN ?_
 obtain⟨h0,x,ba,bb,f,f',rfl,rfl,e1,e2,m0,st,kA,kB⟩:=aF7 a b
 have mr:Mod h0 [] h0 []:=Mod.refl (by simp)
 simp only[Go.Abs.F.fF,e1,e2,aZ]
 simp only[aS,st.rp mr,st.rq mr,aB,dA,aQ,if_true,aR,Bool.false_eq_true,if_false,bK,bE,Nat.zero_add,st.ra mr,st.rb mr,List.getElem?_cons_zero,List.getElem?_cons_succ,gK,bne_self_eq_false,aG,dD,beq_self_eq_true]
 refine aK (aQw hM hE (kA mr) (kB mr) v1 v2 s1 s2 l1 l2) ?_
 rintro r h1 ⟨hx,m1⟩
 exact⟨hx,m0.trans m1⟩
theorem aPy {a1 n1 a2 n2:Int} {i1 o1 i2 o2:List Msg} (a:Spa h fa p (cQu pt) (eK pt a1 n1 i1 o1)) (b:Spa h fb q (cQu qt) (eK qt a2 n2 i2 o2)) (z1:i1.length+o1.length≤1000000) (z2:i2.length+o2.length≤1000000) :
 cl (Go.Abs.F.fF E) [p,q] h fun r h'=>(∃x:Bool,r = .bool x∧(x=true↔EqP (.qu a1 n1 i1 o1) (.qu a2 n2 i2 o2)))∧Mod h [] h' []:=by
 refine aN ?_
 obtain⟨h0,x,ba,bb,f,f',rfl,rfl,e1,e2,m0,st,kA,kB⟩:=aF7 a b
 have mr:Mod h0 [] h0 []:=Mod.refl (by simp)
 simp only[Go.Abs.F.fF,e1,e2,aZ]
 simp only[aS,st.rp mr,st.rq mr,aB,dA,aQ,if_true,aR,Bool.false_eq_true,if_false,bK,bE,Nat.zero_add,st.ra mr,st.rb mr,List.getElem?_cons_zero,List.getElem?_cons_succ,gK,bne_self_eq_false,aG,dD,beq_self_eq_true,show ((2:Int)==1)=false from rfl]
 refine aK (aN4 (kA mr)) ?_
 rintro r h1 ⟨e3,rfl⟩
 rw[e3]
 simp only[aS,st.rq mr,st.rb mr,List.getElem?_cons_zero,List.getElem?_cons_succ,true_and]
 refine aK (aN4 (kB mr)) ?_
 rintro r h1 ⟨e4,rfl⟩
 rw[e4]
 simp only[dD,aB]
 have stop:∀{h3:aA},Mod h0 [] h3 []→¬EqP (.qu a1 n1 i1 o1) (.qu a2 n2 i2 o2)→(∃x:Bool,Value.bool false = .bool x∧(x=true↔EqP (.qu a1 n1 i1 o1) (.qu a2 n2 i2 o2)))∧Mod h [] h3 []:=
  fun m hn=>⟨⟨false,rfl,by simp[hn]⟩,m0.trans m⟩
 by_cases hn:n1=n2
 ·have hb:(n1==n2)=true:=by simpa using hn
  simp only[hb,aQ,if_true,aB,aS,st.rp mr,st.rq mr,st.ra mr,st.rb mr,List.getElem?_cons_zero,List.getElem?_cons_succ,bK,bE,Nat.zero_add]
  refine cT rfl (aK (aN2 (kA mr) (by omega)) ?_)
  rintro ra h2 ⟨f2,s2,m2⟩
  have m2':=m2.nil
  simp only[aQ,if_true,aS,st.rq m2',st.rb m2',List.getElem?_cons_zero,List.getElem?_cons_succ,true_and]
  refine cT rfl (aK (aN2 (kB m2') (by omega)) ?_)
  rintro rb h3 ⟨f3,s3,m3⟩
  have m3':=m2'.trans m3.nil
  have s2':Ms h3 f2 ra i1:=s2.same m3.next fun y hy=>m3.same y (s2.lt y hy) (by simp)
  refine cT rfl (aK (aKa s2' s3 (by omega)) ?_)
  rintro r h4 ⟨e5,y,rfl,hy⟩
  rw[e5]
  cases y with
  | false=>
   simp only[aR,if_true,aB,aQ,dO,Bool.false_eq_true,if_false]
   refine cZ (by decide) ?_
   refine cZ (by decide) ?_
   refine cZ (by decide) ?_
   try simp only[aR,Bool.false_eq_true,if_false,aB]
   refine stop m3' fun hE=>?_
   have:=hy.2 hE.2.1
   cases this
  | true=>
   have hi:=hy.1 rfl
   simp only[aR,if_true,aB,aQ,aS,st.rp m3',st.rq m3',st.ra m3',st.rb m3',List.getElem?_cons_zero,List.getElem?_cons_succ,bK,bE,Nat.zero_add]
   refine cT rfl (aK (aN3 (kA m3') (by omega)) ?_)
   rintro rc h5 ⟨f5,s5,m5⟩
   have m5':=m3'.trans m5.nil
   simp only[aQ,if_true,aS,st.rq m5',st.rb m5',List.getElem?_cons_zero,List.getElem?_cons_succ,true_and]
   refine cT rfl (aK (aN3 (kB m5') (by omega)) ?_)
   rintro rd h6 ⟨f6,s6,m6⟩
   have m6':=m5'.trans m6.nil
   have s5':Ms h6 f5 rc o1:=s5.same m6.next fun y hy=>m6.same y (s5.lt y hy) (by simp)
   refine cT rfl (aK (aKa s5' s6 (by omega)) ?_)
   rintro r h7 ⟨e7,y,rfl,hy⟩
   rw[e7]
   try simp only[aR,if_true,aB]
   refine⟨⟨y,rfl,?_⟩,m0.trans m6'⟩
   rw[hy]
   exact⟨fun h=>⟨hn,hi,h⟩,fun h=>h.2.2⟩
 ·have hb:(n1==n2)=false:=by simpa using hn
  simp only[hb,aQ,dO,Bool.false_eq_true,if_false,aB]
  refine cZ (by decide) ?_
  refine cZ (by decide) ?_
  refine cZ (by decide) ?_
  simp only[aR,Bool.false_eq_true,if_false,aB,aQ,dO]
  refine cZ (by decide) ?_
  refine cZ (by decide) ?_
  refine cZ (by decide) ?_
  try simp only[aR,Bool.false_eq_true,if_false,aB]
  exact stop mr fun hE=>hn hE.1
theorem aP0 {l1 l2:List ByteArray} {g1 g2:List En} (hM:aJ E.I) (hE:E.I (E.k 1)=some (cl (Go.Abs.F.kJ E1))) (a:Spa h fa p (cTo pt) (jA pt l1 g1)) (b:Spa h fb q (cTo qt) (jA qt l2 g2)) (n1:(bT g1).Nodup) (n2:(bT g2).Nodup)
 (s1:∀e∈g1,e.k.size≤maxLen) (s2:∀e∈g2,e.k.size≤maxLen) (z1:g1.length≤1000) (z2:g2.length≤1000) (y1:l1.length≤1000000) (y2:l2.length≤1000000) :
 cl (Go.Abs.F.fF E) [p,q] h fun r h'=>(∃x:Bool,r = .bool x∧(x=true↔EqP (.to l1 g1) (.to l2 g2)))∧Mod h [] h' []:=by
 refine aN ?_
 obtain⟨h0,x,ba,bb,f,f',rfl,rfl,e1,e2,m0,st,kA,kB⟩:=aF7 a b
 have mr:Mod h0 [] h0 []:=Mod.refl (by simp)
 have v1:=To.bQ (kA mr)
 have v2:=To.bQ (kB mr)
 have hge:=aKv n1 n2 atN fun k=>aQ4 v1 v2 k
 simp only[Go.Abs.F.fF,e1,e2,aZ]
 simp only[aS,st.rp mr,st.rq mr,aB,dA,aQ,if_true,aR,Bool.false_eq_true,if_false,bK,bE,Nat.zero_add,st.ra mr,st.rb mr,List.getElem?_cons_zero,List.getElem?_cons_succ,gK,bne_self_eq_false,aG,dD,beq_self_eq_true,show ((3:Int)==1)=false from rfl,show ((3:Int)==2)=false from rfl]
 refine aK (aEk (kA mr) s1 z1) ?_
 rintro ra h1 ⟨f1,t1,m1⟩
 have m1':=m1.nil
 simp only[aS,st.rq m1',st.rb m1',List.getElem?_cons_zero,List.getElem?_cons_succ,true_and]
 refine aK (aEk (kB m1') s2 z2) ?_
 rintro rb h2 ⟨f2,t2,m2⟩
 have m2':=m1'.trans m2.nil
 have t1':Ts h2 f1 ra (eB g1):=t1.same m2.next fun y hy=>m2.same y (t1.lt y hy) (by simp)
 refine aK (aAy t1'.rdt t2.rdt (by rw[tS];omega)) ?_
 rintro r h3 ⟨e3,rfl⟩
 rw[e3]
 have stop:∀{h3:aA},Mod h0 [] h3 []→¬EqP (.to l1 g1) (.to l2 g2)→(∃x:Bool,Value.bool false = .bool x∧(x=true↔EqP (.to l1 g1) (.to l2 g2)))∧Mod h [] h3 []:=
  fun m hn=>⟨⟨false,rfl,by simp[hn]⟩,m0.trans m⟩
 by_cases hk:eB g1=eB g2
 ·simp only[hk,decide_true,aQ,if_true,aB,aS,st.rp m2',st.ra m2',List.getElem?_cons_zero,List.getElem?_cons_succ,bK,bE,Nat.zero_add]
  refine cT rfl (aK (aEk (kA m2') s1 z1) ?_)
  rintro rc h4 ⟨f4,t4,m4⟩
  have m4':=m2'.trans m4.nil
  refine cT rfl (aK (aJe hM t4.rdt (by rw[tS];omega) (fun k=>!decide (atN k g1=atN k g2)) fun s _=>?_) ?_)
  ·simp only[cR,hE]
   refine aN ?_
   show Go.Abs.F.kJ E1 [str s,ptr x 0,ptr (x+1) 0] h4 _
   simp only[Go.Abs.F.kJ,aS,st.rp m4',st.rq m4',st.ra m4',st.rb m4',List.getElem?_cons_zero,List.getElem?_cons_succ,bK,bE,Nat.zero_add,aB]
   refine aK (aEj (kA m4') s) ?_
   rintro r h5 ⟨e5,rfl⟩
   rw[e5,aAd v1]
   simp only[aS,st.rq m4',st.rb m4',List.getElem?_cons_zero,List.getElem?_cons_succ,true_and]
   refine aK (aEj (kB m4') s) ?_
   rintro r h6 ⟨e6,rfl⟩
   rw[e6,aAd v2]
   simp only[gK,aB]
   refine⟨trivial,?_⟩
   by_cases hh:atN s g1=atN s g2<;>simp[hh]
  rintro r h5 ⟨e5,rfl⟩
  rw[e5]
  simp only[dE,aB,aQ,if_true,aR]
  cases hany:(eB g1).any (fun k=>!decide (atN k g1=atN k g2)) with
  | true=>
   simp only[Bool.not_true,aQ,dO,Bool.false_eq_true,if_false,aB]
   refine cZ (by decide) ?_
   refine cZ (by decide) ?_
   refine cZ (by decide) ?_
   try simp only[aR,Bool.false_eq_true,if_false,aB]
   refine stop m4' fun hE=>?_
   have h1:=(hge.2 hE.2).2
   obtain⟨k,hk1,hk2⟩:=List.any_eq_true.1 hany
   simp[h1 k hk1]at hk2
  | false=>
   have hat:∀k∈eB g1,atN k g1=atN k g2:=by
    rw[List.any_eq_false]at hany
    intro k hk1
    have:=hany k hk1
    simpa using this
   have hgg:=hge.1 ⟨hk,hat⟩
   simp only[Bool.not_false,aQ,if_true,aB,aR,aS,st.rp m4',st.rq m4',st.ra m4',st.rb m4',List.getElem?_cons_zero,List.getElem?_cons_succ,bK,bE,Nat.zero_add]
   refine cT rfl (aK (aJa (kA m4') s1 z1 y1) ?_)
   rintro rd h6 ⟨f6,t6,m6⟩
   have m6':=m4'.trans m6
   simp only[aQ,if_true,aS,st.rq m6',st.rb m6',List.getElem?_cons_zero,List.getElem?_cons_succ,true_and]
   refine cT rfl (aK (aJa (kB m6') s2 z2 y2) ?_)
   rintro re h7 ⟨f7,t7,m7⟩
   have m7':=m6'.trans m7
   have t6':Ts h7 f6 rd l1:=t6.same m7.next fun y hy=>m7.same y (t6.lt y hy) (by simp)
   refine cT rfl (aK (aAy t6'.rdt t7.rdt (by omega)) ?_)
   rintro r h8 ⟨e8,rfl⟩
   rw[e8]
   try simp only[aR,if_true,aB]
   refine⟨⟨_,rfl,?_⟩,m0.trans m7'⟩
   rw[decide_eq_true_eq]
   exact⟨fun h=>⟨h,hgg⟩,fun h=>h.1⟩
 ·simp only[hk,decide_false,aQ,dO,Bool.false_eq_true,if_false,aB]
  refine cZ (by decide) ?_
  refine cZ (by decide) ?_
  simp only[aR,Bool.false_eq_true,if_false,aB,aQ,dO]
  refine cZ (by decide) ?_
  refine cZ (by decide) ?_
  refine cZ (by decide) ?_
  try simp only[aR,Bool.false_eq_true,if_false,aB]
  exact stop m2' fun hE=>hk (hge.2 hE.2).1
end Go.Abs
namespace Go.Abs
open Go Go.Proofs
variable {E E1:FE} {h h':aA} {p q:V} {fa fb:List Nat} {k:Nat}
theorem EqG (hM:aJ E.I) (hE1:E.I (E.k 1)=some (cl (Go.Abs.F.kJ E1))) (hE2:E.I (E.k 2)=some (cl (Go.Abs.F.jD E1))) {S1 S2:bR} {s1 s2:SpM} (a:SpS h fa p S1) (b:SpS h fb q S2) (i1:SI k S1) (i2:SI k S2) (hk:k≤1000)
 (R1:jI S1 s1) (R2:jI S2 s2) (hkd:S1.kind=S2.kind) :
 cl (Go.Abs.F.fF E) [p,q] h fun r h'=>(∃x:Bool,r = .bool x∧(x=true↔EqP S1 S2))∧Mod h [] h' []:=by
 obtain⟨pt,a⟩:=a
 obtain⟨qt,b⟩:=b
 cases S1 with
 | tab g1=>
  cases S2 with
  | tab g2=>exact aPz hM hE2 a b (fun e he=>by obtain⟨s,h,_⟩:=i1.1 e he;exact⟨s,h⟩) (fun e he=>by obtain⟨s,h,_⟩:=i2.1 e he;exact⟨s,h⟩) i1.2.1 i2.2.1 (Nat.le_trans i1.2.2 hk) (Nat.le_trans i2.2.2 hk)
  | qu a b i l=>cases hkd
  | to l g=>cases hkd
 | qu a1 b1 i1' l1=>
  cases S2 with
  | tab g2=>cases hkd
  | qu a2 b2 i2' l2=>exact aPy a b (by have:=QI.len i1;omega) (by have:=QI.len i2;omega)
  | to l g=>cases hkd
 | to l1 g1=>
  cases S2 with
  | tab g2=>cases hkd
  | qu a b i l=>cases hkd
  | to l2 g2=>exact aP0 hM hE1 a b R1.2.2.1 R2.2.2.1 i1.2.2.2.1 i2.2.2.2.1 (Nat.le_trans i1.2.2.2.2 hk) (Nat.le_trans i2.2.2.2.2 hk) (by have:=i1.1;omega) (by have:=i2.1;omega)
theorem Prs.agg {v:V} {l:List Pr} {fp:List Nat} (c:Prs h fp v l) {i:Nat} {q:Pr} (hi:l[i]? = some q) :
 ∃b,aV (.slice 3) v (i64 i)=some (ptr b (i*3))∧ldD (.agg 3) (ptr b (i*3)) h=some q.agg:=by
 have hil:i<l.length:=(List.getElem?_eq_some_iff.1 hi).1
 have hq:l[i]=q:=(List.getElem?_eq_some_iff.1 hi).2
 obtain⟨h0,⟨rfl,h1,rfl⟩ | ⟨b,cp,all,rfl,rfl,hb,hc,h2,h3,h4⟩⟩:=c
 ·omega
 have hall:l.length*3≤all.length:=Nat.le_trans (Nat.mul_le_mul_right _ hc) h3
 have b1:(0:Int)≤(i:Int)∧(i:Int)<(l.length:Nat):=by omega
 refine⟨b,by simp only[aV,if_pos b1,Int.toNat_natCast,Nat.zero_add],?_⟩
 have hrow:(all.drop (i*3)).take 3=q.cells:=by
  have e:=aKs Pr.cells 3 aNu l i
  rw[List.drop_eq_getElem_cons hil,List.flatMap_cons,hq,←h4,List.drop_take]at e
  have e2:=congrArg (List.take 3) e
  rw[List.take_take,Nat.min_eq_left (by omega)]at e2
  rw[e2]
  rfl
 rw[qK,kG h2,if_pos (by omega),hrow]
 rfl
end Go.Abs
namespace Go.Abs
open Go Go.Proofs
variable {E E0 E1:FE} {h h':aA} {p q:V} {k:Nat}
def KI:bR→Prop
 | .to l g=>(∀v∈l,v.size≤120)∧∀e∈g,e.k.size≤30
 | _=>True
theorem KI.step {S:bR} (s:KI S) (o:Oq) (now:Int) (c:Nat) (hz:o.key.size≤30∧o.val.size≤120):KI (S.act o now c).2.2:=by
 cases S with
 | tab g=>
  simp only[bR.act,doT]
  split
  ·split
   ·trivial
   ·split<;>trivial
  ·trivial
 | qu a b i l=>
  simp only[bR.act,doQ]
  split
  ·split
   ·split<;>trivial
   ·split
    ·split<;>trivial
    ·split
     ·split
      ·split<;>trivial
      ·trivial
     ·trivial
  ·trivial
 | to l g=>
  have put:∀n:Int,KI (.to l (cM o.key (i64 n) c g)):=fun n=>⟨s.1,fun e he=>by
   rcases wK he with ⟨h1,_⟩ | h1
   ·rw[h1];exact hz.1
   ·exact s.2 e h1⟩
  simp only[bR.act,doP]
  split
  ·split
   ·split
    ·refine⟨fun v hv=>?_,s.2⟩
     rcases List.mem_append.1 hv with hv | hv
     ·exact s.1 v hv
     ·simp only[List.mem_singleton]at hv
      rw[hv];exact hz.2
    ·exact s
   ·split
    ·exact s
    ·split
     ·split
      ·exact put _
      ·exact s
     ·exact s
  ·exact s
theorem aWa (kd most:Int) (hk:kd=1∨kd=2∨kd=3):cl (Go.Abs.F.gC E) [i64 kd,i64 most] h fun r h'=>∃S fp,SpS h' fp r S∧Mod h [] h' fp∧SI 0 S∧KI S∧jI S ⟨⟨#[]⟩,kd,[],max 1 (min most 9),[],[],1⟩:=by
 rcases hk with rfl | rfl | rfl
 ·refine aK (aYh _) ?_
  rintro r h' ⟨pt,fp,s,m⟩
  exact⟨.tab [],fp,⟨pt,s⟩,m,⟨by simp,by simp,by simp⟩,trivial,rfl,TG.nil,by simp[bT],rfl,rfl,by simp⟩
 ·refine aK (aYg most) ?_
  rintro r h' ⟨pt,fp,s,m⟩
  exact⟨.qu (min (max most 1) 9) 1 [] [],fp,⟨pt,s⟩,m,⟨by omega,by omega,by simp,by simp,by simp⟩,trivial,rfl,rfl,(by show max 1 (min most 9)=min (max most 1) 9;omega),rfl,rfl,rfl⟩
 ·refine aK (aYi _) ?_
  rintro r h' ⟨pt,fp,s,m⟩
  exact⟨.to [] [],fp,⟨pt,s⟩,m,⟨by simp,by simp,by simp,by simp,by simp⟩,⟨by simp,by simp⟩,rfl,TG.nil,by simp[bT],rfl,rfl,by simp⟩
def Ints (N:Nat) (h:aA) (v:V) (l:List Int):Prop:=Ro N h v 1 l.length (l.map i64)
end Go.Abs
namespace Go.Abs
open Go Go.Proofs
variable {E E0 E1:FE} {h h':aA} {p q:V} {k:Nat}
def SpM.ofQ (s:SpM):bR→SpM
 | .qu a b i l=>{ s with most:=a,next:=b,items:=i,lost:=l }
 | _=>s
def SpM.act (s:SpM) (o:Oq) (now:Int):ByteArray×Int×SpM:=
 if s.kind=1 then
  if 3≤o.fn∧o.fn≤5 then
   if o.fn=4 then (⟨#[]⟩,0,{ s with bX:=fB ⟨o.key,o.val,0⟩ s.bX })
   else if o.fn=5 then (if (cG o.key s.bX).isSome then ⟨#[61]⟩ else ⟨#[45]⟩,0,{ s with bX:=iP o.key s.bX })
   else (match cG o.key s.bX with | some q=>⟨#[61]⟩++q.val | none=>⟨#[45]⟩,0,s)
  else (⟨#[]⟩,1,s)
 else if s.kind=2 then
  if 6≤o.fn∧o.fn≤9 then
   ((doQ s.most s.next s.items s.lost o now).1,(doQ s.most s.next s.items s.lost o now).2.1,s.ofQ (doQ s.most s.next s.items s.lost o now).2.2)
  else (⟨#[]⟩,1,s)
 else
  if 10≤o.fn∧o.fn≤12 then
   if o.fn=10 then if s.items.length<64 then (jM s.items.length,0,{ s with items:=s.items++[aEh o.val] }) else (⟨#[]⟩,6,s)
   else if o.fn=11 then (qH ⟨#[]⟩ (rA (s.items.map (·.val)) (aBo o.key s.bX) o.n),0,s)
   else if iY o.val then
    if aBo o.key s.bX=iD o.val∧(iD o.val:Int)≤o.n∧o.n≤s.items.length∧((cG o.key s.bX).isSome∨s.bX.length<16) then (⟨#[]⟩,0,{ s with bX:=fB ⟨o.key,⟨#[]⟩,o.n⟩ s.bX }) else (⟨#[]⟩,3,s)
   else (⟨#[]⟩,1,s)
  else (⟨#[]⟩,1,s)
theorem aS4 (a b:Int) (i l:List Msg) (o:Oq) (now:Int):∃a' b' i' l',(doQ a b i l o now).2.2 = .qu a' b' i' l':=by
 simp only[doQ]
 split
 ·split<;>exact⟨_,_,_,_,rfl⟩
 ·split
  ·split<;>exact⟨_,_,_,_,rfl⟩
  ·split
   ·split
    ·split<;>exact⟨_,_,_,_,rfl⟩
    ·exact⟨_,_,_,_,rfl⟩
   ·exact⟨_,_,_,_,rfl⟩
theorem aNz {ps:List Pr} {x:Pr} {P:Pr→Prop} (h:∀q∈ps,P q) (hx:P x):∀q∈fB x ps,P q:=by
 induction ps with
 | nil=>simpa[fB]using hx
 | cons a l ih=>
  have hl:=fun q hq=>h q (List.mem_cons_of_mem _ hq)
  intro q hq
  simp only[fB]at hq
  split at hq
  ·rcases List.mem_cons.1 hq with rfl | hq
   ·exact h _ (by simp)
   ·exact ih hl q hq
  ·split at hq
   ·rcases List.mem_cons.1 hq with rfl | hq
    ·exact hx
    ·exact hl q hq
   ·rcases List.mem_cons.1 hq with rfl | hq
    ·exact hx
    ·exact h q hq
theorem aSy {ps:List Pr} {x:ByteArray} {P:Pr→Prop} (h:∀q∈ps,P q):∀q∈iP x ps,P q:=by
 induction ps with
 | nil=>simp[iP]
 | cons a l ih=>
  have hl:=fun q hq=>h q (List.mem_cons_of_mem _ hq)
  intro q hq
  simp only[iP]at hq
  split at hq
  ·rcases List.mem_cons.1 hq with rfl | hq
   ·exact h _ (by simp)
   ·exact ih hl q hq
  ·split at hq
   ·exact hl q hq
   ·exact h q hq
theorem aFb {S:bR} {s:SpM} (R:jI S s) (hi:SI k S) (o:Oq) (now:Int) (c:Nat) :
 (S.act o now c).1=(s.act o now).1∧(S.act o now c).2.1=(s.act o now).2.1∧jI (S.act o now c).2.2 (s.act o now).2.2:=by
 cases S with
 | tab g=>
  obtain⟨hkd,tg,hn,hit,hlo,hat0⟩:=R
  simp only[bR.act,SpM.act,hkd,if_true]
  split
  ·rename_i hf
   simp only[doT]
   split
   ·exact⟨rfl,rfl,(by first | rfl | exact hkd),tg.put ⟨o.key,o.val,0⟩ c,aCk hn,hit,hlo,aNz hat0 rfl⟩
   ·split
    ·refine⟨?_,rfl,(by first | rfl | exact hkd),tg.del hn o.key,?_,hit,hlo,aSy hat0⟩
     ·rw[tg.hit]
     ·rw[aGx];exact hn.erase _
    ·refine⟨?_,rfl,(by first | rfl | exact hkd),tg,hn,hit,hlo,hat0⟩
     rw[tg.same]
     cases cG o.key s.bX<;>rfl
  ·exact⟨rfl,rfl,(by first | rfl | exact hkd),tg,hn,hit,hlo,hat0⟩
 | qu a b i l=>
  obtain⟨hkd,hp,rfl,rfl,rfl,rfl⟩:=R
  have h1:¬s.kind=1:=by omega
  simp only[bR.act,SpM.act,if_neg h1,hkd,if_true]
  split
  ·obtain⟨a',b',i',l',e⟩:=aS4 s.most s.next s.items s.lost o now
   rw[e]
   exact⟨rfl,rfl,(by first | rfl | exact hkd),hp,rfl,rfl,rfl,rfl⟩
  ·exact⟨rfl,rfl,(by first | rfl | exact hkd),hp,rfl,rfl,rfl,rfl⟩
 | to l g=>
  obtain⟨hkd,tg,hn,hit,hlo,hval⟩:=R
  have h1:¬s.kind=1:=by omega
  have h2:¬s.kind=2:=by omega
  have hlen:=tg.len hn
  have hil:s.items.length=l.length:=by rw[hit];simp
  have hg:=aT7 tg o.key
  have hmv:s.items.map (·.val)=l:=by rw[hit,aG6]
  have same:jI (.to l g) s:=⟨hkd,tg,hn,hit,hlo,hval⟩
  simp only[bR.act,SpM.act,if_neg h1,if_neg h2]
  split
  ·simp only[doP,hil,hg,hmv,←hlen,←tg.hit]
   split
   ·split
    ·refine⟨rfl,rfl,(by first | rfl | exact hkd),tg,hn,?_,hlo,hval⟩
     rw[hit]
     simp
    ·exact⟨rfl,rfl,same⟩
   ·split
    ·exact⟨rfl,rfl,same⟩
    ·split
     ·split
      ·exact⟨rfl,rfl,(by first | rfl | exact hkd),tg.put ⟨o.key,⟨#[]⟩,o.n⟩ c,aCk hn,hit,hlo,aNz hval rfl⟩
      ·exact⟨rfl,rfl,same⟩
     ·exact⟨rfl,rfl,same⟩
  ·exact⟨rfl,rfl,same⟩
end Go.Abs
namespace Go.Abs
open Go
/-! ### Lists of pairs as maps -/
section
variable {κ α:Type} [DecidableEq κ]
def lkp (k:κ):List (κ×α)→Option α
 | []=>none
 | (a,v)::l=>if a=k then some v else lkp k l
def ins (k:κ) (v:α):List (κ×α)→List (κ×α)
 | []=>[(k,v)]
 | (a,u)::l=>if a=k then (k,v)::l else (a,u)::ins k v l
def rmv (k:κ):List (κ×α)→List (κ×α)
 | []=>[]
 | (a,u)::l=>if a=k then l else (a,u)::rmv k l
@[simp] theorem mF (k k':κ) (v:α):∀l:List (κ×α),lkp k (ins k' v l)=if k'=k then some v else lkp k l
 | []=>by simp[ins,lkp]
 | (a,u)::l=>by
  simp only[ins]
  by_cases h:a=k'
  ·subst h
   simp only[if_true,lkp]
   split<;>rfl
  ·simp only[if_neg h,lkp,mF k k' v l]
   by_cases h2:a=k
   ·subst h2
    have:¬k'=a:=fun e=>h e.symm
    simp[this]
   ·simp[h2]
def bA (l:List (κ×α)):List κ:=l.map (·.1)
theorem lA {k:κ}:∀{l:List (κ×α)},lkp k l=none↔k∉bA l
 | []=>by simp[lkp,bA]
 | (a,u)::l=>by
  simp only[lkp,bA,List.map_cons,List.mem_cons,not_or]
  by_cases h:a=k
  ·simp[h]
  ·simp only[if_neg h,lA (l:=l),bA]
   exact⟨fun hh=>⟨fun e=>h e.symm,hh⟩,fun hh=>hh.2⟩
theorem iS {k:κ} {v:α}:∀{l:List (κ×α)},lkp k l=some v→(k,v)∈l
 | [],h=>by simp[lkp]at h
 | (a,u)::l,h=>by
  simp only[lkp]at h
  split at h
  ·rename_i e;cases h;subst e;simp
  ·exact List.mem_cons_of_mem _ (iS h)
theorem lC {k:κ} {v:α}:∀{l:List (κ×α)},(bA l).Nodup→(k,v)∈l→lkp k l=some v
 | [],_,h=>by simp at h
 | (a,u)::l,hn,h=>by
  simp only[bA,List.map_cons,List.nodup_cons]at hn
  simp only[lkp]
  rcases List.mem_cons.1 h with h | h
  ·cases h;simp
  ·have:a≠k:=fun e=>hn.1 (e▸List.mem_map.2 ⟨(k,v),h,rfl⟩)
   rw[if_neg this]
   exact lC hn.2 h
theorem aBu (k:κ) (v:α):∀l:List (κ×α),bA (ins k v l)=if lkp k l=none then bA l++[k] else bA l
 | []=>by simp[ins,bA,lkp]
 | (a,u)::l=>by
  simp only[ins,lkp]
  by_cases h:a=k
  ·simp[h,bA]
  ·have:=aBu k v l
   simp only[if_neg h,bA,List.map_cons]at *
   rw[this]
   split<;>rfl
theorem qO {k:κ} {v:α} {l:List (κ×α)} (h:(bA l).Nodup):(bA (ins k v l)).Nodup:=by
 rw[aBu]
 split
 ·rename_i hg
  have:=lA.1 hg
  rw[List.nodup_append]
  refine⟨h,by simp,?_⟩
  intro a ha b hb
  simp at hb
  subst hb
  exact fun e=>this (e▸ha)
 ·exact h
theorem aGu {k:κ} {v:α}:∀{l:List (κ×α)},lkp k l=none→ins k v l=l++[(k,v)]
 | [],_=>rfl
 | (a,u)::l,h=>by
  simp only[lkp]at h
  split at h
  ·cases h
  ·rename_i hk;simp only[ins,if_neg hk,aGu h];rfl
theorem aLo (k:κ):∀l:List (κ×α),bA (rmv k l)=(bA l).erase k
 | []=>rfl
 | (a,u)::l=>by
  simp only[rmv,bA,List.map_cons,List.erase_cons]
  by_cases h:a=k
  ·simp[h]
  ·have:=aLo k l
   simp only[bA]at this
   simp[h,this]
theorem tY {k:κ} {l:List (κ×α)} (h:(bA l).Nodup):(bA (rmv k l)).Nodup:=by
 rw[aLo];exact h.erase _
theorem tT {k k':κ}:∀{l:List (κ×α)},(bA l).Nodup→lkp k (rmv k' l)=if k'=k then none else lkp k l
 | [],_=>by simp[rmv,lkp]
 | (a,u)::l,h=>by
  simp only[bA,List.map_cons,List.nodup_cons]at h
  simp only[rmv]
  by_cases hk:a=k'
  ·subst hk
   simp only[if_true,lkp]
   by_cases h2:a=k
   ·subst h2;simp only[if_true];exact lA.2 h.1
   ·simp[h2]
  ·simp only[if_neg hk,lkp]
   by_cases h2:a=k
   ·subst h2
    have:¬k'=a:=fun e=>hk e.symm
    simp[this]
   ·simp only[if_neg h2]
    exact tT h.2
omit [DecidableEq κ] in
theorem keys_perm {l l':List (κ×α)} (p:l.Perm l'):(bA l).Perm (bA l'):=List.Perm.map Prod.fst p
theorem aBw {l l':List (κ×α)} (p:l.Perm l') (hn:(bA l).Nodup) (k:κ):lkp k l=lkp k l':=by
 have hn':(bA l').Nodup:=(keys_perm p).nodup_iff.1 hn
 cases h:lkp k l with
 | some v=>exact (lC hn' (p.mem_iff.1 (iS h))).symm
 | none=>
  symm
  rw[lA]at h ⊢
  exact fun hm=>h ((keys_perm p).mem_iff.2 hm)
theorem aC6 {l l':List (κ×α)} (hn:(bA l).Nodup) (hn':(bA l').Nodup) (h:∀k,lkp k l=lkp k l'):l.Perm l':=by
 refine (List.perm_ext_iff_of_nodup (rG hn) (rG hn')).2 fun⟨k,v⟩=>⟨fun hm=>?_,fun hm=>?_⟩
 ·exact iS ((h k).symm.trans (lC hn hm))
 ·exact iS ((h k).trans (lC hn' hm))
theorem aLc {l l':List (κ×α)} (p:l.Perm l') (hn:(bA l).Nodup) (k:κ) (v:α):(ins k v l).Perm (ins k v l'):=
 aC6 (qO hn) (qO ((keys_perm p).nodup_iff.1 hn)) fun x=>by rw[mF,mF,aBw p hn]
theorem aXv {l l':List (κ×α)} (p:l.Perm l') (hn:(bA l).Nodup) (k:κ):(rmv k l).Perm (rmv k l'):=by
 have hn':=(keys_perm p).nodup_iff.1 hn
 exact aC6 (tY hn) (tY hn') fun x=>by rw[tT hn,tT hn',aBw p hn]
end
/-! ### Operations that may be; what they lock -/
def qT (s:ByteArray):Bool:=s.data.toList.all fun c=>decide (97≤c.toNat)&&decide (c.toNat≤122)
def mP (fn:Int):Bool×Bool×Bool:=
 if fn=1∨fn=8∨fn=11 then (true,false,true)
 else if fn=3∨fn=5 then (true,false,false)
 else if fn=4 then (true,true,false)
 else if fn=6∨fn=10 then (false,true,false)
 else if fn=7 then (false,false,true)
 else if fn=12 then (true,true,true)
 else (false,false,false)
def yB (s:ByteArray):Bool:=match s.data.toList with | [c]=>decide (49≤c.toNat)&&decide (c.toNat≤57) | _=>false
def mH (o:Oq):Bool:=decide (1≤o.n)&&decide (o.n≤3)&&(yB o.key||(decide (o.key.size=0)&&decide (o.n≠2)))
def lD (o:Oq):Bool:=
 decide (1≤o.fn)&&decide (o.fn≤12)&&decide (1≤o.space.size)&&decide (o.space.size≤20)&&qT o.space &&
 decide (o.key.size≤20)&&decide (o.val.size≤100)&&decide (0≤o.n)&&decide (o.n≤1099511627776) &&
 ((mP o.fn).1||decide (o.key.size=0))&&((mP o.fn).2.1||decide (o.val.size=0))&&((mP o.fn).2.2||decide (o.n=0)) &&
 (decide (o.fn≠1)||mH o)
def kS (l:List Oq):Bool:=decide (1≤l.length)&&decide (l.length≤8)&&l.all lD
def cQ (o:Oq):bF:=if 3≤o.fn∧o.fn≤5 then ⟨o.space,o.key,false⟩ else ⟨o.space,⟨#[]⟩,true⟩
def eY (a b:bF):Bool:=decide (a.space=b.space)&&(a.all||b.all||decide (a.key=b.key))
/-! ### A vault -/
structure cF where
 ops:List Oq
 bQ:List ByteArray
 now:Int
 view:List (ByteArray×Option SpM)
structure dC where
 sp:List (ByteArray×SpM)
 lk:List (bF×IdM)
 pt:List (IdM×cF)
 ov:List IdM
def SpM.new (kind most:Int):SpM:=⟨⟨#[]⟩,kind,[],max 1 (min most 9),[],[],1⟩
def iB (l:List Oq):Nat:=(l.filter fun o=>decide (o.fn=1)).length
def sF (sp:List (ByteArray×SpM)) (pt:List (IdM×cF)) (view:List (ByteArray×Option SpM)):Nat:=
 (sp.filter fun e=>match lkp e.1 view with | none=>true | some x=>x.isSome).length+(view.filter fun e=>e.2.isSome&&(lkp e.1 sp).isNone).length+(pt.map fun e=>iB e.2.ops).sum
def cW (sp:List (ByteArray×SpM)) (name:ByteArray) (view:List (ByteArray×Option SpM)):Option SpM×List (ByteArray×Option SpM):=
 match lkp name view with
 | some x=>(x,view)
 | none=>(lkp name sp,ins name (lkp name sp) view)
def gY (sp:List (ByteArray×SpM)) (pt:List (IdM×cF)) (now:Int) (view:List (ByteArray×Option SpM)) (o:Oq):ByteArray×Int×List (ByteArray×Option SpM):=
 let s:=(cW sp o.space view).1
 let view:=(cW sp o.space view).2
 if o.fn=1 then
  if s.isSome then (⟨#[]⟩,3,view)
  else if 16≤sF sp pt view then (⟨#[]⟩,6,view)
  else (⟨#[]⟩,0,ins o.space (some (SpM.new o.n (match o.key.data.toList with | c::_=>(c.toNat:Int) - 48 | []=>1))) view)
 else match s with
  | none=>(⟨#[]⟩,3,view)
  | some s=>
   if o.fn=2 then (⟨#[]⟩,0,ins o.space none view)
   else ((s.act o now).1,(s.act o now).2.1,ins o.space (some (s.act o now).2.2) view)
def qQ (sp:List (ByteArray×SpM)) (pt:List (IdM×cF)) (now:Int):List Oq→List (ByteArray×Option SpM)→List ByteArray→Option (List ByteArray×List (ByteArray×Option SpM))
 | [],view,bQ=>some (bQ,view)
 | o::l,view,bQ=>
  let r:=gY sp pt now view o
  if r.2.1=0 then qQ sp pt now l r.2.2 (bQ++[r.1]) else none
def cO (id:IdM) (ks:List bF) (lk:List (bF×IdM)):List (bF×IdM):=ks.foldl (fun m k=>ins k id m) lk
def blocked (id:IdM) (ks:List bF) (lk:List (bF×IdM)):Bool:=lk.any fun e=>decide (e.2≠id)&&ks.any fun k=>eY k e.1
def dY (id:IdM) (lk:List (bF×IdM)):List (bF×IdM):=lk.filter fun e=>decide (e.2≠id)
def fR (st:dC) (id:IdM) (ops:List Oq) (now:Int):(List ByteArray×Bool)×dC:=
 if id∈st.ov∨kS ops=false then (([],false),st)
 else match lkp id st.pt with
  | some p=>((p.bQ,true),st)
  | none=>
   if blocked id (ops.map cQ) st.lk then (([],false),st)
   else match qQ st.sp st.pt now ops [] []with
    | none=>(([],false),{ st with lk:=dY id (cO id (ops.map cQ) st.lk) })
    | some (bQ,view)=>((bQ,true),{ st with lk:=cO id (ops.map cQ) st.lk,pt:=ins id ⟨ops,bQ,now,view⟩ st.pt })
def fG (name:ByteArray) (view:SpM):List Oq→SpM→SpM
 | [],s=>s
 | o::l,s=>
  if o.space=name∧(o.fn=4∨o.fn=5) then
   fG name view l (match cG o.key view.bX with | some q=>{ s with bX:=fB ⟨o.key,q.val,0⟩ s.bX } | none=>{ s with bX:=iP o.key s.bX })
  else fG name view l s
def iR (p:cF) (all:Bool) (name:ByteArray) (x:Option SpM) (sp:List (ByteArray×SpM)):List (ByteArray×SpM):=
 match all,x with
 | true,none=>rmv name sp
 | true,some s=>ins name s sp
 | false,some s=>(match lkp name sp with | some t=>ins name (fG name s p.ops t) sp | none=>sp)
 | false,none=>sp
def qF (st:dC) (id:IdM) (yes:Bool):Bool×dC:=
 if id∈st.ov then (false,st)
 else match lkp id st.pt with
  | none=>(true,{ st with ov:=id::st.ov })
  | some p=>
   (true,⟨if yes then p.view.foldl (fun sp e=>iR p (st.lk.any fun x=>decide (x.2=id)&&decide (x.1.space=e.1)&&x.1.all) e.1 e.2 sp) st.sp else st.sp,dY id st.lk,rmv id st.pt,id::st.ov⟩)
end Go.Abs
set_option linter.unusedSectionVars false
namespace Go.Abs
open Go
structure Et (κ α:Type) where
 k:κ
 v:V
 b:Nat
 x:α
section
variable {κ α:Type} [DecidableEq κ]
def Et.g (e:Et κ α):Eg κ:=⟨e.k,e.v,e.b⟩
def Et.m (D:KD κ) (e:Et κ α):MapEntry:=D.me e.g
def Et.p (A:κ→V→α→Pl) (e:Et κ α):Pl:=A e.k e.v e.x
def cJ (t:List (Et κ α)):List (κ×α):=t.map fun e=>(e.k,e.x)
structure OkE (t:List (Et κ α)) (clk:Nat) (l:List (κ×α)):Prop where
 perm:(cJ t).Perm l
 nd:(bA l).Nodup
 bn:(t.map (·.b)).Nodup
 lt:∀e∈t,e.b<clk
theorem oC (t:List (Et κ α)):bA (cJ t)=t.map (·.k):=by simp[cJ,bA]
theorem aGw (t:List (Et κ α)):iA (t.map Et.g)=t.map (·.k):=by simp[iA,Et.g]
variable {t:List (Et κ α)} {clk:Nat} {l:List (κ×α)}
theorem OkE.ndt (p:OkE t clk l):(bA (cJ t)).Nodup:=(keys_perm p.perm).nodup_iff.2 p.nd
theorem OkE.lkp (p:OkE t clk l) (k:κ):lkp k (cJ t)=Go.Abs.lkp k l:=aBw p.perm p.ndt k
theorem wO {k:κ} {x:α}:∀{t:List (Et κ α)},lkp k (cJ t)=some x→∃t1 e t2,t=t1++e::t2∧e.k=k∧e.x=x∧cC k (t.map Et.g)=some e.v∧∀e'∈t1,e'.k≠k
 | [],h=>by simp[cJ,lkp]at h
 | e::t,h=>by
  simp only[cJ,List.map_cons,lkp]at h
  by_cases hk:e.k=k
  ·rw[if_pos hk]at h
   cases h
   exact⟨[],e,t,rfl,hk,rfl,by simp[cC,Et.g,hk],by simp⟩
  ·rw[if_neg hk]at h
   obtain⟨t1,e1,t2,rfl,h1,h2,h3,h4⟩:=wO (t:=t) h
   refine⟨e::t1,e1,t2,rfl,h1,h2,?_,?_⟩
   ·rw[List.map_cons,cC,if_neg (by exact hk),h3]
   ·intro e' he'
    rcases List.mem_cons.1 he' with rfl | he'
    ·exact hk
    ·exact h4 e' he'
theorem aGk {k:κ} (h:lkp k (cJ t)=none):cC k (t.map Et.g)=none:=by
 rw[lA,oC]at h
 rw[←aGi,aGw]
 exact h
theorem aNy {k:κ} {v:V} {c:Nat} {e:Eg κ}:∀{t1 t2:List (Eg κ)},(∀e'∈t1,e'.k≠k)→e.k=k→mT k v c (t1++e::t2)=t1++⟨k,v,e.b⟩::t2
 | [],t2,_,he=>by simp[mT,he]
 | a::t1,t2,h,he=>by
  rw[List.cons_append,mT,if_neg (h a (by simp)),aNy (fun e' he'=>h e' (by simp[he'])) he]
  rfl
theorem aJw {k:κ} {e:Eg κ}:∀{t1 t2:List (Eg κ)},(∀e'∈t1,e'.k≠k)→e.k=k→lY k (t1++e::t2)=t1++t2
 | [],t2,_,he=>by simp[lY,he]
 | a::t1,t2,h,he=>by
  rw[List.cons_append,lY,if_neg (h a (by simp)),aJw (fun e' he'=>h e' (by simp[he'])) he]
  rfl
variable (D:KD κ) (A:κ→V→α→Pl)
def aL (m:Nat) (l:List (κ×α)):Pl:=
 sW fun (y:List (Et κ α)×Nat)=>lG (dI (OkE y.1 y.2 l)::bO m (y.1.map (Et.m D)) y.2::y.1.map (Et.p A))
variable {D A} {F:Fr} {h:aA} {L:List Pl} {m:Nat} {z:V}
theorem Sep.fA (s:Sep F h (aL D A m l::L)):∃t clk,OkE t clk l∧Sep F h (bO m (t.map (Et.m D)) clk::(t.map (Et.p A)++L)):=by
 obtain⟨⟨t,clk⟩,s⟩:=s.ex
 have s1:=s.all
 obtain⟨p,s2⟩:=Sep.pure (L:=bO m (t.map (Et.m D)) clk::(t.map (Et.p A)++L)) s1
 exact⟨t,clk,p,s2⟩
theorem Sep.fJ (p:OkE t clk l) (s:Sep F h (bO m (t.map (Et.m D)) clk::(t.map (Et.p A)++L))):Sep F h (aL D A m l::L):=
 Sep.wC (A:=fun (y:List (Et κ α)×Nat)=>lG (dI (OkE y.1 y.2 l)::bO m (y.1.map (Et.m D)) y.2::y.1.map (Et.p A))) (t,clk)
  (Sep.wB (L':=dI (OkE t clk l)::bO m (t.map (Et.m D)) clk::t.map (Et.p A)) (Sep.mkPure p s))
def dG (k:κ) (v:V) (A:κ→V→α→Pl):κ→V→α→Pl:=fun k' v' x'=>if k'=k then dI (v'=v) else A k' v' x'
theorem sL {k:κ} {v:V} {tt:List (Et κ α)} (ht:∀e'∈tt,e'.k≠k):tt.map (Et.p (dG k v A))=tt.map (Et.p A):=
 List.map_congr_left fun e' he'=>by simp only[Et.p,dG,if_neg (ht e' he')]
theorem aGq {k:κ} {v:V} {e:Et κ α} (he:e.k=k):Et.p (dG k v A) e=dI (e.v=v):=by simp only[Et.p,dG,if_pos he]
theorem Sep.wD (s:Sep F h L):Sep F (h.new (.map [] 0)) (aL D A h.next []::L):=
 Sep.fJ (t:=[]) (clk:=0) ⟨List.Perm.refl _,by simp[bA],by simp,by simp⟩ (s.aV8 [] 0)
theorem rD (t:List (Et κ α)):(t.map (Et.m D))=(t.map Et.g).map D.me:=by simp[Et.m]
theorem tU (t:List (Et κ α)):(t.map (Et.m D)).map (·.born)=t.map (·.b):=by
 rw[List.map_map]
 rfl
theorem Sep.sP (s:Sep F h (aL D A m l::L)) {k:κ} (hk:Go.Abs.lkp k l=none) (ok:Bool) :
 bW (some (D.kk,some z)) (.map (some m)) (D.enc k) ok h=some (if ok then .tuple #[z,.bool false] else z):=by
 obtain⟨t,clk,p,s⟩:=s.fA
 have g:=s.qL
 rw[rD]at g
 rw[aG3 D g k ok,aGk ((p.lkp k).trans hk)]
 rfl
theorem Sep.pH (s:Sep F h (aL D A m l::L)) {k:κ} {x:α} (hk:Go.Abs.lkp k l=some x) (ok:Bool) :
 ∃v,bW (some (D.kk,some z)) (.map (some m)) (D.enc k) ok h=some (if ok then .tuple #[v,.bool true] else v) ∧
  Sep F h (A k v x::aL D (dG k v A) m l::L):=by
 obtain⟨t,clk,p,s⟩:=s.fA
 have g:=s.qL
 rw[rD]at g
 obtain⟨t1,e,t2,rfl,h1,h2,h3,h4⟩:=wO ((p.lkp k).trans hk)
 refine⟨e.v,by rw[aG3 D g k ok,h3];rfl,?_⟩
 have h5:∀e'∈t2,e'.k≠k:=by
  have:=p.ndt
  rw[oC,List.map_append,List.map_cons,List.nodup_append]at this
  have h6:=(List.nodup_cons.1 this.2.1).1
  intro e' he' hc
  exact h6 (List.mem_map.2 ⟨e',he',hc.trans h1.symm⟩)
 have s1:Sep F h (A k e.v x::bO m ((t1++e::t2).map (Et.m D)) clk::((t1++t2).map (Et.p A)++L)):=by
  refine s.perm ?_
  have ep:A k e.v x=Et.p A e:=by rw[Et.p,h1,h2]
  rw[ep,List.map_append (f:=Et.p A) (l₁:=t1),List.map_append (f:=Et.p A) (l₁:=t1),List.map_cons]
  refine (List.Perm.cons _ ?_).trans (List.Perm.swap _ _ _)
  simp only[List.append_assoc,List.cons_append]
  exact List.perm_middle
 have s2:Sep F h (aL D (dG k e.v A) m l::(A k e.v x::L)):=by
  refine Sep.fJ p ?_
  rw[List.map_append (f:=Et.p (dG k e.v A)),List.map_cons (f:=Et.p (dG k e.v A)),sL h4,sL h5,aGq h1]
  have s3:=Sep.mkPure (φ:=e.v=e.v) rfl s1
  refine s3.perm ?_
  rw[List.map_append (f:=Et.p A)]
  simp only[List.append_assoc,List.cons_append]
  refine (((List.Perm.swap _ _ _).cons _).trans (List.Perm.swap _ _ _)).trans (List.Perm.cons _ ?_)
  refine List.Perm.trans ?_ List.perm_middle.symm
  refine List.Perm.cons _ ?_
  refine List.Perm.trans ?_ (List.Perm.append_left _ List.perm_middle.symm)
  exact List.perm_middle.symm
 exact s2.up1
theorem OkE.put (p:OkE t clk l) {t1 t2:List (Et κ α)} {e:Et κ α} (ht:t=t1++e::t2) {k:κ} (he:e.k=k) (h1:∀e'∈t1,e'.k≠k) (v:V) (x:α):OkE (t1++⟨k,v,e.b,x⟩::t2) clk (ins k x l):=by
 subst ht
 refine⟨?_,qO p.nd,?_,fun e' he'=>?_⟩
 ·refine List.Perm.trans ?_ (aLc p.perm p.ndt k x)
  have:∀tt:List (Et κ α),(∀e'∈tt,e'.k≠k)→ins k x (cJ (tt++e::t2))=cJ (tt++⟨k,v,e.b,x⟩::t2):=by
   intro tt htt
   induction tt with
   | nil=>simp[cJ,ins,he]
   | cons a tt ih=>
    have:=ih fun e' he'=>htt e' (by simp[he'])
    simp only[cJ,List.cons_append,List.map_cons,ins]at this ⊢
    rw[if_neg (htt a (by simp)),this]
  rw[this t1 h1]
 ·have:=p.bn
  simpa using this
 ·rcases List.mem_append.1 he' with h | h
  ·exact p.lt e' (by simp[h])
  ·rcases List.mem_cons.1 h with rfl | h
   ·exact p.lt e (by simp)
   ·exact p.lt e' (by simp[h])
theorem OkE.new (p:OkE t clk l) {k:κ} (hk:Go.Abs.lkp k l=none) (v:V) (x:α):OkE (t++[⟨k,v,clk,x⟩]) (clk+1) (ins k x l):=by
 have hk':=(p.lkp k).trans hk
 refine⟨?_,qO p.nd,?_,fun e' he'=>?_⟩
 ·refine List.Perm.trans ?_ (aLc p.perm p.ndt k x)
  rw[aGu hk']
  simp[cJ]
 ·rw[List.map_append,List.nodup_append]
  refine⟨p.bn,by simp,fun a ha b hb=>?_⟩
  simp only[List.map_cons,List.map_nil,List.mem_singleton]at hb
  obtain⟨e,he,rfl⟩:=List.mem_map.1 ha
  have:=p.lt e he
  omega
 ·rcases List.mem_append.1 he' with h | h
  ·have:=p.lt e' h;omega
  ·simp only[List.mem_singleton]at h
   subst h
   simp
theorem OkE.del (p:OkE t clk l) {t1 t2:List (Et κ α)} {e:Et κ α} (ht:t=t1++e::t2) {k:κ} (he:e.k=k) (h1:∀e'∈t1,e'.k≠k):OkE (t1++t2) clk (rmv k l):=by
 subst ht
 refine⟨?_,tY p.nd,?_,fun e' he'=>?_⟩
 ·refine List.Perm.trans ?_ (aXv p.perm p.ndt k)
  have:∀tt:List (Et κ α),(∀e'∈tt,e'.k≠k)→rmv k (cJ (tt++e::t2))=cJ (tt++t2):=by
   intro tt htt
   induction tt with
   | nil=>simp[cJ,rmv,he]
   | cons a tt ih=>
    have:=ih fun e' he'=>htt e' (by simp[he'])
    simp only[cJ,List.cons_append,List.map_cons,rmv]at this ⊢
    rw[if_neg (htt a (by simp)),this]
  rw[this t1 h1]
 ·have:=p.bn
  rw[List.map_append,List.map_cons]at this
  rw[List.map_append]
  exact this.sublist (List.Sublist.append_left (List.sublist_cons_self _ _) _)
 ·rcases List.mem_append.1 he' with h | h
  ·exact p.lt e' (by simp[h])
  ·exact p.lt e' (by simp[h])
theorem Sep.sI {L1 L2:List Pl} (s:Sep F h (L1++L2)):Sep F h L2:=by
 induction L1 with
 | nil=>exact s
 | cons a l ih=>exact ih (Sep.drop s)
theorem Sep.tP {k:κ} {v:V} {x:α} (s:Sep F h (aL D A m l::A k v x::L)) :
 ∃h',cU (some (D.kk,some z)) (.map (some m)) (D.enc k) v h=some h'∧Sep F h' (aL D A m (ins k x l)::L):=by
 obtain⟨t,clk,p,s⟩:=s.fA
 have g:=s.qL
 rw[rD]at g
 rw[aZi D g k v]
 refine⟨_,rfl,?_⟩
 cases hk:Go.Abs.lkp k l with
 | none=>
  have hg:cC k (t.map Et.g)=none:=aGk ((p.lkp k).trans hk)
  rw[if_pos hg,aHl k v clk _ hg]
  refine Sep.fJ (p.new hk v x) ?_
  have s1:=s.aB3 (es':=(t++[(⟨k,v,clk,x⟩:Et κ α)]).map (Et.m D)) (clk':=clk+1)
  have e1:(List.map D.me (List.map Et.g t++[⟨k,v,clk⟩]))=(t++[(⟨k,v,clk,x⟩:Et κ α)]).map (Et.m D):=by simp[Et.m,Et.g]
  rw[e1]
  refine s1.perm ?_
  simp only[List.map_append,List.map_cons,List.map_nil,List.append_assoc,List.cons_append,List.nil_append]
  exact List.Perm.refl _
 | some x0=>
  obtain⟨t1,e,t2,rfl,h1,h2,h3,h4⟩:=wO ((p.lkp k).trans hk)
  have hg:¬cC k ((t1++e::t2).map Et.g)=none:=by rw[h3];simp
  have e2:mT k v clk ((t1++e::t2).map Et.g)=(t1++⟨k,v,e.b,x⟩::t2).map Et.g:=by
   rw[List.map_append,List.map_cons,aNy (fun e' he'=>?_) (by exact h1)]
   ·simp[Et.g]
   ·obtain⟨a,ha,rfl⟩:=List.mem_map.1 he'
    exact h4 a ha
  rw[if_neg hg,e2]
  refine Sep.fJ (p.put rfl h1 h4 v x) ?_
  have s1:=s.aB3 (es':=(t1++(⟨k,v,e.b,x⟩:Et κ α)::t2).map (Et.m D)) (clk':=clk)
  rw[←rD]
  have s2:Sep F (h.put m (.map ((t1++⟨k,v,e.b,x⟩::t2).map (Et.m D)) clk)) (A e.k e.v e.x::bO m ((t1++⟨k,v,e.b,x⟩::t2).map (Et.m D)) clk::((t1++⟨k,v,e.b,x⟩::t2).map (Et.p A)++L)):=by
   refine s1.perm ?_
   simp only[List.map_append,List.map_cons,List.append_assoc,List.cons_append]
   refine (List.Perm.cons _ ?_).trans (List.Perm.swap _ _ _)
   refine List.perm_middle.trans (List.Perm.cons _ ?_)
   exact List.Perm.append_left _ List.perm_middle
  exact s2.drop
theorem Sep.aF0 {k:κ} (s:Sep F h (aL D A m l::L)) :
 ∃h',gL (some (D.kk,some z)) (.map (some m)) (D.enc k) h=some h'∧Sep F h' (aL D A m (rmv k l)::L):=by
 obtain⟨t,clk,p,s⟩:=s.fA
 have g:=s.qL
 rw[rD]at g
 rw[aS0 D g k]
 refine⟨_,rfl,?_⟩
 cases hk:Go.Abs.lkp k l with
 | none=>
  have hg:cC k (t.map Et.g)=none:=aGk ((p.lkp k).trans hk)
  rw[aFz k _ hg,←rD]
  have e1:rmv k l=l:=by
   have:∀l:List (κ×α),Go.Abs.lkp k l=none→rmv k l=l:=by
    intro l
    induction l with
    | nil=>intro _;rfl
    | cons a l ih=>
     intro h
     simp only[Go.Abs.lkp]at h
     split at h
     ·cases h
     ·rename_i hne
      simp only[rmv,if_neg hne,ih h]
   exact this l hk
  rw[e1]
  exact Sep.fJ p s.aB3
 | some x0=>
  obtain⟨t1,e,t2,rfl,h1,h2,h3,h4⟩:=wO ((p.lkp k).trans hk)
  have e2:lY k ((t1++e::t2).map Et.g)=(t1++t2).map Et.g:=by
   rw[List.map_append,List.map_cons,aJw (fun e' he'=>?_) (by exact h1)]
   ·simp
   ·obtain⟨a,ha,rfl⟩:=List.mem_map.1 he'
    exact h4 a ha
  rw[e2,←rD]
  refine Sep.fJ (p.del rfl h1 h4) ?_
  have s1:=s.aB3 (es':=(t1++t2).map (Et.m D)) (clk':=clk)
  have s2:Sep F (h.put m (.map ((t1++t2).map (Et.m D)) clk)) (A e.k e.v e.x::bO m ((t1++t2).map (Et.m D)) clk::((t1++t2).map (Et.p A)++L)):=by
   refine s1.perm ?_
   simp only[List.map_append,List.map_cons,List.append_assoc,List.cons_append]
   exact (List.Perm.cons _ List.perm_middle).trans (List.Perm.swap _ _ _)
  exact s2.drop
theorem Sep.uZ {k:κ} {v:V} {x x':α} (s:Sep F h (A k v x'::aL D (dG k v A) m l::L)) (hk:Go.Abs.lkp k l=some x) :
 Sep F h (aL D A m (ins k x' l)::L):=by
 obtain⟨t,clk,p,s⟩:=s.up1.fA
 obtain⟨t1,e,t2,rfl,h1,h2,h3,h4⟩:=wO ((p.lkp k).trans hk)
 have h5:∀e'∈t2,e'.k≠k:=by
  have:=p.ndt
  rw[oC,List.map_append,List.map_cons,List.nodup_append]at this
  have h6:=(List.nodup_cons.1 this.2.1).1
  intro e' he' hc
  exact h6 (List.mem_map.2 ⟨e',he',hc.trans h1.symm⟩)
 rw[List.map_append (f:=Et.p (dG k v A)),List.map_cons (f:=Et.p (dG k v A)),sL h4,sL h5,aGq h1]at s
 have s1:Sep F h (dI (e.v=v)::bO m ((t1++e::t2).map (Et.m D)) clk::(t1.map (Et.p A)++(t2.map (Et.p A)++(A k v x'::L)))):=by
  refine s.perm ?_
  simp only[List.append_assoc,List.cons_append]
  exact (List.Perm.cons _ List.perm_middle).trans (List.Perm.swap _ _ _)
 obtain⟨hv,s2⟩:=s1.pure
 have hp:=p.put rfl h1 h4 v x'
 refine Sep.fJ hp ?_
 have e3:((t1++e::t2).map (Et.m D))=(t1++(⟨k,v,e.b,x'⟩:Et κ α)::t2).map (Et.m D):=by simp[Et.m,Et.g,hv,h1]
 rw[e3]at s2
 refine s2.perm (List.Perm.cons _ ?_)
 simp only[List.map_append,List.map_cons,List.append_assoc,List.cons_append]
 refine List.Perm.append_left _ ?_
 exact List.perm_middle
/-! ### A look at all of it -/
structure dW (t td:List (Et κ α)) (seen:Array Nat):Prop where
 sub:∀e∈td,e∈t
 nd:(td.map (·.b)).Nodup
 eq:seen=(td.map (·.b)).toArray
theorem dW.nil (t:List (Et κ α)):dW t [] #[]:=⟨by simp,by simp,rfl⟩
theorem Sep.sR {it clk:Nat} {td:List (Et κ α)} {seen:Array Nat} (s:Sep F h (cE it m clk seen::bO m (t.map (Et.m D)) clk::L)) (hb:∀e∈t,e.b<clk) (hn:(t.map (·.b)).Nodup) (hs:dW t td seen)
 {K:V→aA→Prop}
 (hK:∀e∈t,e∉td→∀h',Sep F h' (cE it m clk (seen.push e.b)::bO m (t.map (Et.m D)) clk::L)→dW t (td++[e]) (seen.push e.b)→gV (ptr it 0) h'=some (.tuple #[D.enc e.k,e.v])→td.length<t.length →
  K (.tuple #[.bool true,D.enc e.k,e.v]) h')
 (hE:t.Perm td→K (.tuple #[.bool false]) h):dS (ptr it 0) false h K:=by
 have es:Seen (t.map (Et.m D)) (td.map (Et.m D)) seen:=⟨fun x hx=>by
  obtain⟨e,he,rfl⟩:=List.mem_map.1 hx
  exact List.mem_map.2 ⟨e,hs.sub e he,rfl⟩,by rw[tU];exact hs.nd,by rw[hs.eq,tU]⟩
 refine s.next (fun x hx=>?_) (by rw[tU];exact hn) es (fun x hx hnx h' s' hs' he' hl'=>?_) (fun hp=>hE ?_)
 ·obtain⟨e,he,rfl⟩:=List.mem_map.1 hx
  exact hb e he
 ·obtain⟨e,he,rfl⟩:=List.mem_map.1 hx
  refine hK e he (fun hm=>hnx (List.mem_map.2 ⟨e,hm,rfl⟩)) h' s' ⟨fun a ha=>?_,?_,?_⟩ he' (by simpa using hl')
  ·rcases List.mem_append.1 ha with ha | ha
   ·exact hs.sub a ha
   ·simp only[List.mem_singleton]at ha
    rw[ha];exact he
  ·have:=hs'.nd
   rw[List.map_append,tU]at this
   rw[List.map_append]
   exact this
  ·have:=hs'.eq
   rw[List.map_append,tU]at this
   rw[List.map_append]
   exact this
 ·have nt:t.Nodup:=rG hn
  have ntd:td.Nodup:=rG hs.nd
  have hlen:=hp.length_eq
  simp only[List.length_map]at hlen
  refine (List.perm_ext_iff_of_nodup nt ntd).2 fun e=>⟨fun he=>?_,hs.sub e⟩
  have h1:e.b∈(td.map (Et.m D)).map (·.born):=by
   have:e.b∈(t.map (Et.m D)).map (·.born):=by
    rw[tU]
    exact List.mem_map.2 ⟨e,he,rfl⟩
   exact (hp.map (·.born)).mem_iff.1 this
  rw[tU]at h1
  obtain⟨e',he',hbe⟩:=List.mem_map.1 h1
  have hbe:e'.b=e.b:=hbe
  have:∀(l:List (Et κ α)),(l.map (·.b)).Nodup→∀a∈l,∀b∈l,a.b=b.b→a=b:=by
   intro l
   induction l with
   | nil=>simp
   | cons c l ih=>
    intro hnd a ha b hb hab
    simp only[List.map_cons,List.nodup_cons]at hnd
    rcases List.mem_cons.1 ha with rfl | ha'<;>rcases List.mem_cons.1 hb with rfl | hb'
    ·rfl
    ·exact absurd (List.mem_map.2 ⟨b,hb',hab.symm⟩) hnd.1
    ·exact absurd (List.mem_map.2 ⟨a,ha',hab⟩) hnd.1
    ·exact ih hnd.2 a ha' b hb' hab
  rw[←this t hn e' (hs.sub e' he') e he hbe]
  exact he'
end
end Go.Abs
namespace Go.Abs
open Go
variable {E:FE} {h:aA} {fp:List Nat} {v:V} {l:List bF}
theorem SlE.form {α:Type} {D:EL α} {l:List α} (s:SlE D h fp v l) (hl:l≠[]):∃b c,v = .slice (some ⟨b,0,none⟩) l.length c∧fp=[b]∧l.length≤c / 2:=by
 obtain⟨h0,⟨rfl,h1,rfl⟩ | ⟨b,c,all,rfl,rfl,hb,hc,h2,h3,h4⟩⟩:=s
 ·exact absurd (List.eq_nil_of_length_eq_zero h1) hl
 ·exact⟨b,c,rfl,rfl,hc⟩
theorem SlE.cells {α:Type} {D:EL α} {l:List α} {b c n:Nat} {fp:List Nat} (s:SlE D h fp (.slice (some ⟨b,0,none⟩) n c) l):fp=[b]∧b<h.next∧n=l.length∧l.length≤c / 2∧∃all,h.get b=some (.cells all D.es .rw)∧c / 2*D.es≤all.length∧all.take (l.length*D.es)=D.flat l:=by
 obtain⟨h0,⟨e,h1,rfl⟩ | ⟨b',c',all,e,rfl,hb,hc,h2,h3,h4⟩⟩:=s
 ·cases e
 ·cases e;exact⟨rfl,hb,rfl,hc,all,h2,h3,h4⟩
theorem aUu (c:Bool) (a b:bF):aC (.struct [(0,.string),(1,.string),(2,.bool)]) .eql c (.agg (bG.enc a).toArray) (.agg (bG.enc b).toArray) h=some (.bool (decide (a=b))):=by
 have:=eJ.eq a b
 have e:eqD (.struct [(0,.string),(1,.string),(2,.bool)]) c (.agg (bG.enc a).toArray) (.agg (bG.enc b).toArray) h=some (decide (a=b)):=this
 show (eqD (.struct [(0,.string),(1,.string),(2,.bool)]) c _ _ h).map Value.bool=_
 rw[e];rfl
theorem aUv (c:Bool) (a b:bF):aC (.struct [(0,.string),(1,.string),(2,.bool)]) .neq c (.agg (bG.enc a).toArray) (.agg (bG.enc b).toArray) h=some (.bool (!decide (a=b))):=by
 have:=eJ.eq a b
 have e:eqD (.struct [(0,.string),(1,.string),(2,.bool)]) c (.agg (bG.enc a).toArray) (.agg (bG.enc b).toArray) h=some (decide (a=b)):=this
 show (eqD (.struct [(0,.string),(1,.string),(2,.bool)]) c _ _ h).map (fun b=>Value.bool (!b))=_
 rw[e];rfl
theorem aOu {b n c es k:Nat} {all:List V} (hg:h.get b=some (.cells all es .rw)) (h0:0<k) (hk:k≤n) (hkc:k<c / 2) :
 cK (.slice es) (.slice (some ⟨b,0,none⟩) n c) (some (i64 k)) none none h=some (.slice (some ⟨b,0+k*es,none⟩) (n - k) (c - 2*k)):=by
 have:cK (.slice es) (.slice (some ⟨b,0,none⟩) n c) (some (.int .i64 k)) none none h =
  if k=0 then some (.slice (some ⟨b,0,none⟩) n c) else if k<c / 2 then some (.slice (some ⟨b,0+k*es,none⟩) (n - k) (c - 2*k))
  else if c % 2=0 then some (.slice (some ⟨b,0,none⟩) (n - k) 0) else some (.slice none 0 1):=by
  simp[cK,cD,dL,hg,hk]
 rw[this,if_neg (by omega),if_pos hkc]
theorem aO8 {α:Type} {D:EL α} {l:List α} {b c i j m:Nat} {fp:List Nat} {x:α} (s:SlE D h fp (.slice (some ⟨b,0,none⟩) l.length c) l) (hx:l[i+j]? = some x) (hm:j<m) :
 aV (.slice D.es) (.slice (some ⟨b,0+i*D.es,none⟩) m (c - 2*i)) (i64 j)=some (ptr b ((i+j)*D.es))∧ldD (.agg D.es) (ptr b ((i+j)*D.es)) h=some (.agg (D.enc x).toArray):=by
 obtain⟨b',h1,h2⟩:=s.ld hx
 have hb:b'=b:=by
  have hlt:=(List.getElem?_eq_some_iff.1 hx).1
  have:(0:Int)≤((i+j:Nat):Int)∧((i+j:Nat):Int)<(l.length:Nat):=by omega
  simp only[aV,if_pos this,Option.some.injEq,Value.pointer.injEq,Addr.mk.injEq]at h1
  exact h1.1.symm
 subst hb
 refine⟨?_,h2⟩
 have:(0:Int)≤(j:Int)∧(j:Int)<(m:Nat):=by omega
 simp only[aV,if_pos this,Int.toNat_natCast]
 congr 4
 rw[Nat.add_mul];omega
theorem aSi (s:SlE bG h fp v l) (hsz:l.length≤1000) :
 cl (F.nB E) [v] h fun r h'=>∃l',(∀x,x∈l'↔x∈l)∧l'.length≤l.length∧SlE bG h' fp r l'∧Mod h fp h' fp:=by
 refine aN ?_
 have hlt:=s.lt
 have same:∃l',(∀x,x∈l'↔x∈l)∧l'.length≤l.length∧SlE bG h fp v l'∧Mod h fp h fp:=⟨l,fun x=>Iff.rfl,Nat.le_refl _,s,Mod.refl hlt⟩
 simp only[F.nB,s.len,aB,cN,aG,decide_eq_true_eq]
 by_cases h2:((l.length:Nat):Int)<2
 ·rw[if_pos h2];exact same
 rw[if_neg h2]
 have hl0:l≠[]:=fun e=>by rw[e]at h2;simp at h2
 obtain⟨b,c,rfl,rfl,hc⟩:=s.form hl0
 refine⟨fun n vs h'=>∃i:Nat,vs=[i64 i]∧n=l.length - i∧1≤i∧i≤l.length∧h'=h,l.length - 1,⟨1,rfl,rfl,by omega,by omega,rfl⟩,?_⟩
 rintro n e h1 ⟨i,he,rfl,hi1,hi2,rfl⟩
 simp only[List.cons.injEq,and_true]at he
 simp only[he,s.len,cN,aB,aG,decide_eq_true_eq]
 rcases Nat.lt_or_ge i l.length with hx | hx
 case inr=>
  rw[if_neg (show ¬((i:Nat):Int)<(l.length:Nat) by omega)]
  exact same
 rw[if_pos (show ((i:Nat):Int)<(l.length:Nat) by omega)]
 have g1:l[i]? = some l[i]:=List.getElem?_eq_getElem hx
 have g2:l[i - 1]? = some l[i - 1]:=List.getElem?_eq_getElem (by omega)
 obtain⟨b1,i1,i2⟩:=s.ld g1
 obtain⟨b2,i3,i4⟩:=s.ld g2
 have i1:aV (.slice 3) _ _=_:=i1
 have i3:aV (.slice 3) _ _=_:=i3
 have i2:ldD (.agg 3) _ _=_:=i2
 have i4:ldD (.agg 3) _ _=_:=i4
 have hw:aC .bad .sub true (i64 i) (.int .i64 1) h1=some (i64 ((i - 1:Nat):Int)):=by
  rw[aEg _ 1 (by omega) (by omega)];congr 2;omega
 simp only[i1,i2,aB,hw,i3,i4,aUu,aG,decide_eq_true_eq]
 by_cases heq:l[i]=l[i - 1]
 case neg=>
  rw[if_neg heq,cY _ 1 (by omega) (by omega),aB]
  exact⟨l.length - (i+1),by omega,i+1,by simp,rfl,by omega,by omega,trivial⟩
 rw[if_pos heq]
 obtain⟨_,hbn,_,_,all,hg,hall,htk⟩:=s.cells
 have hg:h1.get b=some (.cells all 3 .rw):=hg
 rw[aOu hg (by omega) (by omega) (by omega),aB]
 refine⟨fun n vs h'=>∃(k j:Nat) (l1:List bF),vs=[i64 k,i64 j]∧n=l.length - i - j∧1≤j∧j≤l.length - i∧i≤k∧k+1≤i+j∧l1.length=l.length∧(∀p,k≤p→l1[p]? = l[p]?)∧(∀x,x∈l1.take k↔x∈l.take (i+j)) ∧
  SlE bG h' [b] (.slice (some ⟨b,0,none⟩) l.length c) l1∧Mod h1 [b] h' [b],l.length - i - 1,⟨i,1,l,rfl,rfl,by omega,by omega,by omega,by omega,rfl,fun _ _=>rfl,fun x=>?_,s,Mod.refl hlt⟩,?_⟩
 ·rw[List.take_add_one,g1,List.mem_append]
  constructor
  ·exact .inl
  ·rintro (h | h)
   ·exact h
   ·simp only[Option.toList_some,List.mem_singleton]at h
    subst h
    rw[heq]
    exact List.mem_take_iff_getElem.2 ⟨i - 1,by omega,by simp⟩
 rintro n3 e3 h3 ⟨k,j,l1,hv,rfl,hj1,hj2,hik,hkj,hl1,hsame,hmem,s3,m3⟩
 simp only[List.cons.injEq,and_true]at hv
 obtain⟨v1,v2⟩:=hv
 have hlen:∀h:aA,bH .slice (.slice (some ⟨b,0+i*3,none⟩) (l.length - i) (c - 2*i)) h=some (i64 ((l.length - i:Nat):Int)):=fun _=>rfl
 simp only[v1,v2,hlen,aB,cN,aG,decide_eq_true_eq]
 have s3':SlE bG h3 [b] (.slice (some ⟨b,0,none⟩) l1.length c) l1:=by rw[hl1];exact s3
 rcases Nat.lt_or_ge j (l.length - i) with hjl | hjl
 ·rw[if_pos (show ((j:Nat):Int)<((l.length - i:Nat):Int) by omega)]
  have q1:l1[i+j]? = some l[i+j]:=by rw[hsame _ (by omega)];exact List.getElem?_eq_getElem (by omega)
  have q2:l1[i+(j - 1)]? = some l[i+(j - 1)]:=by rw[hsame _ (by omega)];exact List.getElem?_eq_getElem (by omega)
  obtain⟨j1,j2⟩:=aO8 (m:=l.length - i) s3' q1 hjl
  obtain⟨j3,j4⟩:=aO8 (m:=l.length - i) s3' q2 (by omega)
  have j1:aV (.slice 3) (.slice (some ⟨b,0+i*3,none⟩) (l.length - i) (c - 2*i)) _=_:=j1
  have j3:aV (.slice 3) (.slice (some ⟨b,0+i*3,none⟩) (l.length - i) (c - 2*i)) _=_:=j3
  have j2:ldD (.agg 3) _ _=_:=j2
  have j4:ldD (.agg 3) _ _=_:=j4
  have hwj:aC .bad .sub true (i64 j) (.int .i64 1) h3=some (i64 ((j - 1:Nat):Int)):=by
   rw[aEg _ 1 (by omega) (by omega)];congr 2;omega
  simp only[j1,aB,j2,hwj,j3,j4,aUv,aG]
  have htake:∀x,x∈l.take (i+(j+1))↔x∈l.take (i+j)∨x=l[i+j]:=fun x=>by
   rw[show i+(j+1)=i+j+1 by omega,List.take_add_one,List.getElem?_eq_getElem (show i+j<l.length by omega),List.mem_append]
   simp
  by_cases hne:l[i+j]=l[i+(j - 1)]
  ·simp only[hne,decide_true,Bool.not_true,Bool.false_eq_true,if_false]
   rw[cY _ 1 (by omega) (by omega),aB]
   refine⟨l.length - i - (j+1),by omega,k,j+1,l1,by simp,rfl,by omega,by omega,hik,by omega,hl1,hsame,fun x=>?_,s3,m3⟩
   rw[hmem,htake]
   constructor
   ·exact .inl
   ·rintro (h | rfl)
    ·exact h
    ·rw[hne]
     exact List.mem_take_iff_getElem.2 ⟨i+(j - 1),by omega,by simp⟩
  ·simp only[hne,decide_false,Bool.not_false,if_true]
   obtain⟨b5,h5,k1,k2,s5,m5⟩:=s3'.st (i:=k) (by omega) l[i+j]
   have k1:aV (.slice 3) (.slice (some ⟨b,0,none⟩) l1.length c) _=_:=k1
   have k2:stD (some 3) _ _ _=_:=k2
   rw[hl1]at k1 s5
   rw[k1,aB,k2,bV,cY _ 1 (by omega) (by omega),aB,cY _ 1 (by omega) (by omega),aB]
   refine⟨l.length - i - (j+1),by omega,k+1,j+1,l1.set k l[i+j],by simp,rfl,by omega,by omega,by omega,by omega,by simp[hl1],fun p hp=>?_,fun x=>?_,s5,m3.trans m5⟩
   ·rw[List.getElem?_set_ne (by omega)];exact hsame p (by omega)
   ·rw[htake,←hmem,List.take_add_one,List.getElem?_set_self (by omega),List.take_set_of_le (Nat.le_refl _),List.mem_append]
    simp
 ·rw[if_neg (show ¬((j:Nat):Int)<((l.length - i:Nat):Int) by omega)]
  obtain⟨_,hbn3,_,_,all3,hg3,hall3,htk3⟩:=s3'.cells
  have hg3:h3.get b=some (.cells all3 3 .rw):=hg3
  have hall3:c / 2*3≤all3.length:=hall3
  rw[aOu hg3 (by omega) (by omega) (by omega),aB]
  obtain⟨m,hm⟩:∃m,l.length - k=m+1:=⟨l.length - k - 1,by omega⟩
  have hz:(eO [(.string ⟨#[]⟩),(.string ⟨#[]⟩),(.bool false)] ((m+1)*3):List V).length=(m+1)*3:=by simp[eO]
  have hcl:qC (some (some [(.string ⟨#[]⟩),(.string ⟨#[]⟩),(.bool false)])) (.slice (some ⟨b,0+k*3,none⟩) (l.length - k) (c - 2*k)) h3 =
   some (h3.put b (.cells (dJ all3 (0+k*3) (eO [(.string ⟨#[]⟩),(.string ⟨#[]⟩),(.bool false)] ((m+1)*3))) 3 .rw)):=by
   rw[hm]
   have hz1:(([(.string ⟨#[]⟩),(.string ⟨#[]⟩),(.bool false)]:List V).length≠0∧([(.string ⟨#[]⟩),(.string ⟨#[]⟩),(.bool false)]:List V).all dH=true):=⟨by decide,rfl⟩
   simp only[qC]
   rw[if_pos hz1]
   simp only[aA.wr,hg3]
   rw[if_pos ⟨by simp,by show 0+k*3+(eO _ ((m+1)*3)).length≤_;rw[hz];omega⟩]
   rfl
  rw[hcl,bV]
  have hpre:∀h:aA,h.get b=some (.cells (dJ all3 (0+k*3) (eO [(.string ⟨#[]⟩),(.string ⟨#[]⟩),(.bool false)] ((m+1)*3))) 3 .rw) →
   cK (.slice 3) (.slice (some ⟨b,0,none⟩) l.length c) none (some (i64 k)) none h=some (.slice (some ⟨b,0,none⟩) k c):=by
   intro h hh
   have hk2:(0:Int)≤k∧(k:Int)≤((c / 2:Nat):Int):=by omega
   simp only[cK,hh,if_true,cD,dL,if_pos hk2,Int.toNat_natCast]
  rw[hpre _ (by simp),aB]
  refine⟨l1.take k,fun x=>?_,by rw[List.length_take];omega,?_,m3.trans ⟨by simp,fun x _ hx=>?_,fun x hx=>.inl hx,by simpa using hbn3⟩⟩
  ·rw[hmem,List.take_of_length_le (by omega)]
  ·refine⟨by rw[bG.qI],.inr ⟨b,c,dJ all3 (0+k*3) (eO [(.string ⟨#[]⟩),(.string ⟨#[]⟩),(.bool false)] ((m+1)*3)),?_,rfl,by simpa using hbn3,?_,by rw[wJ,if_pos rfl];rfl,?_,?_⟩⟩
   ·rw[List.length_take,Nat.min_eq_left (by omega)]
   ·rw[List.length_take];omega
   ·rw[sY];exact hall3
   ·rw[List.length_take,Nat.min_eq_left (show k≤l1.length by omega)]
    show (dJ all3 (0+k*3) _).take (k*3)=_
    have hks:k*3+(m+1)*3≤all3.length:=by omega
    rw[uJ _ _ _ (by rw[hz];omega),Nat.zero_add,List.append_assoc,List.take_append_of_le_length (by rw[List.length_take];omega),List.take_take,Nat.min_self]
    have:=bG.aGc l1 k
    rw[←this,←htk3,List.take_take]
    congr 1
    have:k*3≤l1.length*3:=by omega
    exact (Nat.min_eq_left this).symm
  ·simp at hx;simp[hx]
end Go.Abs
namespace Go.Abs
open Go
theorem aJv {s:ByteArray} {i:Nat} (h:(s.get! i).toNat<128):Utf8.decode s i=((s.get! i).toNat,1):=by
 unfold Utf8.decode
 simp only[Nat.add_zero]
 rw[if_pos h]
theorem aSx {s:ByteArray} {i:Nat} (h:128≤(s.get! i).toNat):128≤(Utf8.decode s i).1:=by
 have hr:128≤Utf8.runeError:=by decide
 unfold Utf8.decode
 simp only[Nat.add_zero]
 rw[if_neg (by omega)]
 split
 ·split
  ·assumption
  ·exact hr
 ·split
  ·split
   ·rename_i hc
    simp only[ge_iff_le,Bool.and_eq_true,decide_eq_true_eq]at hc
    show 128≤_
    omega
   ·exact hr
  ·split
   ·split
    ·rename_i hc
     simp only[ge_iff_le,Bool.and_eq_true,decide_eq_true_eq]at hc
     show 128≤_
     omega
    ·exact hr
   ·exact hr
theorem aGj (s:ByteArray) {i:Nat} (h:i<s.size):s.data.toList[i]? = some (s.get! i):=by
 have h1:i<s.data.toList.length:=by rw[Array.length_toList];exact h
 rw[List.getElem?_eq_getElem h1]
 congr 1
 show s.data.toList[i]=s.data[i]!
 rw[getElem!_pos s.data i h]
 simp
def rM (c:UInt8):Bool:=decide (97≤c.toNat)&&decide (c.toNat≤122)
theorem aOv (s:ByteArray):qT s=s.data.toList.all rM:=rfl
theorem aXx {s:ByteArray} {i:Nat}:(97≤(Utf8.decode s i).1∧(Utf8.decode s i).1≤122)↔rM (s.get! i)=true:=by
 simp only[rM,Bool.and_eq_true,decide_eq_true_eq]
 by_cases h:(s.get! i).toNat<128
 ·rw[aJv h]
 ·have:=aSx (s:=s) (i:=i) (by omega)
  omega
theorem aX7 {s:ByteArray} {i:Nat} (h:rM (s.get! i)=true):(Utf8.decode s i).2=1:=by
 simp only[rM,Bool.and_eq_true,decide_eq_true_eq]at h
 rw[aJv (by omega)]
end Go.Abs

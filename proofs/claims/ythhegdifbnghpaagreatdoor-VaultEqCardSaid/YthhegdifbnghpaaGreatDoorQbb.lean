/- Specs on abstract heaps, part 31: operations on spaces: what they do; on tables, on queues. -/
import Derived.Test.YthhegdifbnghpaaGreatDoorQaz
import Derived.Test.YthhegdifbnghpaaGreatDoorQba
set_option linter.unusedSimpArgs false
set_option linter.unusedVariables false
namespace Go.Abs
open Go Go.Proofs
variable {E E1:FE} {h h':aA} {p q pt qt:V} {l:List ByteArray} {g:List En} {fp fa fb:List Nat}
inductive bR where
 | tab (g:List En)
 | qu (most next:Int) (items lost:List Msg)
 | to (l:List ByteArray) (g:List En)
def bR.cells:bR→V→List V
 | .tab _,pt=>pC pt
 | .qu ..,pt=>cQu pt
 | .to ..,pt=>cTo pt
def bR.pl:bR→V→Pl
 | .tab g,pt=>jY pt g
 | .qu a b c d,pt=>eK pt a b c d
 | .to l g,pt=>jA pt l g
def SpS (h:aA) (fp:List Nat) (p:V) (S:bR):Prop:=∃pt,Spa h fp p (S.cells pt) (S.pl pt)
def doT (g:List En) (o:Oq) (c:Nat):ByteArray×bR:=
 if o.fn=4 then (⟨#[]⟩,.tab (cM o.key (str o.val) c g))
 else if o.fn=5 then (if (bD o.key g).isSome then ⟨#[61]⟩ else ⟨#[45]⟩,.tab (eS o.key g))
 else (match bD o.key g with | some (.string s)=>⟨#[61]⟩++s | _=>⟨#[45]⟩,.tab g)
def aGl:Option Msg→ByteArray
 | some m=>jM m.id.toNat++⟨#[32]⟩++jM m.count.toNat++⟨#[32]⟩++m.val
 | none=>⟨#[]⟩
def doQ (most next:Int) (items lost:List Msg) (o:Oq) (now:Int):ByteArray×Int×bR:=
 if o.fn=6 then
  if items.length+lost.length<64 then (jM next.toNat,0,.qu most (next+1) (items++[⟨next,o.val,0,0⟩]) lost) else (⟨#[]⟩,6,.qu most next items lost)
 else if o.fn=7 then
  if o.n<1∨o.n > 1000∨now<0∨now > 1099511627776 then (⟨#[]⟩,0,.qu most next items lost)
  else (aGl (cL most now o.n items).2.2,0,.qu most next (cL most now o.n items).1 (lost++(cL most now o.n items).2.1))
 else if o.fn=8 then
  if iY o.key then (match items.findIdx? (xN o.n (iD o.key) now) with | some i=>(⟨#[]⟩,0,.qu most next (items.eraseIdx i) lost) | none=>(⟨#[]⟩,3,.qu most next items lost))
  else (⟨#[]⟩,1,.qu most next items lost)
 else (match lost with | []=>⟨#[]⟩ | m::_=>jM m.id.toNat++⟨#[32]⟩++m.val,0,.qu most next items lost.tail)
def doP (l:List ByteArray) (g:List En) (o:Oq) (c:Nat):ByteArray×Int×bR:=
 if o.fn=10 then if l.length<64 then (jM l.length,0,.to (l++[o.val]) g) else (⟨#[]⟩,6,.to l g)
 else if o.fn=11 then (qH ⟨#[]⟩ (rA l (atN o.key g) o.n),0,.to l g)
 else if iY o.val then
  if atN o.key g=iD o.val∧(iD o.val:Int)≤o.n∧o.n≤l.length∧((bD o.key g).isSome∨g.length<16) then (⟨#[]⟩,0,.to l (cM o.key (i64 o.n) c g)) else (⟨#[]⟩,3,.to l g)
 else (⟨#[]⟩,1,.to l g)
def bR.act (S:bR) (o:Oq) (now:Int) (c:Nat):ByteArray×Int×bR:=
 match S with
 | .tab g=>if 3≤o.fn∧o.fn≤5 then ((doT g o c).1,0,(doT g o c).2) else (⟨#[]⟩,1,S)
 | .qu a b i l=>if 6≤o.fn∧o.fn≤9 then doQ a b i l o now else (⟨#[]⟩,1,S)
 | .to l g=>if 10≤o.fn∧o.fn≤12 then doP l g o c else (⟨#[]⟩,1,S)
theorem aPv {A:Pl} (s:Spa h fp p (pC pt) A) (o:Oq) (now:V) (ho:3≤o.fn∧o.fn≤5) {P:V→aA→Prop}
 (hs:∀h1,Mod h [] h1 []→cl (Go.Abs.F.lO E) [p,o.agg] h1 fun r h'=>P (.tuple #[r,i64 0]) h'):cl (Go.Abs.F.fE E) [p,o.agg,now] h P:=by
 refine aN ?_
 have m0:Mod h [] (h.new (.cells o.cells 5 .rw)) []:=Mod.lV _
 have g0:(h.new (.cells o.cells 5 .rw)).get h.next=some (.cells o.cells 5 .rw):=by simp
 have s0:=s.bZ m0
 have hk:=hs _ m0
 simp only[Go.Abs.F.fE,qM,aZ]
 generalize h.new (.cells o.cells 5 .rw)=g at m0 g0 s0 hk ⊢
 generalize h.next=bx at g0 ⊢
 obtain⟨b,f,rfl,rfl,hg,hA,up⟩:=s0.open
 have a1:decide (o.fn≥3)=true:=by simp;omega
 have a2:decide (o.fn≤5)=true:=by simp;omega
 have r0:g.rd bx 0=some (i64 o.fn):=aH g0 0
 simp only[dA,aB,aG,Bool.false_eq_true,if_false,bK,bE,aS,Nat.zero_add,aH hg,List.getElem?_cons_zero,dD,show ((1:Int)==1)=true from rfl,
  aQ,dO,aR,if_true,r0,fH,pY,a1,a2,ld5 g0]
 exact hk
theorem aPt {A:Pl} (s:Spa h fp p (cQu pt) A) (o:Oq) (now:V) (ho:6≤o.fn∧o.fn≤9) {P:V→aA→Prop}
 (hs:∀h1,Mod h [] h1 []→cl (Go.Abs.F.lN E) [p,o.agg,now] h1 fun r h'=>∃x y,r = .tuple #[x,y]∧P (.tuple #[x,y]) h'):cl (Go.Abs.F.fE E) [p,o.agg,now] h P:=by
 refine aN ?_
 have m0:Mod h [] (h.new (.cells o.cells 5 .rw)) []:=Mod.lV _
 have g0:(h.new (.cells o.cells 5 .rw)).get h.next=some (.cells o.cells 5 .rw):=by simp
 have s0:=s.bZ m0
 have hk:=hs _ m0
 simp only[Go.Abs.F.fE,qM,aZ]
 generalize h.new (.cells o.cells 5 .rw)=g at m0 g0 s0 hk ⊢
 generalize h.next=bx at g0 ⊢
 obtain⟨b,f,rfl,rfl,hg,hA,up⟩:=s0.open
 have a1:decide (o.fn≥6)=true:=by simp;omega
 have a2:decide (o.fn≤9)=true:=by simp;omega
 have r0:g.rd bx 0=some (i64 o.fn):=aH g0 0
 simp only[dA,aB,aG,Bool.false_eq_true,if_false,bK,bE,aS,Nat.zero_add,aH hg,List.getElem?_cons_zero,dD,show ((2:Int)==1)=false from rfl,show ((2:Int)==2)=true from rfl,
  aQ,dO,aR,if_true,r0,fH,pY,a1,a2,ld5 g0]
 refine aK hk ?_
 rintro r h2 ⟨x,y,rfl,hP⟩
 simp only[bU,List.getElem?_toArray,List.getElem?_cons_zero,List.getElem?_cons_succ,aB]
 exact hP
theorem aH7 {lo hi fn:Int} {bx:Nat} {hp:aA} (r0:hp.rd bx 0=some (i64 fn)) {c:Bool} {X:V→Prop} (hX:X (.bool (c&&(decide (fn≥lo)&&decide (fn≤hi))))) :
 kv (gdV (.bool c) true (aF (some 0) (ptr bx 0))) fun v18=>kv (gdV (.bool c) true (ldD .one v18 hp)) fun v19=>kv (gdV (.bool c) true (aC .bad .geq true v19 (.int .i64 lo) hp)) fun v20=>kv (bC (.bool c) v20 (.bool false)) fun v21=>
  kv (gdV v21 true (aF (some 0) (ptr bx 0))) fun v23=>kv (gdV v21 true (ldD .one v23 hp)) fun v24=>kv (gdV v21 true (aC .bad .leq true v24 (.int .i64 hi) hp)) fun v25=>kv (bC v21 v25 (.bool false)) X:=by
 cases c with
 | false=>simpa only[aQ,dO,Bool.false_eq_true,if_false,aB,aR,Bool.false_and]using hX
 | true=>
  simp only[aQ,if_true,bE,aB,aS,Nat.zero_add,r0,fH,aR]
  cases h1:decide (fn≥lo) with
  | false=>simpa only[h1,aQ,dO,Bool.false_eq_true,if_false,aB,aR,Bool.true_and,Bool.false_and]using hX
  | true=>simpa only[h1,aQ,if_true,bE,aB,aS,Nat.zero_add,r0,pY,aR,Bool.true_and]using hX
theorem aE1 {A:Pl} {k:Int} {c1 c2 c3:V} (s:Spa h fp p [i64 k,c1,c2,c3] A) (o:Oq) (now:V) (ho:(k==1&&(decide (o.fn≥3)&&decide (o.fn≤5)))=false∧(k==2&&(decide (o.fn≥6)&&decide (o.fn≤9)))=false∧(k==3&&(decide (o.fn≥10)&&decide (o.fn≤12)))=false) :
 cl (Go.Abs.F.fE E) [p,o.agg,now] h fun r h'=>r = .tuple #[str ⟨#[]⟩,i64 1]∧Mod h [] h' []:=by
 refine aN ?_
 have m0:Mod h [] (h.new (.cells o.cells 5 .rw)) []:=Mod.lV _
 have g0:(h.new (.cells o.cells 5 .rw)).get h.next=some (.cells o.cells 5 .rw):=by simp
 have s0:=s.bZ m0
 simp only[Go.Abs.F.fE,qM,aZ]
 generalize h.new (.cells o.cells 5 .rw)=g at m0 g0 s0 ⊢
 generalize h.next=bx at g0 ⊢
 obtain⟨b,f,rfl,rfl,hg,hA,up⟩:=s0.open
 have r0:g.rd bx 0=some (i64 o.fn):=aH g0 0
 simp only[dA,aB,aG,Bool.false_eq_true,if_false,bK,bE,aS,Nat.zero_add,aH hg,List.getElem?_cons_zero,dD]
 refine aH7 (hp:=g) (bx:=bx) (lo:=3) (hi:=5) r0 ?_
 rw[ho.1]
 simp only[aG,Bool.false_eq_true,if_false]
 refine aH7 (hp:=g) (bx:=bx) (lo:=6) (hi:=9) r0 ?_
 rw[ho.2.1]
 simp only[aG,Bool.false_eq_true,if_false]
 refine aH7 (hp:=g) (bx:=bx) (lo:=10) (hi:=12) r0 ?_
 rw[ho.2.2]
 simp only[aG,Bool.false_eq_true,if_false]
 exact⟨trivial,m0⟩
end Go.Abs
namespace Go.Abs
open Go Go.Proofs
variable {E E0 E1:FE} {h h':aA} {p q pt qt:V} {l:List ByteArray} {g:List En} {fp fa fb:List Nat} {most next:Int} {items lost:List Msg}
abbrev BB:Nat:=1152921504606846976
theorem aHh {A:Pl} {cs:List V} (s:Spa h fp p cs A) (o:Oq) :
 ∃g bx,aY none o.agg h=some (ptr bx 0,g)∧Mod h fp g fp∧Mod h [] g []∧bx<g.next∧g.get bx=some (.cells o.cells 5 .rw)∧Spa g fp p cs A∧h.next≤bx∧bx∉fp:=by
 have m0:Mod h [] (h.new (.cells o.cells 5 .rw)) []:=Mod.lV _
 exact⟨h.new (.cells o.cells 5 .rw),h.next,rfl,Mod.eZ s.lt,m0,by simp,by simp,s.bZ m0,Nat.le_refl _,fun hx=>by have:=s.lt _ hx;omega⟩
theorem aYy (s:Spa h fp p (pC pt) (jY pt g)) (o:Oq) (ho:3≤o.fn∧o.fn≤5) (hv:∀e∈g,∃s,e.v=str s∧s.size≤BB) :
 cl (Go.Abs.F.lO E) [p,o.agg] h fun r h'=>∃c fp',r=str (doT g o c).1∧Spa h' fp' p ((doT g o c).2.cells pt) ((doT g o c).2.pl pt)∧Mod h fp h' fp':=by
 refine aN ?_
 obtain⟨h1,bx,e1,m1,_,_,g0,s1,_⟩:=aHh s o
 simp only[Go.Abs.F.lO,e1,aZ]
 obtain⟨b,f,rfl,rfl,hg,hA,up⟩:=s1.open
 have r0:h1.rd bx 0=some (i64 o.fn):=aH g0 0
 have r2:h1.rd bx 2=some (str o.key):=aH g0 2
 have r3:h1.rd bx 3=some (str o.val):=aH g0 3
 have hv':∀e∈g,∃s,e.v=str s:=fun e he=>by obtain⟨s,h,_⟩:=hv e he;exact⟨s,h⟩
 simp only[bE,aB,aS,Nat.zero_add,r0,dD,aG]
 by_cases h4:o.fn=4
 ·simp only[h4,beq_self_eq_true,if_true,bK,bE,aB,aS,Nat.zero_add,aH hg,List.getElem?_cons_zero,List.getElem?_cons_succ,r2,r3]
  refine aK (aPb hA o.key (str o.val)) ?_
  rintro r h2 ⟨_,c,t2,m2⟩
  obtain⟨q1,q2⟩:=up (jY pt (cM o.key (str o.val) c g)) m2 t2
  have ed:doT g o c=(⟨#[]⟩,.tab (cM o.key (str o.val) c g)):=by simp[doT,h4]
  refine⟨c,b::f,?_⟩
  rw[ed]
  exact⟨rfl,q1,m1.trans q2⟩
 ·have h4':(o.fn==4)=false:=by simpa using h4
  simp only[h4',Bool.false_eq_true,if_false]
  by_cases h5:o.fn=5
  ·simp only[h5,beq_self_eq_true,if_true,bK,bE,aB,aS,Nat.zero_add,aH hg,List.getElem?_cons_zero,List.getElem?_cons_succ,r2]
   refine aK (aPa hA hv' o.key) ?_
   rintro r h2 ⟨rfl,t2,m2⟩
   obtain⟨q1,q2⟩:=up (jY pt (eS o.key g)) m2 t2
   have ed:doT g o 0=(if (bD o.key g).isSome then ⟨#[61]⟩ else ⟨#[45]⟩,.tab (eS o.key g)):=by simp[doT,h5]
   simp only[aG]
   cases hk:(bD o.key g).isSome with
   | true=>
    simp only[if_true]
    refine⟨0,b::f,?_⟩
    rw[ed,hk]
    exact⟨rfl,q1,m1.trans q2⟩
   | false=>
    simp only[Bool.false_eq_true,if_false]
    refine⟨0,b::f,?_⟩
    rw[ed,hk]
    exact⟨rfl,q1,m1.trans q2⟩
  ·have h5':(o.fn==5)=false:=by simpa using h5
   simp only[h5',Bool.false_eq_true,if_false,bK,bE,aB,aS,Nat.zero_add,aH hg,List.getElem?_cons_zero,List.getElem?_cons_succ,r2]
   refine aK (zL hA hv' o.key) ?_
   rintro r h2 ⟨e2,rfl⟩
   rw[e2]
   simp only[bU,List.getElem?_toArray,List.getElem?_cons_zero,List.getElem?_cons_succ,aB,aG]
   obtain⟨q1,q2⟩:=up (jY pt g) (Mod.refl ((jY pt g).lt _ _ hA)) hA
   cases hk:bD o.key g with
   | none=>
    have ed:doT g o 0=(⟨#[45]⟩,.tab g):=by simp[doT,h4,h5,hk]
    simp only[Option.isSome_none,Bool.false_eq_true,if_false]
    refine⟨0,b::f,?_⟩
    rw[ed]
    exact⟨rfl,q1,m1.trans q2⟩
   | some v=>
    obtain⟨e,he,rfl⟩:=qJ hk
    obtain⟨x,hx,hz⟩:=hv e he
    have ed:doT g o 0=(⟨#[61]⟩++x,.tab g):=by simp[doT,h4,h5,hk,hx]
    simp only[Option.isSome_some,if_true,Option.getD_some,hx]
    rw[pR _ _ _ _ (by have:(⟨#[61]⟩:ByteArray).size=1:=rfl
                      have hB:BB=1152921504606846976:=rfl
                      omega),aB]
    refine⟨0,b::f,?_⟩
    rw[ed]
    exact⟨rfl,q1,m1.trans q2⟩
structure QI (k:Nat) (most next:Int) (items lost:List Msg):Prop where
 m1:1≤most∧most≤9
 n1:1≤next∧next≤k+1
 len:items.length+lost.length≤64
 its:∀m∈items,1≤m.id∧m.id<next∧0≤m.count∧m.count≤9∧m.val.size≤BB
 lst:∀m∈lost,1≤m.id∧m.id<next∧0≤m.count∧m.count≤9∧m.val.size≤BB
theorem aN7 {now ticks:Int}:∀{l:List Msg},∀m∈(cL most now ticks l).1,∃m0∈l,m.id=m0.id∧m.val=m0.val∧m0.count≤m.count∧(m.count≤m0.count∨m.count≤most)
 | [],m,hm=>by simp[cL]at hm
 | a::l,m,hm=>by
  have ih:=@aN7 now ticks l
  simp only[cL]at hm
  split at hm
  ·rcases List.mem_cons.1 hm with rfl | hm
   ·exact⟨m,by simp,rfl,rfl,Int.le_refl _,.inl (Int.le_refl _)⟩
   ·obtain⟨m0,h1,h2⟩:=ih m hm
    exact⟨m0,by simp[h1],h2⟩
  ·split at hm
   ·obtain⟨m0,h1,h2⟩:=ih m hm
    exact⟨m0,by simp[h1],h2⟩
   ·rename_i hc
    rcases List.mem_cons.1 hm with rfl | hm
    ·exact⟨a,by simp,rfl,rfl,by simp only;omega,.inr (by simp only;omega)⟩
    ·exact⟨m,by simp[hm],rfl,rfl,Int.le_refl _,.inl (Int.le_refl _)⟩
theorem aN9 {now ticks:Int}:∀{l:List Msg},∀m∈(cL most now ticks l).2.1,m∈l
 | [],m,hm=>by simp[cL]at hm
 | a::l,m,hm=>by
  have ih:=@aN9 now ticks l
  simp only[cL]at hm
  split at hm
  ·simp[ih m hm]
  ·split at hm
   ·rcases List.mem_cons.1 hm with rfl | hm
    ·simp
    ·simp[ih m hm]
   ·simp at hm
theorem aN6 {now ticks:Int}:∀{l:List Msg} {m:Msg},(cL most now ticks l).2.2=some m→m∈(cL most now ticks l).1
 | [],m,hm=>by simp[cL]at hm
 | a::l,m,hm=>by
  have ih:=@aN6 now ticks l m
  simp only[cL]at hm ⊢
  split at hm
  ·rename_i h1;simp only[h1,if_true];exact List.mem_cons_of_mem _ (ih hm)
  ·rename_i h1
   split at hm
   ·rename_i h2;simp only[h1,h2,if_true,if_false];exact ih hm
   ·rename_i h2
    simp only[h1,h2,if_false]
    cases hm
    simp
variable {k:Nat}
theorem QI.mono {k':Nat} (q:QI k most next items lost) (hk:k≤k'):QI k' most next items lost:=⟨q.m1,by have:=q.n1;omega,q.len,q.its,q.lst⟩
theorem QI.recv (q:QI k most next items lost) (now ticks:Int):QI k most next (cL most now ticks items).1 (lost++(cL most now ticks items).2.1):=by
 refine⟨q.m1,q.n1,?_,fun m hm=>?_,fun m hm=>?_⟩
 ·have:=aN8 most now ticks items;have:=q.len;simp;omega
 ·obtain⟨m0,h1,h2,h3,h4,h5⟩:=aN7 m hm
  have h6:=q.its m0 h1
  have:=q.m1
  rw[h3,h2]
  omega
 ·rcases List.mem_append.1 hm with hm | hm
  ·exact q.lst m hm
  ·exact q.its m (aN9 m hm)
theorem QI.send (q:QI k most next items lost) (x:ByteArray) (hx:x.size≤BB) (hl:items.length+lost.length<64):QI (k+1) most (next+1) (items++[⟨next,x,0,0⟩]) lost:=by
 have:=q.n1
 refine⟨q.m1,by omega,by simp;omega,fun m hm=>?_,fun m hm=>?_⟩
 ·rcases List.mem_append.1 hm with hm | hm
  ·have:=q.its m hm;omega
  ·simp only[List.mem_singleton]at hm
   subst hm
   simp only
   omega
 ·have:=q.lst m hm;omega
theorem QI.ack (q:QI k most next items lost) (i:Nat):QI k most next (items.eraseIdx i) lost:=
 ⟨q.m1,q.n1,by have:=q.len;have:=List.length_eraseIdx_le items i;omega,fun m hm=>q.its m (List.mem_of_mem_eraseIdx hm),q.lst⟩
theorem QI.dead (q:QI k most next items lost):QI k most next items lost.tail:=
 ⟨q.m1,q.n1,by have:=q.len;simp;omega,q.its,fun m hm=>q.lst m (List.mem_of_mem_tail hm)⟩
theorem aPc {hb:aA} {b:Nat} {m:Msg} (hg:hb.get b=some (.cells m.cells 4 .rw)) (hm:1≤m.id∧m.id≤1000000∧0≤m.count∧m.count≤9∧m.val.size≤BB) {X:V→aA→Prop} (hX:X (str (aGl (some m))) hb) :
 kv (aF (some 0) (ptr b 0)) fun v48=>kv (ldD .one v48 hb) fun v49=>kv (aF (some 2) (ptr b 0)) fun v52=>kv (ldD .one v52 hb) fun v53=>kv (aF (some 1) (ptr b 0)) fun v57=>kv (ldD .one v57 hb) fun v58=>
  cl (Go.Abs.F.dF E) [v49] hb fun v50 h=>ldD .one v52 h=some v53∧ldD .one v57 h=some v58∧kv (aC .bad .add true v50 (.string ⟨#[32]⟩) h) fun v51=>cl (Go.Abs.F.dF E) [v53] h fun v54 h=>
  ldD .one v57 h=some v58∧kv (aC .bad .add false v51 v54 h) fun v55=>kv (aC .bad .add true v55 (.string ⟨#[32]⟩) h) fun v56=>kv (aC .bad .add false v56 v58 h) fun v59=>X v59 h:=by
 have r0:hb.rd b 0=some (i64 m.id):=aH hg 0
 have r1:hb.rd b 1=some (str m.val):=aH hg 1
 have r2:hb.rd b 2=some (i64 m.count):=aH hg 2
 have i1:m.id=(m.id.toNat:Int):=by omega
 have i2:m.count=(m.count.toNat:Int):=by omega
 simp only[bE,aB,aS,Nat.zero_add,r0,r1,r2]
 rw[i1,i2]
 refine aK (dF m.id.toNat (by omega)) ?_
 rintro r h1 ⟨e1,rfl⟩
 rw[e1]
 simp only[r1,r2,←i2,true_and]
 have s1:=xW m.id.toNat
 have s2:=xW m.count.toNat
 have e32:(⟨#[32]⟩:ByteArray).size=1:=rfl
 have hB:BB=1152921504606846976:=rfl
 rw[pR _ _ _ _ (by omega),aB,i2]
 refine aK (dF m.count.toNat (by omega)) ?_
 rintro r h2 ⟨e2,rfl⟩
 rw[e2]
 simp only[r1,true_and]
 rw[pR _ _ _ _ (by rw[pB];omega),aB,pR _ _ _ _ (by rw[pB,pB];omega),aB,pR _ _ _ _ (by rw[pB,pB,pB];omega),aB]
 exact hX
theorem aXi (hM:aJ E.I) (hE:E.I (E.k 0)=some (cl (Go.Abs.F.gR E0))) (s:Spa h fp p (cQu pt) (eK pt most next items lost)) (o:Oq) (now:Int) (ho:6≤o.fn∧o.fn≤9) (hq:QI k most next items lost) (hk:k≤1000) (hz:o.key.size≤BB∧o.val.size≤BB) :
 cl (Go.Abs.F.lN E) [p,o.agg,i64 now] h fun r h'=>r = .tuple #[str (doQ most next items lost o now).1,i64 (doQ most next items lost o now).2.1]∧∃fp',Spa h' fp' p ((doQ most next items lost o now).2.2.cells pt) ((doQ most next items lost o now).2.2.pl pt)∧Mod h fp h' fp':=by
 refine aN ?_
 have hB:BB=1152921504606846976:=rfl
 have hn:=hq.n1
 have hlen:=hq.len
 obtain⟨h1,bx,e1,m1,_,bxl,g0,s1,_,bxn⟩:=aHh s o
 simp only[Go.Abs.F.lN,e1,aZ]
 obtain⟨b,f,rfl,rfl,hg,hA,up⟩:=s1.open
 have r0:h1.rd bx 0=some (i64 o.fn):=aH g0 0
 have r2:h1.rd bx 2=some (str o.key):=aH g0 2
 have r3:h1.rd bx 3=some (str o.val):=aH g0 3
 have r4:h1.rd bx 4=some (i64 o.n):=aH g0 4
 have stay:∀{h2:aA} {fp2:List Nat},Mod h1 (b::f) h2 fp2→Spa h2 fp2 (ptr b 0) (cQu pt) (eK pt most next items lost)→∃fp',Spa h2 fp' (ptr b 0) (cQu pt) (eK pt most next items lost)∧Mod h (b::f) h2 fp':=fun m s=>⟨_,s,m1.trans m⟩
 have same:Spa h1 (b::f) (ptr b 0) (cQu pt) (eK pt most next items lost)∧Mod h1 (b::f) h1 (b::f):=up (eK pt most next items lost) (Mod.refl ((eK pt most next items lost).lt _ _ hA)) hA
 simp only[bE,aB,aS,Nat.zero_add,r0,dD,aG]
 by_cases h6:o.fn=6
 ·simp only[h6,beq_self_eq_true,if_true,bK,bE,aB,aS,Nat.zero_add,aH hg,List.getElem?_cons_zero,List.getElem?_cons_succ,r3]
  refine aK (aXh hA o.val (by omega) (by omega)) ?_
  rintro r h2 hr
  by_cases hl:items.length+lost.length<64
  ·rw[if_pos hl]at hr
   obtain⟨rfl,f2,t2,m2⟩:=hr
   have ed:doQ most next items lost o now=(jM next.toNat,0,.qu most (next+1) (items++[⟨next,o.val,0,0⟩]) lost):=by simp[doQ,h6,hl]
   rw[ed]
   simp only[bU,List.getElem?_toArray,List.getElem?_cons_zero,List.getElem?_cons_succ,aB,dE,Bool.not_true,aG,Bool.false_eq_true,if_false]
   have i1:next=(next.toNat:Int):=by omega
   rw[show i64 next=i64 (next.toNat:Int) by rw[←i1]]
   refine aK (dF next.toNat (by omega)) ?_
   rintro r h3 ⟨e3,rfl⟩
   rw[e3]
   obtain⟨q1,q2⟩:=up (eK pt most (next+1) (items++[(⟨next,o.val,0,0⟩:Msg)]) lost) m2 t2
   exact⟨rfl,_,q1,m1.trans q2⟩
  ·rw[if_neg hl]at hr
   obtain⟨rfl,e2⟩:=hr
   rw[e2]
   have ed:doQ most next items lost o now=(⟨#[]⟩,6,.qu most next items lost):=by simp[doQ,h6,hl]
   rw[ed]
   simp only[bU,List.getElem?_toArray,List.getElem?_cons_zero,List.getElem?_cons_succ,aB,dE,Bool.not_false,aG,if_true]
   exact⟨trivial,stay same.2 same.1⟩
 have h6':(o.fn==6)=false:=by simpa using h6
 simp only[h6',Bool.false_eq_true,if_false]
 by_cases h7:o.fn=7
 ·have hcnt:∀m∈items,0≤m.count∧m.count≤1000000:=fun m hm=>by have:=hq.its m hm;omega
  simp only[h7,beq_self_eq_true,if_true,bK,bE,aB,aS,Nat.zero_add,aH hg,List.getElem?_cons_zero,List.getElem?_cons_succ,r4]
  have recv:∀{h2 h3:aA} {f2:List Nat} {r:V},(if o.n<1∨o.n > 1000∨now<0∨now > 1099511627776 then r = .tuple #[Msg.zero.agg,.bool false]∧Qu h3 f2 pt most next items lost∧Mod h2 f2 h3 f2
   else r = .tuple #[((cL most now o.n items).2.2.getD Msg.zero).agg,.bool (cL most now o.n items).2.2.isSome]∧∃fp',Qu h3 fp' pt most next (cL most now o.n items).1 (lost++(cL most now o.n items).2.1)∧Mod h2 f2 h3 fp') →
   ∃(got:Option Msg) (its los:List Msg) (f3:List Nat),r = .tuple #[(got.getD Msg.zero).agg,.bool got.isSome]∧Qu h3 f3 pt most next its los∧Mod h2 f2 h3 f3∧doQ most next items lost o now=(aGl got,0,.qu most next its los) ∧
    (∀m,got=some m→1≤m.id∧m.id≤1000000∧0≤m.count∧m.count≤9∧m.val.size≤BB):=by
   intro h2 h3 f2 r hr
   by_cases hbad:o.n<1∨o.n > 1000∨now<0∨now > 1099511627776
   ·rw[if_pos hbad]at hr
    obtain⟨rfl,q,m⟩:=hr
    exact⟨none,items,lost,f2,rfl,q,m,by simp only[doQ,h7,if_pos hbad];rfl,fun m hm=>by cases hm⟩
   ·rw[if_neg hbad]at hr
    obtain⟨rfl,f3,q,m⟩:=hr
    refine⟨(cL most now o.n items).2.2,_,_,f3,rfl,q,m,by simp only[doQ,h7,if_neg hbad];rfl,fun m hm=>?_⟩
    have:=(hq.recv now o.n).its m (aN6 hm)
    omega
  refine⟨?_,?_⟩
  ·refine aK (aN5 hA now o.n (by omega) hcnt) ?_
   rintro r h2 hr
   obtain⟨got,its,los,f3,rfl,q,m2,ed,hgot⟩:=recv hr
   obtain⟨q1,q2⟩:=up (eK pt most next its los) m2 q
   have hg2:h2.get b=some (.cells (cQu pt) 4 .rw):=by obtain⟨b',f',e,_,hgg,_⟩:=q1.open;cases e;exact hgg
   have gx2:h2.get bx=some (.cells o.cells 5 .rw):=by rw[q2.same bx bxl bxn];exact g0
   simp only[bU,List.getElem?_toArray,List.getElem?_cons_zero,List.getElem?_cons_succ,aB,aHa,aZ]
   have k2:∀x,x<h2.next→(h2.new (.cells [.int .i64 0,.string ⟨#[]⟩,.int .i64 0,.int .i64 0] 4 .rw)).get x=h2.get x:=fun x hx=>by simp[Nat.ne_of_lt hx]
   have c1:(h2.new (.cells [.int .i64 0,.string ⟨#[]⟩,.int .i64 0,.int .i64 0] 4 .rw)).rd b 2=some pt:=by
    rw[aA.rd,k2 b (q1.lt b (by simp)),hg2];rfl
   have c2:(h2.new (.cells [.int .i64 0,.string ⟨#[]⟩,.int .i64 0,.int .i64 0] 4 .rw)).rd bx 4=some (i64 o.n):=by
    rw[aA.rd,k2 bx (Nat.lt_of_lt_of_le bxl q2.next),gx2];rfl
   refine⟨c1,c2,?_⟩
   have gb1:(h2.new (.cells [.int .i64 0,.string ⟨#[]⟩,.int .i64 0,.int .i64 0] 4 .rw)).get h2.next=some (.cells [.int .i64 0,.string ⟨#[]⟩,.int .i64 0,.int .i64 0] 4 .rw):=by simp
   rw[st4 gb1,bV]
   have gb2:((h2.new (.cells [.int .i64 0,.string ⟨#[]⟩,.int .i64 0,.int .i64 0] 4 .rw)).put h2.next (.cells (got.getD Msg.zero).cells 4 .rw)).get h2.next=some (.cells (got.getD Msg.zero).cells 4 .rw):=by simp
   have m3:Mod h2 (b::f3) ((h2.new (.cells [.int .i64 0,.string ⟨#[]⟩,.int .i64 0,.int .i64 0] 4 .rw)).put h2.next (.cells (got.getD Msg.zero).cells 4 .rw)) (b::f3):=(Mod.eZ q1.lt).sX (Nat.le_refl _)
   have s3:Spa ((h2.new (.cells [.int .i64 0,.string ⟨#[]⟩,.int .i64 0,.int .i64 0] 4 .rw)).put h2.next (.cells (got.getD Msg.zero).cells 4 .rw)) (b::f3) (ptr b 0) (cQu pt) (eK pt most next its los):=
    q1.same m3.next fun x hx=>by have:=q1.lt x hx;simp[Nat.ne_of_lt this]
   generalize (h2.new (.cells [.int .i64 0,.string ⟨#[]⟩,.int .i64 0,.int .i64 0] 4 .rw)).put h2.next (.cells (got.getD Msg.zero).cells 4 .rw)=h3 at gb2 m3 s3 ⊢
   have mm:Mod h (b::f) h3 (b::f3):=(m1.trans q2).trans m3
   rw[ed]
   cases got with
   | none=>
    simp only[Option.isSome_none,aG,Bool.false_eq_true,if_false]
    exact⟨rfl,_,s3,mm⟩
   | some m=>
    simp only[Option.isSome_some,aG,if_true]
    refine aPc gb2 (hgot m rfl) ?_
    exact⟨rfl,_,s3,mm⟩
  ·have n1:=aHa (h:=h1) (i64 0) (str ⟨#[]⟩) (i64 0) (i64 0)
   rw[n1,aZ]
   have k1:∀x,x<h1.next→(h1.new (.cells [i64 0,str ⟨#[]⟩,i64 0,i64 0] 4 .rw)).get x=h1.get x:=fun x hx=>by simp[Nat.ne_of_lt hx]
   have lts:=same.1.lt
   have mA:Mod h1 (b::f) (h1.new (.cells [i64 0,str ⟨#[]⟩,i64 0,i64 0] 4 .rw)) (b::f):=Mod.eZ lts
   have gb0:(h1.new (.cells [i64 0,str ⟨#[]⟩,i64 0,i64 0] 4 .rw)).get h1.next=some (.cells [i64 0,str ⟨#[]⟩,i64 0,i64 0] 4 .rw):=by simp
   have sA:Spa (h1.new (.cells [i64 0,str ⟨#[]⟩,i64 0,i64 0] 4 .rw)) (b::f) (ptr b 0) (cQu pt) (eK pt most next items lost):=same.1.same mA.next fun x hx=>k1 x (lts x hx)
   have gxA:(h1.new (.cells [i64 0,str ⟨#[]⟩,i64 0,i64 0] 4 .rw)).get bx=some (.cells o.cells 5 .rw):=by rw[k1 bx bxl];exact g0
   have bn:h1.next∉b::f:=fun hx=>by have:=lts _ hx;omega
   have nx:h1.next<(h1.new (.cells [i64 0,str ⟨#[]⟩,i64 0,i64 0] 4 .rw)).next:=by simp
   generalize h1.new (.cells [i64 0,str ⟨#[]⟩,i64 0,i64 0] 4 .rw)=hA1 at mA gb0 sA gxA nx ⊢
   generalize hbx:h1.next=bm at gb0 bn nx ⊢
   obtain⟨b',f',eb,ef,hgA,hAA,upA⟩:=sA.open
   cases eb
   cases ef
   refine⟨by rw[aH hgA];rfl,by rw[aH gxA];rfl,?_⟩
   refine aK (aN5 hAA now o.n (by omega) hcnt) ?_
   rintro r h2 hr
   obtain⟨got,its,los,f3,rfl,q,m2,ed,hgot⟩:=recv hr
   obtain⟨q1,q2⟩:=upA (eK pt most next its los) m2 q
   simp only[bU,List.getElem?_toArray,List.getElem?_cons_zero,List.getElem?_cons_succ,aB]
   have gb1:h2.get bm=some (.cells [i64 0,str ⟨#[]⟩,i64 0,i64 0] 4 .rw):=by rw[q2.same bm nx bn];exact gb0
   rw[st4 gb1,bV]
   have gb2:(h2.put bm (.cells (got.getD Msg.zero).cells 4 .rw)).get bm=some (.cells (got.getD Msg.zero).cells 4 .rw):=by simp
   have bn3:bm∉b::f3:=fun hx=>by
    rcases q2.new bm hx with h9 | h9
    ·exact bn h9
    ·omega
   have mAll:Mod h1 (b::f) h2 (b::f3):=mA.trans q2
   have m3:Mod h1 (b::f) (h2.put bm (.cells (got.getD Msg.zero).cells 4 .rw)) (b::f3):=mAll.sX (Nat.le_of_eq hbx)
   have s3:Spa (h2.put bm (.cells (got.getD Msg.zero).cells 4 .rw)) (b::f3) (ptr b 0) (cQu pt) (eK pt most next its los):=
    q1.same (Nat.le_refl _) fun x hx=>by
     have:x≠bm:=fun e=>bn3 (e▸hx)
     simp[this]
   generalize h2.put bm (.cells (got.getD Msg.zero).cells 4 .rw)=h3 at gb2 m3 s3 ⊢
   have mm:Mod h (b::f) h3 (b::f3):=m1.trans m3
   rw[ed]
   cases got with
   | none=>
    simp only[Option.isSome_none,aG,Bool.false_eq_true,if_false]
    exact⟨rfl,_,s3,mm⟩
   | some m=>
    simp only[Option.isSome_some,aG,if_true]
    refine aPc gb2 (hgot m rfl) ?_
    exact⟨rfl,_,s3,mm⟩
 have h7':(o.fn==7)=false:=by simpa using h7
 simp only[h7',Bool.false_eq_true,if_false]
 by_cases h8:o.fn=8
 ·simp only[h8,beq_self_eq_true,if_true,bE,aB,aS,Nat.zero_add,r2]
  refine aK (gF o.key (by omega)) ?_
  rintro r h2 ⟨e2,rfl⟩
  rw[e2]
  simp only[bU,List.getElem?_toArray,List.getElem?_cons_zero,List.getElem?_cons_succ,aB,dE,aG]
  cases hok:iY o.key with
  | false=>
   have ed:doQ most next items lost o now=(⟨#[]⟩,1,.qu most next items lost):=by simp[doQ,h8,hok]
   rw[ed]
   simp only[Bool.not_false,if_true]
   exact⟨trivial,stay same.2 same.1⟩
  | true=>
   simp only[Bool.not_true,Bool.false_eq_true,if_false,bK,bE,aB,aS,Nat.zero_add,aH hg,List.getElem?_cons_zero,List.getElem?_cons_succ,r4]
   refine aK (aXe hM hE hA o.n (iD o.key) now (by omega)) ?_
   rintro r h3 hr
   cases hf:items.findIdx? (xN o.n (iD o.key) now) with
   | none=>
    rw[hf]at hr
    obtain⟨rfl,t3,m3⟩:=hr
    have ed:doQ most next items lost o now=(⟨#[]⟩,3,.qu most next items lost):=by simp[doQ,h8,hok,hf]
    rw[ed]
    obtain⟨q1,q2⟩:=up (eK pt most next items lost) m3 t3
    simp only[dE,Bool.not_false,aB,aG,if_true]
    exact⟨trivial,stay q2 q1⟩
   | some i=>
    rw[hf]at hr
    obtain⟨rfl,t3,m3⟩:=hr
    have ed:doQ most next items lost o now=(⟨#[]⟩,0,.qu most next (items.eraseIdx i) lost):=by simp[doQ,h8,hok,hf]
    rw[ed]
    obtain⟨q1,q2⟩:=up (eK pt most next (items.eraseIdx i) lost) m3 t3
    simp only[dE,Bool.not_true,aB,aG,Bool.false_eq_true,if_false]
    exact⟨trivial,_,q1,m1.trans q2⟩
 have h8':(o.fn==8)=false:=by simpa using h8
 have h9:o.fn=9:=by omega
 simp only[h8',Bool.false_eq_true,if_false,h9,beq_self_eq_true,if_true,bK,bE,aB,aS,Nat.zero_add,aH hg,List.getElem?_cons_zero,List.getElem?_cons_succ]
 refine aK (aXg hA (by omega)) ?_
 rintro r h2 hr
 have hr':r = .tuple #[(lost.head?.getD Msg.zero).agg,.bool (!lost.isEmpty)]∧Qu h2 f pt most next items lost.tail∧Mod h1 f h2 f:=by
  cases lost<;>exact hr
 obtain⟨rfl,q,m2⟩:=hr'
 obtain⟨q1,q2⟩:=up (eK pt most next items lost.tail) m2 q
 simp only[bU,List.getElem?_toArray,List.getElem?_cons_zero,List.getElem?_cons_succ,aB,aHa,aZ]
 have gb1:(h2.new (.cells [.int .i64 0,.string ⟨#[]⟩,.int .i64 0,.int .i64 0] 4 .rw)).get h2.next=some (.cells [.int .i64 0,.string ⟨#[]⟩,.int .i64 0,.int .i64 0] 4 .rw):=by simp
 rw[st4 gb1,bV]
 have gb2:((h2.new (.cells [.int .i64 0,.string ⟨#[]⟩,.int .i64 0,.int .i64 0] 4 .rw)).put h2.next (.cells (lost.head?.getD Msg.zero).cells 4 .rw)).get h2.next=some (.cells (lost.head?.getD Msg.zero).cells 4 .rw):=by simp
 have m3:Mod h2 (b::f) ((h2.new (.cells [.int .i64 0,.string ⟨#[]⟩,.int .i64 0,.int .i64 0] 4 .rw)).put h2.next (.cells (lost.head?.getD Msg.zero).cells 4 .rw)) (b::f):=(Mod.eZ q1.lt).sX (Nat.le_refl _)
 have s3:Spa ((h2.new (.cells [.int .i64 0,.string ⟨#[]⟩,.int .i64 0,.int .i64 0] 4 .rw)).put h2.next (.cells (lost.head?.getD Msg.zero).cells 4 .rw)) (b::f) (ptr b 0) (cQu pt) (eK pt most next items lost.tail):=
  q1.same m3.next fun x hx=>by have:=q1.lt x hx;simp[Nat.ne_of_lt this]
 generalize (h2.new (.cells [.int .i64 0,.string ⟨#[]⟩,.int .i64 0,.int .i64 0] 4 .rw)).put h2.next (.cells (lost.head?.getD Msg.zero).cells 4 .rw)=h3 at gb2 m3 s3 ⊢
 have mm:Mod h (b::f) h3 (b::f):=(m1.trans q2).trans m3
 have ed:doQ most next items lost o now=(match lost with | []=>⟨#[]⟩ | m::_=>jM m.id.toNat++⟨#[32]⟩++m.val,0,.qu most next items lost.tail):=by
  unfold doQ
  rw[if_neg h6,if_neg h7,if_neg h8]
  all_goals (cases lost<;>rfl)
 rw[ed]
 cases lost with
 | nil=>
  simp only[List.isEmpty_nil,Bool.not_true,aG,Bool.false_eq_true,if_false]
  exact⟨trivial,_,s3,mm⟩
 | cons m lost=>
  have hm:=hq.lst m (by simp)
  have gb2':h3.get h2.next=some (.cells m.cells 4 .rw):=gb2
  have r0:h3.rd h2.next 0=some (i64 m.id):=aH gb2' 0
  have r1:h3.rd h2.next 1=some (str m.val):=aH gb2' 1
  have i1:m.id=(m.id.toNat:Int):=by omega
  simp only[List.isEmpty_cons,Bool.not_false,aG,if_true,bE,aB,aS,Nat.zero_add,r0,r1]
  rw[show i64 m.id=i64 (m.id.toNat:Int) by rw[←i1]]
  refine aK (dF m.id.toNat (by omega)) ?_
  rintro r h4 ⟨e4,rfl⟩
  rw[e4]
  have s1:=xW m.id.toNat
  have e32:(⟨#[32]⟩:ByteArray).size=1:=rfl
  simp only[r1,true_and]
  rw[pR _ _ _ _ (by omega),aB,pR _ _ _ _ (by rw[pB];omega),aB]
  exact⟨rfl,_,s3,mm⟩
end Go.Abs
namespace Go.Abs
open Go Go.Proofs
variable {E E0 E1:FE} {h h':aA} {p q pt qt:V} {l:List ByteArray} {g:List En} {fp fa fb:List Nat} {k:Nat}
theorem aPu (s:Spa h fp p (cTo pt) (jA pt l g)) (o:Oq) (ho:o.fn=12) (hz:o.val.size≤BB) :
 cl (Go.Abs.F.gT E) [p,o.agg] h fun r h'=>∃c fp',r = .tuple #[str (doP l g o c).1,i64 (doP l g o c).2.1]∧Spa h' fp' p ((doP l g o c).2.2.cells pt) ((doP l g o c).2.2.pl pt)∧Mod h fp h' fp':=by
 refine aN ?_
 have hB:BB=1152921504606846976:=rfl
 obtain⟨h1,bx,e1,m1,_,bxl,g0,s1,_,bxn⟩:=aHh s o
 simp only[Go.Abs.F.gT,e1,aZ]
 obtain⟨b,f,rfl,rfl,hg,hA,up⟩:=s1.open
 have r0:h1.rd bx 0=some (i64 o.fn):=aH g0 0
 have r2:h1.rd bx 2=some (str o.key):=aH g0 2
 have r3:h1.rd bx 3=some (str o.val):=aH g0 3
 have r4:h1.rd bx 4=some (i64 o.n):=aH g0 4
 have same:=up (jA pt l g) (Mod.refl ((jA pt l g).lt _ _ hA)) hA
 simp only[bE,aB,aS,Nat.zero_add,r0,dD,ho,show ((12:Int)==10)=false from rfl,show ((12:Int)==11)=false from rfl,aG,Bool.false_eq_true,if_false,r3]
 refine aK (gF o.val (by omega)) ?_
 rintro r h2 ⟨e2,rfl⟩
 rw[e2]
 simp only[bU,List.getElem?_toArray,List.getElem?_cons_zero,List.getElem?_cons_succ,aB,dE,aG]
 cases hok:iY o.val with
 | false=>
  have ed:doP l g o 0=(⟨#[]⟩,1,.to l g):=by simp[doP,ho,hok]
  simp only[Bool.not_false,if_true]
  refine⟨0,b::f,?_⟩
  rw[ed]
  exact⟨rfl,same.1,m1.trans same.2⟩
 | true=>
  simp only[Bool.not_true,Bool.false_eq_true,if_false,bK,bE,aB,aS,Nat.zero_add,aH hg,List.getElem?_cons_zero,List.getElem?_cons_succ,r2,r4]
  refine aK (aY9 hA o.key (iD o.val) o.n) ?_
  rintro r h3 hr
  by_cases hc:atN o.key g=iD o.val∧(iD o.val:Int)≤o.n∧o.n≤l.length∧((bD o.key g).isSome∨g.length<16)
  ·rw[if_pos hc]at hr
   obtain⟨rfl,c,t3,m3⟩:=hr
   have ed:doP l g o c=(⟨#[]⟩,0,.to l (cM o.key (i64 o.n) c g)):=by
    unfold doP
    rw[if_neg (by omega),if_neg (by omega),if_pos hok,if_pos hc]
   obtain⟨q1,q2⟩:=up (jA pt l (cM o.key (i64 o.n) c g)) m3 t3
   simp only[dE,Bool.not_true,aB,aG,Bool.false_eq_true,if_false]
   refine⟨c,b::f,?_⟩
   rw[ed]
   exact⟨rfl,q1,m1.trans q2⟩
  ·rw[if_neg hc]at hr
   obtain⟨rfl,e3⟩:=hr
   rw[e3]
   have ed:doP l g o 0=(⟨#[]⟩,3,.to l g):=by
    unfold doP
    rw[if_neg (by omega),if_neg (by omega),if_pos hok,if_neg hc]
   simp only[dE,Bool.not_false,aB,aG,if_true]
   refine⟨0,b::f,?_⟩
   rw[ed]
   exact⟨rfl,same.1,m1.trans same.2⟩
def SI (k:Nat):bR→Prop
 | .tab g=>(∀e∈g,∃s,e.v=str s∧s.size≤BB)∧(∀e∈g,e.k.size≤maxLen)∧g.length≤k
 | .qu a b i l=>QI k a b i l
 | .to l g=>l.length≤64∧(∀v∈l,v.size≤BB)∧(∀e∈g,∃n:Int,e.v=i64 n∧0≤n∧n≤l.length)∧(∀e∈g,e.k.size≤maxLen)∧g.length≤k
theorem wK {key:ByteArray} {v:V} {c:Nat}:∀{g:List En} {e:En},e∈cM key v c g→(e.k=key∧e.v=v)∨e∈g
 | [],e,h=>by simp only[cM,List.mem_singleton]at h;subst h;exact .inl ⟨rfl,rfl⟩
 | a::g,e,h=>by
  simp only[cM]at h
  split at h
  ·rcases List.mem_cons.1 h with rfl | h
   ·exact .inl ⟨rfl,rfl⟩
   ·exact .inr (by simp[h])
  ·rcases List.mem_cons.1 h with rfl | h
   ·exact .inr (by simp)
   ·rcases wK h with h | h
    ·exact .inl h
    ·exact .inr (by simp[h])
theorem aHk (key:ByteArray) (v:V) (c:Nat):∀g:List En,(cM key v c g).length≤g.length+1
 | []=>by simp[cM]
 | a::g=>by
  have:=aHk key v c g
  simp only[cM]
  split<;>simp
  omega
theorem SI.mono {S:bR} {k':Nat} (s:SI k S) (hk:k≤k'):SI k' S:=by
 cases S with
 | tab g=>exact⟨s.1,s.2.1,Nat.le_trans s.2.2 hk⟩
 | qu a b i l=>exact QI.mono s hk
 | to l g=>exact⟨s.1,s.2.1,s.2.2.1,s.2.2.2.1,Nat.le_trans s.2.2.2.2 hk⟩
theorem SI.step {S:bR} (s:SI k S) (o:Oq) (now:Int) (c:Nat) (hz:o.key.size≤maxLen∧o.val.size≤BB):SI (k+1) (S.act o now c).2.2:=by
 have s':=s.mono (k':=k+1) (by omega)
 cases S with
 | tab g=>
  simp only[bR.act]
  split
  ·show SI (k+1) (doT g o c).2
   unfold doT
   split
   ·refine⟨fun e he=>?_,fun e he=>?_,?_⟩
    ·rcases wK he with ⟨_,h⟩ | h
     ·exact⟨o.val,h,hz.2⟩
     ·exact s.1 e h
    ·rcases wK he with ⟨h,_⟩ | h
     ·rw[h];exact hz.1
     ·exact s.2.1 e h
    ·have:=aHk o.key (str o.val) c g
     have:=s.2.2
     omega
   ·split
    ·have hs:=aAl o.key g
     exact⟨fun e he=>s.1 e (hs.mem he),fun e he=>s.2.1 e (hs.mem he),by have:=hs.length_le;have:=s.2.2;omega⟩
    ·exact s'
  ·exact s'
 | qu a b i l=>
  simp only[bR.act]
  split
  ·unfold doQ
   split
   ·split
    ·rename_i hl
     exact QI.send s o.val hz.2 hl
    ·exact s'
   ·split
    ·split
     ·exact s'
     ·exact QI.mono (QI.recv s now o.n) (by omega)
    ·split
     ·split
      ·split
       ·rename_i j _
        exact QI.mono (QI.ack s j) (by omega)
       ·exact s'
      ·exact s'
     ·exact QI.mono (QI.dead s) (by omega)
  ·exact s'
 | to l g=>
  simp only[bR.act]
  split
  ·unfold doP
   split
   ·split
    ·rename_i hl
     refine⟨by simp;omega,fun v hv=>?_,fun e he=>?_,s'.2.2.2.1,s'.2.2.2.2⟩
     ·rcases List.mem_append.1 hv with hv | hv
      ·exact s.2.1 v hv
      ·simp only[List.mem_singleton]at hv
       rw[hv];exact hz.2
     ·obtain⟨n,h1,h2,h3⟩:=s.2.2.1 e he
      exact⟨n,h1,h2,by simp;omega⟩
    ·exact s'
   ·split
    ·exact s'
    ·split
     ·split
      ·rename_i hc
       refine⟨s.1,s.2.1,fun e he=>?_,fun e he=>?_,?_⟩
       ·rcases wK he with ⟨_,h⟩ | h
        ·exact⟨o.n,h,by omega,hc.2.2.1⟩
        ·exact s.2.2.1 e h
       ·rcases wK he with ⟨h,_⟩ | h
        ·rw[h];exact hz.1
        ·exact s.2.2.2.1 e h
       ·have:=aHk o.key (i64 o.n) c g
        have:=s.2.2.2.2
        show (cM o.key (i64 o.n) c g).length≤k+1
        omega
      ·exact s'
     ·exact s'
  ·exact s'
theorem aQ5 {key:ByteArray} {n:Nat} (hv:∀e∈g,∃m:Int,e.v=i64 m∧0≤m∧m≤n):0≤atN key g∧atN key g≤n:=by
 unfold atN
 cases hk:bD key g with
 | none=>simp
 | some v=>
  obtain⟨e,he,rfl⟩:=qJ hk
  obtain⟨m,h1,h2,h3⟩:=hv e he
  rw[h1]
  exact⟨h2,h3⟩
theorem aQt (hM:aJ E.I) (hE:E.I (E.k 0)=some (cl (Go.Abs.F.gR E0))) {S:bR} (s:SpS h fp p S) (hi:SI k S) (hk:k≤1000) (o:Oq) (now:Int) (hz:o.key.size≤BB∧o.val.size≤BB) :
 cl (Go.Abs.F.fE E) [p,o.agg,i64 now] h fun r h'=>∃c fp',r = .tuple #[str (S.act o now c).1,i64 (S.act o now c).2.1]∧SpS h' fp' p (S.act o now c).2.2∧Mod h fp h' fp':=by
 obtain⟨pt,s⟩:=s
 have bZ:∀{h1:aA},Mod h [] h1 []→Mod h fp h1 fp:=fun m=>m.empty s.lt
 cases S with
 | tab g=>
  by_cases hf:3≤o.fn∧o.fn≤5
  ·refine aPv s o _ hf fun h1 m1=>?_
   refine aK (aYy (s.bZ m1) o hf hi.1) ?_
   rintro r h2 ⟨c,fp',rfl,s2,m2⟩
   refine⟨c,fp',?_,?_,(bZ m1).trans m2⟩
   ·simp only[bR.act,if_pos hf]
   ·simp only[bR.act,if_pos hf]
    exact⟨pt,s2⟩
  ·refine aK (aE1 (k:=1) s o (i64 now) ⟨?_,rfl,rfl⟩) ?_
   ·simp only[beq_self_eq_true,Bool.true_and,Bool.and_eq_false_iff,decide_eq_false_iff_not];omega
   ·rintro r h2 ⟨rfl,m2⟩
    refine⟨0,fp,?_,?_,bZ m2⟩
    ·simp only[bR.act,if_neg hf]
    ·simp only[bR.act,if_neg hf]
     exact⟨pt,s.bZ m2⟩
 | qu a b i l=>
  by_cases hf:6≤o.fn∧o.fn≤9
  ·refine aPt s o _ hf fun h1 m1=>?_
   refine aK (aXi hM hE (s.bZ m1) o now hf hi hk hz) ?_
   rintro r h2 ⟨rfl,fp',s2,m2⟩
   refine⟨_,_,rfl,0,fp',?_,?_,(bZ m1).trans m2⟩
   ·simp only[bR.act,if_pos hf]
   ·simp only[bR.act,if_pos hf]
    exact⟨pt,s2⟩
  ·refine aK (aE1 (k:=2) s o (i64 now) ⟨rfl,?_,rfl⟩) ?_
   ·simp only[beq_self_eq_true,Bool.true_and,Bool.and_eq_false_iff,decide_eq_false_iff_not];omega
   ·rintro r h2 ⟨rfl,m2⟩
    refine⟨0,fp,?_,?_,bZ m2⟩
    ·simp only[bR.act,if_neg hf]
    ·simp only[bR.act,if_neg hf]
     exact⟨pt,s.bZ m2⟩
 | to l g=>
  by_cases hf:10≤o.fn∧o.fn≤12
  ·refine aPw s o _ hf fun h1 m1=>?_
   have s1:=s.bZ m1
   have hl:=hi.1
   have fin:∀{h2:aA} {c:Nat} {fp':List Nat},Spa h2 fp' p ((doP l g o c).2.2.cells pt) ((doP l g o c).2.2.pl pt)→Mod h1 fp h2 fp' →
    ∃x y,Value.tuple #[str (doP l g o c).1,i64 (doP l g o c).2.1] = .tuple #[x,y]∧∃c fp',Value.tuple #[x,y] = .tuple #[str ((bR.to l g).act o now c).1,i64 ((bR.to l g).act o now c).2.1]∧SpS h2 fp' p ((bR.to l g).act o now c).2.2∧Mod h fp h2 fp':=by
    intro h2 c fp' s2 m2
    refine⟨_,_,rfl,c,fp',?_,?_,(bZ m1).trans m2⟩
    ·simp only[bR.act,if_pos hf]
    ·simp only[bR.act,if_pos hf]
     exact⟨pt,s2⟩
   by_cases h10:o.fn=10
   ·refine aK (aPs s1 o h10 (by omega)) ?_
    rintro r h2 hr
    by_cases hc:l.length<64
    ·rw[if_pos hc]at hr
     obtain⟨rfl,fp',s2,m2⟩:=hr
     have ed:doP l g o 0=(jM l.length,0,.to (l++[o.val]) g):=by simp[doP,h10,hc]
     have:=fin (c:=0) (by rw[ed];exact s2) m2
     rw[ed]at this
     exact this
    ·rw[if_neg hc]at hr
     obtain⟨rfl,m2⟩:=hr
     have ed:doP l g o 0=(⟨#[]⟩,6,.to l g):=by simp[doP,h10,hc]
     have:=fin (c:=0) (by rw[ed];exact s1.bZ m2) (m2.empty s1.lt)
     rw[ed]at this
     exact this
   by_cases h11:o.fn=11
   ·refine aK (aPr s1 o h11 (by omega) (aQ5 hi.2.2.1) hi.2.1) ?_
    rintro r h2 ⟨rfl,m2⟩
    have ed:doP l g o 0=(qH ⟨#[]⟩ (rA l (atN o.key g) o.n),0,.to l g):=by simp[doP,h11]
    have:=fin (c:=0) (by rw[ed];exact s1.bZ m2) (m2.empty s1.lt)
    rw[ed]at this
    exact this
   ·have h12:o.fn=12:=by omega
    refine aK (aPu s1 o h12 hz.2) ?_
    rintro r h2 ⟨c,fp',rfl,s2,m2⟩
    exact fin s2 m2
  ·refine aK (aE1 (k:=3) s o (i64 now) ⟨rfl,rfl,?_⟩) ?_
   ·simp only[beq_self_eq_true,Bool.true_and,Bool.and_eq_false_iff,decide_eq_false_iff_not];omega
   ·rintro r h2 ⟨rfl,m2⟩
    refine⟨0,fp,?_,?_,bZ m2⟩
    ·simp only[bR.act,if_neg hf]
    ·simp only[bR.act,if_neg hf]
     exact⟨pt,s.bZ m2⟩
theorem aR6 {S:bR} (s:SpS h fp p S) (hi:SI k S):cl (Go.Abs.F.fD E) [p] h fun r h'=>∃fp',SpS h' fp' r S∧Mod h [] h' fp':=by
 obtain⟨pt,s⟩:=s
 cases S with
 | tab g=>
  refine aK (aPo s) ?_
  rintro r h' ⟨qt,fp',a,b⟩
  exact⟨fp',⟨qt,a⟩,b⟩
 | qu a b i l=>
  refine aK (aPn s (by have:=QI.len hi;omega)) ?_
  rintro r h' ⟨qt,fp',a,b⟩
  exact⟨fp',⟨qt,a⟩,b⟩
 | to l g=>
  refine aK (aPp s (by have:=hi.1;omega)) ?_
  rintro r h' ⟨qt,fp',a,b⟩
  exact⟨fp',⟨qt,a⟩,b⟩
end Go.Abs

/- Specs on abstract heaps, part 24: numbers as texts. -/
import Derived.Test.YthhegdifbnghpaaGreatDoorQaw
import Derived.Test.YthhegdifbnghpaaGreatDoorQax
import Derived.Test.YthhegdifbnghpaaGreatDoorQau
set_option linter.unusedSimpArgs false
set_option linter.unusedVariables false
namespace Go.Abs
open Go Go.Proofs
variable {E:FE} {h:aA}
def jM (n:Nat):ByteArray:=⟨(Lib.decDigits n).toArray⟩
theorem aSw:∀n:Nat,(Lib.decDigits n).length≤n+1:=by
 intro n
 induction n using Nat.strongRecOn with
 | _ n ih=>
  rw[Lib.decDigits]
  split
  ·simp
  ·have:=ih (n / 10) (by omega)
   simp only[List.length_append,List.length_cons,List.length_nil]
   omega
theorem xW (n:Nat):(jM n).size≤n+1:=by
 have:=aSw n
 simpa[jM,ByteArray.size]using this
theorem pR (k:EqK) (c:Bool) (a b:ByteArray) (hs:a.size+b.size≤9223372036854775807) {h:aA}:aC k .add c (str a) (str b) h=some (str (a++b)):=by
 rw[tE]
 show (if ((a.size+b.size:Nat):Int) > IntKind.i64.max then none else some (Value.string (a++b)))=_
 rw[if_neg]
 have:IntKind.i64.max=9223372036854775807:=by rfl
 rw[this]
 omega
theorem aQ6 (a b:List UInt8):(⟨a.toArray⟩:ByteArray)++⟨b.toArray⟩=⟨(a++b).toArray⟩:=by
 apply ByteArray.ext
 rw[ByteArray.data_append]
 simp
theorem dF (n:Nat) (hn:n≤9223372036854775807):cl (Go.Abs.F.dF E) [i64 n] h fun r h'=>h'=h∧r=str (jM n):=by
 refine aN ?_
 simp only[Go.Abs.F.dF]
 refine aN ⟨by omega,by omega,rfl,?_⟩
 unfold Lib.itoa
 rw[if_neg (by omega)]
 rfl
end Go.Abs
namespace Go.Abs
open Go Go.Proofs
variable {E:FE} {h h':aA} {fp:List Nat} {p:V}
structure Oq where
 fn:Int
 space:ByteArray
 key:ByteArray
 val:ByteArray
 n:Int
 deriving Inhabited
def Oq.cells (o:Oq):List V:=[i64 o.fn,str o.space,str o.key,str o.val,i64 o.n]
abbrev Oq.agg (o:Oq):V:=.agg #[i64 o.fn,str o.space,str o.key,str o.val,i64 o.n]
theorem qM (o:Oq):aY none o.agg h=some (ptr h.next 0,h.new (.cells o.cells 5 .rw)):=rfl
theorem ld5 {b:Nat} {o:Oq} (hb:h.get b=some (.cells o.cells 5 .rw)):ldD (.agg 5) (ptr b 0) h=some o.agg:=by
 simp only[qK,kG hb]
 rfl
def Spa (h:aA) (fp:List Nat) (p:V) (cs:List V) (A:Pl):Prop:=
 ∃b f,p=ptr b 0∧fp=b::f∧b<h.next∧h.get b=some (.cells cs 4 .rw)∧A.P h f∧b∉f
variable {cs:List V} {A A':Pl}
theorem Spa.lt (s:Spa h fp p cs A):∀x∈fp,x<h.next:=by
 obtain⟨b,f,rfl,rfl,hb,_,hA,_⟩:=s
 intro x hx
 rcases List.mem_cons.1 hx with rfl | hx
 ·exact hb
 ·exact A.lt _ _ hA x hx
theorem Spa.same (s:Spa h fp p cs A) (hl:h.next≤h'.next) (hs:∀x∈fp,h'.get x=h.get x):Spa h' fp p cs A:=by
 obtain⟨b,f,rfl,rfl,hb,hg,hA,hn⟩:=s
 exact⟨b,f,rfl,rfl,by omega,by rw[hs b (by simp),hg],A.same _ _ _ hA hl fun x hx=>hs x (by simp[hx]),hn⟩
theorem Spa.bZ {fp':List Nat} (s:Spa h fp p cs A) (m:Mod h [] h' fp'):Spa h' fp p cs A:=s.same m.next fun x hx=>m.same x (s.lt x hx) (by simp)
theorem Spa.open (s:Spa h fp p cs A):∃b f,p=ptr b 0∧fp=b::f∧h.get b=some (.cells cs 4 .rw)∧A.P h f ∧
 ∀{h':aA} {f':List Nat} (A':Pl),Mod h f h' f'→A'.P h' f'→Spa h' (b::f') p cs A'∧Mod h fp h' (b::f'):=by
 obtain⟨b,f,rfl,rfl,hb,hg,hA,hn⟩:=s
 refine⟨b,f,rfl,rfl,hg,hA,fun {h' f'} A' m hA'=>⟨⟨b,f',rfl,rfl,by have:=m.next;omega,by rw[m.same b hb hn,hg],hA',fun hx=>?_⟩,m.next,fun x hx hnx=>?_,fun x hx=>?_,fun x hx=>?_⟩⟩
 ·rcases m.new b hx with h1 | h1
  ·exact hn h1
  ·omega
 ·simp only[List.mem_cons,not_or]at hnx
  exact m.same x hx hnx.2
 ·rcases List.mem_cons.1 hx with rfl | hx
  ·simp
  ·rcases m.new x hx with h1 | h1
   ·simp[h1]
   ·exact .inr h1
 ·rcases List.mem_cons.1 hx with rfl | hx
  ·have:=m.next;omega
  ·exact m.lt x hx
def jA (p:V) (l:List ByteArray) (g:List En):Pl:=⟨fun h f=>To h f p l g,fun _ _ q=>q.lt,fun _ _ _ q hl hs=>q.same hl hs⟩
abbrev cTo (pt:V):List V:=[i64 3,nil,nil,pt]
abbrev cQu (pt:V):List V:=[i64 2,nil,pt,nil]
abbrev pC (pt:V):List V:=[i64 1,pt,nil,nil]
theorem Mod.lV (o:cH):Mod h [] (h.new o) []:=Mod.eZ (by simp)
theorem aPw {pt:V} (s:Spa h fp p (cTo pt) A) (o:Oq) (now:V) (ho:10≤o.fn∧o.fn≤12) {P:V→aA→Prop}
 (hs:∀h1,Mod h [] h1 []→cl (Go.Abs.F.gT E) [p,o.agg] h1 fun r h'=>∃x y,r = .tuple #[x,y]∧P (.tuple #[x,y]) h'):cl (Go.Abs.F.fE E) [p,o.agg,now] h P:=by
 refine aN ?_
 have m0:Mod h [] (h.new (.cells o.cells 5 .rw)) []:=Mod.lV _
 have g0:(h.new (.cells o.cells 5 .rw)).get h.next=some (.cells o.cells 5 .rw):=by simp
 have s0:=s.bZ m0
 have hk:=hs _ m0
 simp only[Go.Abs.F.fE,qM,aZ]
 generalize h.new (.cells o.cells 5 .rw)=g at m0 g0 s0 hk ⊢
 generalize h.next=bx at g0 ⊢
 obtain⟨b,f,rfl,rfl,hg,hA,up⟩:=s0.open
 have a1:decide (o.fn≥10)=true:=by simp;omega
 have a2:decide (o.fn≤12)=true:=by simp;omega
 have r0:g.rd bx 0=some (i64 o.fn):=aH g0 0
 simp only[dA,aB,aG,Bool.false_eq_true,if_false,bK,bE,aS,Nat.zero_add,aH hg,List.getElem?_cons_zero,dD,show ((3:Int)==1)=false from rfl,show ((3:Int)==2)=false from rfl,show ((3:Int)==3)=true from rfl,
  aQ,dO,aR,if_true,r0,fH,pY,a1,a2,ld5 g0]
 refine aK hk ?_
 rintro r h2 ⟨x,y,rfl,hP⟩
 simp only[bU,List.getElem?_toArray,List.getElem?_cons_zero,List.getElem?_cons_succ,aB]
 exact hP
theorem aPs {pt:V} {l:List ByteArray} {g:List En} (s:Spa h fp p (cTo pt) (jA pt l g)) (o:Oq) (ho:o.fn=10) (hsz:l.length≤1000000) :
 cl (Go.Abs.F.gT E) [p,o.agg] h fun r h'=>
  if l.length<64 then r = .tuple #[str (jM l.length),i64 0]∧∃fp',Spa h' fp' p (cTo pt) (jA pt (l++[o.val]) g)∧Mod h fp h' fp'
  else r = .tuple #[str ⟨#[]⟩,i64 6]∧Mod h [] h' []:=by
 refine aN ?_
 have m0:Mod h [] (h.new (.cells o.cells 5 .rw)) []:=Mod.lV _
 have m0':Mod h fp (h.new (.cells o.cells 5 .rw)) fp:=Mod.eZ s.lt
 have g0:(h.new (.cells o.cells 5 .rw)).get h.next=some (.cells o.cells 5 .rw):=by simp
 have s0:=s.bZ m0
 simp only[Go.Abs.F.gT,qM,aZ]
 generalize h.new (.cells o.cells 5 .rw)=h1 at m0 m0' g0 s0 ⊢
 generalize h.next=bx at g0 ⊢
 obtain⟨b,f,rfl,rfl,hg,hA,up⟩:=s0.open
 have r0:h1.rd bx 0=some (i64 o.fn):=aH g0 0
 have r3:h1.rd bx 3=some (str o.val):=aH g0 3
 simp only[aB,bE,aS,Nat.zero_add,r0,dD,ho,beq_self_eq_true,aG,if_true,bK,aH hg,List.getElem?_cons_zero,List.getElem?_cons_succ,r3]
 refine aK (aY8 hA o.val hsz) ?_
 rintro r h2 hr
 by_cases hl:l.length<64
 ·rw[if_pos hl]at hr
  obtain⟨rfl,f',t',m'⟩:=hr
  simp only[bU,List.getElem?_toArray,List.getElem?_cons_zero,List.getElem?_cons_succ,aB,dE,Bool.not_true,aG,Bool.false_eq_true,if_false]
  refine aK (dF l.length (by omega)) ?_
  rintro r h3 ⟨rfl,rfl⟩
  rw[if_pos hl]
  obtain⟨q1,q2⟩:=up (jA pt (l++[o.val]) g) m' t'
  exact⟨rfl,_,q1,m0'.trans q2⟩
 ·rw[if_neg hl]at hr
  obtain⟨rfl,rfl⟩:=hr
  simp only[bU,List.getElem?_toArray,List.getElem?_cons_zero,List.getElem?_cons_succ,aB,dE,Bool.not_false,aG,if_true]
  rw[if_neg hl]
  exact⟨trivial,m0⟩
def qG (v:ByteArray):ByteArray:=jM v.size++⟨#[58]⟩++v
def qH (out:ByteArray):List ByteArray→ByteArray
 | []=>out
 | v::l=>if out.size+(qG v).size > 200 then out else qH (out++qG v) l
theorem pB (a b:ByteArray):(a++b).size=a.size+b.size:=ByteArray.size_append
theorem aS8 (v:ByteArray):(qG v).size≤v.size+v.size+2:=by
 have:=xW v.size
 unfold qG
 rw[pB,pB]
 have:(⟨#[58]⟩:ByteArray).size=1:=rfl
 omega
def rA (l:List ByteArray) (a most:Int):List ByteArray:=(l.drop a.toNat).take (min (max most 0) (l.length - a)).toNat
theorem aPr {pt:V} {l:List ByteArray} {g:List En} (s:Spa h fp p (cTo pt) (jA pt l g)) (o:Oq) (ho:o.fn=11) (hsz:l.length≤1000000) (hk:0≤atN o.key g∧atN o.key g≤l.length) (hv:∀v∈l,v.size≤1152921504606846976) :
 cl (Go.Abs.F.gT E) [p,o.agg] h fun r h'=>r = .tuple #[str (qH ⟨#[]⟩ (rA l (atN o.key g) o.n)),i64 0]∧Mod h [] h' []:=by
 refine aN ?_
 have m0:Mod h [] (h.new (.cells o.cells 5 .rw)) []:=Mod.lV _
 have g0:(h.new (.cells o.cells 5 .rw)).get h.next=some (.cells o.cells 5 .rw):=by simp
 have s0:=s.bZ m0
 simp only[Go.Abs.F.gT,qM,aZ]
 generalize h.new (.cells o.cells 5 .rw)=h1 at m0 g0 s0 ⊢
 generalize h.next=bx at g0 ⊢
 obtain⟨b,f,rfl,rfl,hg,hA,up⟩:=s0.open
 have r0:h1.rd bx 0=some (i64 o.fn):=aH g0 0
 have r2:h1.rd bx 2=some (str o.key):=aH g0 2
 have r4:h1.rd bx 4=some (i64 o.n):=aH g0 4
 simp only[aB,bE,aS,Nat.zero_add,r0,dD,ho,show ((11:Int)==10)=false from rfl,show ((11:Int)==11)=true from rfl,aG,Bool.false_eq_true,if_false,if_true,bK,aH hg,List.getElem?_cons_zero,List.getElem?_cons_succ,r2,r4]
 refine aK (aPd hA o.key hk o.n hsz) ?_
 rintro r h2 ⟨f2,t2,m2⟩
 change Ts h2 f2 r (rA l (atN o.key g) o.n) at t2
 have hv':∀v∈rA l (atN o.key g) o.n,v.size≤1152921504606846976:=fun v hx=>hv v (List.mem_of_mem_drop (List.mem_of_mem_take hx))
 have hln:(rA l (atN o.key g) o.n).length≤1000000:=by
  unfold rA
  rw[List.length_take,List.length_drop]
  omega
 generalize rA l (atN o.key g) o.n=L at t2 hv' hln ⊢
 have m2':Mod h [] h2 []:=m0.trans ⟨m2.next,m2.same,by simp,by simp⟩
 have hlen:=Sl.len t2
 simp only[hlen,aB]
 refine⟨fun vs h'=>vs=[str (qH ⟨#[]⟩ L)]∧h'=h2,?_,?_⟩
 ·refine⟨fun n vs h'=>∃(out:ByteArray) (i:Nat),vs=[str out,i64 i]∧i≤L.length∧n=L.length - i∧out.size≤200∧qH ⟨#[]⟩ L=qH out (L.drop i)∧h'=h2,L.length,⟨⟨#[]⟩,0,rfl,by omega,by omega,by decide,by simp,rfl⟩,?_⟩
  rintro n e h3 ⟨out,i,he,hi,rfl,hout,hf,rfl⟩
  simp only[List.cons.injEq,and_true]at he
  obtain⟨e1,e2⟩:=he
  simp only[e1,e2,cN,aB,aG]
  by_cases hx:i<L.length
  ·have hx':(i:Int)<(L.length:Nat):=by omega
   obtain⟨bk,_,i1,i2⟩:=Sl.at t2 hx
   have i3:h3.rd bk (i*1)=some (str L[i]):=by
    have:=i2 0 (by decide)
    rw[Nat.add_zero]at this
    rw[this,Nat.mul_one,List.getElem?_map,List.getElem?_eq_getElem hx]
    rfl
   have hvi:=hv' L[i] (List.getElem_mem hx)
   have hes:=aS8 L[i]
   have hds:=xW L[i].size
   simp only[hx',decide_true,if_true,i1,aB,aS,i3]
   have ln:∀(x:ByteArray) (h:aA),bH .str (str x) h=some (i64 (x.size:Nat)):=fun _ _=>rfl
   simp only[ln,aB]
   refine aK (dF L[i].size (by omega)) ?_
   rintro r h4 ⟨rfl,rfl⟩
   have e58:(⟨#[58]⟩:ByteArray).size=1:=rfl
   rw[pR _ _ _ _ (by omega),aB,pR _ _ _ _ (by rw[pB];omega),aB]
   have eT:jM L[i].size++⟨#[58]⟩++L[i]=qG L[i]:=rfl
   rw[eT]
   simp only[ln,aB]
   rw[cY _ _ (by omega) (by omega),aB]
   simp only[iK,aB,aG]
   have hd:qH out (L.drop i)=if out.size+(qG L[i]).size > 200 then out else qH (out++qG L[i]) (L.drop (i+1)):=by
    rw[List.drop_eq_getElem_cons hx]
    rfl
   rw[hd]at hf
   by_cases hb:out.size+(qG L[i]).size > 200
   ·have hb':(out.size:Int)+(qG L[i]).size > 200:=by omega
    rw[if_pos hb]at hf
    simp only[hb',decide_true,if_true]
    rw[hf]
    exact⟨rfl,trivial⟩
   ·have hb':¬((out.size:Int)+(qG L[i]).size > 200):=by omega
    rw[if_neg hb]at hf
    simp only[hb',decide_false,Bool.false_eq_true,if_false]
    rw[pR _ _ _ _ (by omega),aB,cY _ 1 (by omega) (by omega),aB]
    exact⟨L.length - (i+1),by omega,_,i+1,rfl,by omega,rfl,by rw[pB];omega,hf,trivial⟩
  ·have hx':¬(i:Int)<(L.length:Nat):=by omega
   simp only[hx',decide_false,Bool.false_eq_true,if_false]
   rw[hf,List.drop_of_length_le (by omega)]
   exact⟨rfl,trivial⟩
 ·rintro e h3 ⟨he,rfl⟩
  simp only[List.cons.injEq,and_true]at he
  rw[he]
  exact⟨rfl,m2'⟩
end Go.Abs
namespace Go.Abs
open Go Go.Proofs
variable {E:FE} {h h':aA} {fp:List Nat} {p:V} {l:List ByteArray} {g:List En}
def eB (g:List En):List ByteArray:=(eR (g.map ME)).map fun k=>⟨k.toArray⟩
theorem aLm (g:List En):(eR (g.map ME)).map encStr=(eB g).map str:=by
 unfold eB
 rw[List.map_map]
 rfl
theorem tS (g:List En):(eB g).length=g.length:=by
 unfold eB
 rw[List.length_map,aHz,List.length_map]
theorem yN (g:List En):(eB g).Perm (bT g):=by
 unfold eB eR
 have h1:=(List.mergeSort_perm ((g.map ME).map fun e=>hU e.key) (fun x y=>decide (x≤y))).map (fun k:List UInt8=>(⟨k.toArray⟩:ByteArray))
 refine h1.trans ?_
 rw[List.map_map,List.map_map]
 unfold bT
 have:(((fun k:List UInt8=>(⟨k.toArray⟩:ByteArray)) ∘ fun e:MapEntry=>hU e.key) ∘ ME)=fun e:En=>e.k:=by
  funext e
  obtain⟨⟨⟨k⟩⟩,v,b⟩:=e
  rfl
 rw[Function.comp_def]at this
 rw[←Function.comp_def,←Function.comp_def]at *
 simpa[Function.comp_def]using (by
  have e2:(List.map (((fun k:List UInt8=>(⟨k.toArray⟩:ByteArray)) ∘ fun e:MapEntry=>hU e.key) ∘ ME) g)=g.map fun e=>e.k:=by
   refine List.map_congr_left fun e _=>?_
   obtain⟨⟨⟨k⟩⟩,v,b⟩:=e
   rfl
  rw[e2]:(List.map (((fun k:List UInt8=>(⟨k.toArray⟩:ByteArray)) ∘ fun e:MapEntry=>hU e.key) ∘ ME) g).Perm (g.map fun e=>e.k))
theorem aEk (t:To h fp p l g) (hs:∀e∈g,e.k.size≤maxLen) (hl:g.length≤1000) :
 cl (Go.Abs.F.gU E) [p] h fun r h'=>∃fp',Ts h' fp' r (eB g)∧Mod h [] h' fp':=by
 obtain⟨b,m,fl,vl,clk,rfl,rfl,hne,hb,hm,h1,h2,h3,h4,h5,h6,h7⟩:=t
 refine aN ?_
 simp only[Go.Abs.F.gU,dA,aB,aG,Bool.false_eq_true,if_false,bK,bE,aS,Nat.zero_add,aH h1,List.getElem?_cons_zero,List.getElem?_cons_succ]
 refine aN ?_
 have e2:aY none (.map (some m)) h=some (ptr h.next 0,h.new (.cells [.map (some m)] 1 .rw)):=rfl
 simp only[Go.Abs.F.oM,e2,aZ]
 refine aN ?_
 have m0:Mod h [] (h.new (.cells [.map (some m)] 1 .rw)) []:=Mod.eZ (by simp)
 show Go.Abs.F.oW E _ _ _
 refine aLp (l:=g) (b:=h.next) (m:=m) (clk:=clk) (es:=1) (by simp) (by simp[Nat.ne_of_lt hm,h2]) h6 hs hl (.inr (.inl rfl)) ?_
 obtain⟨fp',q1,q2⟩:=aOy (eR (g.map ME)) (h.new (.cells [.map (some m)] 1 .rw))
 refine⟨fp',?_,m0.trans q2⟩
 unfold Ts
 rw[tS,←aLm]
 rw[aHz,List.length_map]at q1
 exact q1
theorem aH1 {l:List En} (t:Tab h fp p l) (hs:∀e∈l,e.k.size≤maxLen) (hl:l.length≤1000) :
 cl (Go.Abs.F.jE E) [p] h fun r h'=>∃fp',Ts h' fp' r (eB l)∧Mod h [] h' fp':=by
 refine aK (aYx t hs hl) ?_
 rintro r h' ⟨fp',q1,q2⟩
 refine⟨fp',?_,q2⟩
 unfold Ts
 rw[tS,←aLm]
 exact q1
theorem aY7 (t:To h fp p l g) (hsz:l.length≤1000000):cl (Go.Abs.F.kQ E) [p] h fun r h'=>∃fp',To h' fp' r l g∧Mod h [] h' fp':=by
 have t0:=t
 obtain⟨b,m,fl,vl,clk,rfl,rfl,hne,hb,hm,h1,h2,h3,h4,h5,h6,h7⟩:=t
 refine aN ?_
 simp only[Go.Abs.F.kQ,dA,aB,aG,Bool.false_eq_true,if_false,bK,bE,aS,Nat.zero_add,aH h1,List.getElem?_cons_zero,List.getElem?_cons_succ]
 refine aK (aFs h3 hsz) ?_
 rintro r g1 ⟨f1,s1,m1⟩
 have g1b:g1.get b=some (.cells [vl,.map (some m)] 2 .rw):=by rw[m1.same b hb (by simp),h1]
 have g1m:g1.get m=some (.map (g.map ME) clk):=by rw[m1.same m hm (by simp),h2]
 simp only[aH g1b,List.getElem?_cons_zero,List.getElem?_cons_succ,true_and]
 refine aN ?_
 simp only[Go.Abs.F.oI,aMg,aB,aG,Bool.false_eq_true,if_false,iface]
 refine aN ?_
 simp only[Go.Abs.F.pL,L.clone,g1m,qW,beq_self_eq_true,Bool.and_self,if_true,Bool.false_eq_true,if_false,aB]
 obtain⟨c1,c2⟩:=Sl.cell s1
 have e1:∀x:Nat,cA (.struct [(.slice none 0 0),(.map none)] [(0,1),(1,1)]) [(0,r),(1,.map (some x))]=some (.agg #[r,.map (some x)]):=by
  intro x
  obtain⟨h0,⟨rfl,_,_⟩ | ⟨b',c,all,rfl,_⟩⟩:=s1<;>rfl
 have e2:∀(x:Nat) (g:aA),aY none (.agg #[r,.map (some x)]) g=some (ptr g.next 0,g.new (.cells [r,.map (some x)] 2 .rw)):=fun _ _=>rfl
 simp only[e1,e2,aB,aZ]
 have n1:=m1.next
 have lt1:=s1.lt
 have new1:∀x∈f1,h.next≤x:=fun x hx=>by rcases m1.new x hx with h | h;simp at h;exact h
 refine⟨(g1.next+1)::g1.next::f1,⟨g1.next+1,g1.next,f1,r,clk,by simp,rfl,by simp,by simp,by simp;omega,by simp,by simp,s1.same (by simp;omega) fun x hx=>?_,fun hx=>?_,fun hx=>?_,h6,h7⟩,by simp;omega,fun x hx _=>?_,fun x hx=>?_,fun x hx=>?_⟩
 ·have:=lt1 x hx
  have a:x≠g1.next:=by omega
  have a':x≠g1.next+1:=by omega
  simp[a,a']
 ·have:=lt1 _ hx;omega
 ·have:=lt1 _ hx;omega
 ·have a:x≠g1.next:=by omega
  have a':x≠g1.next+1:=by omega
  simp only[aMy,rF,a,a',if_false]
  exact m1.same x hx (by simp)
 ·simp only[List.mem_cons]at hx
  right
  rcases hx with rfl | rfl | hx
  ·omega
  ·omega
  ·exact new1 x hx
 ·simp only[List.mem_cons]at hx
  simp only[rF]
  rcases hx with rfl | rfl | hx
  ·omega
  ·omega
  ·have:=lt1 x hx;omega
theorem aAy {x y:V} {a b:List ByteArray} (hx:Rdt h x a) (hy:Rdt h y b) (hsz:a.length≤1000000):cl (Go.Abs.F.fU E) [x,y] h fun r h'=>h'=h∧r = .bool (decide (a=b)):=by
 refine aN ?_
 simp only[Go.Abs.F.fU,hx.1,hy.1,aB,gK,aG]
 by_cases hl:a.length=b.length
 ·have e:((a.length:Int) != (b.length:Int))=false:=by simp[hl]
  rw[e]
  simp only[Bool.false_eq_true,if_false]
  refine⟨fun k l' h'=>h'=h∧∃i:Nat,l'=[i64 i]∧i≤a.length∧k=a.length - i∧a.take i=b.take i,a.length,⟨rfl,0,rfl,by omega,by omega,by simp⟩,?_⟩
  rintro k e5 h5 ⟨rfl,i,hl5,hi,rfl,htk⟩
  simp only[List.cons.injEq,and_true]at hl5
  rw[hl5]
  simp only[aB,cN,aG,decide_eq_true_eq]
  by_cases hlt:(i:Int)<(a.length:Int)
  ·rw[if_pos hlt]
   have hia:i<a.length:=by omega
   have hib:i<b.length:=by omega
   obtain⟨b1,o1,x1,r1⟩:=hx.2 i a[i] (List.getElem?_eq_getElem hia)
   obtain⟨b2,o2,x2,r2⟩:=hy.2 i b[i] (List.getElem?_eq_getElem hib)
   simp only[x1,x2,aB,aS,r1,r2,zI,aG]
   by_cases he:a[i]=b[i]
   ·simp only[he,decide_true,Bool.not_true,Bool.false_eq_true,if_false]
    rw[cY _ 1 (by omega) (by omega),aB]
    refine⟨a.length - (i+1),by omega,trivial,i+1,by simp,by omega,rfl,?_⟩
    rw[List.take_succ_eq_append_getElem hia,List.take_succ_eq_append_getElem hib,htk,he]
   ·simp only[he,decide_false,Bool.not_false,if_true]
    refine⟨trivial,?_⟩
    have:a≠b:=fun h=>he (by subst h;rfl)
    simp[this]
  ·rw[if_neg hlt]
   refine⟨trivial,?_⟩
   have:a=b:=by
    rw[List.take_of_length_le (by omega),List.take_of_length_le (by omega)]at htk
    exact htk
   simp[this]
 ·have e:((a.length:Int) != (b.length:Int))=true:=by simp;omega
  rw[e]
  simp only[if_true]
  refine⟨trivial,?_⟩
  have:a≠b:=fun h=>hl (by rw[h])
  simp[this]
theorem aJd {P:ByteArray→Bool} {l:List ByteArray} {i:Nat} (hi:i<l.length):(l.take (i+1)).any P=((l.take i).any P||P l[i]):=by
 rw[List.take_succ_eq_append_getElem hi,List.any_append]
 simp
theorem aJe {x f:V} (hM:aJ E.I) (hx:Rdt h x l) (hsz:l.length≤1000000) (P:ByteArray→Bool) (hf:∀s∈l,cR E.I f [str s] h fun r h'=>h'=h∧r = .bool (P s)) :
 cl (Go.Abs.F.jC E) [x,f] h fun r h'=>h'=h∧r = .bool (l.any P):=by
 have key:cl (Go.Abs.F.nL E) [x,f] h fun r h'=>h'=h∧∃z:Int,r=i64 z∧decide (z≥0)=l.any P:=by
  refine aN ?_
  simp only[Go.Abs.F.nL,hx.1,aB]
  refine⟨fun k l' h'=>h'=h∧∃i:Nat,l'=[i64 i]∧i≤l.length∧k=l.length - i∧(l.take i).any P=false,l.length,⟨rfl,0,rfl,by omega,by omega,by simp⟩,?_⟩
  rintro k e h5 ⟨e5,i,hl5,hi,rfl,hno⟩
  rw[e5]
  simp only[List.cons.injEq,and_true]at hl5
  rw[hl5]
  simp only[aB,cN,aG,decide_eq_true_eq]
  by_cases hlt:i<l.length
  ·have hlt':(i:Int)<(l.length:Nat):=by omega
   rw[if_pos hlt']
   obtain⟨b1,o1,x1,r1⟩:=hx.2 i l[i] (List.getElem?_eq_getElem hlt)
   simp only[x1,aB,aS,r1]
   refine uR hM ?_ (hf l[i] (List.getElem_mem hlt))
   rintro r h6 ⟨e6,rfl⟩
   rw[e6]
   simp only[aG]
   cases hp:P l[i]with
   | true=>
    simp only[if_true]
    refine⟨trivial,i,rfl,?_⟩
    have:l.any P=true:=List.any_eq_true.2 ⟨l[i],List.getElem_mem hlt,hp⟩
    rw[this]
    simp
   | false=>
    simp only[Bool.false_eq_true,if_false]
    rw[cY _ 1 (by omega) (by omega),aB]
    exact⟨l.length - (i+1),by omega,trivial,i+1,by simp,by omega,rfl,by rw[aJd hlt,hno,hp];rfl⟩
  ·have hlt':¬(i:Int)<(l.length:Nat):=by omega
   rw[if_neg hlt']
   refine⟨trivial,-1,rfl,?_⟩
   rw[List.take_of_length_le (by omega)]at hno
   rw[hno]
   rfl
 refine aN ?_
 simp only[Go.Abs.F.jC]
 refine aK key ?_
 rintro r h' ⟨rfl,z,rfl,hz⟩
 simp only[fH,aB]
 exact⟨trivial,by rw[hz]⟩
theorem aT8 {x:V} (hx:Rdt h x l) (hsz:l.length≤1000000) (s:ByteArray):cl (Go.Abs.F.nG E) [x,str s] h fun r h'=>h'=h∧r = .bool (l.any fun y=>decide (s=y)):=by
 have key:cl (Go.Abs.F.nN E) [x,str s] h fun r h'=>h'=h∧∃z:Int,r=i64 z∧decide (z≥0)=l.any fun y=>decide (s=y):=by
  refine aN ?_
  simp only[Go.Abs.F.nN,hx.1,aB]
  refine⟨fun k l' h'=>h'=h∧∃i:Nat,l'=[i64 i]∧i≤l.length∧k=l.length - i∧((l.take i).any fun y=>decide (s=y))=false,l.length,⟨rfl,0,rfl,by omega,by omega,by simp⟩,?_⟩
  rintro k e h5 ⟨e5,i,hl5,hi,rfl,hno⟩
  rw[e5]
  simp only[List.cons.injEq,and_true]at hl5
  rw[hl5]
  simp only[aB,cN,aG,decide_eq_true_eq]
  by_cases hlt:i<l.length
  ·have hlt':(i:Int)<(l.length:Nat):=by omega
   rw[if_pos hlt']
   obtain⟨b1,o1,x1,r1⟩:=hx.2 i l[i] (List.getElem?_eq_getElem hlt)
   simp only[x1,aB,aS,r1,zH,aG]
   cases hp:decide (s=l[i]) with
   | true=>
    simp only[if_true]
    refine⟨trivial,i,rfl,?_⟩
    have:(l.any fun y=>decide (s=y))=true:=List.any_eq_true.2 ⟨l[i],List.getElem_mem hlt,hp⟩
    rw[this]
    simp
   | false=>
    simp only[Bool.false_eq_true,if_false]
    rw[cY _ 1 (by omega) (by omega),aB]
    exact⟨l.length - (i+1),by omega,trivial,i+1,by simp,by omega,rfl,by rw[aJd hlt,hno,hp];rfl⟩
  ·have hlt':¬(i:Int)<(l.length:Nat):=by omega
   rw[if_neg hlt']
   refine⟨trivial,-1,rfl,?_⟩
   rw[List.take_of_length_le (by omega)]at hno
   rw[hno]
   rfl
 refine aN ?_
 simp only[Go.Abs.F.nG]
 refine aK key ?_
 rintro r h' ⟨rfl,z,rfl,hz⟩
 simp only[fH,aB]
 exact⟨trivial,by rw[hz]⟩
end Go.Abs
namespace Go.Abs
open Go Go.Proofs
variable {E:FE} {h h':aA} {fp:List Nat} {p:V}
theorem Tab.tQ {l:List En} (t:Tab h fp p l):cellsOf p=some [p]∧dH p=true:=by
 obtain⟨b,m,clk,rfl,_⟩:=t
 exact⟨rfl,rfl⟩
theorem To.tQ {l:List ByteArray} {g:List En} (t:To h fp p l g):cellsOf p=some [p]∧dH p=true:=by
 obtain⟨b,m,fl,vl,clk,rfl,_⟩:=t
 exact⟨rfl,rfl⟩
theorem Qu.tQ {most next:Int} {items lost:List Msg} (q:Qu h fp p most next items lost):cellsOf p=some [p]∧dH p=true:=by
 obtain⟨b,fi,fl,vi,vl,rfl,_⟩:=q
 exact⟨rfl,rfl⟩
theorem aHx {A:Pl} {cs0 cs:List V} {h2:aA} {f:List Nat} (m:Mod (h.new (.cells cs0 4 .rw)) [] h2 f) (hA:A.P h2 f) :
 Spa (h2.put h.next (.cells cs 4 .rw)) (h.next::f) (ptr h.next 0) cs A∧Mod h [] (h2.put h.next (.cells cs 4 .rw)) (h.next::f):=by
 have hn:h.next+1≤h2.next:=by have:=m.next;simpa using this
 have hf:∀x∈f,h.next+1≤x:=fun x hx=>by
  rcases m.new x hx with h1 | h1
  ·simp at h1
  ·simpa using h1
 refine⟨⟨h.next,f,rfl,rfl,by simp;omega,by simp,A.same _ _ _ hA (by simp) fun x hx=>?_,fun hx=>?_⟩,by simp;omega,fun x hx _=>?_,fun x hx=>?_,fun x hx=>?_⟩
 ·have:=hf x hx
  have:x≠h.next:=by omega
  simp[this]
 ·have:=hf _ hx;omega
 ·have:x≠h.next:=by omega
  simp only[wJ,this,if_false]
  rw[m.same x (by simp;omega) (by simp)]
  simp[this]
 ·rcases List.mem_cons.1 hx with rfl | hx
  ·simp
  ·have:=hf x hx;right;omega
 ·rcases List.mem_cons.1 hx with rfl | hx
  ·simp;omega
  ·simpa using A.lt _ _ hA x hx
theorem aYi (most:V):cl (Go.Abs.F.gC E) [i64 3,most] h fun r h'=>∃pt fp,Spa h' fp r (cTo pt) (jA pt [] [])∧Mod h [] h' fp:=by
 refine aN ?_
 have e1:cA (.struct [(.int .i64 0),(.pointer none),(.pointer none),(.pointer none)] [(0,1),(1,1),(2,1),(3,1)]) [(0,i64 3)]=some (.agg #[i64 3,nil,nil,nil]):=rfl
 have e2:aY none (.agg #[i64 3,nil,nil,nil]) h=some (ptr h.next 0,h.new (.cells [i64 3,nil,nil,nil] 4 .rw)):=rfl
 simp only[Go.Abs.F.gC,e1,e2,aB,aZ,dD,show ((3:Int)==1)=false from rfl,show ((3:Int)==2)=false from rfl,show ((3:Int)==3)=true from rfl,aG,Bool.false_eq_true,if_false,if_true,bK,bE,Nat.zero_add]
 refine aK kO ?_
 rintro pt h2 ⟨f,t,m⟩
 obtain⟨q1,q2⟩:=t.tQ
 have hg:h2.get h.next=some (.cells [i64 3,nil,nil,nil] 4 .rw):=by rw[m.same h.next (by simp) (by simp)];simp
 rw[nR hg (by simp) q1 q2 (by simp)]
 simp only[bV,List.set_cons_succ,List.set_cons_zero]
 obtain⟨s,m'⟩:=aHx (A:=jA pt [] []) (cs:=cTo pt) m t
 exact⟨pt,_,s,m'⟩
theorem aYg (most:Int):cl (Go.Abs.F.gC E) [i64 2,i64 most] h fun r h'=>∃pt fp,Spa h' fp r (cQu pt) (eK pt (min (max most 1) 9) 1 [] [])∧Mod h [] h' fp:=by
 refine aN ?_
 have e1:cA (.struct [(.int .i64 0),(.pointer none),(.pointer none),(.pointer none)] [(0,1),(1,1),(2,1),(3,1)]) [(0,i64 2)]=some (.agg #[i64 2,nil,nil,nil]):=rfl
 have e2:aY none (.agg #[i64 2,nil,nil,nil]) h=some (ptr h.next 0,h.new (.cells [i64 2,nil,nil,nil] 4 .rw)):=rfl
 simp only[Go.Abs.F.gC,e1,e2,aB,aZ,dD,show ((2:Int)==1)=false from rfl,show ((2:Int)==2)=true from rfl,aG,Bool.false_eq_true,if_false,if_true,bK,bE,Nat.zero_add]
 refine aK (jZ most) ?_
 rintro pt h2 ⟨f,t,m⟩
 obtain⟨q1,q2⟩:=t.tQ
 have hg:h2.get h.next=some (.cells [i64 2,nil,nil,nil] 4 .rw):=by rw[m.same h.next (by simp) (by simp)];simp
 rw[nR hg (by simp) q1 q2 (by simp)]
 simp only[bV,List.set_cons_succ,List.set_cons_zero]
 obtain⟨s,m'⟩:=aHx (A:=eK pt (min (max most 1) 9) 1 [] []) (cs:=cQu pt) m t
 exact⟨pt,_,s,m'⟩
theorem aYh (most:V):cl (Go.Abs.F.gC E) [i64 1,most] h fun r h'=>∃pt fp,Spa h' fp r (pC pt) (jY pt [])∧Mod h [] h' fp:=by
 refine aN ?_
 have e1:cA (.struct [(.int .i64 0),(.pointer none),(.pointer none),(.pointer none)] [(0,1),(1,1),(2,1),(3,1)]) [(0,i64 1)]=some (.agg #[i64 1,nil,nil,nil]):=rfl
 have e2:aY none (.agg #[i64 1,nil,nil,nil]) h=some (ptr h.next 0,h.new (.cells [i64 1,nil,nil,nil] 4 .rw)):=rfl
 simp only[Go.Abs.F.gC,e1,e2,aB,aZ,dD,show ((1:Int)==1)=true from rfl,aG,if_true,bK,bE,Nat.zero_add]
 refine aK kL ?_
 rintro pt h2 ⟨f,t,m⟩
 obtain⟨q1,q2⟩:=t.tQ
 have hg:h2.get h.next=some (.cells [i64 1,nil,nil,nil] 4 .rw):=by rw[m.same h.next (by simp) (by simp)];simp
 rw[nR hg (by simp) q1 q2 (by simp)]
 simp only[bV,List.set_cons_succ,List.set_cons_zero]
 obtain⟨s,m'⟩:=aHx (A:=jY pt []) (cs:=pC pt) m t
 exact⟨pt,_,s,m'⟩
end Go.Abs
namespace Go.Abs
open Go Go.Proofs
variable {E:FE} {h:aA} {X:Fr} {L:List Pl} {p pw:V} {g:List En} {ps:List Pr}
theorem TW.len (t:TW g ps) (hn:(bT g).Nodup):g.length=ps.length:=by
 have:=(t.perm hn).length_eq
 simpa[bT]using this
theorem Tab.nd {fp:List Nat} (t:Tab h fp p g):(bT g).Nodup:=by
 obtain⟨b,m,clk,_,_,_,_,_,_,_,hn⟩:=t
 exact hn.1
structure TI (k:Nat) (g:List En) (ps:List Pr):Prop where
 tw:TW g ps
 len:ps.length≤k
 sz:∀q∈ps,q.key.size≤maxLen
theorem TI.mono {k k':Nat} (t:TI k g ps) (h:k≤k'):TI k' g ps:=⟨t.tw,Nat.le_trans t.len h,t.sz⟩
end Go.Abs

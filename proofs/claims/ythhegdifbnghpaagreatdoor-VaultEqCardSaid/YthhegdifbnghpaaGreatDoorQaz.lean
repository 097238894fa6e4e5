/- Specs on abstract heaps, part 29: spaces that are compared with what is the same. -/
import Derived.Test.YthhegdifbnghpaaGreatDoorQay
set_option linter.unusedSimpArgs false
set_option linter.unusedVariables false
namespace Go.Abs
open Go Go.Proofs
variable {E E1 E2:FE} {h h':aA} {fp:List Nat} {p q:V} {l:List ByteArray} {g:List En}
theorem Mod.nil {a:List Nat} (m:Mod h [] h' a):Mod h [] h' []:=⟨m.next,m.same,by simp,by simp⟩
theorem aJk (v:V) (hv:cellsOf v=some [v]):aY none v h=some (ptr h.next 0,h.new (.cells [v] 1 .rw)):=by
 simp only[aY,hv]
 rfl
theorem aM4 {α:Type} [DecidableEq α]:∀{a b:List α},a.Nodup→(∀x∈a,x∈b)→a.length≤b.length
 | [],b,_,_=>by simp
 | x::a,b,hn,hs=>by
  obtain⟨h1,h2⟩:=List.nodup_cons.1 hn
  have hx:x∈b:=hs x (by simp)
  have:=aM4 (a:=a) (b:=b.erase x) h2 fun y hy=>by
   have:y≠x:=fun e=>h1 (e▸hy)
   exact (List.mem_erase_of_ne this).2 (hs y (by simp[hy]))
  rw[List.length_erase_of_mem hx]at this
  have:0<b.length:=List.length_pos_of_mem hx
  simp only[List.length_cons]
  omega
def xs (i:Nat):ByteArray:=⟨(List.replicate i (120:UInt8)).toArray⟩
theorem aIe (i:Nat):(xs i).size=i:=by simp[xs,ByteArray.size]
theorem aZw (i:Nat):xs i++⟨#[120]⟩=xs (i+1):=by
 have:(⟨#[120]⟩:ByteArray)=⟨[120].toArray⟩:=rfl
 unfold xs
 rw[this,aQ6,List.replicate_succ']
theorem aZv {i j:Nat} (h:xs i=xs j):i=j:=by rw[←aIe i,h,aIe]
theorem aJa (t:To h fp p l g) (hs:∀e∈g,e.k.size≤maxLen) (hl:g.length≤1000) (hsz:l.length≤1000000) :
 cl (Go.Abs.F.lP E) [p] h fun r h'=>∃fp',Ts h' fp' r l∧Mod h [] h' []:=by
 refine aN ?_
 simp only[Go.Abs.F.lP]
 refine⟨fun n vs h'=>∃i:Nat,vs=[str (xs i)]∧n=g.length - i∧i≤g.length∧(∀j,j<i→xs j∈bT g)∧Mod h [] h' [],g.length,⟨0,rfl,by omega,by omega,by simp,Mod.refl (by simp)⟩,?_⟩
 rintro n e h1 ⟨i,he,rfl,hi,hall,m1⟩
 simp only[List.cons.injEq,and_true]at he
 rw[he]
 have t1:To h1 fp p l g:=t.same m1.next fun x hx=>m1.same x (t.lt x hx) (by simp)
 refine aK (aEk t1 hs hl) ?_
 rintro r h2 ⟨f2,s2,m2⟩
 have t2:To h2 fp p l g:=t1.same m2.next fun x hx=>m2.same x (t1.lt x hx) (by simp)
 refine aK (aT8 s2.rdt (by rw[tS];omega) (xs i)) ?_
 rintro r h3 ⟨e3,rfl⟩
 rw[e3]
 simp only[aG]
 by_cases hin:xs i∈bT g
 ·have:((eB g).any fun y=>decide (xs i=y))=true:=List.any_eq_true.2 ⟨xs i,(yN g).mem_iff.2 hin,by simp⟩
  rw[this]
  simp only[if_true]
  have hlen:i+1≤g.length:=by
   have h1:=aM4 (a:=(List.range (i+1)).map xs) (b:=bT g) (List.pairwise_map.2 (List.nodup_range.imp fun {a b} hab e=>hab (aZv e))) fun x hx=>by
    obtain⟨j,hj,rfl⟩:=List.mem_map.1 hx
    have hj':j<i+1:=List.mem_range.1 hj
    by_cases hji:j=i
    ·rw[hji];exact hin
    ·exact hall j (by omega)
   simpa[bT]using h1
  rw[pR _ _ _ _ (by rw[aIe];have:(⟨#[120]⟩:ByteArray).size=1:=rfl
                    omega),aB,aZw]
  refine⟨g.length - (i+1),by omega,i+1,rfl,rfl,hlen,fun j hj=>?_,m1.trans m2.nil⟩
  by_cases hji:j=i
  ·rw[hji];exact hin
  ·exact hall j (by omega)
 ·have:((eB g).any fun y=>decide (xs i=y))=false:=by
   rw[List.any_eq_false]
   intro y hy
   have hy':=(yN g).mem_iff.1 hy
   simp only[decide_eq_true_eq]
   exact fun e=>hin (e▸hy')
  rw[this]
  simp only[Bool.false_eq_true,if_false]
  refine aK (aEl t2) ?_
  rintro r h4 ⟨rfl,rfl⟩
  have hat:atN (xs i) g=0:=by
   unfold atN
   rw[get_none.1 hin]
  refine aK (aPd t2 (xs i) (by rw[hat];omega) l.length hsz) ?_
  rintro r h5 ⟨f5,s5,m5⟩
  refine⟨f5,?_,(m1.trans m2.nil).trans m5.nil⟩
  rw[hat]at s5
  have:(l.drop (0:Int).toNat).take (min (max (l.length:Int) 0) ((l.length:Int) - 0)).toNat=l:=by
   simp
  rw[this]at s5
  exact s5
end Go.Abs
namespace Go.Abs
open Go Go.Proofs
variable {E E1:FE} {h h':aA} {p q pt qt:V} {l:List ByteArray} {g:List En} {fa fb:List Nat}
structure aPx (h0:aA) (x y:Nat) (ba bb:Nat) (ca cb:List V):Prop where
 rp:∀{h'},Mod h0 [] h' []→h'.rd x 0=some (ptr ba 0)
 rq:∀{h'},Mod h0 [] h' []→h'.rd y 0=some (ptr bb 0)
 ra:∀{h'},Mod h0 [] h' []→∀j,h'.rd ba j=ca[j]?
 rb:∀{h'},Mod h0 [] h' []→∀j,h'.rd bb j=cb[j]?
theorem aF7 {A B:Pl} {ca cb:List V} (a:Spa h fa p ca A) (b:Spa h fb q cb B) :
 ∃h0 x ba bb f f',p=ptr ba 0∧q=ptr bb 0∧aY none p h=some (ptr x 0,h.new (.cells [p] 1 .rw))∧aY none q (h.new (.cells [p] 1 .rw))=some (ptr (x+1) 0,h0)∧Mod h [] h0 []∧aPx h0 x (x+1) ba bb ca cb ∧
  (∀{h'},Mod h0 [] h' []→A.P h' f)∧(∀{h'},Mod h0 [] h' []→B.P h' f'):=by
 obtain⟨ba,f,rfl,rfl,hba,hga,hA,hna⟩:=a
 obtain⟨bb,f',rfl,rfl,hbb,hgb,hB,hnb⟩:=b
 have m0:Mod h [] ((h.new (.cells [ptr ba 0] 1 .rw)).new (.cells [ptr bb 0] 1 .rw)) []:=(Mod.lV _).trans (Mod.lV _)
 have g1:((h.new (.cells [ptr ba 0] 1 .rw)).new (.cells [ptr bb 0] 1 .rw)).get h.next=some (.cells [ptr ba 0] 1 .rw):=by simp
 have g2:((h.new (.cells [ptr ba 0] 1 .rw)).new (.cells [ptr bb 0] 1 .rw)).get (h.next+1)=some (.cells [ptr bb 0] 1 .rw):=by simp
 have n1:h.next<((h.new (.cells [ptr ba 0] 1 .rw)).new (.cells [ptr bb 0] 1 .rw)).next:=by simp;omega
 have n2:h.next+1<((h.new (.cells [ptr ba 0] 1 .rw)).new (.cells [ptr bb 0] 1 .rw)).next:=by simp
 refine⟨_,h.next,ba,bb,f,f',rfl,rfl,rfl,rfl,m0,⟨fun m=>?_,fun m=>?_,fun m j=>?_,fun m j=>?_⟩,fun m=>?_,fun m=>?_⟩
 ·rw[rI m n1];exact aH g1 0
 ·rw[rI m n2];exact aH g2 0
 ·have mm:=m0.trans m
  rw[rI mm hba];exact aH hga j
 ·have mm:=m0.trans m
  rw[rI mm hbb];exact aH hgb j
 ·have mm:=m0.trans m
  exact A.same _ _ _ hA mm.next fun x hx=>mm.same x (A.lt _ _ hA x hx) (by simp)
 ·have mm:=m0.trans m
  exact B.same _ _ _ hB mm.next fun x hx=>mm.same x (B.lt _ _ hB x hx) (by simp)
theorem To.bQ {fp:List Nat} (t:To h fp p l g):∀e∈g,∃n:Int,e.v=i64 n:=by
 obtain⟨b,m,fl,vl,clk,_,_,_,_,_,_,_,_,_,_,_,h7⟩:=t
 exact h7
theorem aM1:cl (Go.Abs.F.kM E) [nil] h fun r h'=>r=nil∧h'=h:=by
 refine aN ?_
 simp only[Go.Abs.F.kM,tX,aB,aG,if_true]
 exact⟨trivial,trivial⟩
theorem aM0:cl (Go.Abs.F.kD E) [nil] h fun r h'=>r=nil∧h'=h:=by
 refine aN ?_
 simp only[Go.Abs.F.kD,tX,aB,aG,if_true]
 exact⟨trivial,trivial⟩
theorem aM2:cl (Go.Abs.F.kQ E) [nil] h fun r h'=>r=nil∧h'=h:=by
 refine aN ?_
 simp only[Go.Abs.F.kQ,tX,aB,aG,if_true]
 exact⟨trivial,trivial⟩
theorem aHy {A:Pl} {cs:List V} {h2:aA} {f:List Nat} (m:Mod h [] h2 f) (hA:A.P h2 f) :
 Spa (h2.new (.cells cs 4 .rw)) (h2.next::f) (ptr h2.next 0) cs A∧Mod h [] (h2.new (.cells cs 4 .rw)) (h2.next::f):=by
 have hl:=A.lt _ _ hA
 have hm:=m.next
 refine⟨⟨h2.next,f,rfl,rfl,by simp,by simp,A.same _ _ _ hA (by simp) fun x hx=>?_,fun hx=>?_⟩,by simp;omega,fun x hx _=>?_,fun x hx=>?_,fun x hx=>?_⟩
 ·have:=hl x hx
  have:x≠h2.next:=by omega
  simp[this]
 ·have:=hl _ hx;omega
 ·have:x≠h2.next:=by omega
  simp only[aMy,this,if_false]
  exact m.same x hx (by simp)
 ·rcases List.mem_cons.1 hx with rfl | hx
  ·right;exact hm
  ·exact m.new x hx
 ·rcases List.mem_cons.1 hx with rfl | hx
  ·simp
  ·have:=hl x hx;simp;omega
theorem aPo (a:Spa h fa p (pC pt) (jY pt g)):cl (Go.Abs.F.fD E) [p] h fun r h'=>∃qt fp',Spa h' fp' r (pC qt) (jY qt g)∧Mod h [] h' fp':=by
 refine aN ?_
 obtain⟨b,f,rfl,rfl,hb,hg,hA,hn⟩:=a
 simp only[Go.Abs.F.fD,dA,aB,aG,Bool.false_eq_true,if_false,bK,bE,aS,Nat.zero_add,aH hg,List.getElem?_cons_zero,List.getElem?_cons_succ]
 refine aK (aYw hA) ?_
 rintro qt h1 ⟨f1,t1,m1⟩
 have g1:h1.get b=some (.cells (pC pt) 4 .rw):=by rw[m1.same b hb (by simp),hg]
 simp only[aH g1,List.getElem?_cons_zero,List.getElem?_cons_succ,true_and]
 refine aK aM0 ?_
 rintro r h2 ⟨rfl,rfl⟩
 simp only[aH g1,List.getElem?_cons_zero,List.getElem?_cons_succ,true_and]
 refine aK aM2 ?_
 rintro r h3 ⟨rfl,rfl⟩
 obtain⟨⟨bq,mq,cq,rfl,_⟩,_⟩:=(⟨t1,trivial⟩:Tab h3 f1 qt g∧True)
 have e1:cA (.struct [(.int .i64 0),(.pointer none),(.pointer none),(.pointer none)] [(0,1),(1,1),(2,1),(3,1)]) [(0,i64 1),(1,ptr bq 0),(2,nil),(3,nil)]=some (.agg #[i64 1,ptr bq 0,nil,nil]):=rfl
 have e2:aY none (.agg #[i64 1,ptr bq 0,nil,nil]) h3=some (ptr h3.next 0,h3.new (.cells [i64 1,ptr bq 0,nil,nil] 4 .rw)):=rfl
 simp only[aH g1,List.getElem?_cons_zero,true_and,e1,e2,aB,aZ]
 obtain⟨s,m⟩:=aHy (A:=jY (ptr bq 0) g) (cs:=pC (ptr bq 0)) m1 t1
 exact⟨_,_,s,m⟩
theorem aPn {most next:Int} {items lost:List Msg} (a:Spa h fa p (cQu pt) (eK pt most next items lost)) (hsz:items.length+lost.length≤1000000) :
 cl (Go.Abs.F.fD E) [p] h fun r h'=>∃qt fp',Spa h' fp' r (cQu qt) (eK qt most next items lost)∧Mod h [] h' fp':=by
 refine aN ?_
 obtain⟨b,f,rfl,rfl,hb,hg,hA,hn⟩:=a
 simp only[Go.Abs.F.fD,dA,aB,aG,Bool.false_eq_true,if_false,bK,bE,aS,Nat.zero_add,aH hg,List.getElem?_cons_zero,List.getElem?_cons_succ]
 refine aK aM1 ?_
 rintro r h2 ⟨rfl,rfl⟩
 simp only[aH hg,List.getElem?_cons_zero,List.getElem?_cons_succ,true_and]
 refine aK (aXf hA hsz) ?_
 rintro qt h1 ⟨f1,t1,m1⟩
 have g1:h1.get b=some (.cells (cQu pt) 4 .rw):=by rw[m1.same b hb (by simp),hg]
 simp only[aH g1,List.getElem?_cons_zero,List.getElem?_cons_succ,true_and]
 refine aK aM2 ?_
 rintro r h3 ⟨rfl,rfl⟩
 obtain⟨⟨bq,fi,fl,vi,vl,rfl,_⟩,_⟩:=(⟨t1,trivial⟩:Qu h3 f1 qt most next items lost∧True)
 have e1:cA (.struct [(.int .i64 0),(.pointer none),(.pointer none),(.pointer none)] [(0,1),(1,1),(2,1),(3,1)]) [(0,i64 2),(1,nil),(2,ptr bq 0),(3,nil)]=some (.agg #[i64 2,nil,ptr bq 0,nil]):=rfl
 have e2:aY none (.agg #[i64 2,nil,ptr bq 0,nil]) h3=some (ptr h3.next 0,h3.new (.cells [i64 2,nil,ptr bq 0,nil] 4 .rw)):=rfl
 simp only[aH g1,List.getElem?_cons_zero,true_and,e1,e2,aB,aZ]
 obtain⟨s,m⟩:=aHy (A:=eK (ptr bq 0) most next items lost) (cs:=cQu (ptr bq 0)) m1 t1
 exact⟨_,_,s,m⟩
theorem aPp (a:Spa h fa p (cTo pt) (jA pt l g)) (hsz:l.length≤1000000):cl (Go.Abs.F.fD E) [p] h fun r h'=>∃qt fp',Spa h' fp' r (cTo qt) (jA qt l g)∧Mod h [] h' fp':=by
 refine aN ?_
 obtain⟨b,f,rfl,rfl,hb,hg,hA,hn⟩:=a
 simp only[Go.Abs.F.fD,dA,aB,aG,Bool.false_eq_true,if_false,bK,bE,aS,Nat.zero_add,aH hg,List.getElem?_cons_zero,List.getElem?_cons_succ]
 refine aK aM1 ?_
 rintro r h2 ⟨rfl,rfl⟩
 simp only[aH hg,List.getElem?_cons_zero,List.getElem?_cons_succ,true_and]
 refine aK aM0 ?_
 rintro r h2 ⟨rfl,rfl⟩
 simp only[aH hg,List.getElem?_cons_zero,List.getElem?_cons_succ,true_and]
 refine aK (aY7 hA hsz) ?_
 rintro qt h1 ⟨f1,t1,m1⟩
 have g1:h1.get b=some (.cells (cTo pt) 4 .rw):=by rw[m1.same b hb (by simp),hg]
 obtain⟨⟨bq,mq,fl,vl,clk,rfl,_⟩,_⟩:=(⟨t1,trivial⟩:To h1 f1 qt l g∧True)
 have e1:cA (.struct [(.int .i64 0),(.pointer none),(.pointer none),(.pointer none)] [(0,1),(1,1),(2,1),(3,1)]) [(0,i64 3),(1,nil),(2,nil),(3,ptr bq 0)]=some (.agg #[i64 3,nil,nil,ptr bq 0]):=rfl
 have e2:aY none (.agg #[i64 3,nil,nil,ptr bq 0]) h1=some (ptr h1.next 0,h1.new (.cells [i64 3,nil,nil,ptr bq 0] 4 .rw)):=rfl
 simp only[aH g1,List.getElem?_cons_zero,true_and,e1,e2,aB,aZ]
 obtain⟨s,m⟩:=aHy (A:=jA (ptr bq 0) l g) (cs:=cTo (ptr bq 0)) m1 t1
 exact⟨_,_,s,m⟩
end Go.Abs

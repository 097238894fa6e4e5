/- Specs on abstract heaps, part 3: the library's functions on slices. -/
import Derived.Test.YthhegdifbnghpaaGreatDoorQao
import Derived.Test.YthhegdifbnghpaaGreatDoorQat
import Derived.Test.YthhegdifbnghpaaGreatDoorQan
set_option linter.unusedSimpArgs false
set_option linter.unusedVariables false
namespace Go.Abs
open Go
structure Msg where
 id:Int
 val:ByteArray
 count:Int
 till:Int
deriving DecidableEq
def Msg.cells (m:Msg):List V:=[i64 m.id,str m.val,i64 m.count,i64 m.till]
def dV (l:List Msg):List V:=l.flatMap Msg.cells
@[simp] theorem bAc:dV []=[]:=rfl
@[simp] theorem tW (m:Msg) (l:List Msg):dV (m::l)=m.cells++dV l:=rfl
@[simp] theorem aV3 (a b:List Msg):dV (a++b)=dV a++dV b:=by simp[dV]
@[simp] theorem aRz (m:Msg):m.cells.length=4:=rfl
@[simp] theorem bAb (l:List Msg):(dV l).length=l.length*4:=by
 induction l with
 | nil=>rfl
 | cons m l ih=>simp[ih,Nat.add_mul,Nat.add_comm]
theorem aMt (l:List Msg) (k:Nat):(dV l).take (k*4)=dV (l.take k):=by
 induction l generalizing k with
 | nil=>simp
 | cons m l ih=>
  cases k with
  | zero=>simp
  | succ k=>
   rw[List.take_succ_cons,tW,tW,Nat.add_mul,Nat.one_mul,Nat.add_comm,←ih k,List.take_append,List.take_of_length_le (by simp)]
   simp
theorem aG9 (l:List Msg) (k:Nat):(dV l).drop (k*4)=dV (l.drop k):=by
 induction l generalizing k with
 | nil=>simp
 | cons m l ih=>
  cases k with
  | zero=>simp
  | succ k=>
   rw[List.drop_succ_cons,tW,Nat.add_mul,Nat.one_mul,Nat.add_comm,←ih k,List.drop_append]
   simp[List.drop_eq_nil_of_le]
theorem aMs (l:List Msg):(dV l).all dH=true:=by
 induction l with
 | nil=>rfl
 | cons m l ih=>simp only[tW,List.all_append,ih,Bool.and_true];rfl
def Ms (h:aA) (fp:List Nat) (v:V) (l:List Msg):Prop:=Sl h fp v 4 l.length (dV l)
variable {E:FE} {h:aA} {fp:List Nat} {v:V} {l:List Msg}
theorem Ms.lt (s:Ms h fp v l):∀x∈fp,x<h.next:=Sl.lt s
theorem Ms.same {h':aA} (s:Ms h fp v l) (hl:h.next≤h'.next) (hs:∀x∈fp,h'.get x=h.get x):Ms h' fp v l:=Sl.same s hl hs
abbrev pU:List V:=[.int .i64 0,.string ⟨#[]⟩,.int .i64 0,.int .i64 0]
theorem aAi (s:Ms h fp v l) (hsmall:l.length≤1099511627776) :
 cl (F.fT E) [v] h fun r h'=>∃fp',Ms h' fp' r l∧Mod h [] h' fp':=by
 refine aN ?_
 obtain⟨b,hb,hnil⟩:=Sl.isNil s true
 simp only[F.fT,hb,aB,aG]
 cases b with
 | true=>
  obtain⟨h0,rfl⟩:=hnil rfl
  have:l=[]:=List.eq_nil_of_length_eq_zero h0
  subst this
  simp only[if_true]
  exact⟨[],Sl.nil,Mod.refl (by simp)⟩
 | false=>
  simp only[Bool.false_eq_true,if_false,dN]
  simp only[Nat.zero_mul,Nat.zero_le,List.length_cons,List.length_nil,and_self,and_true,true_and,if_true,eP,Option.map_some,aZ,eO,Nat.mul_zero,List.range_zero,List.map_nil,show (0:Nat)<4 from by decide]
  have s1:Sl (h.new (.cells [] 4 .rw)) [h.next] (.slice (some ⟨h.next,0,none⟩) 0 0) 4 0 []:=⟨by simp,.inr ⟨h.next,0,[],rfl,rfl,by simp,by simp,by simp,by simp,by simp⟩⟩
  have s2:Ms (h.new (.cells [] 4 .rw)) fp v l:=s.same (by simp) fun x hx=>by have:=s.lt x hx;have:x≠h.next:=by omega
                                                                             simp[this]
  obtain⟨v',h',fp',e1,e2,e3⟩:=Sl.append s1 (bytes:=40) (z:=pU) rfl (by decide) (by decide) (Sl.src s2).1 (fun _=>(Sl.src s2).2) (by simp) (aMs l) (by omega)
  simp only[pU]at e1
  rw[e1]
  simp only[aZ]
  refine⟨fp',by simpa[Ms]using e2,by have:=e3.next;simp at this;omega,fun x hx _=>?_,fun x hx=>?_,e3.lt⟩
  ·have hne:x≠h.next:=by omega
   rw[e3.same x (by simp;omega) (by simpa using hne)]
   simp[hne]
  ·rcases e3.new x hx with h1 | h1
   ·simp at h1;right;omega
   ·simp at h1;right;omega
theorem aF2 (s:Ms h fp v l) {i:Nat} (hi:i<l.length) (hsmall:l.length≤1099511627776) :
 cl (F.fY E) [v,i64 i,i64 ((i+1:Nat):Int)] h fun r h'=>Ms h' fp r (l.eraseIdx i)∧Mod h fp h' fp:=by
 refine aN ?_
 have hlt:=s.lt
 have hlen:=Sl.len s
 obtain⟨v2,e2,e3,e4⟩:=Sl.post (t:=.i64) s (k:=i+1) (by omega)
 obtain⟨h0,⟨rfl,h1,rfl⟩ | ⟨b,c,all,rfl,rfl,hb,hc,h2,h3,h4⟩⟩:=s
 ·omega
 have hall:l.length*4≤all.length:=Nat.le_trans (Nat.mul_le_mul_right _ hc) h3
 have b1:(0:Int)≤((l.length:Nat):Int)∧((l.length:Nat):Int)≤((c / 2:Nat):Int):=by omega
 have b2:(0:Int)≤((i+1:Nat):Int)∧((i+1:Nat):Int)≤((l.length:Nat):Int):=by omega
 have b3:(0:Int)≤(i:Int)∧(i:Int)≤((i+1:Nat):Int):=by omega
 have b4:(0:Int)≤(i:Int)∧(i:Int)≤((c / 2:Nat):Int):=by omega
 have t1:cK (.slice 4) (.slice (some ⟨b,0,none⟩) l.length c) (some (i64 i)) (some (i64 ((i+1:Nat):Int))) (some (i64 l.length)) h =
  some (.slice (some ⟨b,if l.length=i then 0 else 0+i*4,none⟩) (i+1 - i) (2*(l.length - i))):=by
  simp only[cK,h2,if_true,dL,cD,if_pos b1,Int.toNat_natCast,if_pos b2,if_pos b3]
 have t2:cK (.slice 4) (.slice (some ⟨b,0,none⟩) l.length c) none (some (i64 i)) none h=some (.slice (some ⟨b,0,none⟩) i c):=by
  simp only[cK,h2,if_true,cD,dL,if_pos b4,Int.toNat_natCast]
 have hne:(((i:Nat):Int)==((i+1:Nat):Int))=false:=by
  have:((i:Nat):Int)≠((i+1:Nat):Int):=by omega
  simpa using this
 simp only[F.fY,hlen,aB,t1,dD,hne,aG,Bool.false_eq_true,if_false,t2,e2]
 have hnew:((dV l).drop ((i+1)*4)).length=(l.length - (i+1))*4:=by simp[Nat.sub_mul]
 have ap:∃all1,dU (some (4,40,[(.int .i64 0),(.string ⟨#[]⟩),(.int .i64 0),(.int .i64 0)])) (.slice (some ⟨b,0,none⟩) i c) v2 h=some (.slice (some ⟨b,0,none⟩) (l.length - 1) c,h.put b (.cells all1 4 .rw)) ∧
  all1.length=all.length∧all1.take ((l.length - 1)*4)=dV (l.eraseIdx i):=by
  by_cases hz:l.length - (i+1)=0
  ·have hi':i=l.length - 1:=by omega
   refine⟨all,?_,rfl,?_⟩
   ·have:h.put b (.cells all 4 .rw)=h:=by
     have:(fun x=>if x=b then some (cH.cells all 4 .rw) else h.get x)=h.get:=by
      funext x
      split
      ·rename_i hx;subst hx;exact h2.symm
      ·rfl
     unfold aA.put
     rw[this]
    rw[this,←hi']
    simp[dU,e3,hz]
   ·rw[hi',List.eraseIdx_length_sub_one,List.dropLast_eq_take,←aMt,←h4,List.take_take,Nat.min_eq_left (by omega)]
  ·have hs4:=e4 hz
   have hfit:i+(l.length - (i+1))≤c / 2:=by omega
   have hfl:i*4+((dV l).drop ((i+1)*4)).length≤all.length:=by rw[hnew];omega
   have hw:h.wr b (0+i*4) ((dV l).drop ((i+1)*4))=some (h.put b (.cells (dJ all (i*4) ((dV l).drop ((i+1)*4))) 4 .rw)):=by
    simp only[aA.wr,h2,Nat.zero_add]
    rw[if_pos ⟨by simp,hfl⟩]
   have h1c:((dV l).drop ((i+1)*4)).all dH=true:=by rw[aG9];exact aMs _
   refine⟨dJ all (i*4) ((dV l).drop ((i+1)*4)),?_,sY _ _ _,?_⟩
   ·simp only[dU,e3,show (0:Nat)<4 from by decide,show (40:Nat)≤64 from by decide,List.length_cons,List.length_nil,and_self,if_true,if_neg hz,if_pos hfit,hs4,h2,h1c,hw,Option.map_some]
    rw[show i+(l.length - (i+1))=l.length - 1 by omega]
   ·rw[uJ _ _ _ hfl,show (l.length - 1)*4=(all.take (i*4)++(dV l).drop ((i+1)*4)).length by simp;omega,List.take_left]
    have:all.take (i*4)=(dV l).take (i*4):=by rw[←h4,List.take_take,Nat.min_eq_left (by omega)]
    rw[this,aMt,aG9,←aV3,List.eraseIdx_eq_take_drop_succ]
 obtain⟨all1,a1,a2,a3⟩:=ap
 simp only[a1,aZ]
 have hL:bH .slice (.slice (some ⟨b,0,none⟩) (l.length - 1) c) (h.put b (.cells all1 4 .rw))=some (i64 ((l.length - 1:Nat):Int)):=rfl
 simp only[hL,aB]
 have c1:(0:Int)≤((l.length - 1:Nat):Int)∧((l.length - 1:Nat):Int)≤((l.length:Nat):Int):=by omega
 have t3:cK (.slice 4) (.slice (some ⟨b,0,none⟩) (l.length - 1) c) (some (i64 ((l.length - 1:Nat):Int))) (some (i64 l.length)) none (h.put b (.cells all1 4 .rw)) =
  some (.slice (some ⟨b,(l.length - 1)*4,none⟩) 1 (c - 2*(l.length - 1))):=by
  simp only[cK,wJ,if_true,cD,dL,if_pos b1,Int.toNat_natCast,if_pos c1]
  by_cases hz:l.length - 1=0
  ·rw[if_pos hz,hz]
   simp
   omega
  ·rw[if_neg hz,if_pos (by omega)]
   simp
   omega
 simp only[t3,aB]
 have hcl:qC (some (some [(.int .i64 0),(.string ⟨#[]⟩),(.int .i64 0),(.int .i64 0)])) (.slice (some ⟨b,(l.length - 1)*4,none⟩) 1 (c - 2*(l.length - 1))) (h.put b (.cells all1 4 .rw)) =
  (h.put b (.cells all1 4 .rw)).wr b ((l.length - 1)*4) pU:=by
  simp only[qC]
  rfl
 have hfl2:(l.length - 1)*4+pU.length≤all1.length:=by simp;omega
 have hw2:(h.put b (.cells all1 4 .rw)).wr b ((l.length - 1)*4) pU=some ((h.put b (.cells all1 4 .rw)).put b (.cells (dJ all1 ((l.length - 1)*4) pU) 4 .rw)):=by
  simp only[aA.wr,wJ,if_true]
  rw[if_pos ⟨by simp,hfl2⟩]
 rw[hcl,hw2]
 simp only[bV]
 have hle:(l.eraseIdx i).length=l.length - 1:=by rw[List.length_eraseIdx,if_pos hi]
 refine⟨⟨by simp,.inr ⟨b,c,dJ all1 ((l.length - 1)*4) pU,by rw[hle],rfl,by simpa using hb,by omega,by simp,by rw[sY,a2];exact h3,?_⟩⟩,by simp,fun x _ hx=>?_,fun x hx=>.inl hx,hlt⟩
 ·rw[hle,uJ _ _ _ hfl2,List.append_assoc,List.take_append_of_le_length (by simp;omega),List.take_take,Nat.min_self,a3]
 ·simp at hx;simp[hx]
end Go.Abs
namespace Go.Abs
open Go
def Qu (h:aA) (fp:List Nat) (p:V) (most next:Int) (items lost:List Msg):Prop:=
 ∃b fi fl vi vl,p=ptr b 0∧fp=b::(fi++fl)∧b<h.next∧h.get b=some (.cells [i64 most,vi,vl,i64 next] 4 .rw)∧Ms h fi vi items∧Ms h fl vl lost ∧
  b∉fi∧b∉fl∧∀x∈fi,x∉fl
variable {E:FE} {h:aA} {fp:List Nat} {p:V} {most next:Int} {items lost:List Msg}
theorem Qu.lt (q:Qu h fp p most next items lost):∀x∈fp,x<h.next:=by
 obtain⟨b,fi,fl,vi,vl,rfl,rfl,hb,h1,h2,h3,_⟩:=q
 intro x hx
 simp only[List.mem_cons,List.mem_append]at hx
 rcases hx with rfl | hx | hx
 ·exact hb
 ·exact h2.lt x hx
 ·exact h3.lt x hx
theorem Qu.same {h':aA} (q:Qu h fp p most next items lost) (hl:h.next≤h'.next) (hs:∀x∈fp,h'.get x=h.get x):Qu h' fp p most next items lost:=by
 obtain⟨b,fi,fl,vi,vl,rfl,rfl,hb,h1,h2,h3,h4⟩:=q
 exact⟨b,fi,fl,vi,vl,rfl,rfl,by omega,by rw[hs b (by simp),h1],h2.same hl fun x hx=>hs x (by simp[hx]),h3.same hl fun x hx=>hs x (by simp[hx]),h4⟩
theorem wrap_i64 {n:Int} (h1:-9223372036854775808≤n) (h2:n≤9223372036854775807):IntKind.i64.wrap n=n:=aIb h1 h2
theorem jZ (m:Int):cl (F.jZ E) [i64 m] h fun r h'=>∃fp,Qu h' fp r (min (max m 1) 9) 1 [] []∧Mod h [] h' fp:=by
 refine aN ?_
 simp only[F.jZ,max2,min2,aB]
 have e1:cA (.struct [(.int .i64 0),(.slice none 0 0),(.slice none 0 0),(.int .i64 0)] [(0,1),(1,1),(2,1),(3,1)]) [(0,i64 (min (max m 1) 9)),(3,i64 1)] =
  some (.agg #[i64 (min (max m 1) 9),.slice none 0 0,.slice none 0 0,i64 1]):=rfl
 have e2:∀a b c d:V,aY none (.agg #[a,b,c,d]) h=some (ptr h.next 0,h.new (.cells [a,b,c,d] 4 .rw)):=fun _ _ _ _=>rfl
 simp only[e1,aB,e2,aZ]
 refine⟨[h.next],⟨h.next,[],[],.slice none 0 0,.slice none 0 0,rfl,rfl,by simp,by simp,Sl.nil,Sl.nil,by simp,by simp,by simp⟩,by simp,fun x hx _=>?_,by simp,by simp⟩
 have:x≠h.next:=by omega
 simp[this]
theorem aN4 (q:Qu h fp p most next items lost):cl (F.lJ E) [p] h fun r h'=>h'=h∧r=i64 next:=by
 obtain⟨b,fi,fl,vi,vl,rfl,rfl,hb,h1,h2,h3,h4⟩:=q
 refine aN ?_
 simp[F.lJ,aH h1]
theorem aO3 {b o n:Nat} {cs vs:List V} {e:Nat} {k:BK} {x:V} (hb:h.get b=some (.cells cs e k)) (hk:k≠.ro) (hx:cellsOf x=some vs) (hn:vs.length=n) (h1:vs.all dH=true) (ho:o+n≤cs.length) :
 stD (some n) (ptr b o) x h=some (h.put b (.cells (dJ cs o vs) e k)):=by
 subst hn
 simp only[stD,hx,h1,and_self,if_true,aA.wr,hb]
 rw[if_pos ⟨hk,ho⟩]
theorem nR {b o:Nat} {cs:List V} {e:Nat} {k:BK} {x:V} (hb:h.get b=some (.cells cs e k)) (hk:k≠.ro) (hx:cellsOf x=some [x]) (h1:dH x=true) (ho:o<cs.length) :
 stD (some 1) (ptr b o) x h=some (h.put b (.cells (cs.set o x) e k)):=aO3 hb hk hx rfl (by simp[h1]) ho
theorem Sl.cell {fp:List Nat} {v:V} {es n:Nat} {cs:List V} (s:Sl h fp v es n cs):cellsOf v=some [v]∧dH v=true:=by
 obtain⟨_,⟨rfl,_⟩ | ⟨b,c,all,rfl,_⟩⟩:=s<;>exact⟨rfl,rfl⟩
theorem aXh (q:Qu h fp p most next items lost) (s:ByteArray) (hn:0≤next∧next<9223372036854775807) (hsz:items.length+lost.length≤1000000) :
 cl (F.mW E) [p,str s] h fun r h'=>
  if items.length+lost.length<64 then r = .tuple #[i64 next,.bool true]∧∃fp',Qu h' fp' p most (next+1) (items++[⟨next,s,0,0⟩]) lost∧Mod h fp h' fp'
  else r = .tuple #[i64 0,.bool false]∧h'=h:=by
 have hlt:=q.lt
 obtain⟨b,fi,fl,vi,vl,rfl,rfl,hb,h1,h2,h3,h4,h5,h6⟩:=q
 refine aN ?_
 have l1:=Sl.len h2
 have l2:=Sl.len h3
 have w1:IntKind.i64.wrap ((items.length:Int)+(lost.length:Int))=((items.length+lost.length:Nat):Int):=by rw[wrap_i64 (by omega) (by omega)];omega
 simp only[F.mW,dA,aB,aQ,if_true,bK,bE,aS,aH h1,Nat.zero_add,List.getElem?_cons_succ,List.getElem?_cons_zero,l1,l2,qX,w1,fH,aR,Bool.false_eq_true,if_false,aG]
 by_cases hc:items.length+lost.length<64
 ·have hd:¬(((items.length+lost.length:Nat):Int)≥64):=by omega
  simp only[hd,decide_false,if_pos hc,Bool.false_eq_true,if_false]
  have e1:cA (.struct [(.int .i64 0),(.string ⟨#[]⟩),(.int .i64 0),(.int .i64 0)] [(0,1),(1,1),(2,1),(3,1)]) [(0,i64 next),(1,str s)]=some (.agg #[i64 next,str s,i64 0,i64 0]):=rfl
  have e2:dN (some (4,[(.int .i64 0),(.string ⟨#[]⟩),(.int .i64 0),(.int .i64 0)])) 1 [(0,.agg #[i64 next,str s,i64 0,i64 0])] h =
   some (.slice (some ⟨h.next,0,none⟩) 1 2,h.new (.cells [i64 next,str s,i64 0,i64 0] 4 .rw)):=rfl
  simp only[e1,aB,e2,aZ]
  have hbn:b≠h.next:=by omega
  have g1:(h.new (.cells [i64 next,str s,i64 0,i64 0] 4 .rw)).get b=some (.cells [i64 most,vi,vl,i64 next] 4 .rw):=by simp[hbn,h1]
  have bZ:∀x,x<h.next→(h.new (.cells [i64 next,str s,i64 0,i64 0] 4 .rw)).get x=h.get x:=fun x hx=>by
   have:x≠h.next:=by omega
   simp[this]
  have s1:Ms (h.new (.cells [i64 next,str s,i64 0,i64 0] 4 .rw)) fi vi items:=h2.same (by simp) fun x hx=>bZ x (h2.lt x hx)
  have s2:Ms (h.new (.cells [i64 next,str s,i64 0,i64 0] 4 .rw)) fl vl lost:=h3.same (by simp) fun x hx=>bZ x (h3.lt x hx)
  obtain⟨v',h',fi',a1,a2,a3⟩:=Sl.append s1 (x:=.slice (some ⟨h.next,0,none⟩) 1 2) (k:=1) (bytes:=40) (z:=pU) (new:=(⟨next,s,0,0⟩:Msg).cells) rfl (by decide) (by decide) rfl
   (fun _=>by simp[dT,jB,aA.rdN,Msg.cells]) rfl rfl (by omega)
  simp only[aH g1,List.getElem?_cons_succ,List.getElem?_cons_zero,true_and]
  simp only[pU]at a1
  rw[a1]
  simp only[aZ]
  have g2:h'.get b=some (.cells [i64 most,vi,vl,i64 next] 4 .rw):=by rw[a3.same b (by simp;omega) h4];exact g1
  obtain⟨c1,c2⟩:=Sl.cell a2
  rw[nR g2 (by simp) c1 c2 (by simp)]
  simp only[bV,List.set_cons_succ,List.set_cons_zero]
  have g3:(h'.put b (.cells [i64 most,v',vl,i64 next] 4 .rw)).get b=some (.cells [i64 most,v',vl,i64 next] 4 .rw):=by simp
  have w2:IntKind.i64.wrap (next+1)=next+1:=wrap_i64 (by omega) (by omega)
  have w3:IntKind.i64.wrap (next+1 - 1)=next:=by rw[wrap_i64 (by omega) (by omega)];omega
  simp only[aH g3,List.getElem?_cons_succ,List.getElem?_cons_zero,aB,qX,w2]
  rw[nR g3 (by simp) rfl rfl (by simp)]
  simp only[bV,List.set_cons_succ,List.set_cons_zero]
  have g4:((h'.put b (.cells [i64 most,v',vl,i64 next] 4 .rw)).put b (.cells [i64 most,v',vl,i64 (next+1)] 4 .rw)).get b=some (.cells [i64 most,v',vl,i64 (next+1)] 4 .rw):=by simp
  simp only[aH g4,List.getElem?_cons_succ,List.getElem?_cons_zero,aB,xP,w3]
  have hn1:h.next+1≤h'.next:=by have:=a3.next;simpa using this
  have bfi:b∉fi':=fun hx=>by
   rcases a3.new b hx with hx | hx
   ·exact h4 hx
   ·simp at hx;omega
  have get':∀x,x≠b→((h'.put b (.cells [i64 most,v',vl,i64 next] 4 .rw)).put b (.cells [i64 most,v',vl,i64 (next+1)] 4 .rw)).get x=h'.get x:=fun x hx=>by simp[hx]
  have s3:Ms h' fl vl lost:=s2.same (by simp;omega) fun x hx=>a3.same x (by have:=h3.lt x hx;simp;omega) fun hf=>h6 x hf hx
  refine⟨trivial,b::(fi'++fl),⟨b,fi',fl,v',vl,rfl,rfl,by simp;omega,by simp,?_,s3.same (by simp) fun x hx=>get' x fun e=>h5 (e▸hx),bfi,h5,fun x hx hf=>?_⟩,?_⟩
  ·have:Ms h' fi' v' (items++[⟨next,s,0,0⟩]):=by simpa[Ms]using a2
   exact this.same (by simp) fun x hx=>get' x fun e=>bfi (e▸hx)
  ·rcases a3.new x hx with hx | hx
   ·exact h6 x hx hf
   ·have:=h3.lt x hf;simp at hx;omega
  ·refine⟨by simp;omega,fun x hx hnx=>?_,fun x hx=>?_,fun x hx=>?_⟩
   ·simp only[List.mem_cons,List.mem_append,not_or]at hnx
    rw[get' x hnx.1,a3.same x (by simp;omega) hnx.2.1,bZ x hx]
   ·simp only[List.mem_cons,List.mem_append]at hx ⊢
    rcases hx with rfl | hx | hx
    ·simp
    ·rcases a3.new x hx with hx | hx
     ·simp[hx]
     ·simp at hx;right;omega
    ·simp[hx]
   ·simp only[List.mem_cons,List.mem_append]at hx
    simp only[aN1]
    rcases hx with rfl | hx | hx
    ·omega
    ·exact a3.lt x hx
    ·have:=h3.lt x hx;omega
 ·have hd:((items.length+lost.length:Nat):Int)≥64:=by omega
  simp only[hd,decide_true,if_neg hc,if_true]
  exact⟨trivial,trivial⟩
theorem aN2 (q:Qu h fp p most next items lost) (hsz:items.length≤1000000) :
 cl (F.lH E) [p] h fun r h'=>∃fp',Ms h' fp' r items∧Mod h [] h' fp':=by
 obtain⟨b,fi,fl,vi,vl,rfl,rfl,hb,h1,h2,h3,h4⟩:=q
 refine aN ?_
 simp only[F.lH,dA,aB,aG,Bool.false_eq_true,if_false,bK,bE,aS,aH h1,Nat.zero_add,List.getElem?_cons_succ,List.getElem?_cons_zero]
 exact aAi h2 (by omega)
theorem aN3 (q:Qu h fp p most next items lost) (hsz:lost.length≤1000000) :
 cl (F.lI E) [p] h fun r h'=>∃fp',Ms h' fp' r lost∧Mod h [] h' fp':=by
 obtain⟨b,fi,fl,vi,vl,rfl,rfl,hb,h1,h2,h3,h4⟩:=q
 refine aN ?_
 simp only[F.lI,dA,aB,aG,Bool.false_eq_true,if_false,bK,bE,aS,aH h1,Nat.zero_add,List.getElem?_cons_succ,List.getElem?_cons_zero]
 exact aAi h3 (by omega)
theorem zW {place:Nat→Option (Nat×Nat)} {cells:List V} {i:Nat} {v:V} {rest:List (Nat×V)} {off:Nat} (hp:place i=some (off,1)) (hc:cellsOf v=some [v]) (ho:off<cells.length) :
 eP place cells ((i,v)::rest)=eP place (cells.set off v) rest:=by
 have ho':off+1≤cells.length:=ho
 simp only[eP,hp,hc,List.length_cons,List.length_nil,Nat.zero_add,true_and,if_pos ho',dJ]
theorem aXf (q:Qu h fp p most next items lost) (hsz:items.length+lost.length≤1000000) :
 cl (F.kD E) [p] h fun r h'=>∃fp',Qu h' fp' r most next items lost∧Mod h [] h' fp':=by
 obtain⟨b,fi,fl,vi,vl,rfl,rfl,hb,h1,h2,h3,h4,h5,h6⟩:=q
 refine aN ?_
 simp only[F.kD,dA,aB,aG,Bool.false_eq_true,if_false,bK,bE,aS,aH h1,Nat.zero_add,List.getElem?_cons_succ,List.getElem?_cons_zero]
 refine aK (aAi h2 (by omega)) ?_
 rintro v1 ha ⟨f1,m1,d1⟩
 have g1:ha.get b=some (.cells [i64 most,vi,vl,i64 next] 4 .rw):=by rw[d1.same b hb (by simp)];exact h1
 have h3a:Ms ha fl vl lost:=h3.same d1.next fun x hx=>d1.same x (h3.lt x hx) (by simp)
 simp only[aH g1,List.getElem?_cons_succ,List.getElem?_cons_zero,true_and]
 refine aK (aAi h3a (by omega)) ?_
 rintro v2 hc ⟨f2,m2,d2⟩
 have g2:hc.get b=some (.cells [i64 most,vi,vl,i64 next] 4 .rw):=by rw[d2.same b (Nat.lt_of_lt_of_le hb d1.next) (by simp)];exact g1
 have e1:cA (.struct [(.int .i64 0),(.slice none 0 0),(.slice none 0 0),(.int .i64 0)] [(0,1),(1,1),(2,1),(3,1)]) [(0,i64 most),(1,v1),(2,v2),(3,i64 next)] =
  some (.agg #[i64 most,v1,v2,i64 next]):=by
  obtain⟨c1,_⟩:=Sl.cell m1
  obtain⟨c2,_⟩:=Sl.cell m2
  simp only[cA]
  rw[zW rfl rfl (by simp),zW rfl c1 (by simp),zW rfl c2 (by simp),zW rfl rfl (by simp)]
  rfl
 have e2:∀a b c d:V,aY none (.agg #[a,b,c,d]) hc=some (ptr hc.next 0,hc.new (.cells [a,b,c,d] 4 .rw)):=fun _ _ _ _=>rfl
 simp only[aH g2,List.getElem?_cons_succ,List.getElem?_cons_zero,true_and,e1,aB,e2,aZ]
 have k1:=d1.next
 have k2:=d2.next
 have bZ:∀x,x<hc.next→(hc.new (.cells [i64 most,v1,v2,i64 next] 4 .rw)).get x=hc.get x:=fun x hx=>by
  have:x≠hc.next:=by omega
  simp[this]
 have n1:∀x∈f1,h.next≤x∧x<ha.next:=fun x hx=>⟨by rcases d1.new x hx with h | h;simp at h;exact h,d1.lt x hx⟩
 have n2:∀x∈f2,ha.next≤x∧x<hc.next:=fun x hx=>⟨by rcases d2.new x hx with h | h;simp at h;exact h,d2.lt x hx⟩
 refine⟨hc.next::(f1++f2),⟨hc.next,f1,f2,v1,v2,rfl,rfl,by simp,by simp,?_,?_,?_,?_,?_⟩,by simp;omega,fun x hx _=>?_,fun x hx=>?_,fun x hx=>?_⟩
 ·exact m1.same (by simp;omega) fun x hx=>by rw[bZ x (by have:=n1 x hx;omega)];exact d2.same x (n1 x hx).2 (by simp)
 ·exact m2.same (by simp) fun x hx=>bZ x (n2 x hx).2
 ·intro hx;have:=n1 _ hx;omega
 ·intro hx;have:=n2 _ hx;omega
 ·intro x hx hx2;have:=n1 _ hx;have:=n2 _ hx2;omega
 ·rw[bZ x (by omega),d2.same x (by omega) (by simp),d1.same x hx (by simp)]
 ·right
  simp only[List.mem_cons,List.mem_append]at hx
  rcases hx with rfl | hx | hx
  ·omega
  ·exact (n1 x hx).1
  ·have:=(n2 x hx).1;omega
 ·simp only[List.mem_cons,List.mem_append]at hx
  simp only[rF]
  rcases hx with rfl | hx | hx
  ·omega
  ·have:=(n1 x hx).2;omega
  ·have:=(n2 x hx).2;omega
end Go.Abs
namespace Go.Abs
open Go
variable {E:FE} {h:aA} {fp:List Nat} {p:V} {most next:Int} {items lost:List Msg}
abbrev Msg.agg (m:Msg):V:=.agg #[i64 m.id,str m.val,i64 m.count,i64 m.till]
abbrev Msg.zero:Msg:=⟨0,⟨#[]⟩,0,0⟩
theorem aHa (a b c d:V):aY none (.agg #[a,b,c,d]) h=some (ptr h.next 0,h.new (.cells [a,b,c,d] 4 .rw)):=rfl
theorem st4 {b:Nat} {c1 c2 c3 c4:V} {m:Msg} (hb:h.get b=some (.cells [c1,c2,c3,c4] 4 .rw)):stD (some 4) (ptr b 0) m.agg h=some (h.put b (.cells m.cells 4 .rw)):=
 aO3 (n:=4) (vs:=m.cells) (o:=0) hb (by simp) rfl rfl rfl (by simp)
theorem ld4 {b:Nat} {m:Msg} (hb:h.get b=some (.cells m.cells 4 .rw)):ldD (.agg 4) (ptr b 0) h=some m.agg:=by
 simp only[qK,kG hb]
 rfl
theorem Ms.at {v:V} {l:List Msg} (s:Ms h fp v l) {i:Nat} {m:Msg} (hi:l[i]? = some m) :
 ∃b,aV (.slice 4) v (i64 i)=some (ptr b (i*4))∧b∈fp∧ldD (.agg 4) (ptr b (i*4)) h=some m.agg ∧
  h.rd b (i*4)=some (i64 m.id)∧h.rd b (i*4+1)=some (str m.val)∧h.rd b (i*4+2)=some (i64 m.count)∧h.rd b (i*4+3)=some (i64 m.till):=by
 have hil:i<l.length:=(List.getElem?_eq_some_iff.1 hi).1
 obtain⟨h0,⟨rfl,h1,rfl⟩ | ⟨b,c,all,rfl,rfl,hb,hc,h2,h3,h4⟩⟩:=s
 ·omega
 have hall:l.length*4≤all.length:=Nat.le_trans (Nat.mul_le_mul_right _ hc) h3
 have hrow:(all.drop (i*4)).take 4=m.cells:=by
  have e:(dV l).drop (i*4)=dV (l.drop i):=aG9 l i
  rw[List.drop_eq_getElem_cons hil,tW]at e
  have:l[i]=m:=(List.getElem?_eq_some_iff.1 hi).2
  rw[this,←h4,List.drop_take]at e
  have e2:=congrArg (List.take 4) e
  rw[List.take_take,Nat.min_eq_left (by omega)]at e2
  rw[e2]
  rfl
 have hcell:∀k,k<4→all[i*4+k]? = m.cells[k]?:=by
  intro k hk
  rw[←hrow,List.getElem?_take,if_pos hk,List.getElem?_drop]
 have b1:(0:Int)≤(i:Int)∧(i:Int)<(l.length:Nat):=by omega
 refine⟨b,?_,by simp,?_,?_,?_,?_,?_⟩
 ·simp only[aV,if_pos b1,Int.toNat_natCast,Nat.zero_add]
 ·rw[qK,kG h2,if_pos (by omega),hrow];rfl
 ·rw[aH h2];exact hcell 0 (by decide)
 ·rw[aH h2];exact hcell 1 (by decide)
 ·rw[aH h2];exact hcell 2 (by decide)
 ·rw[aH h2];exact hcell 3 (by decide)
theorem Mod.eZ {fp:List Nat} {o:cH} (hl:∀x∈fp,x<h.next):Mod h fp (h.new o) fp:=
 ⟨by simp,fun x hx _=>by
  have:x≠h.next:=by omega
  simp[this],fun x hx=>.inl hx,fun x hx=>by have:=hl x hx;simp;omega⟩
theorem Mod.sX {h':aA} {fp fp':List Nat} {b:Nat} {o:cH} (m:Mod h fp h' fp') (hb:h.next≤b):Mod h fp (h'.put b o) fp':=
 ⟨m.next,fun x hx hn=>by
  have:x≠b:=by omega
  simp[this,m.same x hx hn],m.new,m.lt⟩
theorem Qu.mod {fp:List Nat} {h':aA} (q:Qu h fp p most next items lost) (hl:h.next≤h'.next) (hs:∀x,x<h.next→h'.get x=h.get x):Qu h' fp p most next items lost:=
 q.same hl fun x hx=>hs x (q.lt x hx)
theorem aXg (q:Qu h fp p most next items lost) (hsz:lost.length≤1000000) :
 cl (F.mV E) [p] h fun r h'=>match lost with
  | []=>r = .tuple #[Msg.zero.agg,.bool false]∧Qu h' fp p most next items lost∧Mod h fp h' fp
  | m::rest=>r = .tuple #[m.agg,.bool true]∧Qu h' fp p most next items rest∧Mod h fp h' fp:=by
 have hlt:=q.lt
 have q0:=q
 obtain⟨b,fi,fl,vi,vl,rfl,rfl,hb,h1,h2,h3,h4,h5,h6⟩:=q
 refine aN ?_
 have hbn:b≠h.next:=by omega
 have k1:∀x,x<h.next→(h.new (.cells Msg.zero.cells 4 .rw)).get x=h.get x:=fun x hx=>by
  have:x≠h.next:=by omega
  simp[this]
 have e0:aY none (.agg #[(.int .i64 0),(.string ⟨#[]⟩),(.int .i64 0),(.int .i64 0)]) h=some (ptr h.next 0,h.new (.cells Msg.zero.cells 4 .rw)):=rfl
 have g1:(h.new (.cells Msg.zero.cells 4 .rw)).get b=some (.cells [i64 most,vi,vl,i64 next] 4 .rw):=by rw[k1 b hb];exact h1
 have s3:Ms (h.new (.cells Msg.zero.cells 4 .rw)) fl vl lost:=h3.same (by simp) fun x hx=>k1 x (h3.lt x hx)
 have hlen:=Sl.len s3
 simp only[F.mV,e0,aZ,dA,aB,aQ,if_true,bK,bE,aS,aH g1,Nat.zero_add,List.getElem?_cons_succ,List.getElem?_cons_zero,hlen,dD,aR,Bool.false_eq_true,if_false,aG]
 cases lost with
 | nil=>
  have ez:cA (.struct [(.int .i64 0),(.string ⟨#[]⟩),(.int .i64 0),(.int .i64 0)] [(0,1),(1,1),(2,1),(3,1)]) []=some Msg.zero.agg:=rfl
  have gz:(h.new (.cells Msg.zero.cells 4 .rw)).get h.next=some (.cells Msg.zero.cells 4 .rw):=by simp
  simp only[List.length_nil,Int.natCast_zero,beq_self_eq_true,if_true,ez,aB]
  rw[st4 gz]
  simp only[bV]
  rw[ld4 (m:=Msg.zero) (by simp)]
  simp only[aB]
  have md:Mod h (b::(fi++fl)) ((h.new (.cells Msg.zero.cells 4 .rw)).put h.next (.cells Msg.zero.cells 4 .rw)) (b::(fi++fl)):=(Mod.eZ hlt).sX (Nat.le_refl _)
  exact⟨trivial,q0.same md.next fun x hx=>by
   have:=hlt x hx
   have h2:x≠h.next:=by omega
   simp[h2],md⟩
 | cons m rest=>
  have hne:(((m::rest).length:Nat):Int)≠0:=by simp;omega
  have hne2:((((m::rest).length:Nat):Int)==0)=false:=by simpa using hne
  simp only[hne2,Bool.false_eq_true,if_false]
  obtain⟨bl,i1,i2,i3,_⟩:=Ms.at s3 (i:=0) (m:=m) rfl
  simp only[Int.natCast_zero]at i1
  simp only[i1,aB,i3]
  generalize hA:h.new (.cells Msg.zero.cells 4 .rw)=hA' at *
  have nA:hA'.next=h.next+1:=by rw[←hA];rfl
  have gA:hA'.get h.next=some (.cells Msg.zero.cells 4 .rw):=by rw[←hA];simp
  have e1:aY none (.agg #[(.int .i64 0),(.string ⟨#[]⟩),(.int .i64 0),(.int .i64 0)]) hA'=some (ptr hA'.next 0,hA'.new (.cells Msg.zero.cells 4 .rw)):=rfl
  have gB:(hA'.new (.cells Msg.zero.cells 4 .rw)).get hA'.next=some (.cells Msg.zero.cells 4 .rw):=by simp
  simp only[e1,aZ]
  rw[st4 gB]
  simp only[bV]
  generalize hC:(hA'.new (.cells Msg.zero.cells 4 .rw)).put hA'.next (.cells m.cells 4 .rw)=hC'
  have nC:hC'.next=h.next+2:=by rw[←hC];simp[nA]
  have kC:∀x,x<h.next→hC'.get x=h.get x:=fun x hx=>by
   rw[←hC,←k1 x hx]
   have:x≠hA'.next:=by omega
   simp[this]
  have gC1:hC'.get (h.next+1)=some (.cells m.cells 4 .rw):=by rw[←hC,←nA];simp
  have gC0:hC'.get h.next=some (.cells Msg.zero.cells 4 .rw):=by
   rw[←hC]
   have:h.next≠hA'.next:=by omega
   simp[this,gA]
  have gCb:hC'.get b=some (.cells [i64 most,vi,vl,i64 next] 4 .rw):=by rw[kC b hb];exact h1
  have sC:Ms hC' fl vl (m::rest):=h3.same (by omega) fun x hx=>kC x (h3.lt x hx)
  simp only[aH gCb,List.getElem?_cons_succ,List.getElem?_cons_zero,aB]
  have del:=aF2 (E:=E) sC (i:=0) (by simp) (by omega)
  simp only[Int.natCast_zero,Nat.zero_add,Int.natCast_one,List.eraseIdx_cons_zero]at del
  refine aK del ?_
  rintro v' hD ⟨sD,mD⟩
  have nD:=mD.next
  have gDb:hD.get b=some (.cells [i64 most,vi,vl,i64 next] 4 .rw):=by rw[mD.same b (by omega) h5];exact gCb
  have notfl:∀x,h.next≤x→x∉fl:=fun x hx hf=>by have:=h3.lt x hf;omega
  have gD1:hD.get (h.next+1)=some (.cells m.cells 4 .rw):=by rw[mD.same _ (by omega) (notfl _ (by omega))];exact gC1
  have gD0:hD.get h.next=some (.cells Msg.zero.cells 4 .rw):=by rw[mD.same _ (by omega) (notfl _ (by omega))];exact gC0
  obtain⟨c1,c2⟩:=Sl.cell sD
  rw[nR gDb (by simp) c1 c2 (by simp)]
  simp only[bV,List.set_cons_succ,List.set_cons_zero]
  generalize hE:hD.put b (.cells [i64 most,vi,v',i64 next] 4 .rw)=hE'
  have kE:∀x,x≠b→hE'.get x=hD.get x:=fun x hx=>by rw[←hE];simp[hx]
  have gEb:hE'.get b=some (.cells [i64 most,vi,v',i64 next] 4 .rw):=by rw[←hE];simp
  have gE1:hE'.get (h.next+1)=some (.cells m.cells 4 .rw):=by rw[kE _ (by omega)];exact gD1
  have gE0:hE'.get h.next=some (.cells Msg.zero.cells 4 .rw):=by rw[kE _ (by omega)];exact gD0
  have nE:hE'.next=hD.next:=by rw[←hE];rfl
  rw[nA,ld4 gE1]
  simp only[aB]
  rw[st4 gE0]
  simp only[bV]
  rw[ld4 (m:=m) (by simp)]
  simp only[aB]
  have kF:∀x,x<h.next→x≠b→x∉fl→(hE'.put h.next (.cells m.cells 4 .rw)).get x=h.get x:=fun x hx hxb hxl=>by
   have:x≠h.next:=by omega
   simp only[wJ,if_neg this]
   rw[kE x hxb,mD.same x (by omega) hxl,kC x hx]
  refine⟨trivial,⟨b,fi,fl,vi,v',rfl,rfl,by simp;omega,by simp[hbn,gEb],?_,?_,h4,h5,h6⟩,?_⟩
  ·exact h2.same (by simp;omega) fun x hx=>kF x (h2.lt x hx) (fun e=>h4 (e▸hx)) (h6 x hx)
  ·refine sD.same (by simp;omega) fun x hx=>?_
   have hxl:=h3.lt x hx
   have:x≠h.next:=by omega
   simp only[wJ,if_neg this]
   exact kE x fun e=>h5 (e▸hx)
  ·refine⟨by simp;omega,fun x hx hnx=>?_,fun x hx=>.inl hx,fun x hx=>by have:=hlt x hx;simp;omega⟩
   simp only[List.mem_cons,List.mem_append,not_or]at hnx
   exact kF x hx hnx.1 hnx.2.2
end Go.Abs
namespace Go.Abs
open Go
variable {E:FE} {h:aA} {fp:List Nat} {p:V} {most next:Int} {items lost:List Msg}
theorem uR {I:FuncId→Option Spec} (hM:aJ I) {f:V} {args:List V} {h:aA} {K K':V→aA→Prop} (hk:∀v h,K v h→K' v h) (hn:cR I f args h K):cR I f args h K':=by
 unfold cR at hn ⊢
 split
 ·rename_i g first captured
  simp only at hn
  cases hg:I g with
  | none=>simp only[hg]at hn
  | some s=>simp only[hg]at hn ⊢;exact hM g s hg _ _ _ _ hk hn
 ·rename_i hf
  split at hn
  ·exact absurd rfl (hf _ _ _)
  ·exact hn
theorem Mod.yM {h':aA} {fp fp':List Nat} {v:V} {l:List Msg} (m:Mod h [] h' fp') (s:Ms h fp v l):Ms h' fp v l:=
 s.same m.next fun x hx=>m.same x (s.lt x hx) (by simp)
theorem aUf {v f:V} {l:List Msg} (hM:aJ E.I) (s:Ms h fp v l) (hsz:l.length≤1000000) (P:Msg→Bool)
 (hf:∀h',Mod h [] h' []→∀m∈l,cR E.I f [m.agg] h' fun r h''=>r = .bool (P m)∧Mod h' [] h'' []) :
 cl (F.nH E) [v,f] h fun r h'=>Mod h [] h' []∧r=i64 (match l.findIdx? P with | some i=>(i:Int) | none=>-1):=by
 refine aN ?_
 have hlen:=Sl.len s
 simp only[F.nH,hlen,aB]
 refine⟨fun k vs h'=>∃i:Nat,vs=[i64 i]∧k=l.length - i∧i≤l.length∧Mod h [] h' []∧∀j m,j<i→l[j]? = some m→P m=false,l.length,⟨0,rfl,by simp,by simp,Mod.refl (by simp),by simp⟩,?_⟩
 rintro k e h' ⟨i,hi,rfl,hle,md,hno⟩
 simp only[List.cons.injEq,and_true]at hi
 simp only[hi,cN,aB,aG]
 by_cases hlt:i<l.length
 ·have:((i:Nat):Int)<(l.length:Nat):=by omega
  simp only[this,decide_true,if_true]
  have hget:l[i]? = some l[i]:=List.getElem?_eq_getElem hlt
  obtain⟨bl,i1,i2,i3,_⟩:=Ms.at (md.yM s) hget
  simp only[i1,aB,i3]
  refine uR hM ?_ (hf h' md l[i] (List.getElem_mem hlt))
  rintro r h'' ⟨rfl,md2⟩
  have md3:Mod h [] h'' []:=md.trans md2
  simp only[aG]
  cases hp:P l[i]with
  | true=>
   simp only[if_true]
   refine⟨md3,?_⟩
   have:l.findIdx? P=some i:=by
    rw[List.findIdx?_eq_some_iff_getElem]
    refine⟨hlt,hp,fun j hj=>?_⟩
    have:=hno j l[j] hj (List.getElem?_eq_getElem (by omega))
    simp[this]
   rw[this]
  | false=>
   have w:IntKind.i64.wrap ((i:Int)+1)=((i+1:Nat):Int):=by rw[wrap_i64 (by omega) (by omega)];omega
   simp only[Bool.false_eq_true,if_false,qX,w,aB]
   refine⟨l.length - (i+1),by omega,i+1,rfl,rfl,by omega,md3,fun j m hj hm=>?_⟩
   by_cases hji:j=i
   ·subst hji;rw[hget]at hm;cases hm;exact hp
   ·exact hno j m (by omega) hm
 ·have:¬((i:Nat):Int)<(l.length:Nat):=by omega
  simp only[this,decide_false,Bool.false_eq_true,if_false]
  refine⟨md,?_⟩
  have:l.findIdx? P=none:=by
   rw[List.findIdx?_eq_none_iff]
   intro x hx
   obtain⟨j,hj,rfl⟩:=List.getElem_of_mem hx
   exact hno j _ (by omega) (List.getElem?_eq_getElem hj)
  rw[this]
theorem aQs (m:Msg) {c1 c2 c3:Nat} {id tok now:Int} (l1:c1<h.next) (l2:c2<h.next) (l3:c3<h.next) (g1:h.rd c1 0=some (i64 id)) (g2:h.rd c2 0=some (i64 tok)) (g3:h.rd c3 0=some (i64 now)) :
 cl (F.gR E) [m.agg,ptr c1 0,ptr c2 0,ptr c3 0] h fun r h'=>r = .bool (m.id==id&&m.count==tok&&decide (m.till > now))∧Mod h [] h' []:=by
 refine aN ?_
 have e0:aY none m.agg h=some (ptr h.next 0,h.new (.cells m.cells 4 .rw)):=rfl
 have gn:(h.new (.cells m.cells 4 .rw)).get h.next=some (.cells m.cells 4 .rw):=by simp
 have kp:∀c,c<h.next→(h.new (.cells m.cells 4 .rw)).rd c 0=h.rd c 0:=fun c hc=>by
  have:c≠h.next:=by omega
  simp[aA.rd,this]
 have r0:(h.new (.cells m.cells 4 .rw)).rd h.next 0=some (i64 m.id):=by rw[aH gn];rfl
 have r2:(h.new (.cells m.cells 4 .rw)).rd h.next 2=some (i64 m.count):=by rw[aH gn];rfl
 have r3:(h.new (.cells m.cells 4 .rw)).rd h.next 3=some (i64 m.till):=by rw[aH gn];rfl
 have md:Mod h [] (h.new (.cells m.cells 4 .rw)) []:=Mod.eZ (by simp)
 simp only[F.gR,e0,aZ,bE,aB,aS,Nat.zero_add,r0,kp c1 l1,g1,dD,aQ]
 cases hid:m.id==id with
 | false=>simp[md]
 | true=>
  simp only[if_true,aB,aS,r2,kp c2 l2,g2,dD,aR,aQ]
  cases htok:m.count==tok with
  | false=>simp[md]
  | true=>
   simp only[if_true,aB,aS,r3,kp c3 l3,g3,iK,aR]
   exact⟨by simp,md⟩
theorem rI {h':aA} {fp':List Nat} (m:Mod h [] h' fp') {c o:Nat} (hc:c<h.next):h'.rd c o=h.rd c o:=by
 simp only[aA.rd,m.same c hc (by simp)]
theorem Mod.empty {h':aA} {fp fp':List Nat} (m:Mod h [] h' fp') (hl:∀x∈fp,x<h.next):Mod h fp h' fp:=
 ⟨m.next,fun x hx _=>m.same x hx (by simp),fun x hx=>.inl hx,fun x hx=>Nat.lt_of_lt_of_le (hl x hx) m.next⟩
def xN (id tok now:Int) (m:Msg):Bool:=m.id==id&&m.count==tok&&decide (m.till > now)
theorem aXe {E0:FE} (hM:aJ E.I) (hE:E.I (E.k 0)=some (cl (F.gR E0))) (q:Qu h fp p most next items lost) (id tok now:Int) (hsz:items.length≤1000000) :
 cl (F.mU E) [p,i64 id,i64 tok,i64 now] h fun r h'=>match items.findIdx? (xN id tok now) with
  | some i=>r = .bool true∧Qu h' fp p most next (items.eraseIdx i) lost∧Mod h fp h' fp
  | none=>r = .bool false∧Qu h' fp p most next items lost∧Mod h fp h' fp:=by
 have hlt:=q.lt
 refine aN ?_
 have e0:∀(g:aA) (n:Int),aY none (i64 n) g=some (ptr g.next 0,g.new (.cells [i64 n] 1 .rw)):=fun _ _=>rfl
 simp only[F.mU,e0,aZ,rF]
 generalize hA:((h.new (.cells [i64 id] 1 .rw)).new (.cells [i64 tok] 1 .rw)).new (.cells [i64 now] 1 .rw)=hA'
 have nA:hA'.next=h.next+3:=by rw[←hA];rfl
 have kA:∀x,x<h.next→hA'.get x=h.get x:=fun x hx=>by
  rw[←hA]
  have a1:x≠h.next:=by omega
  have a2:x≠h.next+1:=by omega
  have a3:x≠h.next+1+1:=by omega
  simp[a1,a2,a3]
 have r1:hA'.rd h.next 0=some (i64 id):=by
  rw[←hA]
  have a2:¬h.next=h.next+1+1:=by omega
  simp[aA.rd,a2]
 have r2:hA'.rd (h.next+1) 0=some (i64 tok):=by rw[←hA];simp[aA.rd]
 have r3:hA'.rd (h.next+1+1) 0=some (i64 now):=by rw[←hA];simp[aA.rd]
 have qA:Qu hA' fp p most next items lost:=q.mod (by omega) kA
 have mA:Mod h fp hA' fp:=⟨by omega,fun x hx _=>kA x hx,fun x hx=>.inl hx,fun x hx=>by have:=hlt x hx;omega⟩
 obtain⟨b,fi,fl,vi,vl,rfl,rfl,hb,h1,h2,h3,h4,h5,h6⟩:=qA
 simp only[dA,aB,aG,Bool.false_eq_true,if_false,bK,bE,aS,aH h1,Nat.zero_add,List.getElem?_cons_succ,List.getElem?_cons_zero]
 refine aK (aUf (E:=E) hM h2 hsz (xN id tok now) (fun h' md m _=>?_)) ?_
 ·have:=aQs (E:=E0) (h:=h') m (c1:=h.next) (c2:=h.next+1) (c3:=h.next+1+1) (by have:=md.next;omega) (by have:=md.next;omega) (by have:=md.next;omega)
   (by rw[rI md (by omega)];exact r1) (by rw[rI md (by omega)];exact r2) (by rw[rI md (by omega)];exact r3)
  simp only[cR,hE]
  exact this
 ·rintro r hB ⟨md,rfl⟩
  have qB:Qu hB (b::(fi++fl)) (ptr b 0) most next items lost:=⟨b,fi,fl,vi,vl,rfl,rfl,by have:=md.next;omega,by rw[md.same b hb (by simp)];exact h1,md.yM h2,md.yM h3,h4,h5,h6⟩
  have mB:Mod h (b::(fi++fl)) hB (b::(fi++fl)):=mA.trans (md.empty mA.lt)
  cases hf:items.findIdx? (xN id tok now) with
  | none=>
   simp only[cN,aB,aG]
   exact⟨trivial,qB,mB⟩
  | some i=>
   have hi:i<items.length:=by
    rw[List.findIdx?_eq_some_iff_getElem]at hf
    exact hf.1
   have hn:¬((i:Int)<0):=by omega
   have gB:hB.get b=some (.cells [i64 most,vi,vl,i64 next] 4 .rw):=by rw[md.same b hb (by simp)];exact h1
   have sB:Ms hB fi vi items:=md.yM h2
   have lB:Ms hB fl vl lost:=md.yM h3
   have bB:b<hB.next:=Nat.lt_of_lt_of_le hb md.next
   have w:IntKind.i64.wrap ((i:Int)+1)=((i+1:Nat):Int):=by rw[wrap_i64 (by omega) (by omega)];omega
   simp only[cN,hn,decide_false,aB,aG,Bool.false_eq_true,if_false,aH gB,List.getElem?_cons_succ,List.getElem?_cons_zero,qX,w]
   refine aK (aF2 (E:=E) sB hi (by omega)) ?_
   rintro v' hD ⟨sD,mD⟩
   have nD:=mD.next
   have gD:hD.get b=some (.cells [i64 most,vi,vl,i64 next] 4 .rw):=by rw[mD.same b bB h4];exact gB
   obtain⟨c1,c2⟩:=Sl.cell sD
   rw[nR gD (by simp) c1 c2 (by simp)]
   simp only[bV,List.set_cons_succ,List.set_cons_zero]
   have kE:∀x,x≠b→(hD.put b (.cells [i64 most,v',vl,i64 next] 4 .rw)).get x=hD.get x:=fun x hx=>by simp[hx]
   refine⟨trivial,⟨b,fi,fl,v',vl,rfl,rfl,by simp;omega,by simp,?_,?_,h4,h5,h6⟩,?_⟩
   ·exact sD.same (by simp) fun x hx=>kE x fun e=>h4 (e▸hx)
   ·exact lB.same (by simp;omega) fun x hx=>by rw[kE x fun e=>h5 (e▸hx)];exact mD.same x (lB.lt x hx) fun hf=>h6 x hf hx
   ·refine mB.trans ⟨by simp;omega,fun x hx hnx=>?_,fun x hx=>.inl hx,fun x hx=>by have:=mB.lt x hx;simp;omega⟩
    simp only[List.mem_cons,List.mem_append,not_or]at hnx
    rw[kE x hnx.1]
    exact mD.same x hx hnx.2.1
end Go.Abs
namespace Go.Abs
open Go
variable {E:FE} {h:aA} {fp:List Nat} {p:V} {most next:Int} {items lost:List Msg}
theorem Ms.set {v:V} {l:List Msg} (s:Ms h fp v l) {i:Nat} {m:Msg} (hi:l[i]? = some m) (c t:Int) :
 ∃b,aV (.slice 4) v (i64 i)=some (ptr b (i*4))∧fp=[b]∧∃h1 h2,stD (some 1) (ptr b (i*4+2)) (i64 c) h=some h1∧h1.next=h.next∧(∀x,x≠b→h1.get x=h.get x) ∧
  stD (some 1) (ptr b (i*4+3)) (i64 t) h1=some h2∧h2.next=h.next∧(∀x,x≠b→h2.get x=h.get x)∧Ms h2 fp v (l.set i { m with count:=c,till:=t }):=by
 have hil:i<l.length:=(List.getElem?_eq_some_iff.1 hi).1
 obtain⟨h0,⟨rfl,h1,rfl⟩ | ⟨b,cp,all,rfl,rfl,hb,hc,h2,h3,h4⟩⟩:=s
 ·omega
 have hall:l.length*4≤all.length:=Nat.le_trans (Nat.mul_le_mul_right _ hc) h3
 have b1:(0:Int)≤(i:Int)∧(i:Int)<(l.length:Nat):=by omega
 refine⟨b,?_,rfl,h.put b (.cells (all.set (i*4+2) (i64 c)) 4 .rw),(h.put b (.cells (all.set (i*4+2) (i64 c)) 4 .rw)).put b (.cells ((all.set (i*4+2) (i64 c)).set (i*4+3) (i64 t)) 4 .rw),?_,rfl,fun x hx=>by simp[hx],?_,rfl,fun x hx=>by simp[hx],?_⟩
 ·simp only[aV,if_pos b1,Int.toNat_natCast,Nat.zero_add]
 ·exact nR h2 (by simp) rfl rfl (by omega)
 ·exact nR (by simp) (by simp) rfl rfl (by simp;omega)
 ·refine⟨by simp,.inr ⟨b,cp,(all.set (i*4+2) (i64 c)).set (i*4+3) (i64 t),by simp,rfl,by simpa using hb,by simpa using hc,by simp,by simpa using h3,?_⟩⟩
  rw[List.length_set,List.take_set,List.take_set,h4]
  have key:∀(l:List Msg) (i:Nat),l[i]? = some m→((dV l).set (i*4+2) (i64 c)).set (i*4+3) (i64 t)=dV (l.set i { m with count:=c,till:=t }):=by
   intro l
   induction l with
   | nil=>intro i h;simp at h
   | cons a l ih=>
    intro i hi
    cases i with
    | zero=>
     simp at hi
     subst hi
     rfl
    | succ i=>
     have:=ih i (by simpa using hi)
     rw[List.set_cons_succ,tW,tW,←this]
     rw[List.set_append_right _ _ (by simp;omega),List.set_append_right _ _ (by simp;omega)]
     simp only[aRz]
     rw[show (i+1)*4+2 - 4=i*4+2 by omega,show (i+1)*4+3 - 4=i*4+3 by omega]
  exact key l i hi
def cL (most now ticks:Int):List Msg→List Msg×List Msg×Option Msg
 | []=>([],[],none)
 | m::l=>
  if m.till > now then ((m::(cL most now ticks l).1),(cL most now ticks l).2)
  else if m.count≥most then ((cL most now ticks l).1,m::(cL most now ticks l).2.1,(cL most now ticks l).2.2)
  else ({ m with count:=m.count+1,till:=now+ticks }::l,[],some { m with count:=m.count+1,till:=now+ticks })
theorem aN5 (q:Qu h fp p most next items lost) (now ticks:Int) (hsz:items.length+lost.length≤1000000) (hcnt:∀m∈items,0≤m.count∧m.count≤1000000) :
 cl (F.lK E) [p,i64 now,i64 ticks] h fun r h'=>
  if ticks<1∨ticks > 1000∨now<0∨now > 1099511627776 then r = .tuple #[Msg.zero.agg,.bool false]∧Qu h' fp p most next items lost∧Mod h fp h' fp
  else r = .tuple #[((cL most now ticks items).2.2.getD Msg.zero).agg,.bool (cL most now ticks items).2.2.isSome] ∧
   ∃fp',Qu h' fp' p most next (cL most now ticks items).1 (lost++(cL most now ticks items).2.1)∧Mod h fp h' fp':=by
 have hlt:=q.lt
 refine aN ?_
 have e0:aY none (.agg #[(.int .i64 0),(.string ⟨#[]⟩),(.int .i64 0),(.int .i64 0)]) h=some (ptr h.next 0,h.new (.cells Msg.zero.cells 4 .rw)):=rfl
 have ez:cA (.struct [(.int .i64 0),(.string ⟨#[]⟩),(.int .i64 0),(.int .i64 0)] [(0,1),(1,1),(2,1),(3,1)]) []=some Msg.zero.agg:=rfl
 obtain⟨b,fi,fl,vi,vl,hp,hfp,hb,hrest⟩:=id q
 subst hp
 have kN:∀x,x<h.next→(h.new (.cells Msg.zero.cells 4 .rw)).get x=h.get x:=fun x hx=>by
  have:x≠h.next:=by omega
  simp[this]
 have qN:Qu (h.new (.cells Msg.zero.cells 4 .rw)) fp (ptr b 0) most next items lost:=q.mod (by simp) kN
 have mN:Mod h fp (h.new (.cells Msg.zero.cells 4 .rw)) fp:=Mod.eZ hlt
 have gN:(h.new (.cells Msg.zero.cells 4 .rw)).get h.next=some (.cells Msg.zero.cells 4 .rw):=by simp
 have boxes:∀(h':aA) (fp':List Nat) (m:Msg) (its los:List Msg) (c1 c2 c3 c4:V),h'.get h.next=some (.cells [c1,c2,c3,c4] 4 .rw)→h.next∉fp'→Qu h' fp' (ptr b 0) most next its los→Mod h fp h' fp' →
  stD (some 4) (ptr h.next 0) m.agg h'=some (h'.put h.next (.cells m.cells 4 .rw))∧ldD (.agg 4) (ptr h.next 0) (h'.put h.next (.cells m.cells 4 .rw))=some m.agg ∧
  Qu (h'.put h.next (.cells m.cells 4 .rw)) fp' (ptr b 0) most next its los∧Mod h fp (h'.put h.next (.cells m.cells 4 .rw)) fp':=by
  intro h' fp' m its los c1 c2 c3 c4 g hn q' m'
  refine⟨st4 g,ld4 (by simp),q'.same (by simp) fun x hx=>?_,m'.sX (Nat.le_refl _)⟩
  have:x≠h.next:=fun e=>hn (e▸hx)
  simp[this]
 have nfp:h.next∉fp:=fun hx=>by have:=hlt _ hx;omega
 simp only[F.lK,e0,aZ,dA,aB,aQ,if_true,cN,aR,Bool.false_eq_true,if_false]
 have bad:∀(P:Prop),(ticks<1∨ticks > 1000∨now<0∨now > 1099511627776)→P→P:=fun _ _ p=>p
 by_cases hbad:ticks<1∨ticks > 1000∨now<0∨now > 1099511627776
 ·simp only[if_pos hbad]
  have go:∀X:Prop,ifV (.bool true) (kv (cA (.struct [(.int .i64 0),(.string ⟨#[]⟩),(.int .i64 0),(.int .i64 0)] [(0,1),(1,1),(2,1),(3,1)]) []) fun v28_14=>
   kH (stD (some 4) (ptr h.next 0) v28_14 (h.new (.cells Msg.zero.cells 4 .rw))) fun _ h_1=>kv (ldD (.agg 4) (ptr h.next 0) h_1) fun r15=>
    Value.tuple #[r15,.bool false]=Value.tuple #[Msg.zero.agg,.bool false]∧Qu h_1 fp (ptr b 0) most next items lost∧Mod h fp h_1 fp) X:=by
   intro X
   obtain⟨x1,x2,x3,x4⟩:=boxes _ fp Msg.zero items lost _ _ _ _ gN nfp qN mN
   simp only[aG,if_true,ez,aB,x1,bV,x2]
   exact⟨trivial,x3,x4⟩
  by_cases t1:ticks<1
  ·simp only[t1,decide_true,aB,aQ,Bool.true_eq_false,if_false,aR,if_true]
   exact go _
  ·by_cases t2:ticks > 1000
   ·simp only[t1,t2,decide_true,decide_false,aB,aQ,Bool.true_eq_false,if_false,aR,if_true,iK,Bool.false_eq_true]
    exact go _
   ·by_cases t3:now<0
    ·simp only[t1,t2,t3,decide_true,decide_false,aB,aQ,Bool.true_eq_false,if_false,aR,if_true,iK,cN,Bool.false_eq_true]
     exact go _
    ·have t4:now > 1099511627776:=by omega
     simp only[t1,t2,t3,t4,decide_true,decide_false,aB,aQ,Bool.true_eq_false,if_false,aR,if_true,iK,cN,Bool.false_eq_true]
     exact go _
 ·simp only[if_neg hbad]
  have t1:¬ticks<1:=by omega
  have t2:¬ticks > 1000:=by omega
  have t3:¬now<0:=by omega
  have t4:¬now > 1099511627776:=by omega
  simp only[t1,t2,t3,t4,decide_true,decide_false,aB,aQ,Bool.true_eq_false,if_false,aR,if_true,iK,cN,Bool.false_eq_true,aG]
  refine⟨fun k vs h'=>∃(pre rest moved:List Msg) (fp':List Nat),vs=[i64 pre.length]∧k=rest.length∧Qu h' fp' (ptr b 0) most next (pre++rest) (lost++moved)∧Mod h fp h' fp' ∧
   h'.get h.next=some (.cells Msg.zero.cells 4 .rw)∧(h.next∉fp'∧h.next<h'.next)∧pre.length+rest.length+moved.length=items.length∧(∀m∈rest,0≤m.count∧m.count≤1000000) ∧
   cL most now ticks items=(pre++(cL most now ticks rest).1,moved++(cL most now ticks rest).2.1,(cL most now ticks rest).2.2),items.length,
   ⟨[],items,[],fp,rfl,rfl,by simpa using qN,mN,gN,⟨nfp,by simp⟩,by simp,hcnt,by simp⟩,?_⟩
  rintro k e h1 ⟨pre,rest,moved,fp1,he,rfl,q1,m1,g1,⟨n1,hh1⟩,hsum,hc1,hrec⟩
  simp only[List.cons.injEq,and_true]at he
  have q1':=q1
  obtain⟨b',fi1,fl1,vi1,vl1,hbb,rfl,hb1,gb1,hi1,hl1,d1,d2,d3⟩:=q1
  have:b'=b:=by cases hbb;rfl
  subst this
  have hlen1:=Sl.len hi1
  simp only[he,bK,aB,bE,aS,Nat.zero_add,aH gb1,List.getElem?_cons_succ,List.getElem?_cons_zero,hlen1,cN,aG]
  cases rest with
  | nil=>
   have hx:¬((pre.length:Int)<((pre++([]:List Msg)).length:Nat)):=by simp
   simp only[hx,decide_false,Bool.false_eq_true,if_false,ez,aB]
   obtain⟨x1,x2,x3,x4⟩:=boxes _ _ Msg.zero _ _ _ _ _ _ g1 n1 q1' m1
   simp only[x1,bV,x2,aB,hrec,cL]
   exact⟨rfl,_,by simpa using x3,x4⟩
  | cons m rest=>
   have hx:((pre.length:Int)<((pre++m::rest).length:Nat)):=by simp;omega
   have hget:(pre++m::rest)[pre.length]? = some m:=by simp
   obtain⟨br,i1,i2,i3,i4,i5,i6,i7⟩:=Ms.at hi1 hget
   simp only[hx,decide_true,if_true,i1,aB,bK,bE,aS,i7,iK,aG]
   have hp1:pre.length≤1000000:=by omega
   by_cases ht:m.till > now
   ·have w:IntKind.i64.wrap ((pre.length:Int)+1)=((pre.length+1:Nat):Int):=by rw[wrap_i64 (by omega) (by omega)];omega
    simp only[ht,decide_true,if_true,qX,w,aB]
    refine⟨rest.length,by simp,pre++[m],rest,moved,_,by simp,rfl,by simpa using q1',m1,g1,⟨n1,hh1⟩,by simp at hsum ⊢;omega,fun x hx=>hc1 x (by simp[hx]),?_⟩
    rw[hrec]
    simp[cL,ht]
   ·simp only[ht,decide_false,Bool.false_eq_true,if_false,bK,aB,bE,aS,i6,Nat.zero_add,aH gb1,List.getElem?_cons_zero,fH,aG]
    by_cases hm:m.count≥most
    ·simp only[hm,decide_true,if_true]
     have e2:dN (some (4,[(.int .i64 0),(.string ⟨#[]⟩),(.int .i64 0),(.int .i64 0)])) 1 [(0,m.agg)] h1=some (.slice (some ⟨h1.next,0,none⟩) 1 2,h1.new (.cells m.cells 4 .rw)):=rfl
     simp only[aH gb1,List.getElem?_cons_succ,List.getElem?_cons_zero,aB,i3,e2,aZ]
     have kn:∀x,x<h1.next→(h1.new (.cells m.cells 4 .rw)).get x=h1.get x:=fun x hx=>by
      have:x≠h1.next:=by omega
      simp[this]
     have gnb:(h1.new (.cells m.cells 4 .rw)).get b'=some (.cells [i64 most,vi1,vl1,i64 next] 4 .rw):=by rw[kn _ hb1];exact gb1
     have ln:Ms (h1.new (.cells m.cells 4 .rw)) fl1 vl1 (lost++moved):=hl1.same (by simp) fun x hx=>kn x (hl1.lt x hx)
     have hin:Ms (h1.new (.cells m.cells 4 .rw)) fi1 vi1 (pre++m::rest):=hi1.same (by simp) fun x hx=>kn x (hi1.lt x hx)
     obtain⟨v',hc',fl',a1,a2,a3⟩:=Sl.append ln (x:=.slice (some ⟨h1.next,0,none⟩) 1 2) (k:=1) (bytes:=40) (z:=pU) (new:=m.cells) rfl (by decide) (by decide) rfl
      (fun _=>by simp[dT,jB,aA.rdN,Msg.cells]) rfl rfl (by simp at hsum ⊢;omega)
     simp only[pU]at a1
     simp only[aH gnb,List.getElem?_cons_succ,List.getElem?_cons_zero,true_and,a1,aZ]
     have nnc:h1.next+1≤hc'.next:=by have:=a3.next;simpa using this
     have gcb:hc'.get b'=some (.cells [i64 most,vi1,vl1,i64 next] 4 .rw):=by rw[a3.same b' (by simp;omega) d2];exact gnb
     obtain⟨c1,c2⟩:=Sl.cell a2
     rw[nR gcb (by simp) c1 c2 (by simp)]
     simp only[bV,List.set_cons_succ,List.set_cons_zero]
     have bfl:b'∉fl':=fun hx=>by
      rcases a3.new b' hx with hx | hx
      ·exact d2 hx
      ·simp at hx;omega
     generalize hD:hc'.put b' (.cells [i64 most,vi1,v',i64 next] 4 .rw)=hd
     have nd:hd.next=hc'.next:=by rw[←hD];rfl
     have kd:∀x,x≠b'→hd.get x=hc'.get x:=fun x hx=>by rw[←hD];simp[hx]
     have gdb:hd.get b'=some (.cells [i64 most,vi1,v',i64 next] 4 .rw):=by rw[←hD];simp
     have hid:Ms hd fi1 vi1 (pre++m::rest):=hin.same (by simp;omega) fun x hx=>by
      rw[kd x fun e=>d1 (e▸hx)]
      exact a3.same x (by have:=hi1.lt x hx;simp;omega) (d3 x hx)
     have hld:Ms hd fl' v' (lost++moved++[m]):=by
      have:Ms hc' fl' v' (lost++moved++[m]):=by simpa[Ms,Nat.add_assoc]using a2
      exact this.same (by omega) fun x hx=>kd x fun e=>bfl (e▸hx)
     have w:IntKind.i64.wrap ((pre.length:Int)+1)=((pre.length+1:Nat):Int):=by rw[wrap_i64 (by omega) (by omega)];omega
     simp only[aH gdb,List.getElem?_cons_succ,List.getElem?_cons_zero,aB,qX,w]
     refine aK (aF2 (E:=E) hid (i:=pre.length) (by simp) (by simp at hsum ⊢;omega)) ?_
     rintro v2 he' ⟨sE,mE⟩
     have geb:he'.get b'=some (.cells [i64 most,vi1,v',i64 next] 4 .rw):=by rw[mE.same b' (by omega) d1];exact gdb
     obtain⟨c3,c4⟩:=Sl.cell sE
     rw[nR geb (by simp) c3 c4 (by simp)]
     simp only[bV,List.set_cons_succ,List.set_cons_zero]
     have nE:=mE.next
     have fl'fi:∀x∈fi1,x∉fl':=fun x hx hf=>by
      rcases a3.new x hf with hf | hf
      ·exact d3 x hx hf
      ·have:=hi1.lt x hx;simp at hf;omega
     have ke:∀x,x≠b'→(he'.put b' (.cells [i64 most,v2,v',i64 next] 4 .rw)).get x=he'.get x:=fun x hx=>by simp[hx]
     have n1':h.next≠b'∧h.next∉fi1∧h.next∉fl1:=by simpa[not_or]using n1
     have gE:(he'.put b' (.cells [i64 most,v2,v',i64 next] 4 .rw)).get h.next=some (.cells Msg.zero.cells 4 .rw):=by
      rw[ke _ n1'.1,mE.same _ (by omega) n1'.2.1,kd _ n1'.1,a3.same _ (by simp;omega) n1'.2.2,kn _ hh1]
      exact g1
     have n2:h.next∉fl':=fun hx=>by
      rcases a3.new _ hx with hx | hx
      ·exact n1'.2.2 hx
      ·simp at hx;omega
     have herase:(pre++m::rest).eraseIdx pre.length=pre++rest:=by rw[List.eraseIdx_append_of_length_le (by simp)];simp
     rw[herase]at sE
     refine⟨rest.length,by simp,pre,rest,moved++[m],b'::(fi1++fl'),by simp,rfl,⟨b',fi1,fl',v2,v',rfl,rfl,by simp;omega,by simp,?_,?_,d1,bfl,fl'fi⟩,m1.trans ?_,gE,⟨by simp[n1'.1,n1'.2.1,n2],by simp;omega⟩,by simp at hsum ⊢;omega,fun x hx=>hc1 x (by simp[hx]),?_⟩
     ·exact sE.same (by simp) fun x hx=>ke x fun e=>d1 (e▸hx)
     ·rw[←List.append_assoc]
      exact hld.same (by simp;omega) fun x hx=>by rw[ke x fun e=>bfl (e▸hx)];exact mE.same x (hld.lt x hx) fun hf=>fl'fi x hf hx
     ·refine⟨by simp;omega,fun x hx hn=>?_,fun x hx=>?_,fun x hx=>?_⟩
      ·simp only[List.mem_cons,List.mem_append,not_or]at hn
       rw[ke x hn.1,mE.same x (by omega) hn.2.1,kd x hn.1,a3.same x (by simp;omega) hn.2.2,kn x hx]
      ·simp only[List.mem_cons,List.mem_append]at hx ⊢
       rcases hx with rfl | hx | hx
       ·simp
       ·simp[hx]
       ·rcases a3.new x hx with hx | hx
        ·simp[hx]
        ·simp at hx;right;omega
      ·simp only[List.mem_cons,List.mem_append]at hx
       simp only[aN1]
       rcases hx with rfl | hx | hx
       ·omega
       ·have:=hi1.lt x hx;omega
       ·have:=a3.lt x hx;omega
     ·rw[hrec]
      simp[cL,ht,hm]
    ·simp only[hm,decide_false,Bool.false_eq_true,if_false]
     have hmc:=hc1 m (by simp)
     have w:IntKind.i64.wrap (m.count+1)=m.count+1:=wrap_i64 (by omega) (by omega)
     have w2:IntKind.i64.wrap (now+ticks)=now+ticks:=wrap_i64 (by omega) (by omega)
     obtain⟨b2,j1,rfl,ha,hc',s1,na,ka,s2,nc,kc,j3⟩:=Ms.set hi1 hget (m.count+1) (now+ticks)
     rw[i1]at j1
     have hbr:br=b2:=by injection j1 with j1;injection j1 with j1;injection j1 with j1;injection j1 with j1
     subst hbr
     simp only[qX,w,aB,s1,bV,w2,s2]
     have hset:(pre++m::rest).set pre.length { m with count:=m.count+1,till:=now+ticks } = pre++{ m with count:=m.count+1,till:=now+ticks }::rest:=by simp
     rw[hset]at j3
     have hget2:(pre++{ m with count:=m.count+1,till:=now+ticks }::rest)[pre.length]? = some { m with count:=m.count+1,till:=now+ticks }:=by simp
     obtain⟨b3,y1,y2,y3,_⟩:=Ms.at j3 hget2
     simp only[List.mem_singleton]at y2
     subst y2
     simp only[y3,aB]
     have bne:b'≠b3:=fun e=>d1 (by simp[e])
     have hnb:h.next≠b3:=fun e=>n1 (by simp[e])
     have gc:hc'.get h.next=some (.cells Msg.zero.cells 4 .rw):=by rw[kc _ hnb];exact g1
     have q2:Qu hc' (b'::([b3]++fl1)) (ptr b' 0) most next (pre++{ m with count:=m.count+1,till:=now+ticks }::rest) (lost++moved):=
      ⟨b',[b3],fl1,vi1,vl1,rfl,rfl,by omega,by rw[kc _ bne];exact gb1,j3,hl1.same (by omega) fun x hx=>kc x fun e=>d3 b3 (by simp) (e▸hx),d1,d2,d3⟩
     have m2:Mod h fp hc' (b'::([b3]++fl1)):=m1.trans ⟨by omega,fun x hx hn=>kc x fun e=>hn (by simp[e]),fun x hx=>.inl hx,fun x hx=>by have:=m1.lt x hx;omega⟩
     obtain⟨x1,x2,x3,x4⟩:=boxes _ _ { m with count:=m.count+1,till:=now+ticks } _ _ _ _ _ _ gc n1 q2 m2
     simp only[x1,bV,x2,aB,hrec]
     simp only[cL,if_neg ht,if_neg hm]
     exact⟨rfl,_,by simpa using x3,x4⟩
end Go.Abs
namespace Go.Abs
open Go
def Stp (l:List En) (clk:Nat):Prop:=(l.map (·.b)).Nodup∧∀e∈l,e.b<clk
theorem aN0 {k:ByteArray} {v:V} {c:Nat}:∀{l:List En},bD k l≠none→(cM k v c l).map (·.b)=l.map (·.b)
 | [],h=>absurd rfl h
 | e::l,h=>by
  simp only[cM,bD]at h ⊢
  split
  ·rfl
  ·rename_i hk
   rw[if_neg hk]at h
   rw[List.map_cons,aN0 h,List.map_cons]
theorem aO5 {k:ByteArray} {v:V} {clk:Nat} {l:List En} (s:Stp l clk):Stp (cM k v clk l) (if bD k l=none then clk+1 else clk):=by
 have h2:∀x∈l.map (·.b),x<clk:=fun x hx=>by
  obtain⟨e,he,rfl⟩:=List.mem_map.1 hx
  exact s.2 e he
 by_cases hk:bD k l=none
 ·rw[if_pos hk,aHm _ _ _ _ hk]
  refine⟨?_,fun e he=>?_⟩
  ·rw[List.map_append,List.nodup_append]
   refine⟨s.1,by simp,fun a ha b hb=>?_⟩
   have:=h2 a ha
   simp at hb
   omega
  ·rcases List.mem_append.1 he with he | he
   ·have:=s.2 e he;omega
   ·simp at he;subst he;simp
 ·rw[if_neg hk]
  have e:=aN0 (k:=k) (v:=v) (c:=clk) (l:=l) hk
  refine⟨by rw[e];exact s.1,fun x hx=>h2 _ ?_⟩
  rw[←e]
  exact List.mem_map.2 ⟨x,hx,rfl⟩
theorem aAl (k:ByteArray):∀l:List En,(eS k l).Sublist l
 | []=>List.Sublist.refl _
 | e::l=>by
  simp only[eS]
  split
  ·exact List.sublist_cons_self _ _
  ·exact (aAl k l).cons_cons e
theorem aYl {k:ByteArray} {clk:Nat} {l:List En} (s:Stp l clk):Stp (eS k l) clk:=
 ⟨s.1.sublist ((aAl k l).map _),fun e he=>s.2 e ((aAl k l).mem he)⟩
def Tab (h:aA) (fp:List Nat) (p:V) (l:List En):Prop:=
 ∃b m clk,p=ptr b 0∧fp=[b,m]∧b≠m∧b<h.next∧m<h.next∧h.get b=some (.cells [.map (some m)] 1 .rw)∧h.get m=some (.map (l.map ME) clk)∧(bT l).Nodup∧Stp l clk
theorem Tab.lt {h:aA} {fp:List Nat} {p:V} {l:List En} (t:Tab h fp p l):∀x∈fp,x<h.next:=by
 obtain⟨b,m,clk,rfl,rfl,hne,hb,hm,h1,h2,hn⟩:=t
 simp
 exact⟨hb,hm⟩
theorem Tab.same {h h':aA} {fp:List Nat} {p:V} {l:List En} (t:Tab h fp p l) (hl:h.next≤h'.next) (hs:∀x∈fp,h'.get x=h.get x):Tab h' fp p l:=by
 obtain⟨b,m,clk,rfl,rfl,hne,hb,hm,h1,h2,hn⟩:=t
 exact⟨b,m,clk,rfl,rfl,hne,by omega,by omega,by rw[hs b (by simp),h1],by rw[hs m (by simp),h2],hn⟩
variable {E:FE} {h:aA} {fp:List Nat} {p:V} {l:List En}
theorem kL:cl (F.kL E) [] h fun r h'=>∃fp,Tab h' fp r []∧Mod h [] h' fp:=by
 refine aN ?_
 simp only[F.kL,fO,if_true,aZ,cA,eP,cellsOf,aY]
 simp only[List.getElem?_cons_zero,dJ,List.length_cons,List.length_nil,List.set_cons_zero,Nat.le_refl,and_self,if_true,eP,Option.map_some,aB,cellsOf,aZ,Option.getD_none,Nat.zero_add]
 refine⟨[h.next+1,h.next],⟨h.next+1,h.next,0,by simp,rfl,by simp,by simp,by simp;omega,by simp,by simp,by simp[bT],by simp[Stp]⟩,by simp;omega,fun x hx _=>?_,fun x hx=>?_,fun x hx=>?_⟩
 ·have h1:x≠h.next:=by omega
  have h2:x≠h.next+1:=by omega
  simp[h1,h2]
 ·simp at hx;right;omega
 ·simp at hx ⊢;omega
theorem zL (t:Tab h fp p l) (hv:∀e∈l,∃s,e.v=str s) (k:ByteArray) :
 cl (F.eM E) [p,str k] h fun r h'=>h'=h∧r = .tuple #[(bD k l).getD (str ⟨#[]⟩),.bool (bD k l).isSome]:=by
 obtain⟨b,m,clk,rfl,rfl,hne,hb,hm,h1,h2,hn⟩:=t
 refine aN ?_
 simp[F.eM,aH h1,aB0 h2]
theorem aPb (t:Tab h fp p l) (k:ByteArray) (v:V) :
 cl (F.iG E) [p,str k,v] h fun r h'=>r = .bool (bD k l).isNone∧∃c,Tab h' fp p (cM k v c l)∧Mod h fp h' fp:=by
 have hlt:=t.lt
 obtain⟨b,m,clk,rfl,rfl,hne,hb,hm,h1,h2,hn⟩:=t
 refine aN ?_
 simp[F.iG,aH h1,aB0 h2,aPg h2]
 refine⟨⟨clk,b,m,_,rfl,rfl,hne,hb,hm,by simp[hne,h1],by simp,aCk hn.1,aO5 hn.2⟩,by simp,fun x hx hnx=>?_,fun x hx=>.inl hx,fun x hx=>hlt x hx⟩
 simp at hnx
 simp[hnx.2]
theorem aPa (t:Tab h fp p l) (hv:∀e∈l,∃s,e.v=str s) (k:ByteArray) :
 cl (F.iF E) [p,str k] h fun r h'=>r = .bool (bD k l).isSome∧Tab h' fp p (eS k l)∧Mod h fp h' fp:=by
 have hlt:=t.lt
 have hg:=zL (E:=E) t hv k
 obtain⟨b,m,clk,rfl,rfl,hne,hb,hm,h1,h2,hn⟩:=t
 refine aN ?_
 simp only[F.iF]
 refine aK hg ?_
 rintro r h' ⟨rfl,rfl⟩
 cases hk:bD k l with
 | none=>
  simp[hk]
  rw[aF1 k l hk]
  exact⟨⟨b,m,clk,rfl,rfl,hne,hb,hm,h1,h2,hn⟩,Mod.refl hlt⟩
 | some v=>
  simp[hk,aH h1,aS1 h2]
  refine⟨⟨b,m,clk,rfl,rfl,hne,hb,hm,by simp[hne,h1],by simp,by rw[aGx];exact hn.1.erase _,aYl hn.2⟩,by simp,fun x hx hnx=>?_,fun x hx=>.inl hx,fun x hx=>hlt x hx⟩
  simp at hnx
  simp[hnx.2]
end Go.Abs
namespace Go.Abs
open Go
def Ts (h:aA) (fp:List Nat) (v:V) (l:List ByteArray):Prop:=Sl h fp v 1 l.length (l.map str)
variable {E:FE} {h:aA} {fp:List Nat} {v p:V} {l:List ByteArray}
theorem Ts.lt (s:Ts h fp v l):∀x∈fp,x<h.next:=Sl.lt s
theorem Ts.same {h':aA} (s:Ts h fp v l) (hl:h.next≤h'.next) (hs:∀x∈fp,h'.get x=h.get x):Ts h' fp v l:=Sl.same s hl hs
theorem aO7 (l:List ByteArray):(l.map str).all dH=true:=by
 induction l with
 | nil=>rfl
 | cons a l ih=>simp only[List.map_cons,List.all_cons,ih];rfl
theorem aJp {x:V} {n:Nat} {new:List V} (hn:∃b,aC .slice .eql true x (.slice none 0 0) h=some (.bool b)∧(b=true→n=0)) (hx:∀o,dX x=some n∧dT 1 x (h.new o)=some new) (hl:new.length=n) (h1:new.all dH=true) (hsz:n≤1000000) :
 cl (F.fC E) [x] h fun r h'=>∃fp',Sl h' fp' r 1 n new∧Mod h [] h' fp':=by
 refine aN ?_
 obtain⟨b,hb,hnil⟩:=hn
 simp only[F.fC,hb,aB,aG]
 cases b with
 | true=>
  have h0:=hnil rfl
  have:new=[]:=List.eq_nil_of_length_eq_zero (by omega)
  subst this
  subst h0
  simp only[if_true]
  exact⟨[],Sl.nil,Mod.refl (by simp)⟩
 | false=>
  have e0:dN (some (1,[(.string ⟨#[]⟩)])) 0 [] h=some (.slice (some ⟨h.next,0,none⟩) 0 0,h.new (.cells [] 1 .rw)):=rfl
  simp only[Bool.false_eq_true,if_false,e0,aZ]
  have s1:Sl (h.new (.cells [] 1 .rw)) [h.next] (.slice (some ⟨h.next,0,none⟩) 0 0) 1 0 []:=⟨by simp,.inr ⟨h.next,0,[],rfl,rfl,by simp,by simp,by simp,by simp,by simp⟩⟩
  obtain⟨v',h',fp',e1,e2,e3⟩:=Sl.append s1 (bytes:=16) (z:=[.string ⟨#[]⟩]) (k:=n) (new:=new) rfl (by decide) (by decide) (hx (.cells [] 1 .rw)).1 (fun _=>(hx (.cells [] 1 .rw)).2) (by omega) h1 (by omega)
  rw[e1]
  simp only[aZ]
  refine⟨fp',by simpa using e2,by have:=e3.next;simp at this;omega,fun x hx _=>?_,fun x hx=>?_,e3.lt⟩
  ·have hne:x≠h.next:=by omega
   rw[e3.same x (by simp;omega) (by simpa using hne)]
   simp[hne]
  ·rcases e3.new x hx with h1 | h1
   ·simp at h1;right;omega
   ·simp at h1;right;omega
theorem aFs (s:Ts h fp v l) (hsz:l.length≤1000000):cl (F.fC E) [v] h fun r h'=>∃fp',Ts h' fp' r l∧Mod h [] h' fp':=by
 obtain⟨b,hb,hn⟩:=Sl.isNil s true
 refine aJp ⟨b,hb,fun h=>(hn h).1⟩ (fun o=>?_) (by simp) (aO7 l) hsz
 have:Ts (h.new o) fp v l:=s.same (by simp) fun x hx=>by
  have:=s.lt x hx
  have:x≠h.next:=by omega
  simp[this]
 exact Sl.src this
def To (h:aA) (fp:List Nat) (p:V) (l:List ByteArray) (g:List En):Prop:=
 ∃b m fl vl clk,p=ptr b 0∧fp=b::m::fl∧b≠m∧b<h.next∧m<h.next∧h.get b=some (.cells [vl,.map (some m)] 2 .rw)∧h.get m=some (.map (g.map ME) clk)∧Ts h fl vl l ∧
  b∉fl∧m∉fl∧((bT g).Nodup∧Stp g clk)∧∀e∈g,∃n:Int,e.v=i64 n
theorem To.lt {g:List En} (t:To h fp p l g):∀x∈fp,x<h.next:=by
 obtain⟨b,m,fl,vl,clk,rfl,rfl,hne,hb,hm,h1,h2,h3,_⟩:=t
 intro x hx
 simp only[List.mem_cons]at hx
 rcases hx with rfl | rfl | hx
 ·exact hb
 ·exact hm
 ·exact h3.lt x hx
theorem To.same {g:List En} {h':aA} (t:To h fp p l g) (hl:h.next≤h'.next) (hs:∀x∈fp,h'.get x=h.get x):To h' fp p l g:=by
 obtain⟨b,m,fl,vl,clk,rfl,rfl,hne,hb,hm,h1,h2,h3,h4⟩:=t
 exact⟨b,m,fl,vl,clk,rfl,rfl,hne,by omega,by omega,by rw[hs b (by simp),h1],by rw[hs m (by simp),h2],h3.same hl fun x hx=>hs x (by simp[hx]),h4⟩
theorem kO:cl (F.kO E) [] h fun r h'=>∃fp,To h' fp r [] []∧Mod h [] h' fp:=by
 refine aN ?_
 have e1:fO true none h=some (.map (some h.next),h.new (.map [] 0)):=rfl
 have e2:cA (.struct [(.slice none 0 0),(.map none)] [(0,1),(1,1)]) [(1,.map (some h.next))]=some (.agg #[.slice none 0 0,.map (some h.next)]):=rfl
 have e3:∀(g:aA) (a b:V),aY none (.agg #[a,b]) g=some (ptr g.next 0,g.new (.cells [a,b] 2 .rw)):=fun _ _ _=>rfl
 simp only[F.kO,e1,e2,e3,aZ,aB,rF]
 refine⟨[h.next+1,h.next],⟨h.next+1,h.next,[],_,0,rfl,rfl,by simp,by simp,by simp;omega,by simp,by simp,Sl.nil,by simp,by simp,⟨by simp[bT],by simp[Stp]⟩,by simp⟩,by simp;omega,fun x hx _=>?_,fun x hx=>?_,fun x hx=>?_⟩
 ·have h1:x≠h.next:=by omega
  have h2:x≠h.next+1:=by omega
  simp[h1,h2]
 ·simp at hx;right;omega
 ·simp at hx ⊢;omega
theorem aEl {g:List En} (t:To h fp p l g):cl (F.eV E) [p] h fun r h'=>h'=h∧r=i64 l.length:=by
 obtain⟨b,m,fl,vl,clk,rfl,rfl,hne,hb,hm,h1,h2,h3,h4⟩:=t
 refine aN ?_
 have:=Sl.len h3
 simp[F.eV,aH h1,this]
def atE (k:ByteArray) (g:List En):V:=(bD k g).getD (i64 0)
theorem aEj {g:List En} (t:To h fp p l g) (k:ByteArray):cl (F.fV E) [p,str k] h fun r h'=>h'=h∧r=atE k g:=by
 obtain⟨b,m,fl,vl,clk,rfl,rfl,hne,hb,hm,h1,h2,h3,h4⟩:=t
 refine aN ?_
 simp[F.fV,aH h1,aB0 h2,atE]
theorem aY8 {g:List En} (t:To h fp p l g) (s:ByteArray) (hsz:l.length≤1000000) :
 cl (F.nV E) [p,str s] h fun r h'=>
  if l.length<64 then r = .tuple #[i64 l.length,.bool true]∧∃fp',To h' fp' p (l++[s]) g∧Mod h fp h' fp'
  else r = .tuple #[i64 0,.bool false]∧h'=h:=by
 have hlt:=t.lt
 obtain⟨b,m,fl,vl,clk,rfl,rfl,hne,hb,hm,h1,h2,h3,h4,h5,h6,h7⟩:=t
 refine aN ?_
 have l1:=Sl.len h3
 simp only[F.nV,dA,aB,aQ,if_true,bK,bE,aS,aH h1,Nat.zero_add,List.getElem?_cons_succ,List.getElem?_cons_zero,l1,fH,aR,Bool.false_eq_true,if_false,aG]
 by_cases hc:l.length<64
 ·have hd:¬((l.length:Int)≥64):=by omega
  simp only[hd,decide_false,if_pos hc,Bool.false_eq_true,if_false]
  have e2:dN (some (1,[(.string ⟨#[]⟩)])) 1 [(0,str s)] h=some (.slice (some ⟨h.next,0,none⟩) 1 2,h.new (.cells [str s] 1 .rw)):=rfl
  simp only[e2,aZ]
  have bZ:∀x,x<h.next→(h.new (.cells [str s] 1 .rw)).get x=h.get x:=fun x hx=>by
   have:x≠h.next:=by omega
   simp[this]
  have s1:Ts (h.new (.cells [str s] 1 .rw)) fl vl l:=h3.same (by simp) fun x hx=>bZ x (h3.lt x hx)
  obtain⟨v',h',fl',a1,a2,a3⟩:=Sl.append s1 (x:=.slice (some ⟨h.next,0,none⟩) 1 2) (k:=1) (bytes:=16) (z:=[.string ⟨#[]⟩]) (new:=[str s]) rfl (by decide) (by decide) rfl
   (fun _=>by simp[dT,jB,aA.rdN]) rfl rfl (by omega)
  simp only[a1,aZ]
  have nn:h.next+1≤h'.next:=by have:=a3.next;simpa using this
  have g2:h'.get b=some (.cells [vl,.map (some m)] 2 .rw):=by rw[a3.same b (by simp;omega) h4,bZ b hb];exact h1
  have gm:h'.get m=some (.map (g.map ME) clk):=by rw[a3.same m (by simp;omega) h5,bZ m hm];exact h2
  obtain⟨c1,c2⟩:=Sl.cell a2
  rw[nR g2 (by simp) c1 c2 (by simp)]
  simp only[bV,List.set_cons_zero]
  have bfl:b∉fl':=fun hx=>by
   rcases a3.new b hx with hx | hx
   ·exact h4 hx
   ·simp at hx;omega
  have mfl:m∉fl':=fun hx=>by
   rcases a3.new m hx with hx | hx
   ·exact h5 hx
   ·simp at hx;omega
  have kp:∀x,x≠b→(h'.put b (.cells [v',.map (some m)] 2 .rw)).get x=h'.get x:=fun x hx=>by simp[hx]
  have s2:Ts h' fl' v' (l++[s]):=by simpa[Ts]using a2
  have t2:To (h'.put b (.cells [v',.map (some m)] 2 .rw)) (b::m::fl') (ptr b 0) (l++[s]) g:=
   ⟨b,m,fl',v',clk,rfl,rfl,hne,by simp;omega,by simp;omega,by simp,by rw[kp m (Ne.symm hne)];exact gm,s2.same (by simp) fun x hx=>kp x fun e=>bfl (e▸hx),bfl,mfl,h6,h7⟩
  refine aK (aEl t2) ?_
  rintro r h'' ⟨rfl,rfl⟩
  have w:IntKind.i64.wrap (((l++[s]).length:Nat) - 1)=(l.length:Int):=by rw[wrap_i64 (by simp) (by simp;omega)];simp
  simp only[xP,aB,w]
  refine⟨trivial,_,t2,by simp;omega,fun x hx hn=>?_,fun x hx=>?_,t2.lt⟩
  ·simp only[List.mem_cons,not_or]at hn
   rw[kp x hn.1,a3.same x (by simp;omega) hn.2.2,bZ x hx]
  ·simp only[List.mem_cons]at hx ⊢
   rcases hx with rfl | rfl | hx
   ·simp
   ·simp
   ·rcases a3.new x hx with hx | hx
    ·simp[hx]
    ·simp at hx;right;omega
 ·have hd:(l.length:Int)≥64:=by omega
  simp only[hd,decide_true,if_neg hc,if_true]
  exact⟨trivial,trivial⟩
end Go.Abs
namespace Go.Abs
open Go
theorem cT {b w:Bool} {h:aA} {t:(V→aA→Prop)→Prop} {K:V→aA→Prop} (hb:b=w) (ht:t K):gdC (.bool b) w h t K:=
 gdC.intro K ⟨.inl ⟨hb,ht⟩,fun _ _ h=>h⟩
theorem cZ {b w:Bool} {h:aA} {t:(V→aA→Prop)→Prop} {K:V→aA→Prop} (hb:b≠w) (hk:K gone h):gdC (.bool b) w h t K:=
 gdC.intro K ⟨.inr ⟨hb,hk⟩,fun _ _ h=>h⟩
theorem Ms.len {h:aA} {fp:List Nat} {v:V} {l:List Msg} (s:Ms h fp v l):bH .slice v h=some (i64 l.length):=Sl.len s
end Go.Abs
namespace Go.Abs
open Go
variable {E:FE} {h:aA} {fp:List Nat} {p:V} {most next:Int} {items lost:List Msg}
theorem cY {k:EqK} {c:Bool} (a b:Int) (h1:-9223372036854775808≤a+b) (h2:a+b≤9223372036854775807):aC k .add c (i64 a) (i64 b) h=some (i64 (a+b)):=by
 rw[qX,wrap_i64 h1 h2]
theorem aEg {k:EqK} {c:Bool} (a b:Int) (h1:-9223372036854775808≤a - b) (h2:a - b≤9223372036854775807):aC k .sub c (i64 a) (i64 b) h=some (i64 (a - b)):=by
 rw[xP,wrap_i64 h1 h2]
end Go.Abs

/- The document's pairs: rising keys. The plain law. -/
import Derived.Test.YthhegdifbnghpaaGreatDoorQaw
import Derived.Test.YthhegdifbnghpaaGreatDoorQav
import Derived.Test.YthhegdifbnghpaaGreatDoorQas
import Derived.Test.YthhegdifbnghpaaGreatDoorQau
set_option linter.unusedSimpArgs false
set_option linter.unusedVariables false
namespace Go.Abs
open Go
def kl (a:ByteArray):List UInt8:=a.data.toList
theorem sO {a b:ByteArray} (h:kl a=kl b):a=b:=by
 obtain⟨⟨a⟩⟩:=a
 obtain⟨⟨b⟩⟩:=b
 have h':a=b:=h
 rw[h']
theorem iV (a:List UInt8):¬a<a:=List.lt_irrefl a
theorem vZ {a b c:List UInt8} (h:a<b) (h':b<c):a<c:=List.lt_trans h h'
theorem rC {a b:List UInt8} (h:¬a<b) (h':a≠b):b<a:=by
 have h1:b≤a:=List.not_lt.1 h
 rcases List.le_iff_lt_or_eq.1 h1 with h2 | h2
 ·exact h2
 ·exact absurd h2.symm h'
theorem aG5 {a b:List UInt8} (h:a<b):¬b<a:=fun h'=>iV a (vZ h h')
theorem aFn:∀(x y:List UInt8),Op.bytesLess x y=decide (x<y)
 | [],[]=>by simp[Op.bytesLess]
 | _::_,[]=>by simp[Op.bytesLess]
 | [],_::_=>by simp[Op.bytesLess]
 | a::x,b::y=>by
  rw[Op.bytesLess,aFn x y]
  simp only[List.cons_lt_cons_iff]
  by_cases h1:a<b<;>by_cases h2:a=b<;>by_cases h3:x<y<;>simp[h1,h2,h3]
theorem aYo (k:EqK) (c:Bool) (a b:ByteArray) {h:aA}:aC k .lss c (str a) (str b) h=some (.bool (decide (kl a<kl b))):=by
 rw[tE]
 show some (Value.bool (Op.bytesLess a.toList b.toList))=_
 rw[aFn,uY,uY]
 rfl
def oB (ps:List Pr):Prop:=ps.Pairwise fun a b=>kl a.key<kl b.key
def uA (k:ByteArray):List Pr→Nat
 | []=>0
 | p::l=>if kl p.key<kl k then uA k l+1 else 0
def cG (k:ByteArray):List Pr→Option Pr
 | []=>none
 | p::l=>if kl p.key<kl k then cG k l else if p.key=k then some p else none
def fB (q:Pr):List Pr→List Pr
 | []=>[q]
 | p::l=>if kl p.key<kl q.key then p::fB q l else if p.key=q.key then q::l else q::p::l
def iP (k:ByteArray):List Pr→List Pr
 | []=>[]
 | p::l=>if kl p.key<kl k then p::iP k l else if p.key=k then l else p::l
theorem aXc (k:ByteArray):∀l:List Pr,uA k l≤l.length
 | []=>Nat.le_refl _
 | p::l=>by
  have:=aXc k l
  simp only[uA,List.length_cons]
  split<;>omega
theorem put_eq (q:Pr):∀l:List Pr,fB q l=if (cG q.key l).isSome then l.set (uA q.key l) q else l.take (uA q.key l)++q::l.drop (uA q.key l)
 | []=>rfl
 | p::l=>by
  simp only[fB,cG,uA]
  by_cases h1:kl p.key<kl q.key
  ·simp only[if_pos h1,put_eq q l]
   split<;>rfl
  ·by_cases h2:p.key=q.key
   ·simp[h2,iV]
   ·simp[h1,h2]
theorem aK1 {k:ByteArray}:∀{l:List Pr},(∀p∈l,kl k<kl p.key)→cG k l=none
 | [],_=>rfl
 | p::l,h=>by
  have h1:=h p (by simp)
  have h2:¬p.key=k:=fun e=>iV _ (e▸h1)
  simp only[cG,if_neg (aG5 h1),if_neg h2]
theorem aK2 (k:ByteArray) (q:Pr):∀l:List Pr,cG k (fB q l)=if q.key=k then some q else cG k l
 | []=>by
  simp only[fB,cG]
  by_cases h:q.key=k
  ·simp[h,iV]
  ·simp[h]
 | p::l=>by
  have ih:=aK2 k q l
  simp only[fB]
  by_cases h1:kl p.key<kl q.key
  ·simp only[if_pos h1,cG,ih]
   by_cases h:q.key=k
   ·subst h;simp[h1]
   ·simp[h]
  ·by_cases h2:p.key=q.key
   ·simp only[if_neg h1,if_pos h2,cG]
    by_cases h:q.key=k
    ·simp[h,iV]
    ·simp only[h2,if_neg h]
   ·simp only[if_neg h1,if_neg h2]
    have h3:kl q.key<kl p.key:=rC h1 fun e=>h2 (sO e)
    rw[show cG k (q::p::l)=if kl q.key<kl k then cG k (p::l) else if q.key=k then some q else none from rfl]
    by_cases h:q.key=k
    ·simp[h,iV]
    ·by_cases h4:kl q.key<kl k
     ·simp[h,h4]
     ·have h5:kl k<kl q.key:=rC h4 fun e=>h (sO e)
      have h6:=vZ h5 h3
      have h7:¬p.key=k:=fun e=>iV _ (e▸h6)
      simp only[if_neg h,if_neg h4,cG,if_neg (aG5 h6),if_neg h7]
theorem aK0 (k k':ByteArray):∀{l:List Pr},oB l→cG k (iP k' l)=if k'=k then none else cG k l
 | [],_=>by simp[iP,cG]
 | p::l,hr=>by
  have hl:=(List.pairwise_cons.1 hr).1
  have ih:=aK0 k k' (l:=l) (List.pairwise_cons.1 hr).2
  simp only[iP]
  by_cases h1:kl p.key<kl k'
  ·simp only[if_pos h1,cG,ih]
   by_cases h:k'=k
   ·subst h;simp[h1]
   ·simp[h]
  ·by_cases h2:p.key=k'
   ·subst h2
    rw[if_neg (iV _),if_pos rfl]
    by_cases h:p.key=k
    ·subst h;rw[if_pos rfl];exact aK1 hl
    ·rw[if_neg h]
     simp only[cG,if_neg h]
     by_cases h3:kl p.key<kl k
     ·rw[if_pos h3]
     ·rw[if_neg h3]
      have h4:kl k<kl p.key:=rC h3 fun e=>h (sO e)
      exact aK1 fun x hx=>vZ h4 (hl x hx)
   ·simp only[if_neg h1,if_neg h2]
    have h3:kl k'<kl p.key:=rC h1 fun e=>h2 (sO e)
    by_cases h:k'=k
    ·subst h;simp[cG,h1,h2]
    ·simp[h]
theorem aMk {q x:Pr}:∀{l:List Pr},x∈fB q l→x=q∨x∈l
 | [],h=>by simp only[fB,List.mem_singleton]at h;exact .inl h
 | p::l,h=>by
  simp only[fB]at h
  split at h
  ·rcases List.mem_cons.1 h with rfl | h
   ·simp
   ·rcases aMk h with h | h<;>simp[h]
  ·split at h
   ·rcases List.mem_cons.1 h with rfl | h<;>simp[*]
   ·rcases List.mem_cons.1 h with rfl | h
    ·simp
    ·exact .inr h
theorem oB.put {q:Pr}:∀{l:List Pr},oB l→oB (fB q l)
 | [],_=>List.pairwise_singleton _ _
 | p::l,hr=>by
  obtain⟨hl,hr'⟩:=List.pairwise_cons.1 hr
  simp only[fB]
  split
  ·rename_i h1
   refine List.pairwise_cons.2 ⟨fun x hx=>?_,oB.put hr'⟩
   rcases aMk hx with rfl | hx
   ·exact h1
   ·exact hl x hx
  ·rename_i h1
   split
   ·rename_i h2
    exact List.pairwise_cons.2 ⟨fun x hx=>h2▸hl x hx,hr'⟩
   ·rename_i h2
    have h3:kl q.key<kl p.key:=rC h1 fun e=>h2 (sO e)
    refine List.pairwise_cons.2 ⟨fun x hx=>?_,hr⟩
    rcases List.mem_cons.1 hx with rfl | hx
    ·exact h3
    ·exact vZ h3 (hl x hx)
theorem aJx (k:ByteArray):∀l:List Pr,(iP k l).Sublist l
 | []=>List.Sublist.refl _
 | p::l=>by
  simp only[iP]
  split
  ·exact (aJx k l).cons_cons p
  ·split
   ·exact List.sublist_cons_self _ _
   ·exact List.Sublist.refl _
theorem oB.del {k:ByteArray} {l:List Pr} (h:oB l):oB (iP k l):=h.sublist (aJx k l)
theorem aGo {k:ByteArray}:∀{l:List Pr} {p:Pr},cG k l=some p→p∈l∧p.key=k
 | [],p,h=>by simp[cG]at h
 | q::l,p,h=>by
  simp only[cG]at h
  split at h
  ·have:=aGo h;exact⟨by simp[this.1],this.2⟩
  ·split at h
   ·cases h;exact⟨by simp,by assumption⟩
   ·cases h
theorem aGp {p:Pr}:∀{l:List Pr},oB l→p∈l→cG p.key l=some p
 | [],_,h=>by simp at h
 | q::l,hr,h=>by
  obtain⟨hl,hr'⟩:=List.pairwise_cons.1 hr
  rcases List.mem_cons.1 h with rfl | h
  ·simp[cG,iV]
  ·simp only[cG,if_pos (hl p h)]
   exact aGp hr' h
structure TW (g:List En) (ps:List Pr):Prop where
 rise:oB ps
 same:∀k,bD k g=(cG k ps).map fun p=>str p.val
theorem TW.nil:TW [] []:=⟨List.Pairwise.nil,fun _=>rfl⟩
theorem aOd {ps:List Pr} (h:oB ps):(ps.map (·.key)).Nodup:=
 List.pairwise_map.2 (h.imp fun {a b} hab (e:a.key=b.key)=>by rw[e]at hab;exact iV _ hab)
theorem TW.perm {g:List En} {ps:List Pr} (t:TW g ps) (hn:(bT g).Nodup):(bT g).Perm (ps.map (·.key)):=by
 refine (List.perm_ext_iff_of_nodup hn (aOd t.rise)).2 fun k=>?_
 have h1:k∈bT g↔bD k g≠none:=by
  rw[ne_eq,←get_none]
  simp
 rw[h1,t.same,ne_eq,Option.map_eq_none_iff]
 constructor
 ·intro h
  cases hh:cG k ps with
  | none=>exact absurd hh h
  | some p=>
   obtain⟨h2,h3⟩:=aGo hh
   exact List.mem_map.2 ⟨p,h2,h3⟩
 ·intro h e
  obtain⟨p,h2,rfl⟩:=List.mem_map.1 h
  rw[aGp t.rise h2]at e
  cases e
end Go.Abs
namespace Go.Abs
open Go
variable {E:FE} {h:aA} {fp:List Nat} {v:V}
theorem aYm (k:EqK) (c:Bool) (a b:ByteArray) {h:aA}:aC k .gtr c (str a) (str b) h=some (.bool (decide (kl b<kl a))):=by
 rw[tE]
 show some (Value.bool (!(Op.bytesLess a.toList b.toList||a.toList==b.toList)))=_
 rw[aFn,uY,uY]
 congr 2
 show (!(decide (kl a<kl b)||(kl a==kl b)))=decide (kl b<kl a)
 by_cases h1:kl a<kl b
 ·simp[h1,aG5 h1]
 ·by_cases h2:kl a=kl b
  ·simp[h2,iV]
  ·simp[h1,h2,rC h1 h2]
def oD (x y:Int):Int:=if x<y then -1 else if y<x then 1 else 0
def lX (x y:ByteArray):Int:=if kl x<kl y then -1 else if kl y<kl x then 1 else 0
theorem aR9 (x y:Int):cl (F.iM E) [i64 x,i64 y] h fun r h'=>r=i64 (oD x y)∧h'=h:=by
 have nan:∀(x:Int) (h:aA),cl (F.cmp_isNaN_int E) [i64 x] h fun r h'=>r = .bool false∧h'=h:=fun x h=>aN (by simp[F.cmp_isNaN_int])
 refine aN ?_
 simp only[F.iM]
 refine aK (nan x h) ?_
 rintro r h1 ⟨rfl,rfl⟩
 refine aK (nan y h1) ?_
 rintro r h2 ⟨rfl,rfl⟩
 simp only[aG,Bool.false_eq_true,if_false,cN,iK,aB,decide_eq_true_eq,oD,gt_iff_lt]
 split
 ·exact⟨rfl,trivial⟩
 ·split<;>exact⟨rfl,trivial⟩
theorem aSa (x y:Int):cl (F.iN E) [i64 x,i64 y] h fun r h'=>r=i64 (oD x y)∧h'=h:=by
 have nan:∀(x:Int) (h:aA),cl (F.gX E) [i64 x] h fun r h'=>r = .bool false∧h'=h:=fun x h=>aN (by simp[F.gX])
 refine aN ?_
 simp only[F.iN]
 refine aK (nan x h) ?_
 rintro r h1 ⟨rfl,rfl⟩
 refine aK (nan y h1) ?_
 rintro r h2 ⟨rfl,rfl⟩
 simp only[aG,Bool.false_eq_true,if_false,cN,iK,aB,decide_eq_true_eq,oD,gt_iff_lt]
 split
 ·exact⟨rfl,trivial⟩
 ·split<;>exact⟨rfl,trivial⟩
theorem aYp (k:EqK) (c:Bool) (a:ByteArray) {h:aA}:aC k .neq c (str a) (str a) h=some (.bool false):=by
 rw[tE]
 show some (Value.bool (!(a.toList==a.toList)))=_
 simp
theorem aJs (x y:ByteArray):cl (F.kX E) [str x,str y] h fun r h'=>r=i64 (lX x y)∧h'=h:=by
 have nan:∀(x:ByteArray) (h:aA),cl (F.cmp_isNaN_string E) [str x] h fun r h'=>r = .bool false∧h'=h:=fun x h=>aN (by
  simp only[F.cmp_isNaN_string,aYp,aB]
  exact⟨trivial,trivial⟩)
 refine aN ?_
 simp only[F.kX]
 refine aK (nan x h) ?_
 rintro r h1 ⟨rfl,rfl⟩
 refine aK (nan y h1) ?_
 rintro r h2 ⟨rfl,rfl⟩
 simp only[aG,Bool.false_eq_true,if_false,aYo,aYm,aB,decide_eq_true_eq,lX]
 split
 ·exact⟨rfl,trivial⟩
 ·split<;>exact⟨rfl,trivial⟩
def orI:List Int→Int
 | []=>0
 | x::l=>if x≠0 then x else orI l
def aFx:EL Int:=⟨1,fun x=>[i64 x],fun _=>rfl,fun _=>rfl,by decide⟩
theorem aHi:∀(l:List Int) (i:Nat),(∀j x,j<i→l[j]? = some x→x=0)→orI l=orI (l.drop i)
 | [],i,_=>by simp
 | x::l,0,_=>rfl
 | x::l,i+1,hz=>by
  have:x=0:=hz 0 x (by omega) rfl
  subst this
  rw[List.drop_succ_cons,←aHi l i fun j x hj hx=>hz (j+1) x (by omega) (by simpa using hx)]
  simp[orI]
theorem aNm {l:List Int} (s:SlE aFx h fp v l) (hsz:l.length≤1000):cl (F.fW E) [v] h fun r h'=>r=i64 (orI l)∧h'=h:=by
 refine aN ?_
 simp only[F.fW,s.len,aB]
 refine⟨fun n vs h'=>∃i:Nat,vs=[i64 i]∧n=l.length - i∧i≤l.length∧h'=h∧∀j x,j<i→l[j]? = some x→x=0,l.length,⟨0,rfl,by omega,by omega,rfl,fun j x hj=>by omega⟩,?_⟩
 rintro n e h1 ⟨i,he,rfl,hi,rfl,hz⟩
 simp only[List.cons.injEq,and_true]at he
 simp only[he,cN,aB,aG]
 by_cases hx:i<l.length
 ·have:((i:Nat):Int)<(l.length:Nat):=by omega
  simp only[this,decide_true,if_true]
  have hg:l[i]? = some l[i]:=List.getElem?_eq_getElem hx
  obtain⟨b,_,i1,_,i3⟩:=s.at hg
  have i1:aV (.slice 1) v (i64 i)=some (ptr b (i*1)):=i1
  have i3:=i3 0 (by decide)
  have i4:h1.rd b (i*1)=some (i64 l[i]):=i3
  simp only[i1,aB,aS,i4,gK,aG]
  have hd:=aHi l i hz
  rw[List.drop_eq_getElem_cons hx]at hd
  by_cases h0:l[i]=0
  ·have:(l[i] != 0)=false:=by simp[h0]
   simp only[this,Bool.false_eq_true,if_false]
   rw[cY _ 1 (by omega) (by omega),aB]
   refine⟨l.length - (i+1),by omega,i+1,by simp,rfl,by omega,trivial,fun j x hj hx'=>?_⟩
   by_cases hji:j=i
   ·subst hji
    rw[hg]at hx'
    cases hx'
    exact h0
   ·exact hz j x (by omega) hx'
  ·have:(l[i] != 0)=true:=by simp[h0]
   simp only[this,if_true]
   refine⟨?_,trivial⟩
   rw[hd,orI,if_pos h0]
 ·have:¬((i:Nat):Int)<(l.length:Nat):=by omega
  simp only[this,decide_false,Bool.false_eq_true,if_false]
  refine⟨?_,trivial⟩
  have hd:=aHi l i hz
  rw[List.drop_eq_nil_of_le (by omega)]at hd
  rw[hd]
  rfl
theorem SlE.lit {α:Type} (D:EL α) (h:aA) (l:List α) (hl:l≠[]):SlE D (h.new (.cells (D.flat l) D.es .rw)) [h.next] (.slice (some ⟨h.next,0,none⟩) l.length (2*l.length)) l:=
 ⟨D.qI l,.inr ⟨h.next,2*l.length,D.flat l,rfl,rfl,by simp,by omega,by simp,by rw[D.qI,Nat.mul_div_cancel_left _ (by decide)];exact Nat.le_refl _,by rw[←D.qI,List.take_length]⟩⟩
def iZ (a b:IdM):Int:=orI [oD a.client b.client,oD a.seq b.seq]
def allI (a b:bF):Int:=if a.all&&!b.all then -1 else if b.all&&!a.all then 1 else 0
def mQ (a b:bF):Int:=orI [lX a.space b.space,allI a b,lX a.key b.key]
theorem Mod.oO {o o':cH}:Mod h [] ((h.new o).new o') []:=
 ⟨by simp;omega,fun x hx _=>by
  have h1:x≠h.next:=by omega
  have h2:x≠h.next+1:=by omega
  simp[h1,h2],by simp,by simp⟩
theorem gQ (a b:IdM):cl (F.gQ E) [a.agg,b.agg] h fun r h'=>r=i64 (iZ a b)∧Mod h [] h' []:=by
 refine aN ?_
 have e0:∀(i:IdM) (h:aA),aY none i.agg h=some (ptr h.next 0,h.new (.cells [i64 i.client,i64 i.seq] 2 .rw)):=fun _ _=>rfl
 simp only[F.gQ,e0,aZ,rF]
 generalize hh:((h.new (.cells [i64 a.client,i64 a.seq] 2 .rw)).new (.cells [i64 b.client,i64 b.seq] 2 .rw))=h2
 have m2:Mod h [] h2 []:=by rw[←hh];exact Mod.oO
 have ga:h2.get h.next=some (.cells [i64 a.client,i64 a.seq] 2 .rw):=by rw[←hh];simp
 have gb:h2.get (h.next+1)=some (.cells [i64 b.client,i64 b.seq] 2 .rw):=by rw[←hh];simp
 have r1:h2.rd h.next 0=some (i64 a.client):=aH ga 0
 have r2:h2.rd h.next 1=some (i64 a.seq):=aH ga 1
 have r3:h2.rd (h.next+1) 0=some (i64 b.client):=aH gb 0
 have r4:h2.rd (h.next+1) 1=some (i64 b.seq):=aH gb 1
 simp only[bE,aB,aS,Nat.zero_add,r1,r2,r3,r4]
 refine aK (aR9 _ _) ?_
 rintro r h3 ⟨rfl,rfl⟩
 refine⟨r2,r4,?_⟩
 refine aK (aSa _ _) ?_
 rintro r h4 ⟨rfl,rfl⟩
 have eb:∀x y:Int,dN (some (1,[(.int .i64 0)])) 2 [(0,i64 x),(1,i64 y)] h4=some (.slice (some ⟨h4.next,0,none⟩) 2 4,h4.new (.cells [i64 x,i64 y] 1 .rw)):=fun _ _=>rfl
 rw[eb,aZ]
 have s:=SlE.lit aFx h4 [oD a.client b.client,oD a.seq b.seq] (by simp)
 refine aK (aNm s (by simp)) ?_
 rintro r h5 ⟨rfl,rfl⟩
 refine⟨rfl,m2.trans ⟨by simp,fun x hx _=>?_,by simp,by simp⟩⟩
 have:x≠h4.next:=by omega
 simp[this]
theorem fN (a b:bF):cl (F.fN E) [a.agg,b.agg] h fun r h'=>r=i64 (mQ a b)∧Mod h [] h' []:=by
 refine aN ?_
 have e0:∀(i:bF) (h:aA),aY none i.agg h=some (ptr h.next 0,h.new (.cells [str i.space,str i.key,.bool i.all] 3 .rw)):=fun _ _=>rfl
 simp only[F.fN,e0,aZ,rF]
 generalize hh:((h.new (.cells [str a.space,str a.key,.bool a.all] 3 .rw)).new (.cells [str b.space,str b.key,.bool b.all] 3 .rw))=h2
 have m2:Mod h [] h2 []:=by rw[←hh];exact Mod.oO
 have ga:h2.get h.next=some (.cells [str a.space,str a.key,.bool a.all] 3 .rw):=by rw[←hh];simp
 have gb:h2.get (h.next+1)=some (.cells [str b.space,str b.key,.bool b.all] 3 .rw):=by rw[←hh];simp
 have r0:h2.rd h.next 0=some (str a.space):=aH ga 0
 have r1:h2.rd h.next 1=some (str a.key):=aH ga 1
 have r2:h2.rd h.next 2=some (.bool a.all):=aH ga 2
 have r3:h2.rd (h.next+1) 0=some (str b.space):=aH gb 0
 have r4:h2.rd (h.next+1) 1=some (str b.key):=aH gb 1
 have r5:h2.rd (h.next+1) 2=some (.bool b.all):=aH gb 2
 refine⟨fun vs h'=>vs=[i64 (allI a b)]∧h'=h2,?_,?_⟩
 ·simp only[bE,aB,aS,Nat.zero_add,r2,r5]
  cases ha:a.all<;>cases hb:b.all<;>simp[aQ,aR,dE,aG,allI,ha,hb,r2,r5]
 rintro e2 h3 ⟨he,rfl⟩
 simp only[List.cons.injEq,and_true]at he
 simp only[he,bE,aB,aS,Nat.zero_add,r0,r1,r3,r4]
 refine aK (aJs _ _) ?_
 rintro r h4 ⟨rfl,rfl⟩
 refine⟨r1,r4,?_⟩
 refine aK (aJs _ _) ?_
 rintro r h5 ⟨rfl,rfl⟩
 have eb:∀x y z:Int,dN (some (1,[(.int .i64 0)])) 3 [(0,i64 x),(1,i64 y),(2,i64 z)] h5=some (.slice (some ⟨h5.next,0,none⟩) 3 6,h5.new (.cells [i64 x,i64 y,i64 z] 1 .rw)):=fun _ _ _=>rfl
 rw[eb,aZ]
 have s:=SlE.lit aFx h5 [lX a.space b.space,allI a b,lX a.key b.key] (by simp)
 refine aK (aNm s (by simp)) ?_
 rintro r h6 ⟨rfl,rfl⟩
 refine⟨rfl,m2.trans ⟨by simp,fun x hx _=>?_,by simp,by simp⟩⟩
 have:x≠h5.next:=by omega
 simp[this]
theorem aFt {x y:ByteArray}:lX x y=0↔x=y:=by
 unfold lX
 split
 ·rename_i h1
  constructor
  ·intro h;omega
  ·rintro rfl;exact absurd h1 (iV _)
 ·split
  ·rename_i h1
   constructor
   ·intro h;omega
   ·rintro rfl;exact absurd h1 (iV _)
  ·rename_i h1 h2
   constructor
   ·intro _
    by_cases e:kl x=kl y
    ·exact sO e
    ·exact absurd (rC h1 e) h2
   ·intro _;rfl
theorem aJr {x y:ByteArray}:lX x y<0↔kl x<kl y:=by
 unfold lX
 split
 ·rename_i h1;simp[h1]
 ·rename_i h1
  split<;>simp[h1]
theorem aWz:Ord iZ:=by
 have le:∀a b:IdM,iZ a b≤0↔a.client<b.client∨(a.client=b.client∧a.seq≤b.seq):=by
  intro a b
  simp only[iZ,orI,oD]
  split<;>split<;>(try split)<;>(try split)<;>(try split)<;>omega
 have lt:∀a b:IdM,iZ a b<0↔a.client<b.client∨(a.client=b.client∧a.seq<b.seq):=by
  intro a b
  simp only[iZ,orI,oD]
  split<;>split<;>(try split)<;>(try split)<;>(try split)<;>omega
 refine⟨fun x y z h1 h2=>?_,fun x y=>?_,fun x y h1 h2=>?_⟩
 ·rw[le]at h1 h2 ⊢;omega
 ·rw[lt,le];omega
 ·rw[le]at h1 h2
  cases x;cases y
  simp only[IdM.mk.injEq]at *
  omega
theorem aW0:Ord mQ:=by
 have key:∀a b:bF,(mQ a b<0↔kl a.space<kl b.space∨(a.space=b.space∧((a.all=true∧b.all=false)∨(a.all=b.all∧kl a.key<kl b.key))))∧(mQ a b=0↔a=b):=by
  intro a b
  obtain⟨s,k,x⟩:=a
  obtain⟨s',k',x'⟩:=b
  have hs:=@aFt s s'
  have hl:=@aJr s s'
  have ks:=@aFt k k'
  have kl':=@aJr k k'
  simp only[mQ,orI,bF.mk.injEq]
  by_cases h1:lX s s'=0
  ·have e:=hs.1 h1
   have hn:¬kl s<kl s':=fun hh=>by rw[e]at hh;exact iV _ hh
   simp only[h1,ne_eq,not_true_eq_false,if_false]
   cases x<;>cases x'<;>simp[allI,e,iV]
   all_goals
    by_cases h2:lX k k'=0
    ·have e2:=ks.1 h2
     have e3:∀x,lX x x=0:=fun x=>aFt.2 rfl
     simp[h2,e2,iV,e3]
    ·have e2:¬k=k':=fun hh=>h2 (ks.2 hh)
     simp[h2,e2,kl']
  ·have e:¬s=s':=fun hh=>h1 (hs.2 hh)
   simp[h1,e,hl]
 have le:∀a b:bF,mQ a b≤0↔mQ a b<0∨a=b:=fun a b=>by
  rw[←(key a b).2];omega
 have tr:∀x y z,mQ x y<0→mQ y z<0→mQ x z<0:=by
  intro x y z h1 h2
  rw[(key _ _).1]at h1 h2 ⊢
  obtain⟨s,k,a⟩:=x
  obtain⟨s',k',a'⟩:=y
  obtain⟨s2,k2,a2⟩:=z
  simp only at *
  rcases h1 with h1 | ⟨rfl,h1⟩<;>rcases h2 with h2 | ⟨rfl,h2⟩
  ·exact .inl (vZ h1 h2)
  ·exact .inl h1
  ·exact .inl h2
  ·right
   refine⟨rfl,?_⟩
   rcases h1 with ⟨rfl,rfl⟩ | ⟨rfl,h1⟩<;>rcases h2 with ⟨e1,rfl⟩ | ⟨rfl,h2⟩
   ·cases e1
   ·exact .inl ⟨rfl,rfl⟩
   ·exact .inl ⟨e1,rfl⟩
   ·exact .inr ⟨rfl,vZ h1 h2⟩
 have irr:∀x,¬mQ x x<0:=fun x hx=>by
  have:=(key x x).2.2 rfl
  omega
 refine⟨fun x y z h1 h2=>?_,fun x y=>?_,fun x y h1 h2=>?_⟩
 ·rw[le]at h1 h2 ⊢
  rcases h1 with h1 | rfl
  ·rcases h2 with h2 | rfl
   ·exact .inl (tr _ _ _ h1 h2)
   ·exact .inl h1
  ·exact h2
 ·by_cases e:x=y
  ·right;rw[le];exact .inr e.symm
  ·by_cases h1:mQ x y<0
   ·exact .inl h1
   ·right
    rw[le]
    left
    rw[(key _ _).1]at h1 ⊢
    obtain⟨s,k,a⟩:=x
    obtain⟨s',k',a'⟩:=y
    simp only[not_or,not_and]at h1
    simp only
    by_cases es:s=s'
    ·subst es
     right
     refine⟨rfl,?_⟩
     have h2:=h1.2 rfl
     cases a<;>cases a'<;>simp at h2 ⊢
     all_goals
      have hk:¬k=k':=fun hh=>e (by rw[hh])
      exact rC h2 fun hh=>hk (sO hh)
    ·exact .inl (rC h1.1 fun hh=>es (sO hh))
 ·rw[le]at h1 h2
  rcases h1 with h1 | rfl
  ·rcases h2 with h2 | rfl
   ·exact absurd (tr _ _ _ h1 h2) (irr x)
   ·rfl
  ·rfl
theorem aSb {E1:FE} (hE:E.I (E.k 9)=some (cl (F.fN E1))):zP E bG (.func (.func (E.k 9)) #[] #[]) mQ:=fun h x y=>by
 unfold cR
 simp only[hE]
 exact fN x y
end Go.Abs
namespace Go.Abs
open Go
variable {E:FE} {h:aA} {fp:List Nat} {v:V}
theorem aWy (x y:IdM):iZ x y<0↔pF x y:=by
 simp only[iZ,orI,oD,pF]
 split<;>split<;>(try split)<;>(try split)<;>(try split)<;>omega
theorem aWx (x y:IdM):iZ x y≤0↔yP x y:=by
 simp only[iZ,orI,oD,yP]
 split<;>split<;>(try split)<;>(try split)<;>(try split)<;>omega
theorem aYb {l:List IdM} (s:SlE dId h fp v l) (hn:l.length≤1000000) :
 cl (Go.Abs.F.nO E) [v,.func (.func (E.k 10)) #[] #[]] h fun r h'=>∃l',l'.Perm l∧gH iZ l'∧SlE dId h' fp v l'∧Mod h fp h' fp:=by
 refine aN ?_
 obtain⟨h0,⟨rfl,h1,rfl⟩ | ⟨b,c,all,rfl,rfl,hb,hc,h2,h3,h4⟩⟩:=s
 ·have hl:l=[]:=List.eq_nil_of_length_eq_zero h1
  subst hl
  exact⟨rfl,rfl,rfl,[],List.Perm.refl _,List.Pairwise.nil,SlE.nil (D:=dId),Mod.refl (by simp)⟩
 ·have h0:(cB l).length=l.length*2:=h0
  have h2:h.get b=some (.cells all 2 .rw):=h2
  have h3:c / 2*2≤all.length:=h3
  have h4:all.take (l.length*2)=cB l:=h4
  refine⟨rfl,rfl,rfl,l,all,h2,rfl,h4,hn,fun l' hp hw=>?_⟩
  have hll:=hp.length_eq
  have hfl:=sJ l'
  have hal:l.length*2≤all.length:=by omega
  refine⟨l',hp,hw.imp fun h=>(aWx _ _).2 h,?_,?_⟩
  ·refine⟨hfl,.inr ⟨b,c,cB l'++all.drop (l.length*2),by rw[hll],rfl,by simpa[aA.put]using hb,by omega,by simp[aA.put];rfl,?_,?_⟩⟩
   ·show c / 2*2≤_
    rw[List.length_append,List.length_drop]
    omega
   ·show List.take (l'.length*2) _=cB l'
    rw[←hfl,List.take_left']
    rfl
  ·exact⟨by simp[aA.put],fun x _ hx=>by
    have:x≠b:=by simpa using hx
    simp[aA.put,this],fun x hx=>.inl hx,fun x hx=>by simp at hx;subst hx;simpa[aA.put]using hb⟩
end Go.Abs
namespace Go.Abs
open Go
variable {E:FE} {h h':aA} {fp:List Nat} {p:V} {s:SpM}
section
variable {α:Type} (f:α→List V) (n:Nat) (hf:∀a,(f a).length=n)
include hf
theorem aKs (l:List α):∀i,(l.flatMap f).drop (i*n)=(l.drop i).flatMap f:=by
 induction l with
 | nil=>intro i;simp
 | cons a l ih=>
  intro i
  cases i with
  | zero=>simp
  | succ i=>
   have e:(f a).drop (i*n+n)=[]:=List.drop_of_length_le (by rw[hf];omega)
   rw[List.drop_succ_cons,List.flatMap_cons,Nat.succ_mul,List.drop_append,e,hf,Nat.add_sub_cancel,ih,List.nil_append]
theorem aTv (l:List α) {i:Nat} {a:α} (hi:l[i]? = some a) {j:Nat} (hj:j<n):(l.flatMap f)[i*n+j]? = (f a)[j]?:=by
 have h1:=congrArg (fun x=>x[j]?) (aKs f n hf l i)
 simp only[List.getElem?_drop]at h1
 rw[h1]
 have hl:i<l.length:=(List.getElem?_eq_some_iff.1 hi).1
 have ha:l[i]=a:=(List.getElem?_eq_some_iff.1 hi).2
 rw[List.drop_eq_getElem_cons hl,List.flatMap_cons,List.getElem?_append_left (by rw[hf];exact hj),ha]
end
theorem Sl.at {v:V} {es n:Nat} {cs:List V} (c:Sl h fp v es n cs) {i:Nat} (hi:i<n) :
 ∃b,fp=[b]∧aV (.slice es) v (i64 i)=some (ptr b (i*es))∧∀j,j<es→h.rd b (i*es+j)=cs[i*es+j]?:=by
 obtain⟨h0,⟨rfl,h1,rfl⟩ | ⟨b,cp,all,rfl,rfl,hb,hc,h2,h3,h4⟩⟩:=c
 ·omega
 have b1:(0:Int)≤(i:Int)∧(i:Int)<(n:Nat):=by omega
 refine⟨b,rfl,by simp only[aV,if_pos b1,Int.toNat_natCast,Nat.zero_add],fun j hj=>?_⟩
 have:(i+1)*es≤n*es:=Nat.mul_le_mul_right _ hi
 rw[Nat.succ_mul]at this
 rw[aH h2,←h4,List.getElem?_take,if_pos (by omega)]
theorem aNu (p:Pr):p.cells.length=3:=rfl
variable {b:Nat} {fP fI fL:List Nat} {vP vI vL:V}
theorem Prs.at {v:V} {l:List Pr} (c:Prs h fp v l) {i:Nat} {q:Pr} (hi:l[i]? = some q) :
 ∃b,fp=[b]∧aV (.slice 3) v (i64 i)=some (ptr b (i*3))∧h.rd b (i*3)=some (str q.key)∧h.rd b (i*3+1)=some (str q.val)∧h.rd b (i*3+2)=some (i64 q.at_):=by
 obtain⟨b,h1,h2,h3⟩:=Sl.at c (List.getElem?_eq_some_iff.1 hi).1
 have k:=fun j hj=>(h3 j hj).trans (aTv Pr.cells 3 aNu l hi hj)
 exact⟨b,h1,h2,k 0 (by decide),k 1 (by decide),k 2 (by decide)⟩
abbrev Pr.agg (q:Pr):V:=.agg #[str q.key,str q.val,i64 q.at_]
end Go.Abs
namespace Go.Abs
open Go Go.Proofs
variable {E:FE} {h:aA} {fp:List Nat} {p:V} {l:List En}
theorem aYw (t:Tab h fp p l):cl (F.kM E) [p] h fun r h'=>∃fp',Tab h' fp' r l∧Mod h [] h' fp':=by
 obtain⟨b,m,clk,rfl,rfl,hne,hb,hm,h1,h2,hn⟩:=t
 refine aN ?_
 simp only[F.kM,dA,aB,aG,Bool.false_eq_true,if_false,bK,bE,aS,Nat.zero_add,aH h1,List.getElem?_cons_zero]
 refine aN ?_
 simp only[F.oJ,aMg,aB,aG,Bool.false_eq_true,if_false,iface]
 refine aN ?_
 simp only[F.pL,L.clone,h2,qW,beq_self_eq_true,Bool.and_self,if_true,Bool.false_eq_true,if_false,aB]
 have e1:∀x:Nat,cA (.struct [(.map none)] [(0,1)]) [(0,.map (some x))]=some (.agg #[.map (some x)]):=fun _=>rfl
 have e2:∀(x:Nat) (g:aA),aY none (.agg #[.map (some x)]) g=some (ptr g.next 0,g.new (.cells [.map (some x)] 1 .rw)):=fun _ _=>rfl
 simp only[e1,e2,aB,aZ]
 refine⟨[h.next+1,h.next],⟨h.next+1,h.next,clk,by simp,rfl,by simp,by simp,by simp;omega,by simp,by simp,hn⟩,by simp;omega,fun x hx _=>?_,fun x hx=>?_,fun x hx=>?_⟩
 ·have a:x≠h.next:=by omega
  have a':x≠h.next+1:=by omega
  simp[a,a']
 ·simp at hx;right;omega
 ·simp at hx ⊢;omega
theorem aHz (es:List MapEntry):(eR es).length=es.length:=by rw[eR,List.length_mergeSort,List.length_map]
theorem aOy (ks:List (List UInt8)) (h:aA):∃fp',Sl (rN ks h) fp' (sZ ks h) 1 ks.length (ks.map encStr)∧Mod h [] (rN ks h) fp':=by
 unfold rN sZ
 by_cases hk:ks=[]
 ·subst hk
  exact⟨[],Sl.nil,Mod.refl (by simp)⟩
 ·rw[if_neg hk,if_neg hk]
  refine⟨[h.next],⟨by simp,.inr ⟨h.next,2*ks.length+1,ks.map encStr,rfl,rfl,by simp,by omega,by simp,by simp;omega,by rw[Nat.mul_one,List.take_of_length_le (by simp)]⟩⟩,by simp,fun x hx _=>?_,by simp,by simp⟩
  have a:x≠h.next:=by omega
  simp[a]
theorem aLp {b:Nat} {es:Nat} {m clk g:Nat} (hb:h.get b=some (.cells [.map (some m)] es .rw)) (hm:h.get m=some (.map (l.map ME) clk)) (hn:(bT l).Nodup∧Stp l clk) (hs:∀e∈l,e.k.size≤maxLen) (hl:l.length≤1000)
 (hg:g=E.k 3∨g=E.k 4∨g=E.k 12) {K:V→aA→Prop} (hK:K (sZ (eR (l.map ME)) h) (rN (eR (l.map ME)) h)):F.oW E [.func (.func g) #[] #[ptr b 0]] h K:=by
 refine⟨rfl,hg,b,m,l.map ME,clk,es,.rw,rfl,hb,hm,by simpa using hl,fun x hx=>?_,?_,?_,hK⟩
 ·obtain⟨e,he,rfl⟩:=List.mem_map.1 hx
  exact⟨⟨e.k,rfl,hs e he⟩,hn.2.2 e he⟩
 ·rw[List.map_map]
  exact hn.2.1
 ·rw[List.map_map]
  have h1:=hn.1
  unfold bT at h1
  refine List.pairwise_map.2 ((List.pairwise_map.1 h1).imp fun {a b} hab e=>hab ?_)
  simpa[ME]using e
theorem aYx (t:Tab h fp p l) (hs:∀e∈l,e.k.size≤maxLen) (hl:l.length≤1000) :
 cl (F.jE E) [p] h fun r h'=>∃fp',Sl h' fp' r 1 l.length ((eR (l.map ME)).map encStr)∧Mod h [] h' fp':=by
 obtain⟨b,m,clk,rfl,rfl,hne,hb,hm,h1,h2,hn⟩:=t
 refine aN ?_
 simp only[F.jE,dA,aB,aG,Bool.false_eq_true,if_false,bK,bE,aS,Nat.zero_add,aH h1,List.getElem?_cons_zero]
 refine aN ?_
 have e2:aY none (.map (some m)) h=some (ptr h.next 0,h.new (.cells [.map (some m)] 1 .rw)):=rfl
 simp only[F.oN,e2,aZ]
 refine aN ?_
 have m0:Mod h [] (h.new (.cells [.map (some m)] 1 .rw)) []:=Mod.eZ (by simp)
 show F.oW E _ _ _
 refine aLp (l:=l) (b:=h.next) (m:=m) (clk:=clk) (es:=1) (by simp) (by simp[Nat.ne_of_lt hm,h2]) hn hs hl (.inl rfl) ?_
 obtain⟨fp',q1,q2⟩:=aOy (eR (l.map ME)) (h.new (.cells [.map (some m)] 1 .rw))
 rw[aHz,List.length_map]at q1
 exact⟨fp',q1,m0.trans q2⟩
end Go.Abs

/- Specs on abstract heaps, part 9: topics: Seek, Fetch. -/
import Derived.Test.YthhegdifbnghpaaGreatDoorQau
import Derived.Laws.Strings
set_option linter.unusedSimpArgs false
set_option linter.unusedVariables false
namespace Go.Abs
open Go
variable {E:FE} {h:aA} {fp:List Nat} {p:V} {l:List ByteArray} {g:List En}
def atN (k:ByteArray) (g:List En):Int:=match bD k g with | some (.int _ n)=>n | _=>0
theorem qJ {k:ByteArray} {v:V}:∀{g:List En},bD k g=some v→∃e∈g,e.v=v
 | [],h=>by simp[bD]at h
 | e::g,h=>by
  simp only[bD]at h
  split at h
  ·exact⟨e,by simp,by simpa using h⟩
  ·obtain⟨e',he,hv⟩:=qJ h
   exact⟨e',by simp[he],hv⟩
theorem aAd {k:ByteArray} (hg:∀e∈g,∃n:Int,e.v=i64 n):atE k g=i64 (atN k g):=by
 unfold atE atN
 cases hk:bD k g with
 | none=>rfl
 | some v=>
  obtain⟨e,he,hv⟩:=qJ hk
  obtain⟨n,hn⟩:=hg e he
  rw[←hv,hn]
  rfl
theorem aMi {k:ByteArray} {v:V} {c:Nat}:∀{g:List En} {e:En},e∈cM k v c g→e∈g∨e.v=v
 | [],e,h=>by simp[cM]at h;right;rw[h]
 | a::g,e,h=>by
  simp only[cM]at h
  split at h
  ·simp only[List.mem_cons]at h
   rcases h with rfl | h
   ·exact .inr rfl
   ·exact .inl (by simp[h])
  ·simp only[List.mem_cons]at h
   rcases h with rfl | h
   ·exact .inl (by simp)
   ·rcases aMi h with h | h
    ·exact .inl (by simp[h])
    ·exact .inr h
theorem aY9 (t:To h fp p l g) (k:ByteArray) (fr to:Int) :
 cl (F.nW E) [p,str k,i64 fr,i64 to] h fun r h'=>
  if atN k g=fr∧fr≤to∧to≤l.length∧((bD k g).isSome∨g.length<16) then r = .bool true∧∃c,To h' fp p l (cM k (i64 to) c g)∧Mod h fp h' fp
  else r = .bool false∧h'=h:=by
 have hlt:=t.lt
 have t0:=t
 obtain⟨b,m,fl,vl,clk,rfl,rfl,hne,hb,hm,h1,h2,h3,h4,h5,h6,h7⟩:=t
 refine aN ?_
 simp only[F.nW,dA,aB,aQ,if_true,aR]
 refine cT rfl (aK (aEj t0 k) ?_)
 rintro r h' ⟨rfl,rfl⟩
 rw[aAd h7]
 simp only[gK,aB,aR,aQ,Bool.false_eq_true,if_false]
 by_cases ha:atN k g=fr
 ·have e1:(atN k g != fr)=false:=by simp[ha]
  simp only[e1,cN,aB,aQ,if_true,aR,Bool.false_eq_true,if_false]
  by_cases hb1:to<fr
  ·have e2:decide (to<fr)=true:=by simpa using hb1
   simp only[e2,Bool.true_eq_false,if_false,aB,if_true]
   refine cZ (by decide) ?_
   simp only[aQ,Bool.true_eq_false,if_false,aB,aR,if_true,aG]
   rw[if_neg (by omega)]
   exact⟨trivial,trivial⟩
  ·have e2:decide (to<fr)=false:=by simpa using hb1
   simp only[e2,if_true,aB,Bool.false_eq_true,if_false]
   refine cT rfl (aK (aEl t0) ?_)
   rintro r h' ⟨rfl,rfl⟩
   simp only[iK,aB,aQ,if_true,aR,Bool.false_eq_true,if_false]
   by_cases hc:to > (l.length:Int)
   ·have e3:decide (to > (l.length:Int))=true:=by simpa using hc
    simp only[e3,aG,if_true]
    rw[if_neg (by omega)]
    exact⟨trivial,trivial⟩
   ·have e3:decide (to > (l.length:Int))=false:=by simpa using hc
    simp only[e3,aG,Bool.false_eq_true,if_false,bK,aB,bE,aS,aH h1,Nat.zero_add,List.getElem?_cons_succ,List.getElem?_cons_zero,aB0 h2]
    have fin:(bD k g).isSome=true∨g.length<16→kH (cU (some (.string,(some (.int .i64 0)))) (.map (some m)) (str k) (i64 to) h') fun _ h=>
     if atN k g=fr∧fr≤to∧to≤↑l.length∧((bD k g).isSome=true∨g.length<16) then (Value.bool true:V) = .bool true∧∃c,To h (b::m::fl) (ptr b 0) l (cM k (i64 to) c g)∧Mod h' (b::m::fl) h (b::m::fl)
     else (Value.bool true:V) = .bool false∧h=h':=by
     intro hs
     rw[aPg h2]
     simp only[bV]
     rw[if_pos ⟨ha,by omega,by omega,hs⟩]
     refine⟨trivial,clk,⟨b,m,fl,vl,(if bD k g=none then clk+1 else clk),rfl,rfl,hne,by simpa using hb,by simpa using hm,?_,?_,?_,h4,h5,⟨aCk h6.1,aO5 h6.2⟩,?_⟩,by simp,fun x hx hn=>?_,fun x hx=>.inl hx,fun x hx=>by simpa using hlt x hx⟩
     ·simp[hne,h1]
     ·simp
     ·exact h3.same (by simp) fun x hx=>by
       have:x≠m:=fun e=>h5 (e▸hx)
       simp[this]
     ·intro e he
      rcases aMi he with he | he
      ·exact h7 e he
      ·exact⟨to,he⟩
     ·have:x≠m:=fun e=>hn (by simp[e])
      simp[this]
    cases hk:bD k g with
    | some v=>
     rw[hk]at fin
     simp only[bU,List.getElem?_toArray,List.getElem?_cons_zero,List.getElem?_cons_succ,aB,Option.isSome_some,dE,Bool.not_true,aQ,Bool.false_eq_true,if_false,aR,if_true,aG]
     simpa using fin (.inl rfl)
    | none=>
     rw[hk]at fin
     have lm:bH .map (.map (some m)) h'=some (i64 g.length):=by simp[bH,h2]
     simp only[bU,List.getElem?_toArray,List.getElem?_cons_zero,List.getElem?_cons_succ,aB,Option.isSome_none,dE,Bool.not_false,aQ,if_true,bK,bE,aS,aH h1,Nat.zero_add,lm,fH,aR,aG]
     by_cases h16:(g.length:Int)≥16
     ·have e4:decide ((g.length:Int)≥16)=true:=by simpa using h16
      simp only[e4,if_true]
      rw[if_neg (by simp;omega)]
      exact⟨trivial,trivial⟩
     ·have e4:decide ((g.length:Int)≥16)=false:=by simpa using h16
      simp only[e4,Bool.false_eq_true,if_false]
      simpa using fin (.inr (by omega))
 ·have e1:(atN k g != fr)=true:=by simpa using ha
  simp only[e1,Bool.true_eq_false,if_false,aB,aQ,if_true,aR]
  refine cZ (by decide) ?_
  simp only[aQ,Bool.true_eq_false,if_false,aB,aR,if_true,aG]
  rw[if_neg (by omega)]
  exact⟨trivial,trivial⟩
theorem Sl.mid {fp:List Nat} {v:V} {es n:Nat} {cs:List V} (s:Sl h fp v es n cs) {a z:Nat} {t t':IntKind} (ha:a<z) (hz:z≤n) :
 ∃v',cK (.slice es) v (some (.int t a)) (some (.int t' z)) none h=some v'∧(∃b,aC .slice .eql true v' (.slice none 0 0) h=some (.bool b)∧b=false) ∧
  (∀o,dX v'=some (z - a)∧dT es v' (h.new o)=some ((cs.drop (a*es)).take ((z - a)*es))):=by
 obtain⟨h0,⟨rfl,rfl,rfl⟩ | ⟨b,c,all,rfl,rfl,hb,h1,h2,h3,h4⟩⟩:=s
 ·omega
 ·have hsl:cK (.slice es) (.slice (some ⟨b,0,none⟩) n c) (some (.int t a)) (some (.int t' z)) none h=some (.slice (some ⟨b,0+a*es,none⟩) (z - a) (if a=0 then c else c - 2*a)):=by
   have e1:(z:Int)≤((c / 2:Nat):Int):=by omega
   have e2:(a:Int)≤(z:Int):=by omega
   have e3:a<c / 2:=by omega
   simp only[cK,h2,if_true,cD,dL,Int.natCast_nonneg,true_and,if_pos e1,if_pos e2,Int.toNat_natCast]
   by_cases a0:a=0
   ·subst a0;simp
   ·rw[if_neg a0,if_pos e3,if_neg a0]
  refine⟨_,hsl,⟨false,rfl,rfl⟩,fun o=>⟨rfl,?_⟩⟩
  have hne:b≠h.next:=Nat.ne_of_lt hb
  have h2':(h.new o).get b=some (.cells all es .rw):=by simp[hne,h2]
  show (h.new o).rdN b (0+a*es) ((z - a)*es)=_
  have l1:a*es≤z*es:=Nat.mul_le_mul_right _ (by omega)
  have l2:z*es≤n*es:=Nat.mul_le_mul_right _ hz
  have l3:n*es≤all.length:=Nat.le_trans (Nat.mul_le_mul_right _ h1) h3
  rw[kG h2',Nat.sub_mul,if_pos (by omega),←h4,Nat.zero_add,List.drop_take,List.take_take]
  congr 2
  omega
theorem aPd (t:To h fp p l g) (k:ByteArray) (hk:0≤atN k g∧atN k g≤l.length) (most:Int) (hsz:l.length≤1000000) :
 cl (F.jF E) [p,str k,i64 most] h fun r h'=>∃fp',Ts h' fp' r ((l.drop (atN k g).toNat).take (min (max most 0) (l.length - atN k g)).toNat)∧Mod h [] h' fp':=by
 have t0:=t
 obtain⟨b,m,fl,vl,clk,rfl,rfl,hne,hb,hm,h1,h2,h3,h4,h5,h6,h7⟩:=t
 refine aN ?_
 simp only[F.jF]
 refine aK (aEj t0 k) ?_
 rintro r h' ⟨rfl,rfl⟩
 rw[aAd h7]
 simp only[max2,aB]
 refine aK (aEl t0) ?_
 rintro r h' ⟨rfl,rfl⟩
 generalize atN k g=a at hk
 rw[aEg _ _ (by omega) (by omega)]
 simp only[aB,min2,pY,aG]
 generalize hn:min (max most 0) ((l.length:Int) - a)=n
 by_cases hn0:n≤0
 ·simp only[hn0,decide_true,if_true]
  refine⟨[],?_,Mod.refl (by simp)⟩
  rw[show n.toNat=0 by omega]
  exact Sl.nil
 ·simp only[hn0,decide_false,Bool.false_eq_true,if_false,bK,aB,bE,aS,aH h1,Nat.zero_add,List.getElem?_cons_zero]
  rw[cY a n (by omega) (by omega),aB]
  obtain⟨v',e1,⟨bb,e2,rfl⟩,e3⟩:=Sl.mid h3 (t:=.i64) (t':=.i64) (a:=a.toNat) (z:=(a+n).toNat) (by omega) (by omega)
  rw[show ((a.toNat:Nat):Int)=a by omega,show (((a+n).toNat:Nat):Int)=a+n by omega]at e1
  rw[e1,aB]
  have hl:((l.map str).drop (a.toNat*1)).take (((a+n).toNat - a.toNat)*1)=((l.drop a.toNat).take n.toNat).map str:=by
   rw[List.map_take,List.map_drop,Nat.mul_one,Nat.mul_one,show (a+n).toNat - a.toNat=n.toNat by omega]
  refine aK (aJp (n:=(a+n).toNat - a.toNat) (new:=((l.drop a.toNat).take n.toNat).map str) ⟨false,e2,fun h=>by cases h⟩ (fun o=>by rw[←hl];exact e3 o) (by simp;omega) (aO7 _) (by omega)) ?_
  rintro r h'' ⟨fp',s,d⟩
  refine⟨fp',?_,d⟩
  have hlen:((l.drop a.toNat).take n.toNat).length=(a+n).toNat - a.toNat:=by simp;omega
  unfold Ts
  rw[hlen]
  exact s
end Go.Abs
namespace Go.Abs
open Go
def Ro (N:Nat) (h:aA) (v:V) (es n:Nat) (cs:List V):Prop:=
 cs.length=n*es∧N≤h.next∧((v = .slice none 0 0∧n=0) ∨
  ∃b o c all,v = .slice (some ⟨b,o,none⟩) n c∧b<N∧n≤c / 2∧h.get b=some (.cells all es .ro)∧(all.drop o).take (n*es)=cs)
variable {N:Nat} {h h':aA} {v:V} {es n:Nat} {cs:List V} {fp fp':List Nat}
theorem Ro.mod (s:Ro N h v es n cs) (m:Mod h fp h' fp') (hf:∀x∈fp,N≤x):Ro N h' v es n cs:=by
 obtain⟨h0,h1,⟨rfl,rfl⟩ | ⟨b,o,c,all,rfl,hb,hc,hg,ha⟩⟩:=s
 ·exact⟨h0,Nat.le_trans h1 m.next,.inl ⟨rfl,rfl⟩⟩
 ·refine⟨h0,Nat.le_trans h1 m.next,.inr ⟨b,o,c,all,rfl,hb,hc,?_,ha⟩⟩
  rw[m.same b (by omega) fun hx=>by have:=hf b hx;omega,hg]
theorem Ro.len (s:Ro N h v es n cs) (h':aA):bH .slice v h'=some (i64 n):=by
 obtain⟨_,_,⟨rfl,rfl⟩ | ⟨b,o,c,all,rfl,_⟩⟩:=s<;>rfl
theorem Ro.at (s:Ro N h v es n cs) {i:Nat} (hi:i<n) :
 ∃b off,aV (.slice es) v (i64 i)=some (ptr b off)∧∀j,j<es→h.rd b (off+j)=cs[i*es+j]?:=by
 obtain⟨h0,h1,⟨rfl,rfl⟩ | ⟨b,o,c,all,rfl,hb,hc,hg,ha⟩⟩:=s
 ·omega
 ·refine⟨b,o+i*es,?_,fun j hj=>?_⟩
  ·have:(0:Int)≤i∧(i:Int)<n:=by omega
   simp only[aV,if_pos this,Int.toNat_natCast]
  ·have hl:i*es+j<n*es:=by
    have:(i+1)*es≤n*es:=Nat.mul_le_mul_right _ hi
    rw[Nat.add_mul,Nat.one_mul]at this
    omega
   rw[aH hg,←ha,List.getElem?_take,if_pos hl,List.getElem?_drop,Nat.add_assoc]
structure OpA where
 kind:Int
 key:ByteArray
 val:ByteArray
 a:Int
 b:Int
 now:Int
 deriving Inhabited
def OpA.cells (o:OpA):List V:=[i64 o.kind,str o.key,str o.val,i64 o.a,i64 o.b,i64 o.now]
def Ops (N:Nat) (h:aA) (v:V) (l:List OpA):Prop:=Ro N h v 6 l.length (l.flatMap OpA.cells)
theorem aNk:∀(l:List OpA) (i:Nat) (o:OpA),l[i]? = some o→∀j,j<6→(l.flatMap OpA.cells)[i*6+j]? = o.cells[j]?
 | [],i,o,h,_,_=>by simp at h
 | a::l,0,o,h,j,hj=>by
  simp only[List.getElem?_cons_zero,Option.some.injEq]at h
  subst h
  rw[List.flatMap_cons,List.getElem?_append_left (by simp[OpA.cells];omega)]
  simp
 | a::l,i+1,o,h,j,hj=>by
  rw[List.getElem?_cons_succ]at h
  rw[List.flatMap_cons,List.getElem?_append_right (by simp[OpA.cells];omega),←aNk l i o h j hj]
  congr 1
  simp[OpA.cells]
  omega
theorem Ops.at {l:List OpA} (s:Ops N h v l) {i:Nat} {o:OpA} (hi:l[i]? = some o) :
 ∃b off,aV (.slice 6) v (i64 i)=some (ptr b off)∧h.rd b off=some (i64 o.kind)∧h.rd b (off+1)=some (str o.key)∧h.rd b (off+2)=some (str o.val)∧h.rd b (off+3)=some (i64 o.a) ∧
  h.rd b (off+4)=some (i64 o.b)∧h.rd b (off+5)=some (i64 o.now):=by
 obtain⟨hlt,_⟩:=List.getElem?_eq_some_iff.1 hi
 obtain⟨b,off,e,hr⟩:=Ro.at s hlt
 have k:=fun j hj=>(hr j hj).trans (aNk l i o hi j hj)
 exact⟨b,off,e,k 0 (by decide),k 1 (by decide),k 2 (by decide),k 3 (by decide),k 4 (by decide),k 5 (by decide)⟩
end Go.Abs
namespace Go.Abs
open Go
theorem uY (a:ByteArray):a.toList=a.data.toList:=by first | exact ByteArray.toList_eq a | exact Go.ByteArray.toList_eq a
theorem aFj (a b:ByteArray):(a.toList==b.toList)=decide (a=b):=by
 rw[uY,uY]
 by_cases h:a=b
 ·subst h;simp
 ·have:¬a.data.toList=b.data.toList:=fun e=>h (by cases a;cases b;exact congrArg ByteArray.mk (Array.ext' e))
  rw[beq_eq_false_iff_ne.2 this]
  simp[h]
variable {N:Nat} {h h':aA} {v:V} {es n:Nat} {cs:List V} {fp fp':List Nat}
theorem zH (k:EqK) (c:Bool) (a b:ByteArray):aC k .eql c (str a) (str b) h=some (.bool (decide (a=b))):=by
 rw[tE]
 simp only[qV,aFj]
theorem zI (k:EqK) (c:Bool) (a b:ByteArray):aC k .neq c (str a) (str b) h=some (.bool (!decide (a=b))):=by
 rw[tE]
 simp only[qV,aFj]
end Go.Abs
namespace Go.Abs
open Go
variable {E:FE} {N:Nat} {h h':aA} {v:V} {fp fp':List Nat} {l:List ByteArray}
def Rdt (h:aA) (v:V) (l:List ByteArray):Prop:=
 bH .slice v h=some (i64 l.length)∧∀(i:Nat) (s:ByteArray),l[i]? = some s→∃b o,aV (.slice 1) v (i64 i)=some (ptr b o)∧h.rd b o=some (str s)
theorem Ts.rdt (s:Ts h fp v l):Rdt h v l:=by
 refine⟨Sl.len s,fun i x hi=>?_⟩
 obtain⟨hlt,hx⟩:=List.getElem?_eq_some_iff.1 hi
 obtain⟨h0,⟨rfl,hn,rfl⟩ | ⟨b,c,all,rfl,rfl,hb,h1,h2,h3,h4⟩⟩:=s
 ·omega
 ·refine⟨b,0+i*1,?_,?_⟩
  ·have:(0:Int)≤i∧(i:Int)<l.length:=by omega
   simp only[aV,if_pos this,Int.toNat_natCast]
  ·rw[aH h2]
   have:(all.take (l.length*1))[i]? = (l.map str)[i]?:=by rw[h4]
   rw[List.getElem?_take,if_pos (by omega)]at this
   rw[Nat.zero_add,Nat.mul_one,this]
   simp[hi]
end Go.Abs

/- Specs on abstract heaps, part 13: the document's spaces (estafetteref8): what one is; New, Send. -/
import Derived.Test.YthhegdifbnghpaaGreatDoorQav
import Derived.Test.YthhegdifbnghpaaGreatDoorQau
import Derived.Test.YthhegdifbnghpaaGreatDoorQan
import Derived.Test.YthhegdifbnghpaaGreatDoorQat
import Derived.KernelRfl
set_option linter.unusedSimpArgs false
set_option linter.unusedVariables false
namespace Go.Abs
open Go
structure Pr where
 key:ByteArray
 val:ByteArray
 at_:Int
def Pr.cells (p:Pr):List V:=[str p.key,str p.val,i64 p.at_]
def Prs (h:aA) (fp:List Nat) (v:V) (l:List Pr):Prop:=Sl h fp v 3 l.length (l.flatMap Pr.cells)
theorem Prs.lt {h:aA} {fp:List Nat} {v:V} {l:List Pr} (s:Prs h fp v l):∀x∈fp,x<h.next:=Sl.lt s
theorem Prs.same {h h':aA} {fp:List Nat} {v:V} {l:List Pr} (s:Prs h fp v l) (hl:h.next≤h'.next) (hs:∀x∈fp,h'.get x=h.get x):Prs h' fp v l:=Sl.same s hl hs
structure SpM where
 name:ByteArray
 kind:Int
 bX:List Pr
 most:Int
 items:List Msg
 lost:List Msg
 next:Int
structure SpC (h:aA) (b:Nat) (fP fI fL:List Nat) (vP vI vL:V) (s:SpM):Prop where
 b_lt:b<h.next
 cell:h.get b=some (.cells [str s.name,i64 s.kind,vP,i64 s.most,vI,vL,i64 s.next] 7 .rw)
 bX:Prs h fP vP s.bX
 items:Ms h fI vI s.items
 lost:Ms h fL vL s.lost
 bP:b∉fP
 bI:b∉fI
 bL:b∉fL
 PI:∀x∈fP,x∉fI
 PL:∀x∈fP,x∉fL
 IL:∀x∈fI,x∉fL
def Sp (h:aA) (fp:List Nat) (p:V) (s:SpM):Prop:=
 ∃b fP fI fL vP vI vL,p=ptr b 0∧fp=b::(fP++(fI++fL))∧SpC h b fP fI fL vP vI vL s
variable {E:FE} {h h':aA} {fp:List Nat} {p:V} {s:SpM} {b:Nat} {fP fI fL:List Nat} {vP vI vL:V}
theorem SpC.lt (c:SpC h b fP fI fL vP vI vL s):∀x∈b::(fP++(fI++fL)),x<h.next:=by
 intro x hx
 simp only[List.mem_cons,List.mem_append]at hx
 rcases hx with rfl | hx | hx | hx
 ·exact c.b_lt
 ·exact c.bX.lt x hx
 ·exact c.items.lt x hx
 ·exact c.lost.lt x hx
theorem Sp.lt (c:Sp h fp p s):∀x∈fp,x<h.next:=by
 obtain⟨b,fP,fI,fL,vP,vI,vL,rfl,rfl,c⟩:=c
 exact c.lt
theorem SpC.same (c:SpC h b fP fI fL vP vI vL s) (hl:h.next≤h'.next) (hs:∀x∈b::(fP++(fI++fL)),h'.get x=h.get x):SpC h' b fP fI fL vP vI vL s:=
 ⟨by have:=c.b_lt;omega,by rw[hs b (by simp),c.cell],c.bX.same hl fun x hx=>hs x (by simp[hx]),c.items.same hl fun x hx=>hs x (by simp[hx]),c.lost.same hl fun x hx=>hs x (by simp[hx]),c.bP,c.bI,c.bL,c.PI,c.PL,c.IL⟩
theorem Sp.same (c:Sp h fp p s) (hl:h.next≤h'.next) (hs:∀x∈fp,h'.get x=h.get x):Sp h' fp p s:=by
 obtain⟨b,fP,fI,fL,vP,vI,vL,rfl,rfl,c⟩:=c
 exact⟨b,fP,fI,fL,vP,vI,vL,rfl,rfl,c.same hl hs⟩
end Go.Abs
namespace Go.Abs
open Go
structure RC (h:aA) (b:Nat) (fP fI fL:List Nat) (vP vI:V) (s:SpM) (h':aA) (moved left:List Msg) (got:Option Msg) (fL':List Nat) (vL':V) (fl:List Nat) (vl:V):Prop where
 lt0:∀x∈b::(fP++(fI++fL)),x<h.next
 c:SpC h' b fP fI fL' vP vI vL' { s with lost:=s.lost++moved }
 m:Mod h (b::(fP++(fI++fL))) h' (b::(fP++(fI++fL')))
 l:Ms h' fl vl left
 ap:∀x∈fl,h.next+2≤x∧x∉fL'
 n0:h.next∉fL'
 n1:h.next+1∉fL'
 nx:h.next+2≤h'.next
 g0:h'.get h.next=some (.cells Msg.zero.cells 4 .rw)
 g1:h'.get (h.next+1)=some (.cells (got.getD Msg.zero).cells 4 .rw)
variable {E:FE} {h h' h'':aA} {fp:List Nat} {p:V} {s:SpM} {b:Nat} {fP fI fL fL' fl:List Nat} {vP vI vL vL' vl:V} {moved left:List Msg} {got:Option Msg}
theorem RC.same (r:RC h b fP fI fL vP vI s h' moved left got fL' vL' fl vl) (hl:h'.next≤h''.next) (hs:∀x,x<h.next+2∨x∈fl∨x∈fL'→h''.get x=h'.get x):RC h b fP fI fL vP vI s h'' moved left got fL' vL' fl vl:=by
 have low:∀x∈b::(fP++(fI++fL')),h''.get x=h'.get x:=by
  intro x hx
  apply hs
  simp only[List.mem_cons,List.mem_append]at hx
  rcases hx with rfl | hx | hx | hx
  ·have:=r.lt0 x (by simp);omega
  ·have:=r.lt0 x (by simp[hx]);omega
  ·have:=r.lt0 x (by simp[hx]);omega
  ·exact .inr (.inr hx)
 exact⟨r.lt0,r.c.same hl low,⟨by have:=r.m.next;omega,fun x hx hn=>by rw[hs x (by omega),r.m.same x hx hn],r.m.new,fun x hx=>by have:=r.m.lt x hx;omega⟩,
  r.l.same hl fun x hx=>hs x (.inr (.inl hx)),r.ap,r.n0,r.n1,by have:=r.nx;omega,by rw[hs _ (by omega),r.g0],by rw[hs _ (by omega),r.g1]⟩
theorem RC.new (r:RC h b fP fI fL vP vI s h' moved left got fL' vL' fl vl) (o:cH):RC h b fP fI fL vP vI s (h'.new o) moved left got fL' vL' fl vl:=
 r.same (by simp) fun x hx=>by
  have:x≠h'.next:=by
   rcases hx with hx | hx | hx
   ·have:=r.nx;omega
   ·have:=r.l.lt x hx;omega
   ·have:=r.c.lost.lt x hx;omega
  simp[this]
theorem RC.take (r:RC h b fP fI fL vP vI s h' moved left got fL' vL' fl vl) (m:Msg):RC h b fP fI fL vP vI s (h'.put (h.next+1) (.cells m.cells 4 .rw)) moved left (some m) fL' vL' fl vl:=by
 have ne:∀x,x≠h.next+1→(h'.put (h.next+1) (.cells m.cells 4 .rw)).get x=h'.get x:=fun x hx=>by simp[hx]
 have low:∀x∈b::(fP++(fI++fL')),x≠h.next+1:=by
  intro x hx
  simp only[List.mem_cons,List.mem_append]at hx
  rcases hx with rfl | hx | hx | hx
  ·have:=r.lt0 x (by simp);omega
  ·have:=r.lt0 x (by simp[hx]);omega
  ·have:=r.lt0 x (by simp[hx]);omega
  ·rintro rfl;exact r.n1 hx
 exact⟨r.lt0,r.c.same (by simp) fun x hx=>ne x (low x hx),r.m.sX (by omega),r.l.same (by simp) fun x hx=>ne x (by have:=(r.ap x hx).1;omega),r.ap,r.n0,r.n1,by have:=r.nx;simpa using this,by rw[ne _ (by omega),r.g0],by simp⟩
end Go.Abs
namespace Go.Abs
open Go
structure Pl where
 P:aA→List Nat→Prop
 lt:∀h f,P h f→∀x∈f,x<h.next
 same:∀h h' f,P h f→h.next≤h'.next→(∀x∈f,h'.get x=h.get x)→P h' f
structure Fr where
 N:Nat
 I:aA→Prop
 bZ:∀h h' fp fp',I h→Mod h fp h' fp'→(∀x∈fp,N≤x)→I h'
def dB (N:Nat) (h:aA):List Pl→List Nat→Prop
 | [],f=>f=[]
 | A::L,f=>∃a r,f=a++r∧A.P h a∧dB N h L r∧(∀x∈a,x∉r)∧∀x∈a,N≤x
def Sep (F:Fr) (h:aA) (L:List Pl):Prop:=F.N≤h.next∧F.I h∧∃f,dB F.N h L f
variable {F:Fr} {h h':aA} {A B C D X:Pl} {L:List Pl}
theorem dB.lt {N:Nat}:∀{L:List Pl} {f:List Nat},dB N h L f→∀x∈f,x<h.next
 | [],f,s,x,hx=>by subst s;simp at hx
 | A::L,f,s,x,hx=>by
  obtain⟨a,r,rfl,s1,s2,_⟩:=s
  rcases List.mem_append.1 hx with hx | hx
  ·exact A.lt _ _ s1 x hx
  ·exact dB.lt s2 x hx
theorem dB.lo {N:Nat}:∀{L:List Pl} {f:List Nat},dB N h L f→∀x∈f,N≤x
 | [],f,s,x,hx=>by subst s;simp at hx
 | A::L,f,s,x,hx=>by
  obtain⟨a,r,rfl,s1,s2,_,s4⟩:=s
  rcases List.mem_append.1 hx with hx | hx
  ·exact s4 x hx
  ·exact dB.lo s2 x hx
theorem dB.same {N:Nat}:∀{L:List Pl} {f:List Nat},dB N h L f→h.next≤h'.next→(∀x∈f,h'.get x=h.get x)→dB N h' L f
 | [],f,s,_,_=>s
 | A::L,f,s,hl,hs=>by
  obtain⟨a,r,rfl,s1,s2,s3,s4⟩:=s
  exact⟨a,r,rfl,A.same _ _ _ s1 hl fun x hx=>hs x (by simp[hx]),dB.same s2 hl fun x hx=>hs x (by simp[hx]),s3,s4⟩
theorem Sep.head (s:Sep F h (A::L)):∃a,A.P h a∧∀{h':aA} {a':List Nat} (A':Pl),Mod h a h' a'→A'.P h' a'→Sep F h' (A'::L):=by
 obtain⟨s0,s1,f,a,r,rfl,s2,s3,s4,s5⟩:=s
 refine⟨a,s2,fun {h' a'} A' m hA=>⟨Nat.le_trans s0 m.next,F.bZ _ _ _ _ s1 m s5,a'++r,a',r,rfl,hA,s3.same m.next fun x hx=>m.same x (s3.lt x hx) fun hf=>s4 x hf hx,fun x hx hr=>?_,fun x hx=>?_⟩⟩
 ·rcases m.new x hx with h1 | h1
  ·exact s4 x h1 hr
  ·have:=s3.lt x hr;omega
 ·rcases m.new x hx with h1 | h1
  ·exact s5 x h1
  ·omega
theorem Sep.alloc (s:Sep F h L) {a':List Nat} (A':Pl) (m:Mod h [] h' a') (hA:A'.P h' a'):Sep F h' (A'::L):=by
 obtain⟨s0,s1,f,s2⟩:=s
 refine⟨Nat.le_trans s0 m.next,F.bZ _ _ _ _ s1 m (by simp),a'++f,a',f,rfl,hA,s2.same m.next fun x hx=>m.same x (s2.lt x hx) (by simp),fun x hx hf=>?_,fun x hx=>?_⟩
 ·rcases m.new x hx with h1 | h1
  ·simp at h1
  ·have:=s2.lt x hf;omega
 ·rcases m.new x hx with h1 | h1
  ·simp at h1
  ·omega
theorem Sep.skip (s:Sep F h L) {a':List Nat} (m:Mod h [] h' a'):Sep F h' L:=by
 obtain⟨s0,s1,f,s2⟩:=s
 exact⟨Nat.le_trans s0 m.next,F.bZ _ _ _ _ s1 m (by simp),f,s2.same m.next fun x hx=>m.same x (s2.lt x hx) (by simp)⟩
theorem Sep.drop (s:Sep F h (A::L)):Sep F h L:=by
 obtain⟨s0,s1,f,a,r,rfl,s2,s3,s4,s5⟩:=s
 exact⟨s0,s1,r,s3⟩
theorem dB.swap {N:Nat} {f:List Nat} (s:dB N h (A::B::L) f):∃f',dB N h (B::A::L) f'∧∀x,x∈f'↔x∈f:=by
 obtain⟨a,r,rfl,s2,⟨b,r2,rfl,t2,t3,t4,t5⟩,s4,s5⟩:=s
 refine⟨b++(a++r2),⟨b,a++r2,rfl,t2,⟨a,r2,rfl,s2,t3,fun x hx hr=>s4 x hx (by simp[hr]),s5⟩,fun x hx hr=>?_,t5⟩,fun x=>by simp only[List.mem_append];constructor<;>(rintro (h | h | h)<;>simp[h])⟩
 rcases List.mem_append.1 hr with hr | hr
 ·exact s4 x hr (by simp[hx])
 ·exact t4 x hx hr
theorem dB.perm {N:Nat} {L L':List Pl} (p:L.Perm L'):∀{f:List Nat},dB N h L f→∃f',dB N h L' f'∧∀x,x∈f'↔x∈f:=by
 induction p with
 | nil=>exact fun s=>⟨_,s,fun x=>Iff.rfl⟩
 | cons A p ih=>
  rintro f ⟨a,r,rfl,s2,s3,s4,s5⟩
  obtain⟨r',t1,t2⟩:=ih s3
  exact⟨a++r',⟨a,r',rfl,s2,t1,fun x hx hr=>s4 x hx ((t2 x).1 hr),s5⟩,fun x=>by simp[t2 x]⟩
 | swap A B L=>exact fun s=>s.swap
 | trans p q ih1 ih2=>
  intro f s
  obtain⟨f1,a1,a2⟩:=ih1 s
  obtain⟨f2,b1,b2⟩:=ih2 a1
  exact⟨f2,b1,fun x=>(b2 x).trans (a2 x)⟩
theorem Sep.perm {L':List Pl} (s:Sep F h L) (p:L.Perm L'):Sep F h L':=by
 obtain⟨s0,s1,f,s2⟩:=s
 obtain⟨f',s3,_⟩:=s2.perm p
 exact⟨s0,s1,f',s3⟩
theorem Sep.up1 (s:Sep F h (A::B::L)):Sep F h (B::A::L):=s.perm (List.Perm.swap _ _ _)
theorem Sep.up2 (s:Sep F h (A::B::C::L)):Sep F h (C::A::B::L):=s.perm (((List.Perm.swap _ _ _).cons _).trans (List.Perm.swap _ _ _))
theorem Sep.up3 (s:Sep F h (A::B::C::D::L)):Sep F h (D::A::B::C::L):=
 s.perm (((((List.Perm.swap _ _ _).cons _).cons _).trans ((List.Perm.swap _ _ _).cons _)).trans (List.Perm.swap _ _ _))
theorem Sep.up4 (s:Sep F h (A::B::C::D::X::L)):Sep F h (X::A::B::C::D::L):=
 s.perm (((((((List.Perm.swap _ _ _).cons _).cons _).cons _).trans (((List.Perm.swap _ _ _).cons _).cons _)).trans ((List.Perm.swap _ _ _).cons _)).trans (List.Perm.swap _ _ _))
theorem Sep.dn2 (s:Sep F h (A::B::C::L)):Sep F h (B::C::A::L):=s.perm ((List.Perm.swap _ _ _).trans ((List.Perm.swap _ _ _).cons _))
theorem Sep.dn3 (s:Sep F h (A::B::C::D::L)):Sep F h (B::C::D::A::L):=
 s.perm (((List.Perm.swap _ _ _).trans ((List.Perm.swap _ _ _).cons _)).trans (((List.Perm.swap _ _ _).cons _).cons _))
theorem Sep.dn4 (s:Sep F h (A::B::C::D::X::L)):Sep F h (B::C::D::X::A::L):=
 s.perm ((((List.Perm.swap _ _ _).trans ((List.Perm.swap _ _ _).cons _)).trans (((List.Perm.swap _ _ _).cons _).cons _)).trans ((((List.Perm.swap _ _ _).cons _).cons _).cons _))
def aP (b:Nat) (cs:List V) (es:Nat):Pl:=
 ⟨fun h f=>f=[b]∧b<h.next∧h.get b=some (.cells cs es .rw),fun h f ⟨e,hb,_⟩ x hx=>by subst e;simp at hx;omega,
  fun h h' f ⟨e,hb,hg⟩ hl hs=>⟨e,by omega,by rw[hs b (by simp[e]),hg]⟩⟩
theorem Sep.box (s:Sep F h L) (cs:List V) (es:Nat):Sep F (h.new (.cells cs es .rw)) (aP h.next cs es::L):=
 s.alloc (a':=[h.next]) _ ⟨by simp,fun x hx _=>by have:x≠h.next:=by omega
                                                  simp[this],by simp,by simp⟩ ⟨rfl,by simp,by simp⟩
theorem Sep.get {b:Nat} {cs:List V} {es:Nat} (s:Sep F h (aP b cs es::L)):h.get b=some (.cells cs es .rw):=by
 obtain⟨_,⟨_,_,e⟩,_⟩:=s.head
 exact e
theorem Sep.write {b:Nat} {cs cs':List V} {es:Nat} (s:Sep F h (aP b cs es::L)):Sep F (h.put b (.cells cs' es .rw)) (aP b cs' es::L):=by
 obtain⟨a,⟨rfl,hb,_⟩,k⟩:=s.head
 refine k (a':=[b]) (aP b cs' es) ⟨by simp,fun x hx hn=>?_,fun x hx=>.inl hx,fun x hx=>by simp at hx;simp;omega⟩ ⟨rfl,hb,by simp⟩
 have:x≠b:=by simpa using hn
 simp[this]
def eK (p:V) (most next:Int) (items lost:List Msg):Pl:=⟨fun h f=>Qu h f p most next items lost,fun _ _ q=>q.lt,fun _ _ _ q hl hs=>q.same hl hs⟩
def jY (p:V) (l:List En):Pl:=⟨fun h f=>Tab h f p l,fun _ _ q=>q.lt,fun _ _ _ q hl hs=>q.same hl hs⟩
end Go.Abs
namespace Go.Abs
open Go
variable {F:Fr} {h h':aA} {A B C D:Pl} {L L':List Pl}
theorem dB.low {N M:Nat}:∀{L:List Pl} {f:List Nat},dB N h L f→(∀x∈f,M≤x)→dB M h L f
 | [],_,s,_=>s
 | A::L,_,⟨a,r,e,s1,s2,s3,s4⟩,hf=>by
  subst e
  exact⟨a,r,rfl,s1,s2.low fun x hx=>hf x (by simp[hx]),s3,fun x hx=>hf x (by simp[hx])⟩
theorem dB.app {N:Nat}:∀{L':List Pl} {L:List Pl} {f:List Nat},dB N h (L'++L) f↔∃a r,f=a++r∧dB N h L' a∧dB N h L r∧∀x∈a,x∉r
 | [],L,f=>⟨fun s=>⟨[],f,rfl,rfl,s,by simp⟩,fun⟨a,r,e,s1,s2,_⟩=>by
  have s1':a=[]:=s1
  subst s1' e
  simpa using s2⟩
 | A::L',L,f=>by
  constructor
  ·rintro⟨a,r,rfl,s1,s2,s3,s4⟩
   obtain⟨a2,r2,rfl,t1,t2,t3⟩:=(dB.app (L':=L') (L:=L)).1 s2
   refine⟨a++a2,r2,by simp,⟨a,a2,rfl,s1,t1,fun x hx hr=>s3 x hx (by simp[hr]),s4⟩,t2,fun x hx hr=>?_⟩
   rcases List.mem_append.1 hx with hx | hx
   ·exact s3 x hx (by simp[hr])
   ·exact t3 x hx hr
  ·rintro⟨_,r,rfl,⟨a,a2,rfl,s1,t1,s3,s4⟩,t2,t3⟩
   refine⟨a,a2++r,by simp,s1,(dB.app (L':=L') (L:=L)).2 ⟨a2,r,rfl,t1,t2,fun x hx=>t3 x (by simp[hx])⟩,fun x hx hr=>?_,s4⟩
   rcases List.mem_append.1 hr with hr | hr
   ·exact s3 x hx hr
   ·exact t3 x (by simp[hx]) hr
def dI (φ:Prop):Pl:=⟨fun _ f=>f=[]∧φ,fun _ _ ⟨e,_⟩ x hx=>by subst e;simp at hx,fun _ _ _ p _ _=>p⟩
def lG (L:List Pl):Pl:=⟨fun h f=>dB 0 h L f,fun _ _ s=>s.lt,fun _ _ _ s hl hs=>s.same hl hs⟩
def sW {α:Type} (A:α→Pl):Pl:=⟨fun h f=>∃a,(A a).P h f,fun h f ⟨a,p⟩=>(A a).lt h f p,fun h h' f ⟨a,p⟩ hl hs=>⟨a,(A a).same h h' f p hl hs⟩⟩
def bO (b:Nat) (es:List MapEntry) (clk:Nat):Pl:=
 ⟨fun h f=>f=[b]∧b<h.next∧h.get b=some (.map es clk),fun h f ⟨e,hb,_⟩ x hx=>by subst e;simp at hx;omega,
  fun h h' f ⟨e,hb,hg⟩ hl hs=>⟨e,by omega,by rw[hs b (by simp[e]),hg]⟩⟩
def cE (b m since:Nat) (seen:Array Nat):Pl:=
 ⟨fun h f=>f=[b]∧b<h.next∧h.get b=some (.miter (some m) since seen since),fun h f ⟨e,hb,_⟩ x hx=>by subst e;simp at hx;omega,
  fun h h' f ⟨e,hb,hg⟩ hl hs=>⟨e,by omega,by rw[hs b (by simp[e]),hg]⟩⟩
theorem Sep.ex {α:Type} {A:α→Pl} (s:Sep F h (sW A::L)):∃a,Sep F h (A a::L):=by
 obtain⟨s0,s1,f,a,r,rfl,⟨x,p⟩,s3,s4,s5⟩:=s
 exact⟨x,s0,s1,a++r,a,r,rfl,p,s3,s4,s5⟩
theorem Sep.wC {α:Type} {A:α→Pl} (x:α) (s:Sep F h (A x::L)):Sep F h (sW A::L):=by
 obtain⟨s0,s1,f,a,r,rfl,p,s3,s4,s5⟩:=s
 exact⟨s0,s1,a++r,a,r,rfl,⟨x,p⟩,s3,s4,s5⟩
theorem Sep.pure {φ:Prop} (s:Sep F h (dI φ::L)):φ∧Sep F h L:=by
 obtain⟨s0,s1,f,a,r,rfl,⟨rfl,p⟩,s3,s4,s5⟩:=s
 exact⟨p,s0,s1,r,s3⟩
theorem Sep.mkPure {φ:Prop} (p:φ) (s:Sep F h L):Sep F h (dI φ::L):=by
 obtain⟨s0,s1,f,s3⟩:=s
 exact⟨s0,s1,[]++f,[],f,rfl,⟨rfl,p⟩,s3,by simp,by simp⟩
theorem Sep.all (s:Sep F h (lG L'::L)):Sep F h (L'++L):=by
 obtain⟨s0,s1,f,a,r,rfl,p,s3,s4,s5⟩:=s
 exact⟨s0,s1,a++r,dB.app.2 ⟨a,r,rfl,dB.low p s5,s3,s4⟩⟩
theorem Sep.wB (s:Sep F h (L'++L)):Sep F h (lG L'::L):=by
 obtain⟨s0,s1,f,s2⟩:=s
 obtain⟨a,r,rfl,t1,t2,t3⟩:=dB.app.1 s2
 exact⟨s0,s1,a++r,a,r,rfl,t1.low (by simp),t2,t3,t1.lo⟩
theorem Sep.qL {b clk:Nat} {es:List MapEntry} (s:Sep F h (bO b es clk::L)):h.get b=some (.map es clk):=by
 obtain⟨_,⟨_,_,e⟩,_⟩:=s.head
 exact e
theorem Sep.aLe {b m clk:Nat} {seen:Array Nat} (s:Sep F h (cE b m clk seen::L)):h.get b=some (.miter (some m) clk seen clk):=by
 obtain⟨_,⟨_,_,e⟩,_⟩:=s.head
 exact e
theorem Sep.aB3 {b clk clk':Nat} {es es':List MapEntry} (s:Sep F h (bO b es clk::L)):Sep F (h.put b (.map es' clk')) (bO b es' clk'::L):=by
 obtain⟨a,⟨rfl,hb,_⟩,k⟩:=s.head
 refine k (a':=[b]) (bO b es' clk') ⟨by simp,fun x hx hn=>?_,fun x hx=>.inl hx,fun x hx=>by simp at hx;simp;omega⟩ ⟨rfl,hb,by simp⟩
 have:x≠b:=by simpa using hn
 simp[this]
theorem Sep.aUq {b m clk:Nat} {seen seen':Array Nat} (s:Sep F h (cE b m clk seen::L)):Sep F (h.put b (.miter (some m) clk seen' clk)) (cE b m clk seen'::L):=by
 obtain⟨a,⟨rfl,hb,_⟩,k⟩:=s.head
 refine k (a':=[b]) (cE b m clk seen') ⟨by simp,fun x hx hn=>?_,fun x hx=>.inl hx,fun x hx=>by simp at hx;simp;omega⟩ ⟨rfl,hb,by simp⟩
 have:x≠b:=by simpa using hn
 simp[this]
theorem Sep.aV8 (s:Sep F h L) (es:List MapEntry) (clk:Nat):Sep F (h.new (.map es clk)) (bO h.next es clk::L):=
 s.alloc (a':=[h.next]) _ ⟨by simp,fun x hx _=>by have:x≠h.next:=by omega
                                                  simp[this],by simp,by simp⟩ ⟨rfl,by simp,by simp⟩
theorem Sep.aV7 (s:Sep F h L) (m clk:Nat) (seen:Array Nat):Sep F (h.new (.miter (some m) clk seen clk)) (cE h.next m clk seen::L):=
 s.alloc (a':=[h.next]) _ ⟨by simp,fun x hx _=>by have:x≠h.next:=by omega
                                                  simp[this],by simp,by simp⟩ ⟨rfl,by simp,by simp⟩
theorem Sep.range {m clk:Nat} {es:List MapEntry} (s:Sep F h (bO m es clk::L)) {K:V→aA→Prop}
 (hK:∀it h',Sep F h' (cE it m clk #[]::bO m es clk::L)→K (ptr it 0) h'):kP (gS .map (.map (some m)) h) K:=by
 have g:=s.qL
 have e1:gS .map (.map (some m)) h=some (.pointer (some ⟨h.next,0,none⟩),h.new (.miter (some m) clk #[] clk)):=by simp only[gS,g]
 rw[e1,aZ]
 exact hK h.next _ (s.aV7 m clk #[])
theorem Sep.next {it m clk:Nat} {es done:List MapEntry} {seen:Array Nat} (s:Sep F h (cE it m clk seen::bO m es clk::L)) (hb:∀e∈es,e.born<clk) (hn:(es.map (·.born)).Nodup) (hs:Seen es done seen)
 {K:V→aA→Prop}
 (hK:∀e∈es,e∉done→∀h',Sep F h' (cE it m clk (seen.push e.born)::bO m es clk::L)→Seen es (done++[e]) (seen.push e.born)→gV (ptr it 0) h'=some (.tuple #[e.key,e.val])→done.length<es.length →
  K (.tuple #[.bool true,e.key,e.val]) h')
 (hE:es.Perm done→K (.tuple #[.bool false]) h):dS (ptr it 0) false h K:=by
 have g1:=s.aLe
 have g2:=s.up1.qL
 refine aWc hb g1 g2 (fun e he hne=>?_) (fun ha=>hE (hs.all hn ha))
 have s':Sep F (h.put it (.miter (some m) clk (seen.push e.born) clk)) (cE it m clk (seen.push e.born)::bO m es clk::L):=s.aUq
 exact hK e he (hs.new hne) _ s' (hs.push he hne) (aS9 hn he s'.aLe s'.up1.qL) (hs.lt he hne)
end Go.Abs
namespace Go.Abs
open Go
structure EL (α:Type) where
 es:Nat
 enc:α→List V
 len:∀x,(enc x).length=es
 one:∀x,(enc x).all dH=true
 pos:0<es
section
variable {α:Type} (D:EL α)
def EL.flat (l:List α):List V:=l.flatMap D.enc
@[simp] theorem EL.aTt:D.flat []=[]:=rfl
@[simp] theorem EL.sK (x:α) (l:List α):D.flat (x::l)=D.enc x++D.flat l:=rfl
theorem EL.aKp (a b:List α):D.flat (a++b)=D.flat a++D.flat b:=by simp[EL.flat]
theorem EL.qI (l:List α):(D.flat l).length=l.length*D.es:=by
 induction l with
 | nil=>simp
 | cons x l ih=>rw[EL.sK,List.length_append,ih,D.len,List.length_cons,Nat.add_mul,Nat.one_mul,Nat.add_comm]
theorem EL.aKr (l:List α):(D.flat l).all dH=true:=by
 induction l with
 | nil=>rfl
 | cons x l ih=>rw[EL.sK,List.all_append,D.one,ih];rfl
theorem EL.aKq (l:List α):∀k,(D.flat l).drop (k*D.es)=D.flat (l.drop k):=by
 induction l with
 | nil=>intro k;simp
 | cons x l ih=>
  intro k
  cases k with
  | zero=>simp
  | succ k=>
   rw[List.drop_succ_cons,EL.sK,Nat.add_mul,Nat.one_mul,Nat.add_comm,←ih k,List.drop_append,D.len,List.drop_eq_nil_of_le (by rw[D.len];omega)]
   simp
theorem EL.aGc (l:List α):∀k,(D.flat l).take (k*D.es)=D.flat (l.take k):=by
 induction l with
 | nil=>intro k;simp
 | cons x l ih=>
  intro k
  cases k with
  | zero=>simp
  | succ k=>
   rw[List.take_succ_cons,EL.sK,EL.sK,Nat.add_mul,Nat.one_mul,Nat.add_comm,←ih k,List.take_append,D.len,List.take_of_length_le (by rw[D.len];omega)]
   simp
theorem EL.row {l:List α} {i:Nat} {x:α} (hi:l[i]? = some x):((D.flat l).drop (i*D.es)).take D.es=D.enc x:=by
 obtain⟨h1,h2⟩:=List.getElem?_eq_some_iff.1 hi
 rw[D.aKq,List.drop_eq_getElem_cons h1,h2,EL.sK,List.take_append,D.len,List.take_of_length_le (by rw[D.len];omega)]
 simp
theorem EL.aTu (l:List α):∀{i:Nat} (y:α),i<l.length→dJ (D.flat l) (i*D.es) (D.enc y)=D.flat (l.set i y):=by
 intro i y hi
 have h1:=D.qI l
 have h2:i*D.es+D.es≤l.length*D.es:=by
  have:=Nat.mul_le_mul_right D.es (show i+1≤l.length by omega)
  rwa [Nat.add_mul,Nat.one_mul]at this
 rw[uJ _ _ _ (by rw[D.len,h1];exact h2),D.len,List.set_eq_take_append_cons_drop,if_pos hi,D.aKp,EL.sK,D.aGc,←D.aKq l (i+1),Nat.add_mul,Nat.one_mul,List.append_assoc]
def SlE (h:aA) (fp:List Nat) (v:V) (l:List α):Prop:=Sl h fp v D.es l.length (D.flat l)
variable {D} {h:aA} {fp:List Nat} {v:V} {l:List α}
theorem SlE.lt (s:SlE D h fp v l):∀x∈fp,x<h.next:=Sl.lt s
theorem SlE.same {h':aA} (s:SlE D h fp v l) (hl:h.next≤h'.next) (hs:∀x∈fp,h'.get x=h.get x):SlE D h' fp v l:=Sl.same s hl hs
theorem SlE.bZ {h':aA} {fp':List Nat} (s:SlE D h fp v l) (m:Mod h [] h' fp'):SlE D h' fp v l:=s.same m.next fun x hx=>m.same x (s.lt x hx) (by simp)
theorem SlE.len (s:SlE D h fp v l):bH .slice v h=some (i64 l.length):=Sl.len s
theorem SlE.nil:SlE D h [] (.slice none 0 0) []:=by simpa[SlE]using (Sl.nil (h:=h) (es:=D.es))
theorem SlE.at (s:SlE D h fp v l) {i:Nat} {x:α} (hi:l[i]? = some x) :
 ∃b,fp=[b]∧aV (.slice D.es) v (i64 i)=some (ptr b (i*D.es))∧h.rdN b (i*D.es) D.es=some (D.enc x)∧∀k,k<D.es→h.rd b (i*D.es+k)=(D.enc x)[k]?:=by
 have hil:i<l.length:=(List.getElem?_eq_some_iff.1 hi).1
 obtain⟨h0,⟨rfl,h1,rfl⟩ | ⟨b,c,all,rfl,rfl,hb,hc,h2,h3,h4⟩⟩:=s
 ·omega
 have hall:l.length*D.es≤all.length:=Nat.le_trans (Nat.mul_le_mul_right _ hc) h3
 have h5:i*D.es+D.es≤l.length*D.es:=by
  have:=Nat.mul_le_mul_right D.es (show i+1≤l.length by omega)
  rwa [Nat.add_mul,Nat.one_mul]at this
 have hrow:(all.drop (i*D.es)).take D.es=D.enc x:=by
  rw[←D.row hi,←h4,List.drop_take,List.take_take,Nat.min_eq_left (by omega)]
 have b1:(0:Int)≤(i:Int)∧(i:Int)<(l.length:Nat):=by omega
 refine⟨b,rfl,?_,?_,fun k hk=>?_⟩
 ·simp only[aV,if_pos b1,Int.toNat_natCast,Nat.zero_add]
 ·rw[kG h2,if_pos (by omega),hrow]
 ·rw[aH h2,←hrow,List.getElem?_take,if_pos hk,List.getElem?_drop]
theorem SlE.set (s:SlE D h fp v l) {i:Nat} (hi:i<l.length) (y:α) :
 ∃b h',fp=[b]∧aV (.slice D.es) v (i64 i)=some (ptr b (i*D.es))∧h.wr b (i*D.es) (D.enc y)=some h'∧SlE D h' fp v (l.set i y)∧Mod h fp h' fp:=by
 have lt:=s.lt
 obtain⟨h0,⟨rfl,h1,rfl⟩ | ⟨b,c,all,rfl,rfl,hb,hc,h2,h3,h4⟩⟩:=s
 ·omega
 have hall:l.length*D.es≤all.length:=Nat.le_trans (Nat.mul_le_mul_right _ hc) h3
 have h5:i*D.es+D.es≤l.length*D.es:=by
  have:=Nat.mul_le_mul_right D.es (show i+1≤l.length by omega)
  rwa [Nat.add_mul,Nat.one_mul]at this
 have b1:(0:Int)≤(i:Int)∧(i:Int)<(l.length:Nat):=by omega
 have hw:h.wr b (i*D.es) (D.enc y)=some (h.put b (.cells (dJ all (i*D.es) (D.enc y)) D.es .rw)):=by
  simp only[aA.wr,h2,D.len]
  rw[if_pos ⟨by simp,by omega⟩]
 have e1:dJ all (i*D.es) (D.enc y)=all.take (i*D.es)++D.enc y++all.drop (i*D.es+D.es):=by rw[uJ _ _ _ (by rw[D.len];omega),D.len]
 have e2:dJ (D.flat l) (i*D.es) (D.enc y)=(D.flat l).take (i*D.es)++D.enc y++(D.flat l).drop (i*D.es+D.es):=by rw[uJ _ _ _ (by rw[D.len,D.qI];omega),D.len]
 have e3:(dJ all (i*D.es) (D.enc y)).take (l.length*D.es)=D.flat (l.set i y):=by
  rw[←D.aTu l y hi,e1,e2,←h4]
  obtain⟨m,hm⟩:∃m,l.length*D.es=i*D.es+D.es+m:=⟨l.length*D.es - (i*D.es+D.es),by omega⟩
  rw[hm,List.take_append,List.take_of_length_le (by simp[D.len];omega),List.take_take,Nat.min_eq_left (by omega),List.drop_take]
  congr 2
  simp only[List.length_append,List.length_take,D.len]
  omega
 refine⟨b,_,rfl,?_,hw,⟨by rw[D.qI],.inr ⟨b,c,dJ all (i*D.es) (D.enc y),by simp,rfl,hb,by simpa using hc,by simp,by rw[sY];exact h3,by simpa using e3⟩⟩,by simp,fun x _ hx=>?_,fun x hx=>.inl hx,lt⟩
 ·simp only[aV,if_pos b1,Int.toNat_natCast,Nat.zero_add]
 ·simp at hx;simp[hx]
end
end Go.Abs
namespace Go.Abs
open Go
def G.ins (es:Nat) (E:FE):Spec:=fun args h K=>match args with
| [a0,a1,a2,a3]=>
kv (aC .bad .add true a1 (.int .i64 1) h) fun v0=>
∃(Inv1:Nat→List V→aA→Prop) (n1:Nat),Inv1 n1 [v0] h∧∀(n1:Nat) (e1:Nat→V) (h:aA),Inv1 n1 [(e1 8)] h →
kv (aC .bad .lss false (e1 8) a2 h) fun v2=>
ifV v2 (
∃(Inv3:Nat→List V→aA→Prop) (n3:Nat),Inv3 n3 [(e1 8)] h∧∀(n3:Nat) (e3:Nat→V) (h:aA),Inv3 n3 [(e3 9)] h →
kv (aC .bad .gtr false (e3 9) a1 h) fun v4=>
kv (gdV v4 true (some a3)) fun v5=>
kv (gdV v4 true (some a0)) fun v6=>
kv (gdV v4 true (some (e3 9))) fun v7=>
kv (gdV v4 true (aV (.slice es) v6 v7)) fun v8=>
kv (gdV v4 true (ldD (.agg es) v8 h)) fun v9=>
kv (gdV v4 true (some a0)) fun v10=>
kv (gdV v4 true (some (e3 9))) fun v11=>
kv (gdV v4 true (aC .bad .sub true v11 (.int .i64 1) h)) fun v12=>
kv (gdV v4 true (aV (.slice es) v10 v12)) fun v13=>
kv (gdV v4 true (ldD (.agg es) v13 h)) fun v14=>
gdC v4 true h (fun K15=>cR E.I v5 [v9,v14] h fun v h=>K15 v h) fun v16 h=>
kv (gdV v4 true (aC .bad .lss true v16 (.int .i64 0) h)) fun v17=>
kv (bC v4 v17 (.bool false)) fun v18=>
ifV v18 (
kv (aC .bad .sub true (e3 9) (.int .i64 1) h) fun v19=>
kv (aC .bad .sub true (e3 9) (.int .i64 1) h) fun v20=>
kv (aV (.slice es) a0 v20) fun v21=>
kv (ldD (.agg es) v21 h) fun v22=>
kv (aV (.slice es) a0 (e3 9)) fun v23=>
kv (ldD (.agg es) v23 h) fun v24=>
kv (aV (.slice es) a0 (e3 9)) fun v25=>
kH (stD (some es) v25 v22 h) fun _ h=>
kv (aV (.slice es) a0 v19) fun v26=>
kH (stD (some es) v26 v24 h) fun _ h=>
kv (aC .bad .sub true (e3 9) (.int .i64 1) h) fun v27=>
∃m,m<n3∧Inv3 m [v27] h) (
kv (aC .bad .add true (e1 8) (.int .i64 1) h) fun v28=>
∃m,m<n1∧Inv1 m [v28] h)) (
K (.tuple #[]) h)
| _=>False
theorem aUj (E:FE):F.oX E=G.ins 3 E:=rfl
structure Ord {α:Type} (c:α→α→Int):Prop where
 trans:∀x y z,c x y≤0→c y z≤0→c x z≤0
 total:∀x y,c x y<0∨c y x≤0
 anti:∀x y,c x y≤0→c y x≤0→x=y
def gH {α:Type} (c:α→α→Int) (l:List α):Prop:=l.Pairwise fun x y=>c x y≤0
theorem gH.uniq {α:Type} {c:α→α→Int} (o:Ord c):∀{l m:List α},l.Perm m→gH c l→gH c m→l=m
 | [],m,p,_,_=>(List.nil_perm.1 p).symm
 | a::l,[],p,_,_=>by have:=p.length_eq;simp at this
 | a::l,b::m,p,h1,h2=>by
  have h1':=List.pairwise_cons.1 h1
  have h2':=List.pairwise_cons.1 h2
  have refl:∀x,c x x≤0:=fun x=>by rcases o.total x x with h | h<;>omega
  have ha:c b a≤0:=by
   rcases List.mem_cons.1 (p.mem_iff.1 (List.mem_cons_self:a∈a::l)) with rfl | h
   ·exact refl _
   ·exact h2'.1 a h
  have hb:c a b≤0:=by
   rcases List.mem_cons.1 (p.mem_iff.2 (List.mem_cons_self:b∈b::m)) with rfl | h
   ·exact refl _
   ·exact h1'.1 b h
  obtain rfl:=o.anti a b hb ha
  rw[gH.uniq o ((List.perm_cons a).1 p) h1'.2 h2'.2]
section
variable {α:Type} {D:EL α} {E:FE} {h:aA} {fp:List Nat} {v fv:V} {l:List α} {c:α→α→Int}
def zP (E:FE) (D:EL α) (fv:V) (c:α→α→Int):Prop:=∀(h:aA) (x y:α),cR E.I fv [.agg (D.enc x).toArray,.agg (D.enc y).toArray] h fun r h'=>r=i64 (c x y)∧Mod h [] h' []
theorem aYj (D:EL α) (b o:Nat) (y:α) (h:aA):stD (some D.es) (ptr b o) (.agg (D.enc y).toArray) h=h.wr b o (D.enc y):=by
 simp[stD,cellsOf,D.len,D.one]
theorem SlE.ld (s:SlE D h fp v l) {i:Nat} {x:α} (hi:l[i]? = some x):∃b,aV (.slice D.es) v (i64 i)=some (ptr b (i*D.es))∧ldD (.agg D.es) (ptr b (i*D.es)) h=some (.agg (D.enc x).toArray):=by
 obtain⟨b,_,h1,h2,_⟩:=s.at hi
 exact⟨b,h1,by rw[qK,h2];rfl⟩
theorem SlE.st (s:SlE D h fp v l) {i:Nat} (hi:i<l.length) (y:α) :
 ∃b h',aV (.slice D.es) v (i64 i)=some (ptr b (i*D.es))∧stD (some D.es) (ptr b (i*D.es)) (.agg (D.enc y).toArray) h=some h'∧SlE D h' fp v (l.set i y)∧Mod h fp h' fp:=by
 obtain⟨b,h',_,h1,h2,h3,h4⟩:=s.set hi y
 exact⟨b,h',h1,by rw[aYj];exact h2,h3,h4⟩
theorem aUk (hM:aJ E.I) (o:Ord c) (s:SlE D h fp v l) (hc:zP E D fv c) (hsz:l.length≤1000000) :
 cl (G.ins D.es E) [v,i64 0,i64 l.length,fv] h fun r h'=>∃l',l'.Perm l∧gH c l'∧SlE D h' fp v l'∧Mod h fp h' fp:=by
 refine aN ?_
 have hlt:=s.lt
 simp only[G.ins]
 rw[cY 0 1 (by omega) (by omega),aB]
 refine⟨fun n vs h'=>∃(i:Nat) (l1:List α),vs=[i64 i]∧1≤i∧i≤1000001∧n=l.length - i∧l1.Perm l∧gH c (l1.take i)∧SlE D h' fp v l1∧Mod h fp h' fp,l.length - 1,
  ⟨1,l,rfl,by omega,by omega,rfl,List.Perm.refl _,?_,s,Mod.refl hlt⟩,?_⟩
 ·cases l with
  | nil=>simp[gH]
  | cons a l=>simp[gH]
 rintro n e1 h1 ⟨i,l1,he,hi1,hi2,rfl,p1,st1,s1,m1⟩
 simp only[List.cons.injEq,and_true]at he
 have hlen:l1.length=l.length:=p1.length_eq
 simp only[he,cN,aB,aG]
 by_cases hx:i<l.length
 ·have:((i:Nat):Int)<(l.length:Nat):=by omega
  simp only[this,decide_true,if_true]
  refine⟨fun n vs h'=>∃(j:Nat) (A B C:List α) (x:α),vs=[i64 j]∧n=j∧A.length=j∧A.length+B.length=i∧(A++x::(B++C)).Perm l∧gH c (A++B)∧(∀b∈B,c x b≤0)∧SlE D h' fp v (A++x::(B++C))∧Mod h fp h' fp,i,?_,?_⟩
  ·obtain⟨x,hxe⟩:∃x,l1[i]? = some x:=⟨l1[i]'(by omega),List.getElem?_eq_getElem (by omega)⟩
   have e:l1=l1.take i++x::([]++l1.drop (i+1)):=by
    obtain⟨a1,a2⟩:=List.getElem?_eq_some_iff.1 hxe
    rw[List.nil_append,←a2,←List.drop_eq_getElem_cons a1,List.take_append_drop]
   refine⟨i,l1.take i,[],l1.drop (i+1),x,rfl,rfl,by rw[List.length_take];omega,by rw[List.length_take,List.length_nil];omega,by rw[←e];exact p1,by rw[List.append_nil];exact st1,by simp,by rw[←e];exact s1,m1⟩
  ·clear st1 s1 m1 p1
   rintro n3 e3 h3 ⟨j,A,B,C,x,hj,hn3,hA,hAB,p3,st3,lt3,s3,m3⟩
   simp only[List.cons.injEq,and_true]at hj
   have hl3:(A++x::(B++C)).length=l.length:=p3.length_eq
   have hgx:(A++x::(B++C))[j]? = some x:=by rw[List.getElem?_append_right (by omega),hA];simp
   have stop:∀h4,SlE D h4 fp v (A++x::(B++C))→Mod h fp h4 fp→gH c (A++x::B)→kv (aC .bad .add true (i64 i) (.int .i64 1) h4) fun v28=>
    ∃m,m<l.length - i∧∃(i':Nat) (l1:List α),[v28]=[i64 i']∧1≤i'∧i'≤1000001∧m=l.length - i'∧l1.Perm l∧gH c (l1.take i')∧SlE D h4 fp v l1∧Mod h fp h4 fp:=by
    intro h4 s4 m4 st4
    rw[cY _ 1 (by omega) (by omega),aB]
    refine⟨l.length - (i+1),by omega,i+1,_,by simp,by omega,by omega,rfl,p3,?_,s4,m4⟩
    have:(A++x::(B++C)).take (i+1)=A++x::B:=by
     rw[show A++x::(B++C)=(A++x::B)++C by simp,List.take_append_of_le_length (by simp;omega),List.take_of_length_le (by simp;omega)]
    rw[this]
    exact st4
   simp only[hj,iK,aB]
   by_cases h0:j=0
   ·subst h0
    have hA0:A=[]:=List.eq_nil_of_length_eq_zero hA
    subst hA0
    simp only[Int.ofNat_zero,gt_iff_lt,Int.lt_irrefl,decide_false,aQ,Bool.false_eq_true,if_false,aB,dO]
    refine cZ (by simp) ?_
    simp only[aQ,Bool.false_eq_true,if_false,aB,aR,aG]
    exact stop h3 s3 m3 (by
     show gH c ([]++x::B)
     rw[List.nil_append]at st3 ⊢
     exact List.pairwise_cons.2 ⟨lt3,st3⟩)
   ·have hj0:((j:Nat):Int) > 0:=by omega
    obtain⟨A',y,rfl⟩:∃A' y,A=A'++[y]:=by
     rcases List.eq_nil_or_concat A with rfl | ⟨A',y,rfl⟩
     ·simp at hA;omega
     ·exact⟨A',y,by simp⟩
    simp only[List.length_append,List.length_cons,List.length_nil]at hA hAB
    have hgy:(A'++[y]++x::(B++C))[j - 1]? = some y:=by
     rw[List.append_assoc,List.getElem?_append_right (by omega),show j - 1 - A'.length=0 by omega];simp
    obtain⟨b1,i1,i2⟩:=s3.ld hgx
    obtain⟨b2,i3,i4⟩:=s3.ld hgy
    have hw:IntKind.i64.wrap (((j:Nat):Int) - 1)=((j - 1:Nat):Int):=by rw[wrap_i64 (by omega) (by omega)];omega
    simp only[hj0,decide_true,aQ,if_true,aB,i1,i2,xP,hw,i3,i4]
    refine cT rfl ?_
    refine uR hM ?_ (hc h3 x y)
    rintro r h4 ⟨rfl,mc⟩
    have s4:=s3.bZ mc
    have m4:Mod h fp h4 fp:=m3.trans ⟨mc.next,fun k hk _=>mc.same k hk (by simp),fun k hk=>.inl hk,fun k hk=>Nat.lt_of_lt_of_le (s3.lt k hk) mc.next⟩
    simp only[cN,aQ,if_true,aB,aR,aG,decide_eq_true_eq]
    obtain⟨c1,k1,k2⟩:=s4.ld hgx
    obtain⟨c2,k3,k4⟩:=s4.ld hgy
    rw[i1]at k1
    cases k1
    rw[i3]at k3
    cases k3
    by_cases hcl:c x y<0
    ·rw[if_pos hcl]
     simp only[aB,k2,k4]
     obtain⟨b5,h5,j1,j2,s5,m5⟩:=s4.st (i:=j) (by omega) y
     rw[i1]at j1
     cases j1
     rw[j2,bV]
     obtain⟨b6,h6,j3,j4,s6,m6⟩:=s5.st (i:=j - 1) (by rw[List.length_set];omega) x
     rw[i3]at j3
     cases j3
     rw[j4,bV]
     have esw:((A'++[y]++x::(B++C)).set j y).set (j - 1) x=A'++x::(y::B++C):=by
      have hA':A'.length=j - 1:=by omega
      rw[List.set_append_right _ _ (by simp;omega),List.length_append,List.length_cons,List.length_nil,show j - (A'.length+(0+1))=0 by omega,List.set_cons_zero,List.append_assoc,List.set_append_right _ _ (by omega),show j - 1 - A'.length=0 by omega]
      simp
     rw[esw]at s6
     refine⟨j - 1,by omega,j - 1,A',y::B,C,x,rfl,rfl,by omega,by simp;omega,?_,?_,?_,s6,(m4.trans m5).trans m6⟩
     ·refine List.Perm.trans ?_ p3
      rw[List.append_assoc]
      exact List.Perm.append_left _ (List.Perm.swap _ _ _)
     ·rw[show A'++(y::B)=A'++[y]++B by simp];exact st3
     ·intro b hb
      rcases List.mem_cons.1 hb with rfl | hb
      ·omega
      ·exact lt3 b hb
    ·rw[if_neg hcl]
     refine stop h4 s4 m4 ?_
     have hyx:c y x≤0:=by rcases o.total x y with h | h;exact absurd h hcl;exact h
     have q:=List.pairwise_append.1 st3
     have q1:=List.pairwise_append.1 q.1
     refine List.pairwise_append.2 ⟨q.1,List.pairwise_cons.2 ⟨lt3,q.2.1⟩,fun a ha b hb=>?_⟩
     rcases List.mem_cons.1 hb with rfl | hb
     ·rcases List.mem_append.1 ha with ha | ha
      ·exact o.trans _ _ _ (q1.2.2 a ha y (by simp)) hyx
      ·simp only[List.mem_singleton]at ha
       rw[ha];exact hyx
     ·exact q.2.2 a ha b hb
 ·have:¬((i:Nat):Int)<(l.length:Nat):=by omega
  simp only[this,decide_false,Bool.false_eq_true,if_false]
  refine⟨l1,p1,?_,s1,m1⟩
  rwa [List.take_of_length_le (by omega)]at st1
end
end Go.Abs
namespace Go.Abs
open Go
variable {E:FE} {h:aA} {fp:List Nat} {v fv:V}
def dId:EL IdM:=⟨2,fun i=>[i64 i.client,i64 i.seq],fun _=>rfl,fun _=>rfl,by decide⟩
def bG:EL bF:=⟨3,fun k=>[str k.space,str k.key,.bool k.all],fun _=>rfl,fun _=>rfl,by decide⟩
set_option maxRecDepth 100000 in
theorem bits_Len64 (n:Nat) (hn:n<256):cl (F.mK E) [.int .u64 n] h fun r h'=>h'=h∧∃k:Int,r=i64 k:=by
 refine aN ?_
 have h1:¬((n:Int)≥4294967296):=by omega
 have h2:¬((n:Int)≥65536):=by omega
 have h3:¬((n:Int)≥256):=by omega
 have hw:IntKind.u8.wrap (n:Int)=n:=by
  simp[IntKind.wrap,IntKind.signed,IntKind.bits]
  omega
 simp only[F.mK,fH,h1,h2,h3,decide_false,aB,aG,Bool.false_eq_true,if_false]
 refine⟨fun vs h'=>vs=[.int .u64 n,i64 0]∧h'=h,⟨rfl,rfl⟩,?_⟩
 rintro e1 h1' ⟨he,rfl⟩
 simp only[List.cons.injEq,and_true]at he
 simp only[he.1,he.2,fH,h2,decide_false,aB,aG,Bool.false_eq_true,if_false]
 refine⟨fun vs h'=>vs=[.int .u64 n,i64 0]∧h'=h1',⟨rfl,rfl⟩,?_⟩
 rintro e2 h2' ⟨he,rfl⟩
 simp only[List.cons.injEq,and_true]at he
 simp only[he.1,he.2,fH,h3,decide_false,aB,aG,Bool.false_eq_true,if_false]
 refine⟨fun vs h'=>vs=[.int .u64 n,i64 0]∧h'=h2',⟨rfl,rfl⟩,?_⟩
 rintro e3 h3' ⟨he,rfl⟩
 simp only[List.cons.injEq,and_true]at he
 simp only[he.1,he.2,eQ,Option.map_some,aB,hw]
 have key:∀tab:ByteArray,tab.size=256→∀K:V→Prop,(∀b:UInt8,K (.int .u8 b.toNat))→kv (iQ .str (.string tab) (.int .u8 n)) K:=by
  intro tab hsz K hK
  have hlt:n<tab.size:=by omega
  have hg:tab[(n:Int).toNat]? = some tab[n]:=by
   rw[Int.toNat_natCast]
   exact getElem?_pos tab n hlt
  simp only[iQ,if_pos (show (0:Int)≤n by omega),hg,aB]
  exact hK _
 refine key _ (by kernel_rfl) _ fun b=>?_
 simp only[Option.map_some,aB,qX]
 exact⟨trivial,_,rfl⟩
theorem bits_Len (n:Nat) (hn:n<256):cl (F.mJ E) [.int .u64 n] h fun r h'=>h'=h∧∃k:Int,r=i64 k:=by
 refine aN ?_
 simp only[F.mJ,aG,Bool.false_eq_true,if_false]
 exact bits_Len64 n hn
section
variable {c:IdM→IdM→Int} {k:bF→bF→Int}
theorem aW9 (hM:aJ E.I) (o:Ord k) {l:List bF} (s:SlE bG h fp v l) (hc:zP E bG fv k) (hn:l.length≤12) (lim:V) :
 cl (F.fZ E) [v,i64 0,i64 l.length,lim,fv] h fun r h'=>∃l',l'.Perm l∧gH k l'∧SlE bG h' fp v l'∧Mod h fp h' fp:=by
 refine aN ⟨1,fun n vs h'=>vs=[i64 0,i64 l.length,lim,.bool true,.bool true]∧h'=h,0,⟨rfl,rfl⟩,?_⟩
 rintro n e h1 ⟨he,rfl⟩
 simp only[List.cons.injEq,and_true]at he
 obtain⟨e1,e2,e3,e4,e5⟩:=he
 simp only[e1,e2,aEg _ 0 (show -9223372036854775808≤((l.length:Nat):Int) - 0 by omega) (by omega),aB,pY,show ((l.length:Nat):Int) - 0≤12 by omega,decide_true,aG,if_true]
 rw[aUj]
 exact aUk (D:=bG) hM o s hc (by omega)
theorem aYc (hM:aJ E.I) (o:Ord k) {l:List bF} (s:SlE bG h fp v l) (hc:zP E bG fv k) (hn:l.length≤12) :
 cl (F.nP E) [v,fv] h fun r h'=>∃l',l'.Perm l∧gH k l'∧SlE bG h' fp v l'∧Mod h fp h' fp:=by
 refine aN ?_
 have hw:IntKind.u64.wrap ((l.length:Nat):Int)=(l.length:Nat):=by
  simp[IntKind.wrap,IntKind.signed,IntKind.bits]
  omega
 simp only[F.nP,s.len,aB,eQ,Option.map_some,hw]
 refine aK (bits_Len l.length (by omega)) ?_
 rintro r h1 ⟨rfl,x,rfl⟩
 exact aW9 hM o s hc hn _
end
end Go.Abs

/- Lists of lists that were handed in. From the model's worlds to abstract heaps. No program in sight. -/
import Derived.Test.YthhegdifbnghpaaGreatDoorQbg
set_option linter.unusedSimpArgs false
set_option linter.unusedVariables false
namespace Go.Abs
open Go Go.RowKit
theorem R.aI9 {J:World→Prop} {W:World} {r:Ren} {h:aA} (hR:R J W.heap.size r h W) (hro:oZ h) {a:Addr} {len cap es:Nat} (hs:a.spot=none) {cc:Array V} {el:TypeId} {fr:Nat×Nat}
 (hb:W.heap[a.block]? = some (.cells cc el fr)) (hsz:a.off+cap*es≤cc.size) (hlc:len≤cap) {cs:List V} (hcs:cs.length=len*es) (hc:∀j,j<len*es→∃u x,cs[j]? = some u∧cc[a.off+j]? = some x∧VR r u x) :
 ∃r' h' v,R J W.heap.size r' h' W∧oZ h'∧VR r' v (.slice (some a) len cap)∧Ro h'.next h' v es len cs∧eF r h r' h':=by
 obtain⟨blk,off,spot⟩:=a
 simp only at hs hb hsz hc
 subst hs
 have hlt:blk<W.heap.size:=(Array.getElem?_eq_some_iff.1 hb).1
 have hm:len*es≤cap*es:=Nat.mul_le_mul_right _ hlc
 have hle:=hR.oH ⟨blk,cc.size,es,0⟩
 have old:∀b o1,(h.new (.cells (List.replicate off bY++cs) es .ro)).get b=some o1→(b=h.next∧o1 = .cells (List.replicate off bY++cs) es .ro)∨(b≠h.next∧h.get b=some o1):=by
  intro b o1 hb
  by_cases e:b=h.next
  ·subst e;simp[aA.new]at hb;exact .inl ⟨rfl,hb.symm⟩
  ·exact .inr ⟨e,by simpa[aA.new,e]using hb⟩
 refine⟨r.upd h.next ⟨blk,cc.size,es,0⟩,h.new (.cells (List.replicate off bY++cs) es .ro),.slice (some ⟨h.next,off,none⟩) len (2*len+1),?_,?_,?_,?_,hle,Nat.le_succ _,fun b hb=>?_⟩
 ·refine⟨Nat.le_refl _,?_,?_,?_,hR.inv⟩
  ·intro b t' hb
   by_cases e:b=h.next
   ·subst e;rw[Ren.cX]at hb;cases hb;exact⟨hlt,by simp[aA.new]⟩
   ·rw[Ren.eD _ _ e]at hb
    have:=hR.lt b t' hb
    refine⟨this.1,?_⟩
    simp[aA.new];omega
  ·intro b o1 hb1
   rcases old b o1 hb1 with ⟨rfl,rfl⟩ | ⟨e,hb'⟩
   ·refine⟨_,Ren.cX _ _ _,rfl,⟨cc,el,fr,hb,rfl,by simp;omega,fun i h1 h2=>?_,fun hk=>absurd rfl hk,fun hk=>by cases hk⟩,fun hk=>absurd rfl hk,fun _=>rfl⟩
    have h2:i<cc.size:=h2
    show VR _ _ cc[i]
    rw[List.getElem_append]
    split
    ·rw[List.getElem_replicate];exact .bY _
    ·rename_i hi
     simp only[List.length_replicate]at hi
     have hj:i - off<cs.length:=by simp at h1;omega
     obtain⟨u,x,e1,e2,e3⟩:=hc (i - off) (by omega)
     rw[show off+(i - off)=i by omega,Array.getElem?_eq_getElem h2,Option.some.injEq]at e2
     rw[List.getElem?_eq_getElem hj,Option.some.injEq]at e1
     simp only[List.length_replicate]
     rw[e1,e2]
     exact e3.mono hle
   ·obtain⟨t',h3,h4⟩:=hR.live b o1 hb'
    exact⟨t',hle _ _ h3,h4.mono hle⟩
  ·intro b b' o1 o1' t1 t1' hb hb' g1 g1' e
   rcases old b o1 hb with ⟨rfl,rfl⟩ | ⟨e1,hb⟩<;>rcases old b' o1' hb' with ⟨rfl,rfl⟩ | ⟨e2,hb'⟩
   ·exact .inl rfl
   ·exact .inr ⟨⟨_,_,rfl⟩,hro _ _ hb'⟩
   ·exact .inr ⟨hro _ _ hb,_,_,rfl⟩
   ·rw[Ren.eD _ _ e1]at g1;rw[Ren.eD _ _ e2]at g1'
    exact hR.inj b b' o1 o1' t1 t1' hb hb' g1 g1' e
 ·intro b o1 hb1
  rcases old b o1 hb1 with ⟨rfl,rfl⟩ | ⟨e,hb'⟩
  ·exact⟨_,_,rfl⟩
  ·exact hro _ _ hb'
 ·exact VR.slice (b:=h.next) (o:=off) (n:=len) (c:=2*len+1) (c':=cap) (t:=⟨blk,cc.size,es,0⟩) (Ren.cX _ _ _) ⟨by omega,fun he=>by omega⟩ (by omega) hsz
 ·refine⟨hcs,Nat.le_refl _,.inr ⟨h.next,off,2*len+1,List.replicate off bY++cs,rfl,by simp[aA.new],by omega,by simp[aA.new],?_⟩⟩
  rw[List.drop_append,List.drop_of_length_le (by simp)]
  simp[←hcs]
 ·have:b≠h.next:=by omega
  simp[aA.new,this]
theorem eF.trans {r r1 r2:Ren} {h h1 h2:aA} (a:eF r h r1 h1) (b:eF r1 h1 r2 h2):eF r h r2 h2:=
 ⟨Ren.le_trans a.ren b.ren,Nat.le_trans a.next b.next,fun x hx=>by rw[b.get x (Nat.lt_of_lt_of_le hx a.next),a.get x hx]⟩
def Ri (N:Nat) (h:aA) (v:V) (l:List Oq):Prop:=Oqs N h v l∨(v = .slice none 0 1∧l=[])
theorem Ri.more {r r':Ren} {h h':aA} {v:V} {l:List Oq} (m:eF r h r' h') (s:Ri h.next h v l):Ri h'.next h' v l:=by
 rcases s with s | s
 ·exact .inl (Ro.more m s)
 ·exact .inr s
theorem aRx {w:World} {a:Addr} {v:V} (h:w.cell? a=some v):a.spot=none∧∃cc el fr,w.heap[a.block]? = some (.cells cc el fr):=by
 unfold World.cell? at h
 split at h
 ·rename_i c el fr hb
  split at h
  ·cases h
  ·rename_i hs
   exact⟨by cases ha:a.spot with | none=>rfl | some s=>simp[ha]at hs,c,el,fr,hb⟩
 ·cases h
theorem aWr {H:Type} {enc:TypeId×Value→H} {P:Program} {J:World→Prop} {W:World} {held:Bool} {fuel:Nat} {t e:TypeId} {fs:Array Field} {u:V} {x:DataW H×List MemPlace}
 (ht:P.underlying t=some (.slice e)) (he:P.underlying e=some (.struct fs)) (ce:P.cellsOf e=5) (hf:∀i,i<5→∃f,fs[i]? = some f∧f.offset=i∧P.cellsOf f.type=1∧P.underlying f.type=some (uE i)) (hn:fs.size=5)
 {r:Ren} {h:aA} (hR0:R J W.heap.size r h W) (hro:oZ h) (hd:DataW.trod enc P W 0 (fun _=>true) held fuel t [u]=some x) :
 ∃(l:List Oq) (r':Ren) (h':aA) (v':V),R J W.heap.size r' h' W∧oZ h'∧VR r' v' u∧Ri h'.next h' v' l∧eF r h r' h'∧∀o∈l,o.space.size≤maxLen:=by
 rcases Deep.open_slice ht hd with ⟨h1,_⟩ | ⟨a',len,cap,m,n,D,Pl,h1,_,hlc,hcap,hm,hx,hr⟩
 ·simp only[List.cons.injEq,and_true]at h1
  subst h1
  exact⟨[],r,h,.slice none 0 0,hR0,hro,.sliceNil,.inl ⟨rfl,Nat.le_refl _,.inl ⟨rfl,rfl⟩⟩,eF.refl r h,by simp⟩
 ·simp only[List.cons.injEq,and_true]at h1
  subst h1
  simp only[if_true]at hm
  rw[hm]at hr
  clear hm hx
  rw[ce]at hr
  by_cases hl0:len=0
  ·subst hl0
   exact⟨[],r,h,.slice none 0 1,hR0,hro,.sliceGone _ _,.inr ⟨rfl,rfl⟩,eF.refl r h,by simp⟩
  obtain⟨cs0,h02,h03⟩:=hr 0 (by omega)
  obtain⟨_,h0n,h04⟩:=World.cells?_some h02
  have hc00:W.cell? a'=some (cs0[0]'(by omega)):=by
   have h05:=h04 0 (by decide)
   rw[List.getElem?_eq_getElem (by omega:0<cs0.length)]at h05
   simpa[Addr.add]using h05
  obtain⟨hs,cc,el,fr,hb⟩:=aRx hc00
  have hadd:∀k,a'.add k=⟨a'.block,a'.off+k,none⟩:=by
   intro k
   obtain⟨bb,oo,ss⟩:=a'
   simp only at hs
   subst hs
   exact addr_add _ _ _
  have each:∀i,i<cap→∃o:Oq,(∀j,j<5→cc[a'.off+(i*5+j)]? = o.cells[j]?)∧o.space.size≤maxLen:=by
   intro i hi
   obtain⟨cs',h2,h3⟩:=hr i hi
   obtain⟨o,hoc,_,hz⟩:=aWs he ce hf hn h3
   have hsp:=aWw he ce hf hn h3 hoc
   subst hoc
   obtain⟨_,_,h4⟩:=World.cells?_some h2
   refine⟨o,fun j hj=>?_,hsp⟩
   rw[←h4 j hj,hadd,addr_add]
   rw[qY hb,Nat.add_assoc]
  have hsz:a'.off+cap*5≤cc.size:=by
   obtain⟨o,h5,_⟩:=each (cap - 1) (by omega)
   have h6:=h5 4 (by decide)
   have h7:o.cells[4]? = some (i64 o.n):=rfl
   rw[h7]at h6
   have:=(Array.getElem?_eq_some_iff.1 h6).1
   omega
  obtain⟨O,hO⟩:=Deep.choose_lt (n:=len) (p:=fun i (o:Oq)=>(∀j,j<5→cc[a'.off+(i*5+j)]? = o.cells[j]?)∧o.space.size≤maxLen) fun i hi=>each i (by omega)
  have hlen:∀l:List Oq,(l.flatMap Oq.cells).length=l.length*5:=by
   intro l
   induction l with
   | nil=>rfl
   | cons o l ih=>simp[List.flatMap_cons,ih,Oq.cells];omega
  have hc1:(((List.range len).map O).flatMap Oq.cells).length=len*5:=by rw[hlen,List.length_map,List.length_range]
  have hc2:∀j,j<len*5→∃u x,(((List.range len).map O).flatMap Oq.cells)[j]? = some u∧cc[a'.off+j]? = some x∧VR r u x:=by
   intro j hj
   have h1:j / 5<len:=by omega
   have h2:=aNl ((List.range len).map O) (j / 5) (O (j / 5)) (by simp[h1]) (j % 5) (by omega)
   rw[show j / 5*5+j % 5=j by omega]at h2
   have h3:=(hO (j / 5) h1).1 (j % 5) (by omega)
   rw[show j / 5*5+j % 5=j by omega]at h3
   have h5:j % 5<(O (j / 5)).cells.length:=by simp[Oq.cells];omega
   have h6:=List.getElem?_eq_getElem h5
   refine⟨_,_,h2.trans h6,h3.trans h6,VR.closed ?_⟩
   have hm:=List.getElem_mem h5
   generalize (O (j / 5)).cells[j % 5]=q at hm
   simp only[Oq.cells,List.mem_cons,List.not_mem_nil,or_false]at hm
   rcases hm with rfl | rfl | rfl | rfl | rfl<;>rfl
  obtain⟨r',h',v',hR',hro',hv,hq,hm⟩:=R.aI9 hR0 hro (es:=5) hs hb hsz hlc hc1 hc2
  refine⟨(List.range len).map O,r',h',v',hR',hro',hv,.inl ?_,hm,fun o ho=>?_⟩
  ·unfold Oqs
   rw[List.length_map,List.length_range]
   exact hq
  ·obtain⟨i,hi,rfl⟩:=List.mem_map.1 ho
   exact (hO i (by simpa using hi)).2
theorem aNf {J:World→Prop} {W:World} {X:Type} (C:Nat→V) (ok:X→Prop) (Q:Nat→aA→V→X→Prop)
 (hQ:∀{r r':Ren} {h h':aA} {v:V} {x:X},eF r h r' h'→Q h.next h v x→Q h'.next h' v x)
 {len:Nat} (step:∀i,i<len→∀(r:Ren) (h:aA),R J W.heap.size r h W→oZ h→∃(x:X) (r':Ren) (h':aA) (v':V),R J W.heap.size r' h' W∧oZ h'∧VR r' v' (C i)∧Q h'.next h' v' x∧eF r h r' h'∧ok x) :
 ∀k,k≤len→∀(r:Ren) (h:aA),R J W.heap.size r h W→oZ h→∃(xs:List X) (vs:List V) (r':Ren) (h':aA),xs.length=k∧vs.length=k∧R J W.heap.size r' h' W∧oZ h'∧eF r h r' h' ∧
  (∀(i:Nat) v,vs[i]? = some v→VR r' v (C i))∧(∀(i:Nat) v x,vs[i]? = some v→xs[i]? = some x→Q h'.next h' v x)∧∀x∈xs,ok x
 | 0,_,r,h,hR,hro=>⟨[],[],r,h,rfl,rfl,hR,hro,eF.refl r h,by simp,by simp,by simp⟩
 | k+1,hk,r,h,hR,hro=>by
  obtain⟨xs,vs,r1,h1,e1,e2,hR1,hro1,m1,a1,a2,a3⟩:=aNf C ok Q hQ step k (by omega) r h hR hro
  obtain⟨x,r2,h2,v,hR2,hro2,hv,hq,m2,hok⟩:=step k (by omega) r1 h1 hR1 hro1
  refine⟨xs++[x],vs++[v],r2,h2,by simp[e1],by simp[e2],hR2,hro2,m1.trans m2,fun i w hw=>?_,fun i w y hw hy=>?_,fun y hy=>?_⟩
  ·rcases Nat.lt_or_ge i k with hi | hi
   ·rw[List.getElem?_append_left (by omega)]at hw
    exact (a1 i w hw).mono m2.ren
   ·have hik:i=k:=by
     have:=(List.getElem?_eq_some_iff.1 hw).1
     simp[e2]at this
     omega
    subst hik
    rw[List.getElem?_append_right (by omega)]at hw
    simp[e2]at hw
    subst hw
    exact hv
  ·rcases Nat.lt_or_ge i k with hi | hi
   ·rw[List.getElem?_append_left (by omega)]at hw hy
    exact hQ m2 (a2 i w y hw hy)
   ·have hik:i=k:=by
     have:=(List.getElem?_eq_some_iff.1 hw).1
     simp[e2]at this
     omega
    subst hik
    rw[List.getElem?_append_right (by omega)]at hw hy
    simp[e2]at hw
    simp[e1]at hy
    subst hw hy
    exact hq
  ·rcases List.mem_append.1 hy with hy | hy
   ·exact a3 y hy
   ·rw[List.mem_singleton.1 hy];exact hok
end Go.Abs
namespace Go.Abs
open Go Go.Proofs
variable {E:FE} {F:Fr} {h:aA} {L:List Pl} {v:V}
theorem aSt {N:Nat} {l:List Oq} (n:Nat) (hn:n≤1000) (hO:Ri N h v l) (s:Sep F h L):cl (G.cut n) [v] h fun r h'=>Sep F h' (cV r (l.take n)::L):=by
 rcases hO with hO | ⟨rfl,rfl⟩
 ·exact aSu n hn hO s
 refine aN ?_
 have e:min (0:Int) (n:Int)=0:=by omega
 have e1:bH .slice (.slice none 0 1) h=some (i64 0):=rfl
 have e2:cK (.slice 5) (.slice none 0 1) none (some (i64 0)) none h=some (.slice none 0 1):=by simp[cK,cD,dL]
 obtain⟨w,h',fp',a1,a2,a3⟩:=Sl.append (Sl.nil (h:=h) (es:=5)) (x:=.slice none 0 1) (k:=0) (bytes:=64) (z:=zOp) (new:=[]) rfl (by decide) (by decide) rfl (fun h=>absurd rfl h) rfl rfl (by omega)
 simp only[zOp]at a1
 simp only[G.cut,e1,aB,min2,e,e2,a1,aZ,List.take_nil]
 exact s.alloc (cV w []) a3 a2
end Go.Abs
namespace Go.Abs
open Go Go.RowKit
structure eG where
 kind:Int
 id:IdM
 ops:List Oq
 now:Int
 yes:Bool
def eG.cells (o:eG) (v:V):List V:=[i64 o.kind,i64 o.id.client,i64 o.id.seq,v,i64 o.now,.bool o.yes]
structure aIq (P:Program) (e tO:TypeId) (fs:Array Field):Prop where
 he:P.underlying e=some (.struct fs)
 ce:P.cellsOf e=6
 sz:fs.size=5
 k:∃f,fs[0]? = some f∧f.offset=0∧P.cellsOf f.type=1∧P.underlying f.type=some (.int .i64)
 i:∃f gs,fs[1]? = some f∧f.offset=1∧P.cellsOf f.type=2∧P.underlying f.type=some (.struct gs)∧gs.size=2 ∧
  (∃g,gs[0]? = some g∧g.offset=0∧P.cellsOf g.type=1∧P.underlying g.type=some (.int .i64))∧(∃g,gs[1]? = some g∧g.offset=1∧P.cellsOf g.type=1∧P.underlying g.type=some (.int .i64))
 o:∃f,fs[2]? = some f∧f.offset=3∧P.cellsOf f.type=1∧f.type=tO
 n:∃f,fs[3]? = some f∧f.offset=4∧P.cellsOf f.type=1∧P.underlying f.type=some (.int .i64)
 y:∃f,fs[4]? = some f∧f.offset=5∧P.cellsOf f.type=1∧P.underlying f.type=some .bool
theorem aWt {H:Type} {enc:TypeId×Value→H} {P:Program} {w:World} {base:Nat} {spare:Nat→Bool} {held:Bool} {fuel:Nat} {e tO:TypeId} {fs:Array Field} {cs:List V} {x:DataW H×List MemPlace}
 (T:aIq P e tO fs) (h:DataW.trod enc P w base spare held fuel e cs=some x) :
 ∃(kind:Int) (id:IdM) (now:Int) (yes:Bool) (u:V),cs=[i64 kind,i64 id.client,i64 id.seq,u,i64 now,.bool yes]∧∃n y,DataW.trod enc P w base spare held n tO [u]=some y:=by
 obtain⟨xs,n,_,_,hl,hxs,hr⟩:=DataW.trod_struct T.he h
 rw[T.ce]at hl
 have hsz:=T.sz
 obtain⟨f0,k1,k2,k3,k4⟩:=T.k
 obtain⟨f1,gs,i1,i2,i3,i4,i5,⟨g0,a1,a2,a3,a4⟩,⟨g1,b1,b2,b3,b4⟩⟩:=T.i
 obtain⟨f2,o1,o2,o3,o4⟩:=T.o
 obtain⟨f3,n1,n2,n3,n4⟩:=T.n
 obtain⟨f4,y1,y2,y3,y4⟩:=T.y
 have h0:=hr 0 f0 k1
 have h1:=hr 1 f1 i1
 have h2:=hr 2 f2 o1
 have h3:=hr 3 f3 n1
 have h4:=hr 4 f4 y1
 rw[k2,k3,List.getElem?_eq_getElem (by omega:0<xs.length)]at h0
 rw[i2,i3,List.getElem?_eq_getElem (by omega:1<xs.length)]at h1
 rw[o2,o3,List.getElem?_eq_getElem (by omega:2<xs.length)]at h2
 rw[n2,n3,List.getElem?_eq_getElem (by omega:3<xs.length)]at h3
 rw[y2,y3,List.getElem?_eq_getElem (by omega:4<xs.length)]at h4
 match cs,hl with
 | [c0,c1,c2,c3,c4,c5],_=>
  obtain⟨kk,e0,_⟩:=DataW.trod_int k4 (show DataW.trod enc P w base spare held n f0.type [c0]=_ from h0)
  obtain⟨zs,m,_,_,_,hzs,hz⟩:=DataW.trod_struct i4 (show DataW.trod enc P w base spare held n f1.type [c1,c2]=_ from h1)
  have z0:=hz 0 g0 a1
  have z1:=hz 1 g1 b1
  rw[a2,a3,List.getElem?_eq_getElem (by omega:0<zs.length)]at z0
  rw[b2,b3,List.getElem?_eq_getElem (by omega:1<zs.length)]at z1
  obtain⟨ic,e1,_⟩:=DataW.trod_int a4 (show DataW.trod enc P w base spare held m g0.type [c1]=_ from z0)
  obtain⟨is,e2,_⟩:=DataW.trod_int b4 (show DataW.trod enc P w base spare held m g1.type [c2]=_ from z1)
  obtain⟨nw,e3,_⟩:=DataW.trod_int n4 (show DataW.trod enc P w base spare held n f3.type [c4]=_ from h3)
  obtain⟨yy,e4,_⟩:=DataW.trod_bool y4 (show DataW.trod enc P w base spare held n f4.type [c5]=_ from h4)
  simp only[List.cons.injEq,and_true]at e0 e1 e2 e3 e4
  refine⟨kk,⟨ic,is⟩,nw,yy,c3,by rw[e0,e1,e2,e3,e4],n,xs[2]'(by omega),?_⟩
  rw[←o4]
  exact h2
end Go.Abs
namespace Go.Abs
open Go Go.RowKit
theorem aGd {α:Type} (f:α→List V) (n:Nat) (hf:∀a,(f a).length=n):∀(l:List α) (i:Nat) (a:α),l[i]? = some a→∀j,j<n→(l.flatMap f)[i*n+j]? = (f a)[j]?
 | [],i,o,h,_,_=>by simp at h
 | a::l,0,o,h,j,hj=>by
  simp only[List.getElem?_cons_zero,Option.some.injEq]at h
  subst h
  rw[List.flatMap_cons,List.getElem?_append_left (by rw[hf];omega)]
  simp
 | a::l,i+1,o,h,j,hj=>by
  rw[List.getElem?_cons_succ]at h
  have e:(i+1)*n+j=n+(i*n+j):=by rw[Nat.add_mul];omega
  rw[List.flatMap_cons,e,List.getElem?_append_right (by rw[hf];omega),←aGd f n hf l i o h j hj,hf]
  congr 1
  omega
theorem aTw {α:Type} (f:α→List V) (n:Nat) (hf:∀a,(f a).length=n) (l:List α):(l.flatMap f).length=l.length*n:=by
 induction l with
 | nil=>simp
 | cons a l ih=>rw[List.flatMap_cons,List.length_append,hf,ih,List.length_cons,Nat.add_mul];omega
instance:Inhabited eG:=⟨⟨0,⟨0,0⟩,[],0,false⟩⟩
def jJ (N:Nat) (h:aA) (v:V) (l:List eG):Prop:=∃vs:List V,vs.length=l.length∧Ro N h v 6 l.length ((l.zip vs).flatMap fun e=>e.1.cells e.2)∧∀(i:Nat) u o,vs[i]? = some u→l[i]? = some o→Ri N h u o.ops
theorem aWu {H:Type} {enc:TypeId×Value→H} {P:Program} {J:World→Prop} {W:World} {held:Bool} {base:Nat} {tt ev tO e:TypeId} {fv fs:Array Field} {v:V} {d:DataW H} {p:List MemPlace}
 (htt:P.underlying tt=some (.slice ev)) (T:aIq P ev tO fv) (ht:P.underlying tO=some (.slice e)) (he:P.underlying e=some (.struct fs)) (ce:P.cellsOf e=5)
 (hf:∀i,i<5→∃f,fs[i]? = some f∧f.offset=i∧P.cellsOf f.type=1∧P.underlying f.type=some (uE i)) (hn:fs.size=5)
 {r:Ren} {h:aA} (hR:R J W.heap.size r h W) (hval:Value.okWide P W .any base tt v) (hd:DataW.Trod enc P W 0 (fun _=>true) held tt v d p) :
 ∃(l:List eG) (r':Ren) (h':aA) (v':V),R J W.heap.size r' h' W∧VR r' v' v∧jJ h'.next h' v' l∧eF r h.ros r' h'∧∀o∈l,∀q∈o.ops,q.space.size≤maxLen:=by
 obtain⟨hR0,hro⟩:=hR.aOh
 obtain⟨fuel,hd⟩:=hd
 obtain⟨a,len,cap,rfl⟩:=WideShapes.okWide_slice htt hval
 rcases Deep.open_slice htt hd with ⟨h1,_⟩ | ⟨a',len',cap',m,n,D,Pl,h1,_,hlc,hcap,hm,hx,hr⟩
 ·simp only[Value.cells,List.cons.injEq,Value.slice.injEq,and_true]at h1
  obtain⟨rfl,rfl,rfl⟩:=h1
  exact⟨[],r,h.ros,.slice none 0 0,hR0,.sliceNil,⟨[],rfl,⟨rfl,Nat.le_refl _,.inl ⟨rfl,rfl⟩⟩,by simp⟩,eF.refl r h.ros,by simp⟩
 ·simp only[Value.cells,List.cons.injEq,Value.slice.injEq,and_true]at h1
  obtain⟨h11,h12,h13⟩:=h1
  subst h11
  simp only[if_true]at hm
  rw[←h12,←h13]at hlc
  rw[←h13]at hcap hm
  rw[hm]at hr
  clear h12 h13 hm hx
  obtain⟨hs,cc,el,fr,hb,ho⟩:=aM7 htt hval
  rw[T.ce]at hr
  have hadd:∀k,a'.add k=⟨a'.block,a'.off+k,none⟩:=by
   intro k
   obtain⟨bb,oo,ss⟩:=a'
   simp only at hs
   subst hs
   exact addr_add _ _ _
  have each:∀i,i<cap→∃z:eG×V,(∀j,j<6→cc[a'.off+(i*6+j)]? = (z.1.cells z.2)[j]?)∧∃n y,DataW.trod enc P W 0 (fun _=>true) held n tO [z.2]=some y:=by
   intro i hi
   obtain⟨cs',h2,h3⟩:=hr i hi
   obtain⟨k,id,nw,ys,u,hcs,hy⟩:=aWt T h3
   obtain⟨_,_,h4⟩:=World.cells?_some h2
   refine⟨(⟨k,id,[],nw,ys⟩,u),fun j hj=>?_,hy⟩
   have:(eG.cells ⟨k,id,[],nw,ys⟩ u)=cs':=hcs.symm
   rw[this,←h4 j hj,hadd,addr_add,qY hb,Nat.add_assoc]
  have hsz:a'.off+cap*6≤cc.size:=by
   by_cases hc0:cap=0
   ·omega
   ·obtain⟨z,h5,_⟩:=each (cap - 1) (by omega)
    have h6:=h5 5 (by decide)
    have h7:(z.1.cells z.2)[5]? = some (.bool z.1.yes):=rfl
    rw[h7]at h6
    have:=(Array.getElem?_eq_some_iff.1 h6).1
    omega
  obtain⟨Z,hZ⟩:=Deep.choose_lt (n:=len) (p:=fun i (z:eG×V)=>(∀j,j<6→cc[a'.off+(i*6+j)]? = (z.1.cells z.2)[j]?)∧∃n y,DataW.trod enc P W 0 (fun _=>true) held n tO [z.2]=some y) fun i hi=>each i (by omega)
  obtain⟨ls,vs,r1,h1,e1,e2,hR1,hro1,m1,b1,b2,b3⟩:=aNf (fun i=>(Z i).2) (fun l:List Oq=>∀o∈l,o.space.size≤maxLen) Ri (fun m s=>Ri.more m s) (len:=len) (fun i hi r h hR hro=>by
   obtain⟨_,_,y,hy⟩:=hZ i hi
   exact aWr ht he ce hf hn hR hro hy) len (Nat.le_refl _) r h.ros hR0 hro
  let l:List eG:=(List.range len).map fun i=>⟨(Z i).1.kind,(Z i).1.id,ls.getD i [],(Z i).1.now,(Z i).1.yes⟩
  have hll:l.length=len:=by simp[l]
  have hzl:(l.zip vs).length=len:=by rw[List.length_zip,hll,e2,Nat.min_self]
  have hz:∀i (hi:i<len),(l.zip vs)[i]? = some (⟨(Z i).1.kind,(Z i).1.id,ls.getD i [],(Z i).1.now,(Z i).1.yes⟩,vs[i]'(by omega)):=fun i hi=>by
   rw[List.getElem?_eq_getElem (by omega),List.getElem_zip]
   simp[l]
  have hfl:=aTw (fun e:eG×V=>e.1.cells e.2) 6 (fun _=>rfl) (l.zip vs)
  rw[hzl]at hfl
  obtain⟨r',h',v',hR',hro',hv,hq,hm⟩:=R.aI9 hR1 hro1 (es:=6) hs hb hsz hlc (cs:=(l.zip vs).flatMap fun e=>e.1.cells e.2) hfl (fun j hj=>by
   have hi:j / 6<len:=by omega
   have hmj:j % 6<6:=Nat.mod_lt _ (by decide)
   have g1:=aGd (fun e:eG×V=>e.1.cells e.2) 6 (fun _=>rfl) (l.zip vs) (j / 6) _ (hz (j / 6) hi) (j % 6) hmj
   have g2:=(hZ (j / 6) hi).1 (j % 6) hmj
   have ej:j / 6*6+j % 6=j:=by omega
   rw[ej]at g1 g2
   have g3:=b1 (j / 6) _ (List.getElem?_eq_getElem (by omega))
   have h6:j % 6=0∨j % 6=1∨j % 6=2∨j % 6=3∨j % 6=4∨j % 6=5:=by omega
   rcases h6 with h6 | h6 | h6 | h6 | h6 | h6<;>rw[h6]at g1 g2
   ·exact⟨_,_,g1,g2,.int _ _⟩
   ·exact⟨_,_,g1,g2,.int _ _⟩
   ·exact⟨_,_,g1,g2,.int _ _⟩
   ·exact⟨_,_,g1,g2,g3⟩
   ·exact⟨_,_,g1,g2,.int _ _⟩
   ·exact⟨_,_,g1,g2,.bool _⟩)
  refine⟨l,r',h',v',hR',hv,⟨vs,by omega,by rw[hll];exact hq,fun i u o hu hl=>?_⟩,m1.trans hm,fun o ho=>?_⟩
  ·have hi:i<len:=by
    have:=(List.getElem?_eq_some_iff.1 hu).1
    omega
   have hio:ls[i]? = some o.ops:=by
    have hl':l[i]? = some ⟨(Z i).1.kind,(Z i).1.id,ls.getD i [],(Z i).1.now,(Z i).1.yes⟩:=by simp[l,hi]
    rw[hl']at hl
    cases hl
    rw[List.getD_eq_getElem?_getD,List.getElem?_eq_getElem (by omega)]
    rfl
   exact Ri.more hm (b2 i u o.ops hu hio)
  ·obtain⟨i,hi,rfl⟩:=List.mem_map.1 ho
   have hi:i<len:=by simpa using hi
   refine b3 _ ?_
   show ls.getD i []∈ls
   rw[List.getD_eq_getElem?_getD,List.getElem?_eq_getElem (by omega)]
   exact List.getElem_mem _
end Go.Abs
namespace Go.Abs
open Go Go.RowKit
theorem aWq {H:Type} {enc:TypeId×Value→H} {P:Program} {W:World} {held:Bool} {base:Nat} {t:TypeId} {fs:Array Field} {v:V} {d:DataW H} {p:List MemPlace}
 (ht:P.underlying t=some (.struct fs)) (ct:P.cellsOf t=2) (hsz:fs.size=2)
 (g0:∃g,fs[0]? = some g∧g.offset=0∧P.cellsOf g.type=1∧P.underlying g.type=some (.int .i64)) (g1:∃g,fs[1]? = some g∧g.offset=1∧P.cellsOf g.type=1∧P.underlying g.type=some (.int .i64))
 (hval:Value.okWide P W .any base t v) (hd:DataW.Trod enc P W 0 (fun _=>true) held t v d p):∃i:IdM,v=i.agg:=by
 obtain⟨cs,rfl,hc⟩:=WideShapes.okWide_struct ht hval
 obtain⟨fuel,hf⟩:=hd
 obtain⟨zs,m,_,_,hl,hzs,hz⟩:=DataW.trod_struct ht hf
 obtain⟨g0,a1,a2,a3,a4⟩:=g0
 obtain⟨g1,b1,b2,b3,b4⟩:=g1
 have z0:=hz 0 g0 a1
 have z1:=hz 1 g1 b1
 rw[a2,a3,List.getElem?_eq_getElem (by omega:0<zs.length)]at z0
 rw[b2,b3,List.getElem?_eq_getElem (by omega:1<zs.length)]at z1
 obtain⟨l⟩:=cs
 rw[ct]at hc
 match l,hc with
 | [c1,c2],_=>
  obtain⟨ic,e1,_⟩:=DataW.trod_int a4 (show DataW.trod enc P W 0 (fun _=>true) held m g0.type [c1]=_ from z0)
  obtain⟨is,e2,_⟩:=DataW.trod_int b4 (show DataW.trod enc P W 0 (fun _=>true) held m g1.type [c2]=_ from z1)
  simp only[List.cons.injEq,and_true]at e1 e2
  subst e1 e2
  exact⟨⟨ic,is⟩,rfl⟩
end Go.Abs

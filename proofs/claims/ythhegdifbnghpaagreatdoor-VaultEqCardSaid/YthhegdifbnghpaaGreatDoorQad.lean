/- Our own abstract machine, part 12: append, copy, len, clear, min and max. -/
import Derived.Test.YthhegdifbnghpaaGreatDoorQac
set_option linter.unusedSimpArgs false
set_option linter.unusedVariables false
namespace Go.Abs
open Go Go.RowKit
section
variable {P:Program} {J:World→Prop} {B:Nat} {r:Ren} {h:aA} {w:World}
theorem aVi {x x':V} {n:Nat} (hx:VR r x x') (hn:dX x=some n):(Builtin.lenOf x').run P w = .ok n w:=by
 unfold dX at hn
 split at hn
 ·cases hx;simp only[Option.some.injEq]at hn;subst hn;rfl
 ·cases hx;simp only[Option.some.injEq]at hn;subst hn;rfl
 ·cases hx with
  | slice=>simp only[Option.some.injEq]at hn;subst hn;rfl
 ·cases hx;simp only[Option.some.injEq]at hn;subst hn;rfl
 ·cases hn
theorem aEb (hR:R J B r h w) {size n:Nat} {x x':V} {l:List V} (hx:VR r x x') (hn:dX x=some n) (hs:dT size x h=some l) :
 ∃l',(Builtin.firstCells size n x').run P w = .ok l' w∧VRl r l l'.toList∧l.length=n*size:=by
 unfold dT at hs
 split at hs
 ·rename_i s
  cases hx
  split at hs
  ·rename_i h1
   subst h1
   simp only[Option.some.injEq]at hs
   subst hs
   simp only[dX,Option.some.injEq]at hn
   subst hn
   refine⟨_,rfl,?_,by simp⟩
   have:s.extract 0 s.size=s:=by
    apply ByteArray.ext
    simp
   rw[this]
   simp only[Array.toList_map]
   refine⟨rfl,fun i a b=>?_⟩
   simp only[List.getElem_map]
   exact .int _ _
  ·cases hs
 ·unfold jB at hs
  split at hs
  ·cases hx
   simp only[Option.some.injEq]at hs
   subst hs
   simp only[dX,Option.some.injEq]at hn
   subst hn
   exact⟨#[],rfl,VRl.nil r,by simp⟩
  ·rename_i b o m c _
   simp only[dX,Option.some.injEq]at hn
   subst hn
   cases hx with
   | @slice _ _ _ _ c' tg htg hc hn hz=>
   obtain⟨l',h1,h2,h3,h4⟩:=zA (P:=P) hR htg hs
   exact⟨l',h1,h2,h3⟩
  ·cases hs
theorem aKz (n:Nat):∀(k c:Nat),Builtin.growBy n k c≤max c (n+(n+768) / 4)
 | 0,c=>by simp only[Builtin.growBy];omega
 | k+1,c=>by
  simp only[Builtin.growBy]
  split
  ·omega
  ·have:=aKz n k (c+(c+768) / 4)
   omega
theorem nextslicecap_le {n c:Nat} (h:c<n):Builtin.nextslicecap n c≤2*n+512:=by
 unfold Builtin.nextslicecap
 split
 ·omega
 ·split
  ·omega
  ·have:=aKz n 4 c;omega
theorem aO1 {t:TypeId} (h:tA P t=true):(∃e,P.underlying t=some (.slice e))∨P.underlying t=some .string:=by
 unfold tA at h
 split at h
 ·exact .inl ⟨_,by assumption⟩
 ·exact .inr (by assumption)
 ·cases h
theorem run_append_fits {ts:Array TypeId} {ty st xt e:TypeId} {size:Nat} (h0:ts[0]? = some st) (h1:ts[1]? = some xt) (hus:P.underlying st=some (.slice e)) (hux:tA P xt=true) (hsz:szT P e=some size)
 {base:Option Addr} {m c n:Nat} {x:V} {nl:Array V} {w':World} (hn:∀w,(Builtin.lenOf x).run P w = .ok n w) (hle:m+n≤c) (hnew:(Builtin.firstCells size n x).run P w = .ok nl w)
 (hst:match base with | some a=>(storeCells (a.add (m*size)) nl.toList).run P w = .ok () w' | none=>w'=w) :
 (Builtin.append_ ts ty #[.slice base m c,x]).run P w = .ok (.slice base (m+n) c) w':=by
 rcases aO1 hux with ⟨e2,hu2⟩ | hu2<;>cases base<;>simp[Builtin.append_,h0,h1,bN hus,bN hu2,run_sizeOf hsz,hn,hle,hnew]<;>simp at hst<;>simp[hst]
theorem aOk {ts:Array TypeId} {ty st xt e:TypeId} {i:TypeInfo} (h0:ts[0]? = some st) (h1:ts[1]? = some xt) (hus:P.underlying st=some (.slice e)) (hux:tA P xt=true) (hi:P.info? e=some i)
 {base:Option Addr} {m c n:Nat} {x zv:V} {ol nl:Array V} (hn:∀w,(Builtin.lenOf x).run P w = .ok n w) (hlt:c<m+n) (hmax:m+n≤1099511627776) (hb:i.bytes≤64)
 (hold:∀w',w'.heap=w.heap→(Builtin.firstCells i.size m (.slice base m c)).run P w' = .ok ol w') (hnew:∀w',w'.heap=w.heap→(Builtin.firstCells i.size n x).run P w' = .ok nl w')
 (hz:∀w',(zeroValue e).run P w' = .ok zv w') (hz1:zv.cells.size=i.size) (hol:ol.size+nl.size=(m+n)*i.size) :
 ∃cells newCap,(Builtin.append_ ts ty #[.slice base m c,x]).run P w = .ok (.slice (some ⟨w.heap.size,0,none⟩) (m+n) newCap) (w.drew.alloc (.cells cells e)) ∧
  m+n≤newCap∧cells.size=newCap*i.size∧∃rest,cells=ol++nl++rest:=by
 have hsz:∀w',(sizeOf e).run P w' = .ok i.size w':=fun w'=>by simp[sizeOf,run_typeInfo hi]
 have hnle:¬(m+n≤c):=by omega
 have h63:¬((9223372036854775807:Int)<((m:Int)+(n:Int))):=by omega
 have hmx:IntKind.i64.max=9223372036854775807:=by rfl
 have h48:¬(281474976710656<Builtin.nextslicecap (m+n) c*i.bytes):=by
  have:=nextslicecap_le hlt
  have h3:Builtin.nextslicecap (m+n) c*i.bytes≤(2*1099511627776+512)*64:=Nat.mul_le_mul (by omega) hb
  omega
 generalize hcap:(Question.appendCap (m+n) c e).cut (w.tape w.drawn (.appendCap (m+n) c e))=nc
 have hge:m+n≤nc:=by rw[←hcap];simp only[Question.cut];omega
 have e1:=hold w.drew rfl
 have e2:=hnew w.drew rfl
 refine⟨ol++nl++Builtin.zeroCells zv.cells (nc - (m+n)),nc,?_,hge,?_,_,rfl⟩
 ·rcases aO1 hux with ⟨e3,hu2⟩ | hu2 <;>
   simp[Builtin.append_,h0,h1,bN hus,bN hu2,hsz,hn,hnle,h63,run_typeInfo hi,hmx,h48,Question.forced,hcap,e1,e2,hz,newRow]
 ·simp only[Array.size_append,Builtin.zeroCells,Array.size_map,Array.size_range,hz1,hol,←Nat.add_mul]
  congr 1
  omega
def rowOf (w:World) (m:Nat):V→Prop
 | .slice (some ⟨b,o,none⟩) _ _=>∃cc el fr,w.heap[b]? = some (.cells cc el fr)∧o+m≤cc.size
 | .slice (some _) _ _=>False
 | _=>True
theorem aGa {w w':World} (hw:w'.heap=w.heap) {size n:Nat} {x:V} {l:Array V} (h:(Builtin.firstCells size n x).run P w = .ok l w)
 (hx:rowOf w (n*size) x):(Builtin.firstCells size n x).run P w' = .ok l w':=by
 cases x with
 | slice a m c=>
  cases a with
  | none=>simp only[Builtin.firstCells,Sem.run_pure,Result.ok.injEq,and_true]at h ⊢;exact h
  | some a=>
   obtain⟨b,o,sp⟩:=a
   cases sp with
   | some s=>exact hx.elim
   | none=>
    obtain⟨cc,el,fr,h1,h2⟩:=hx
    simp only[Builtin.firstCells]at h ⊢
    rw[run_loadCells h1 h2]at h
    rw[run_loadCells (by rw[hw];exact h1) h2]
    simp only[Result.ok.injEq,and_true]at h
    rw[h]
 | string s=>simp only[Builtin.firstCells,Sem.run_pure,Result.ok.injEq,and_true]at h ⊢;exact h
 | _=>simp[Builtin.firstCells]at h
theorem aO2 (hR:R J B r h w) {size n:Nat} {x x':V} {l:List V} (hx:VR r x x') (hn:dX x=some n) (hs:dT size x h=some l) :
 rowOf w (n*size) x':=by
 unfold dT at hs
 split at hs
 ·cases hx;trivial
 ·unfold jB at hs
  split at hs
  ·cases hx;trivial
  ·rename_i b o m c _
   simp only[dX,Option.some.injEq]at hn
   subst hn
   cases hx with
   | @slice _ _ _ _ c' tg htg hc hn hz=>
   unfold aA.rdN at hs
   split at hs
   ·rename_i c e k hb
    split at hs
    ·rename_i hlen
     obtain⟨t',cc,el,fr,ht',_,h1,h2,h3,_⟩:=hR.row hb
     rw[htg]at ht';cases ht'
     exact⟨cc,el,fr,h1,by omega⟩
    ·cases hs
   ·cases hs
  ·cases hs
theorem aGb {x':V} (hx:(∃a n c,x' = .slice a n c)∨∃s,x' = .string s) (size:Nat):(Builtin.firstCells size 0 x').run P w = .ok #[] w:=by
 rcases hx with ⟨a,n,c,rfl⟩ | ⟨s,rfl⟩
 ·cases a with
  | none=>rfl
  | some a=>simp only[Builtin.firstCells,Nat.zero_mul];rfl
 ·simp only[Builtin.firstCells]
  have:s.extract 0 0=ByteArray.empty:=by apply ByteArray.ext;simp
  rw[this];simp[ByteArray.empty,ByteArray.emptyWithCapacity];rfl
theorem aG2 {x x':V} {n:Nat} (hx:VR r x x') (hn:dX x=some n):(∃a n c,x' = .slice a n c)∨∃s,x' = .string s:=by
 unfold dX at hn
 split at hn
 ·cases hx;exact .inl ⟨_,_,_,rfl⟩
 ·cases hx;exact .inl ⟨_,_,_,rfl⟩
 ·cases hx;exact .inl ⟨_,_,_,rfl⟩
 ·cases hx;exact .inr ⟨_,rfl⟩
 ·cases hn
theorem aG1 {x x':V} {n:Nat} (hx:VR r x x') (hn:dX x=some n):∀w,(Builtin.lenOf x').run P w = .ok n w:=fun _=>aVi hx hn
theorem aKm {ol nl:List V} {a b:Array V} (h1:VRl r ol a.toList) (h2:VRl r nl b.toList):VRl r (ol++nl) (a++b).toList:=by
 rw[Array.toList_append];exact h1.append h2
theorem aGm (hJ:cP J B) (hR:R J B r h w) {e:TypeId} {l:List V} {known rest:Array V} {esz:Nat} {k:BK} (hl:VRl r l known.toList) :
 R J B (r.upd h.next ⟨w.heap.size,(known++rest).size,esz,0⟩) (h.new (.cells l esz k)) (w.alloc (.cells (known++rest) e)) ∧
  Ext r h w (r.upd h.next ⟨w.heap.size,(known++rest).size,esz,0⟩) (h.new (.cells l esz k)) (w.alloc (.cells (known++rest) e)):=by
 have hlen:=hl.1
 simp only[Array.length_toList]at hlen
 refine hR.alloc hJ _ _ _ rfl ⟨rfl,⟨known++rest,e,(0,0),heap_alloc_new,rfl,by simp;omega,fun i a b=>?_,fun _ o _=>by simp,fun _=>rfl⟩,fun _=>hR.base,fun _=>rfl⟩
 have hi:i<known.size:=by omega
 have:=(hl.mono (hR.oH ⟨w.heap.size,(known++rest).size,esz,0⟩)).2 i a (by simpa using hi)
 show VR _ _ (known++rest)[i]
 rw[Array.getElem_append_left hi]
 simpa using this
theorem aHu:∀(vs:List V) (c:Array V) (o j:Nat),j<o→(mY c o vs)[j]? = c[j]?
 | [],_,_,_,_=>rfl
 | v::vs,c,o,j,h=>by
  simp only[mY]
  rw[aHu vs _ (o+1) j (by omega),Array.getElem?_setIfInBounds_ne (by omega)]
theorem aOs:∀(vs:List V) (c:Array V) (o j:Nat),o≤j→j<o+vs.length→j<c.size→(mY c o vs)[j]? = vs[j - o]?
 | [],_,_,_,h1,h2,_=>by simp at h2;omega
 | v::vs,c,o,j,h1,h2,h3=>by
  simp only[mY]
  by_cases hj:j=o
  ·subst hj
   rw[aHu vs _ (j+1) j (by omega)]
   simp[h3]
  ·rw[aOs vs _ (o+1) j (by omega) (by simp at h2;omega) (by simpa using h3)]
   rw[show j - o=(j - (o+1))+1 from by omega]
   simp
theorem aQ1 (hJ:cP J B) (hR:R J B r h w) {ts:Array TypeId} {ty:TypeId} {s s' x x' v:V} {h':aA} (hs:VR r s s') (hx:VR r x x') (ha:uQ P ts s x h=some (v,h')) :
 ∃r' v' w',(Builtin.append_ ts ty #[s',x']).run P w = .ok v' w'∧R J B r' h' w'∧Ext r h w r' h' w'∧VR r' v v':=by
 unfold uQ at ha
 split at ha
 case h_2=>cases ha
 rename_i e xt he hxt
 split at ha
 case h_2=>cases ha
 rename_i i n z hi hn hz
 split at ha
 case isFalse=>cases ha
 rename_i hcond
 obtain⟨hux,hsp,hbs,hzn⟩:=hcond
 obtain⟨st,hst⟩:∃st,ts[0]? = some st:=by
  cases h0:ts[0]? with
  | none=>simp[h0]at he
  | some st=>exact⟨st,rfl⟩
 simp only[hst,Option.bind_some]at he
 have hus:=yC he
 have hszT:szT P e=some i.size:=by simp[szT,hi]
 obtain⟨zv,hzv,hzl⟩:∃zv,(∀w',(zeroValue e).run P w' = .ok zv w')∧VRl r z zv.cells.toList:=by
  cases hz0:zeroOf P e with
  | none=>simp[hz0]at hz
  | some zv=>
   simp only[hz0,Option.bind_some]at hz
   exact⟨zv,fun w'=>(wN (w:=w') hz0).1,(VR.closed (wN (w:=w) hz0).2).cells hz⟩
 have hz1:zv.cells.size=i.size:=by have:=hzl.1;simp at this;omega
 have hlen:=aG1 (P:=P) hx hn
 split at ha
 ·-- a nil slice
  cases hs
  split at ha
  ·rename_i hn0
   subst hn0
   simp only[Option.some.injEq,Prod.mk.injEq]at ha
   obtain⟨rfl,rfl⟩:=ha
   refine⟨r,_,w,run_append_fits (P:=P) (w:=w) (w':=w) (nl:=#[]) hst hxt hus hux hszT hlen (Nat.le_refl 0) (aGb (aG2 hx hn) _) rfl,hR,Ext.refl _ _ _,.sliceNil⟩
  ·rename_i hn0
   split at ha
   ·rename_i hmax
    cases hsrc:dT i.size x h with
    | none=>simp[hsrc]at ha
    | some new=>
     simp only[hsrc,Option.map_some,Option.some.injEq,Prod.mk.injEq]at ha
     obtain⟨rfl,rfl⟩:=ha
     obtain⟨nl,g1,g2,g3⟩:=aEb (P:=P) hR hx hn hsrc
     have grow:=aOk (P:=P) (w:=w) (ty:=ty) (base:=none) (m:=0) (c:=0) (ol:=#[]) (nl:=nl) hst hxt hus hux hi hlen (by omega) (by omega) hbs
      (fun w' _=>rfl) (fun w' hw=>aGa hw g1 (aO2 hR hx hn hsrc)) hzv hz1 (by have:=g2.1;simp at this;simp;omega)
     obtain⟨cells,nc,a1,a2,a3,rest,a4⟩:=grow
     subst a4
     have hR1:=hR.drew hJ
     have e0:(#[]:Array V)++nl=nl:=by simp
     rw[e0]at a1 a3
     obtain⟨b1,b2⟩:=aGm (e:=e) (rest:=rest) (esz:=i.size) hJ hR1 g2
     simp only[Nat.zero_add]at a1 a2
     exact⟨_,_,_,a1,b1,Ext.drew.trans b2,.slice (Ren.cX _ _ _) ⟨by omega,fun h0=>by omega⟩ (by omega) (by simp only[Nat.zero_add];omega)⟩
   ·cases ha
 ·rename_i b o m c
  cases hs with
  | @slice _ _ _ _ c' tg htg hc hnm hsz=>
  have hc1:=hc.1
  split at ha
  ·rename_i hn0
   subst hn0
   simp only[Option.some.injEq,Prod.mk.injEq]at ha
   obtain⟨rfl,rfl⟩:=ha
   exact⟨r,_,w,run_append_fits (P:=P) (w:=w) (w':=w) (nl:=#[]) hst hxt hus hux hszT hlen (by omega) (aGb (aG2 hx hn) _) rfl,hR,Ext.refl _ _ _,.slice htg hc hnm hsz⟩
  ·rename_i hn0
   split at ha
   ·rename_i hfit
    split at ha
    ·rename_i new c0 esz k hsrc hb
     split at ha
     ·rename_i hone
      obtain⟨he1,hone⟩:=hone
      cases hwr:h.wr b (o+m*i.size) new with
      | none=>simp[hwr]at ha
      | some h2=>
       simp only[hwr,Option.map_some,Option.some.injEq,Prod.mk.injEq]at ha
       obtain⟨rfl,rfl⟩:=ha
       obtain⟨nl,g1,g2,g3⟩:=aEb (P:=P) hR hx hn hsrc
       obtain⟨w',s1,s2,s3⟩:=aEz (P:=P) hJ hR htg g2 (yX g2 hone) hwr
       refine⟨r,_,w',run_append_fits (P:=P) (w:=w) (w':=w') (nl:=nl) hst hxt hus hux hszT hlen (by omega) g1 ?_,s2,s3,.slice htg hc hfit hsz⟩
       simp only[addr_add]
       rw[show o+tg.sh+m*i.size=o+m*i.size+tg.sh by omega]
       exact s1
     ·cases ha
    ·cases ha
   ·rename_i hnfit
    split at ha
    ·rename_i hmax
     split at ha
     ·rename_i new old hsrc hold
      obtain⟨nl,g1,g2,g3⟩:=aEb (P:=P) hR hx hn hsrc
      obtain⟨ol,k1,k2,k3,k4⟩:=zA (P:=P) hR htg hold
      have holdrow:∃cc el fr,w.heap[tg.blk]? = some (.cells cc el fr)∧o+tg.sh+m*i.size≤cc.size:=by
       unfold aA.rdN at hold
       split at hold
       ·rename_i c1 e1 k1 hb1
        split at hold
        ·obtain⟨t',cc,el,fr,ht',_,q1,q2,q3,_⟩:=hR.row hb1
         rw[htg]at ht';cases ht'
         exact⟨cc,el,fr,q1,by omega⟩
        ·cases hold
       ·cases hold
      have hsum:ol.size+nl.size=(m+n)*i.size:=by have:=g2.1;simp at this;rw[Nat.add_mul];omega
      have growing:c'<m+n→∃cells newCap rest,(Builtin.append_ ts ty #[.slice (some ⟨tg.blk,o+tg.sh,none⟩) m c',x']).run P w = .ok (.slice (some ⟨w.heap.size,0,none⟩) (m+n) newCap) (w.drew.alloc (.cells cells e)) ∧
       m+n≤newCap∧cells.size=newCap*i.size∧cells=ol++nl++rest:=by
       intro hlt
       obtain⟨cells,nc,a1,a2,a3,rest,a4⟩:=aOk (P:=P) (w:=w) (ty:=ty) (base:=some ⟨tg.blk,o+tg.sh,none⟩) (m:=m) (c:=c') (ol:=ol) (nl:=nl) hst hxt hus hux hi hlen hlt hmax hbs
        (fun w' hw=>aGa hw (by simpa only[Builtin.firstCells]using k1) holdrow) (fun w' hw=>aGa hw g1 (aO2 hR hx hn hsrc)) hzv hz1 hsum
       exact⟨cells,nc,rest,a1,a2,a3,a4⟩
      split at ha
      ·rename_i heven
       simp only[Option.some.injEq,Prod.mk.injEq]at ha
       obtain⟨rfl,rfl⟩:=ha
       have hce:=hc.2 heven
       obtain⟨cells,nc,rest,a1,a2,a3,a4⟩:=growing (by omega)
       subst a4
       obtain⟨b1,b2⟩:=aGm (e:=e) (rest:=rest) (esz:=i.size) hJ (hR.drew hJ) (aKm k2 g2)
       exact⟨_,_,_,a1,b1,Ext.drew.trans b2,.slice (Ren.cX _ _ _) ⟨by omega,fun h0=>by omega⟩ (by omega) (by simp only[Nat.zero_add];omega)⟩
      ·split at ha
       ·rename_i c0 esz k hb
        split at ha
        ·rename_i hcnd
         obtain⟨hesz,hkro,hone⟩:=hcnd
         simp only[Option.some.injEq,Prod.mk.injEq]at ha
         obtain⟨rfl,rfl⟩:=ha
         by_cases hlt:c'<m+n
         ·obtain⟨cells,nc,rest,a1,a2,a3,a4⟩:=growing hlt
          subst a4
          obtain⟨d1,d2⟩:=(hR.drew hJ).kill b
          obtain⟨b1,b2⟩:=aGm (e:=e) (rest:=rest) (esz:=i.size) (k:=if o=0 then k else .rs) hJ d1 (aKm k2 g2)
          exact⟨_,_,_,a1,b1,Ext.drew.trans (d2.trans b2),.slice (Ren.cX _ _ _) ⟨by omega,fun h0=>by omega⟩ (by omega) (by simp only[Nat.zero_add];omega)⟩
         ·obtain⟨t',cc,el,fr,ht',he1,q1,q2,q3,q4,q5,q6,q7⟩:=hR.row hb
          rw[htg]at ht';cases ht'
          have hroom:o+tg.sh+(m+n)*i.size≤cc.size:=by
           have:(m+n)*i.size≤c'*i.size:=Nat.mul_le_mul_right _ (by omega)
           rw[q2]
           rw[he1,hesz]at hsz
           omega
          have hgl:nl.toList.length=n*i.size:=by have:=g2.1;omega
          rw[Nat.add_mul]at hroom
          obtain⟨w',s1,hT⟩:=aHs (P:=P) (o:=o+tg.sh+m*i.size) nl.toList 0 w cc q1 (yX g2 hone) (by omega) (fun j a c=>q5 hkro j (by omega))
          simp only[Nat.add_zero]at hT
          have hold2:old.length=m*i.size∧∀j (hj:j<old.length) (hj':j+(o+tg.sh)<cc.size),VR r old[j] cc[j+(o+tg.sh)]:=by
           refine⟨k3,fun j hj hj'=>?_⟩
           unfold aA.rdN at hold
           rw[hb]at hold
           simp only at hold
           split at hold
           ·simp only[Option.some.injEq]at hold
            subst hold
            simp only[List.getElem_take,List.getElem_drop]
            have e3:j+(o+tg.sh)=o+j+tg.sh:=by omega
            simp only[e3]
            exact q4 (o+j) _ (by omega)
           ·cases hold
          obtain⟨b1,b2⟩:=hR.rename (t2:=⟨tg.blk,tg.sz,tg.esz,o+tg.sh⟩) hJ hb (fun c e he=>by cases he;exact hkro rfl) htg hT rfl (o2:=.cells (old++new) i.size (if o=0 then k else .rs))
           ⟨by rw[he1,hesz],⟨_,el,fr,hT.here,by rw[qR,q2],by rw[qR];simp;omega,fun j a c=>by
            rw[qR]at c
            by_cases hj:j<old.length
            ·have e1:=aHu nl.toList cc (o+tg.sh+m*i.size) (j+(o+tg.sh)) (by omega)
             rw[Array.getElem?_eq_getElem (by rw[qR];exact c),Array.getElem?_eq_getElem c]at e1
             simp only[Option.some.injEq]at e1
             rw[e1,List.getElem_append_left hj]
             exact (hold2.2 j hj c).mono (hR.oH _)
            ·have hj2:j<old.length+new.length:=by simpa using a
             have e1:=aOs nl.toList cc (o+tg.sh+m*i.size) (j+(o+tg.sh)) (by omega) (by omega) c
             have hjn:j+(o+tg.sh) - (o+tg.sh+m*i.size)<nl.toList.length:=by omega
             rw[Array.getElem?_eq_getElem (by rw[qR];exact c),List.getElem?_eq_getElem hjn]at e1
             simp only[Option.some.injEq]at e1
             rw[e1,List.getElem_append_right (by omega)]
             have:=(g2.mono (hR.oH ⟨tg.blk,tg.sz,tg.esz,o+tg.sh⟩)).2 (j - old.length) (by omega) (by omega)
             have e4:j+(o+tg.sh) - (o+tg.sh+m*i.size)=j - m*i.size:=by omega
             simp only[hold2.1,e4]at this ⊢
             exact this,fun hk o' ho'=>by rw[qR]at ho';exact q5 hkro o' ho',fun hk=>q6 (by split at hk<;>first | exact hk | cases hk)⟩,fun _=>q7.1 hkro,fun hk=>by
             split at hk
             ·rename_i ho
              have:=q7.2 hk
              show o+tg.sh=0
              omega
             ·exact absurd rfl hk⟩
          have hs3:(Builtin.append_ ts ty #[.slice (some ⟨tg.blk,o+tg.sh,none⟩) m c',x']).run P w = .ok (.slice (some ⟨tg.blk,o+tg.sh,none⟩) (m+n) c') w':=
           run_append_fits (P:=P) (w:=w) (w':=w') (nl:=nl) hst hxt hus hux hszT hlen (by omega) g1 (by simp only[addr_add];exact s1)
          refine⟨_,.slice (some ⟨tg.blk,0+(o+tg.sh),none⟩) (m+n) c',w',by rw[Nat.zero_add];exact hs3,b1,b2,.slice (Ren.cX _ _ _) ⟨by omega,fun h0=>by omega⟩ (by omega) (by show 0+(o+tg.sh)+c'*tg.esz≤tg.sz;omega)⟩
        ·cases ha
       ·cases ha
     ·cases ha
    ·cases ha
 ·cases ha
end
end Go.Abs
namespace Go.Abs
open Go Go.RowKit
section
variable {P:Program} {J:World→Prop} {B:Nat} {r:Ren} {h:aA} {w:World}
theorem aSr (hJ:cP J B) (hR:R J B r h w) {ts:Array TypeId} {ty:TypeId} {d d' s s' v:V} {h':aA} (hd:VR r d d') (hs:VR r s s') (hc:uS P ts d s h=some (v,h')) :
 ∃v' w',(Builtin.copy_ ts ty #[d',s']).run P w = .ok v' w'∧R J B r h' w'∧Ext r h w r h' w'∧VR r v v':=by
 unfold uS at hc
 split at hc
 case h_2=>cases hc
 rename_i e he
 obtain⟨dt,hdt⟩:∃dt,ts[0]? = some dt:=by
  cases h0:ts[0]? with
  | none=>simp[h0]at he
  | some st=>exact⟨st,rfl⟩
 simp only[hdt,Option.bind_some]at he
 have hu:=yC he
 split at hc
 ·rename_i size n hsz hn
  cases hd
  simp only[Option.some.injEq,Prod.mk.injEq]at hc
  obtain⟨rfl,rfl⟩:=hc
  refine⟨.int .i64 0,w,?_,hR,Ext.refl _ _ _,.int _ _⟩
  simp[Builtin.copy_,hdt,bN hu,aG1 (P:=P) hs hn,run_sizeOf hsz,aGb (P:=P) (w:=w) (aG2 hs hn),goInt]
 ·rename_i size b o m c n hsz hn
  cases hd with
  | @slice _ _ _ _ c' tg htg hcr hnm hz=>
  split at hc
  ·rename_i hpos
   split at hc
   ·rename_i cs hcs
    simp only at hc
    split at hc
    ·rename_i hone
     cases hwr:h.wr b o (cs.take (Nat.min n m*size)) with
     | none=>simp[hwr]at hc
     | some h2=>
      simp only[hwr,Option.map_some,Option.some.injEq,Prod.mk.injEq]at hc
      obtain⟨rfl,rfl⟩:=hc
      obtain⟨nl,g1,g2,g3⟩:=aEb (P:=P) hR hs hn hcs
      have hmin:Nat.min n m≤n:=Nat.min_le_left n m
      have hmul:Nat.min n m*size≤n*size:=Nat.mul_le_mul_right _ hmin
      have hfirst:∃nl',(Builtin.firstCells size (Nat.min n m) s').run P w = .ok nl' w∧VRl r (cs.take (Nat.min n m*size)) nl'.toList:=by
       unfold dT at hcs
       split at hcs
       ·rename_i str
        cases hs
        split at hcs
        ·rename_i h1
         subst h1
         simp only[Option.some.injEq]at hcs
         subst hcs
         refine⟨_,rfl,?_⟩
         simp only[Nat.mul_one,Array.toList_map,ByteArray.data_extract,Array.toList_extract,List.extract_eq_take_drop,List.drop_zero,Nat.sub_zero]
         rw[←List.map_take]
         refine⟨rfl,fun i a b=>?_⟩
         simp only[List.getElem_map]
         exact .int _ _
        ·cases hcs
       ·unfold jB at hcs
        split at hcs
        ·cases hs
         simp only[Option.some.injEq]at hcs
         subst hcs
         exact⟨#[],rfl,by simp;exact VRl.nil r⟩
        ·rename_i b2 o2 m2 c2 _
         simp only[dX,Option.some.injEq]at hn
         subst hn
         cases hs with
         | @slice _ _ _ _ c3 tg2 htg2 hcr2 hnm2 hz2=>
         have:h.rdN b2 o2 (Nat.min m2 m*size)=some (cs.take (Nat.min m2 m*size)):=by
          unfold aA.rdN at hcs ⊢
          split at hcs
          ·split at hcs
           ·rename_i hb2 hlen
            simp only[Option.some.injEq]at hcs
            subst hcs
            rw[if_pos (by omega),List.take_take,Nat.min_eq_left hmul]
           ·cases hcs
          ·cases hcs
         obtain⟨l',h1,h2,h3,h4⟩:=zA (P:=P) hR htg2 this
         exact⟨l',h1,h2⟩
        ·cases hcs
      obtain⟨nl',f1,f2⟩:=hfirst
      obtain⟨w',s1,s2,s3⟩:=aEz (P:=P) hJ hR htg f2 (yX f2 hone) hwr
      refine⟨.int .i64 (Nat.min n m),w',?_,s2,s3,.int _ _⟩
      simp[Builtin.copy_,hdt,bN hu,aG1 (P:=P) hs hn,run_sizeOf hsz,f1,s1,goInt]
    ·cases hc
   ·cases hc
  ·cases hc
 ·cases hc
theorem aVj (hR:R J B r h w) {ts:Array TypeId} {ty:TypeId} {x x' v:V} (hx:VR r x x') (hl:xH P ts x h=some v):(Builtin.len_ ts ty #[x']).run P w = .ok v w∧VR r v v:=by
 unfold xH at hl
 obtain⟨t,ht⟩:∃t,ts[0]? = some t:=by
  cases h0:ts[0]? with
  | none=>simp[h0]at hl
  | some t=>exact⟨t,rfl⟩
 simp only[ht,Option.bind_some]at hl
 split at hl
 ·rename_i hu
  cases hx;simp only[Option.some.injEq]at hl;subst hl
  exact⟨by simp[Builtin.len_,ht,bN hu,goInt],.int _ _⟩
 ·rename_i n e hu
  simp only[Option.some.injEq]at hl;subst hl
  exact⟨by simp[Builtin.len_,ht,bN hu,goInt],.int _ _⟩
 ·rename_i e a n c hu
  simp only[Option.some.injEq]at hl;subst hl
  cases hx<;>exact⟨by simp[Builtin.len_,ht,bN hu,goInt],.int _ _⟩
 ·rename_i hu
  cases hx;simp only[Option.some.injEq]at hl;subst hl
  exact⟨by simp[Builtin.len_,ht,bN hu,goInt],.int _ _⟩
 ·rename_i b hu
  cases hx with
  | @map _ tg htg=>
  split at hl
  ·rename_i es clock hb
   simp only[Option.some.injEq]at hl;subst hl
   obtain⟨t',ces,ht',_,hw,hve⟩:=hR.map hb
   rw[htg]at ht';cases ht'
   have hg:=kI (P:=P) hw (fun c e f he=>by cases he)
   have hle:=hve.1
   simp only[Array.length_toList]at hle
   exact⟨by simp[Builtin.len_,ht,bN hu,goInt,hg,hle],.int _ _⟩
  ·cases hl
 ·cases hl
theorem aZx {z:List V} {zv:Array V} {n:Nat} (hz:VRl r z zv.toList) (hp:0<zv.size):VRl r (eO z (n*z.length)) (Builtin.zeroCells zv n).toList:=by
 have hl:=hz.1
 simp only[Array.length_toList]at hl
 unfold Builtin.zeroCells
 rw[hl]
 exact aIg hz (fun _=>hp)
theorem aR2 (hJ:cP J B) (hR:R J B r h w) {ts:Array TypeId} {ty:TypeId} {x x':V} {h':aA} (hx:VR r x x') (hc:xA P ts x h=some h') :
 ∃w',(Builtin.clear_ ts ty #[x']).run P w = .ok (.tuple #[]) w'∧R J B r h' w'∧Ext r h w r h' w':=by
 unfold xA at hc
 split at hc
 case h_2=>cases hc
 rename_i e a n c he
 obtain⟨t,ht⟩:∃t,ts[0]? = some t:=by
  cases h0:ts[0]? with
  | none=>simp[h0]at he
  | some st=>exact⟨st,rfl⟩
 simp only[ht,Option.bind_some]at he
 have hu:=yC he
 split at hc
 ·split at hc
  ·subst c
   cases hx
   simp only[Option.some.injEq]at hc;subst hc
   exact⟨w,by simp[Builtin.clear_,ht,bN hu],hR,Ext.refl _ _ _⟩
  ·cases hc
 ·rename_i a0
  simp only[Option.some.injEq]at hc;subst hc
  cases hx
  exact⟨w,by simp[Builtin.clear_,ht,bN hu],hR,Ext.refl _ _ _⟩
 ·rename_i b o m
  cases hx with
  | @slice _ _ _ _ c' tg htg hcr hnm hz=>
  split at hc
  ·rename_i z hzz
   split at hc
   ·rename_i hcond
    obtain⟨hz1,hz2⟩:=hcond
    obtain⟨zv,hzr,hzl⟩:=aIf (P:=P) (w:=w) (r:=r) hzz
    have hzs:zv.cells.size=z.length:=by have:=hzl.1;simp at this;omega
    have hv:=aZx (n:=m+1) hzl (by omega)
    have hone:(eO z ((m+1)*z.length)).all dH=true:=by
     rw[List.all_eq_true]
     intro v hv
     simp only[eO,List.mem_map,List.mem_range]at hv
     obtain⟨i,_,rfl⟩:=hv
     have hm:i % z.length<z.length:=Nat.mod_lt _ (by omega)
     rw[List.getD_eq_getElem?_getD,List.getElem?_eq_getElem hm,Option.getD_some]
     exact List.all_eq_true.1 hz2 _ (List.getElem_mem hm)
    obtain⟨w',s1,s2,s3⟩:=aEz (P:=P) hJ hR htg hv (yX hv hone) hc
    exact⟨w',by simp[Builtin.clear_,ht,bN hu,hzr,s1],s2,s3⟩
   ·cases hc
  ·cases hc
 ·cases hc
theorem aMl {mx:Bool}:∀(l l':List V) (v v' u:V),VRl r l l'→VR r v v'→tC mx l v=some u →
 (l'.foldlM (if mx then Builtin.max2 else Builtin.min2) v').run P w = .ok u w∧VR r u u
 | [],[],v,v',u,_,hv,hf=>by
  cases v<;>simp only[tC,reduceCtorEq,Option.some.injEq]at hf
  subst hf;cases hv
  exact⟨rfl,.int _ _⟩
 | [],_::_,_,_,_,h,_,_=>by have:=h.1;simp at this
 | _::_,[],_,_,_,h,_,_=>by have:=h.1;simp at this
 | a::l,a'::l',v,v',u,h,hv,hf=>by
  have h0:VR r a a':=h.2 0 (by simp) (by simp)
  have ht:VRl r l l':=⟨by have:=h.1;simpa using this,fun i x y=>h.2 (i+1) (by simpa using x) (by simpa using y)⟩
  cases a<;>cases v<;>simp only[tC,reduceCtorEq]at hf
  split at hf
  ·rename_i hk
   subst hk
   cases h0;cases hv
   obtain⟨g1,g2⟩:=aMl l l' _ _ u ht (.int _ _) hf
   refine⟨?_,g2⟩
   simp only[List.foldlM_cons,Sem.run_bind]
   cases mx
   ·simp only[Bool.false_eq_true,if_false,Builtin.min2,Sem.run_pure,Result.andThen_ok]
    simpa using g1
   ·simp only[if_true,Builtin.max2,Sem.run_pure,Result.andThen_ok]
    simpa using g1
  ·cases hf
theorem aMm {mx:Bool} {ts:Array TypeId} {ty:TypeId} {l:List V} {l':Array V} {v:V} (hl:VRl r l l'.toList) (hm:gI mx l=some v) :
 (if mx then Builtin.max_ ts ty l' else Builtin.min_ ts ty l').run P w = .ok v w∧VR r v v:=by
 unfold gI at hm
 split at hm
 ·rename_i k a rs
  cases hle:l'.toList with
  | nil=>rw[hle]at hl;have:=hl.1;simp at this
  | cons a' l''=>
   rw[hle]at hl
   have h0:VR r (.int k a) a':=hl.2 0 (by simp) (by simp)
   have ht:VRl r rs l'':=⟨by have:=hl.1;simpa using this,fun i x y=>hl.2 (i+1) (by simpa using x) (by simpa using y)⟩
   obtain⟨g1,g2⟩:=aMl (P:=P) (w:=w) rs l'' _ _ v ht h0 hm
   refine⟨?_,g2⟩
   cases mx
   ·simp only[Bool.false_eq_true,if_false,Builtin.min_,hle]at g1 ⊢;exact g1
   ·simp only[if_true,Builtin.max_,hle]at g1 ⊢;exact g1
 ·cases hm
/-! ### Operands -/
def eE (r:Ren) (e:Nat→V) (a:Act):Prop:=∀t,VR r (e t) (a.tmps.getD t undef)
theorem eE.mono {r r':Ren} (hr:r.le r') {e:Nat→V} {a:Act} (h:eE r e a):eE r' e a:=fun t=>(h t).mono hr
theorem eE.ev {e:Nat→V} {a:Act} (h:eE r e a) (x:Operand):VR r (aEv e x) (a.eval x):=by
 cases x with
 | tmp t=>exact h t
 | const v=>
  simp only[aEv,Act.eval]
  split
  ·rename_i hc;exact VR.closed hc
  ·exact .bY _
 | global g=>exact .bY _
 | func f=>exact .func _ rfl (fun i h1=>by simp at h1) rfl (fun i h1=>by simp at h1)
theorem eE.arr {e:Nat→V} {a:Act} (h:eE r e a) (xs:Array Operand):VRl r (fM e xs) (xs.map a.eval).toList:=by
 refine⟨by simp[fM],fun i h1 h2=>?_⟩
 simp only[fM,List.getElem_map,Array.toList_map]
 exact h.ev _
theorem eE.opt {e:Nat→V} {a:Act} (h:eE r e a) (x:Option Operand):VRo r (x.map (aEv e)) (x.map a.eval):=by
 cases x with
 | none=>exact .none
 | some x=>exact .some (h.ev x)
theorem eE.bX {e:Nat→V} {a:Act} (h:eE r e a) (ps:Array (Nat×Operand)):(ps.toList.map fun p=>(p.1,aEv e p.2)).length=(ps.toList.map fun p=>(p.1,a.eval p.2)).length ∧
 ∀(i:Nat) (h1:i<(ps.toList.map fun p=>(p.1,aEv e p.2)).length) (h2:i<(ps.toList.map fun p=>(p.1,a.eval p.2)).length),
  (ps.toList.map fun p=>(p.1,aEv e p.2))[i].1=(ps.toList.map fun p=>(p.1,a.eval p.2))[i].1∧VR r (ps.toList.map fun p=>(p.1,aEv e p.2))[i].2 (ps.toList.map fun p=>(p.1,a.eval p.2))[i].2:=by
 refine⟨by simp,fun i h1 h2=>?_⟩
 simp only[List.getElem_map]
 exact⟨trivial,h.ev _⟩
def cI (P:Program) (J:World→Prop) (B:Nat) (r:Ren) (h:aA) (w:World) (s:Sem Next) (v:V) (h':aA):Prop:=
 ∃r' n w',s.run P w = .ok n w'∧R J B r' h' w'∧Ext r h w r' h' w'∧((∃v',n = .value v'∧VR r' v v')∨(n = .skip∧v=bY))
theorem cI.same (hR:R J B r h w) {s:Sem V} {v v':V} (hs:s.run P w = .ok v' w) (hv:VR r v v'):cI P J B r h w (do pure (.value (← s))) v h:=
 ⟨r,.value v',w,by simp[hs],hR,Ext.refl _ _ _,.inl ⟨v',rfl,hv⟩⟩
theorem cI.some {s:Sem V} {v:V} {h':aA} (hs:∃r' v' w',s.run P w = .ok v' w'∧R J B r' h' w'∧Ext r h w r' h' w'∧VR r' v v'):cI P J B r h w (do pure (.value (← s))) v h':=by
 obtain⟨r',v',w',h1,h2,h3,h4⟩:=hs
 exact⟨r',.value v',w',by simp[h1],h2,h3,.inl ⟨v',rfl,h4⟩⟩
theorem cI.unit {s:Sem Unit} {h':aA} (hs:∃w',s.run P w = .ok () w'∧R J B r h' w'∧Ext r h w r h' w'):cI P J B r h w (do s;pure .skip) bY h':=by
 obtain⟨w',h1,h2,h3⟩:=hs
 exact⟨r,.skip,w',by simp[h1],h2,h3,.inr ⟨rfl,rfl⟩⟩
theorem iC {α β:Type} {x:Option α} {f:α→V} {h h':β} {v:V} (e:(x.map fun a=>(f a,h))=some (v,h')):∃a,x=some a∧f a=v∧h=h':=by
 cases x with
 | none=>cases e
 | some a=>simp at e;exact⟨a,rfl,e.1,e.2⟩
theorem yQ {x:Option aA} {h':aA} {v:V} (e:(x.map fun a=>(Abs.bY,a))=some (v,h')):x=some h'∧v=bY:=by
 cases x with
 | none=>cases e
 | some a=>simp at e;exact⟨by rw[e.2],e.1.symm⟩
theorem aNb {e:Nat→V} {a:Act} (he:eE r e a) {xs:Array Operand} {x:V} (h:fM e xs=[x]):∃x',xs.map a.eval = #[x']∧VR r x x':=by
 have hv:=he.arr xs
 rw[h]at hv
 have hl:=hv.1
 simp only[List.length_cons,List.length_nil,Nat.zero_add,Array.length_toList]at hl
 obtain⟨y,hy⟩:∃y,xs.map a.eval = #[y]:=by
  generalize xs.map a.eval=z at hl
  obtain⟨l⟩:=z
  simp at hl
  match l,hl with
  | [y],_=>exact⟨y,rfl⟩
 refine⟨y,hy,?_⟩
 have:=hv.2 0 (by simp) (by simp[hy])
 simpa[hy]using this
theorem aH6 {e:Nat→V} {a:Act} (he:eE r e a) {xs:Array Operand} {x y:V} (h:fM e xs=[x,y]):∃x' y',xs.map a.eval = #[x',y']∧VR r x x'∧VR r y y':=by
 have hv:=he.arr xs
 rw[h]at hv
 have hl:=hv.1
 simp only[List.length_cons,List.length_nil,Nat.zero_add,Array.length_toList]at hl
 obtain⟨p,q,hy⟩:∃p q,xs.map a.eval = #[p,q]:=by
  generalize xs.map a.eval=z at hl
  obtain⟨l⟩:=z
  simp at hl
  match l,hl with
  | [p,q],_=>exact⟨p,q,rfl⟩
 have h0:=hv.2 0 (by simp) (by simp[hy])
 have h1:=hv.2 1 (by simp) (by simp[hy])
 refine⟨p,q,hy,?_,?_⟩
 ·simpa[hy]using h0
 ·simpa[hy]using h1
theorem aRr (hJ:cP J B) (hR:R J B r h w) {e:Nat→V} {a:Act} (he:eE r e a) {b:Builtin} {ts:Array TypeId} {ty:TypeId} {cs:Array Bool} {xs:Array Operand} {v:V} {h':aA}
 (hb:lT P b ts (fM e xs) h=some (v,h')):cI P J B r h w (builtin b ts ty cs (xs.map a.eval)) v h':=by
 generalize hargs:fM e xs=args at hb
 unfold lT at hb
 split at hb
 ·obtain⟨x',y',hxs,h1,h2⟩:=aH6 he hargs
  rw[hxs]
  exact cI.some (aQ1 hJ hR h1 h2 hb)
 ·obtain⟨x',y',hxs,h1,h2⟩:=aH6 he hargs
  rw[hxs]
  obtain⟨v',w',g1,g2,g3,g4⟩:=aSr (ty:=ty) hJ hR h1 h2 hb
  exact cI.some ⟨r,v',w',g1,g2,g3,g4⟩
 ·obtain⟨x',hxs,h1⟩:=aNb he hargs
  obtain⟨u,g1,rfl,rfl⟩:=iC (f:=fun v=>v) hb
  rw[hxs]
  obtain⟨g2,g3⟩:=aVj (ty:=ty) hR h1 g1
  exact cI.same hR g2 g3
 ·obtain⟨x',y',hxs,h1,h2⟩:=aH6 he hargs
  obtain⟨g1,rfl⟩:=yQ hb
  rw[hxs]
  cases ht:ts[0]? with
  | none=>simp[ht]at g1
  | some t=>
   simp only[ht,Option.bind_some]at g1
   obtain⟨w',k1,k2,k3⟩:=aS2 (ty:=ty) hJ hR ht h1 h2 g1
   exact cI.some ⟨r,_,w',k1,k2,k3,.bY _⟩
 ·obtain⟨x',hxs,h1⟩:=aNb he hargs
  obtain⟨g1,rfl⟩:=yQ hb
  rw[hxs]
  obtain⟨w',k1,k2,k3⟩:=aR2 (ty:=ty) hJ hR h1 g1
  exact cI.some ⟨r,_,w',k1,k2,k3,.bY _⟩
 ·obtain⟨u,g1,rfl,rfl⟩:=iC (f:=fun v=>v) hb
  have hv:=he.arr xs
  rw[hargs]at hv
  obtain⟨g2,g3⟩:=aMm (P:=P) (w:=w) (ts:=ts) (ty:=ty) hv g1
  exact cI.same hR g2 g3
 ·obtain⟨u,g1,rfl,rfl⟩:=iC (f:=fun v=>v) hb
  have hv:=he.arr xs
  rw[hargs]at hv
  obtain⟨g2,g3⟩:=aMm (P:=P) (w:=w) (ts:=ts) (ty:=ty) hv g1
  exact cI.same hR g2 g3
 ·cases hb
theorem aQq (hJ:cP J B) (hR:R J B r h w) {e:Nat→V} {a:Act} (he:eE r e a) {o:Oper} {v:V} {h':aA} (hop:aOp P o.op e h=some (v,h')) :
 cI P J B r h w (execOp a.eval o) v h':=by
 obtain⟨dst,op,ty,pos,after,guard⟩:=o
 simp only at hop ⊢
 cases op<;>simp only[aOp,reduceCtorEq]at hop<;>simp only[execOp]
 case move x=>simp at hop;obtain⟨rfl,rfl⟩:=hop;exact⟨r,_,w,rfl,hR,Ext.refl _ _ _,.inl ⟨_,rfl,he.ev x⟩⟩
 case assign x=>simp at hop;obtain⟨rfl,rfl⟩:=hop;exact⟨r,_,w,rfl,hR,Ext.refl _ _ _,.inl ⟨_,rfl,he.ev x⟩⟩
 case pick c x y=>
  have hc:=he.ev c
  split at hop
  ·rename_i t hcv
   rw[hcv]at hc
   simp only[Option.some.injEq,Prod.mk.injEq]at hop
   obtain⟨rfl,rfl⟩:=hop
   generalize a.eval c=cv at hc
   cases hc
   refine⟨r,.value (if t=true then a.eval x else a.eval y),w,by simp[asBool],hR,Ext.refl _ _ _,.inl ⟨_,rfl,?_⟩⟩
   cases t
   ·exact he.ev y
   ·exact he.ev x
  ·cases hop
 case alloc t=>
  cases hz:zeroOf P t with
  | none=>simp[hz]at hop
  | some z=>
   simp only[hz,Option.bind_some]at hop
   obtain⟨g1,g2⟩:=wN (w:=w) hz
   obtain⟨r',x',w',k1,k2,k3,k4⟩:=aMz (P:=P) hJ hR (VR.closed g2) hop
   exact cI.some ⟨r',_,w',by simp[Instr.alloc,g1,k1],k2,k3,k4⟩
 case box t x=>
  obtain⟨r',x',w',k1,k2,k3,k4⟩:=aMz (P:=P) hJ hR (he.ev x) hop
  exact cI.some ⟨r',_,w',by simp[Instr.box,k1],k2,k3,k4⟩
 case build t ps=>
  obtain⟨u,g1,rfl,rfl⟩:=iC (f:=fun v=>v) hop
  obtain⟨p1,p2⟩:=he.bX ps
  obtain⟨v',k1,k2⟩:=aRn (P:=P) (w:=w) p1 p2 g1
  have e1:(ps.toList.map fun p=>(p.1,a.eval p.2)).toArray=ps.map fun (i,x)=>(i,a.eval x):=by apply Array.ext';simp
  rw[e1]at k1
  exact cI.same hR k1 k2
 case buildSlice t n ps=>
  obtain⟨p1,p2⟩:=he.bX ps
  have g:=aRm (P:=P) hJ hR p1 p2 hop
  have e1:(ps.toList.map fun p=>(p.1,a.eval p.2)).toArray=ps.map fun (i,x)=>(i,a.eval x):=by apply Array.ext';simp
  rw[e1]at g
  exact cI.some g
 case insert t m k x=>
  obtain⟨g1,rfl⟩:=yQ hop
  exact cI.unit (aMf hJ hR (he.ev m) (he.ev k) (he.ev x) g1)
 case load t x=>
  obtain⟨u,g1,rfl,rfl⟩:=iC (f:=fun v=>v) hop
  obtain⟨v',k1,k2⟩:=aL5 (P:=P) hR (he.ev x) g1
  exact cI.same hR k1 k2
 case store t x y=>
  obtain⟨g1,rfl⟩:=yQ hop
  exact cI.unit (aYk hJ hR (he.ev x) (he.ev y) g1)
 case nilCheck x=>
  obtain⟨u,g1,rfl,rfl⟩:=iC (f:=fun v=>v) hop
  have hx:=he.ev x
  generalize aEv e x=xa at g1 hx
  generalize a.eval x=xv at hx
  unfold aM at g1
  split at g1<;>simp only[Option.some.injEq,reduceCtorEq]at g1<;>subst g1
  ·cases hx with
   | ptr h=>exact⟨r,_,w,rfl,hR,Ext.refl _ _ _,.inl ⟨_,rfl,.ptr h⟩⟩
  ·cases hx with
   | iface _ h=>exact⟨r,_,w,rfl,hR,Ext.refl _ _ _,.inl ⟨_,rfl,.iface _ h⟩⟩
  ·cases hx with
   | func _ h1 h2 h3 h4=>exact⟨r,_,w,rfl,hR,Ext.refl _ _ _,.inl ⟨_,rfl,.func _ h1 h2 h3 h4⟩⟩
 case binOp bo t x y yt=>
  obtain⟨u,g1,rfl,rfl⟩:=iC (f:=fun v=>v) hop
  obtain⟨k1,k2⟩:=aRh (P:=P) hR (he.ev x) (he.ev y) g1
  exact cI.same hR k1 k2
 case unOp uo t x=>
  obtain⟨u,g1,rfl,rfl⟩:=iC (f:=fun v=>v) hop
  obtain⟨k1,k2⟩:=aZh (P:=P) (w:=w) (he.ev x) g1
  exact cI.same hR k1 k2
 case convert s d x=>exact cI.some (aSp hJ hR (he.ev x) hop)
 case makeInterface t x=>
  split at hop
  ·cases hop
  ·rename_i d hni hu
   simp only[Option.some.injEq,Prod.mk.injEq]at hop
   obtain⟨rfl,rfl⟩:=hop
   refine cI.same hR (v':=.iface t (a.eval x)) ?_ (.iface t (he.ev x))
   simp only[Instr.makeInterface,Sem.run_bind,bN hu,Result.andThen_ok]
   cases d<;>first | rfl | (exact absurd rfl (hni _))
  ·cases hop
 case makeFunc fn f c=>
  simp only[Option.some.injEq,Prod.mk.injEq]at hop
  obtain⟨rfl,rfl⟩:=hop
  exact cI.same hR (v':=.func fn (f.map a.eval) (c.map a.eval)) rfl (.func fn (by simp) (fun i h1 h2=>by simp;exact he.ev _) (by simp) (fun i h1 h2=>by simp;exact he.ev _))
 case makeMap t rs=>
  have go:∀(s:Sem V),s.run P w = .ok (.map (some w.heap.size)) (w.alloc (.map #[] 0))→cI P J B r h w (do pure (.value (← s))) (.map (some h.next)) (h.new (.map [] 0)):=by
   intro s hs
   obtain⟨h1,h2⟩:=hR.alloc hJ (.map [] 0) (.map #[] 0) ⟨w.heap.size,0,0,0⟩ rfl ⟨⟨hR.base,rfl⟩,#[],heap_alloc_new,rfl,fun i hi=>by simp at hi⟩
   exact cI.some ⟨_,_,_,hs,h1,h2,.map (Ren.cX _ _ _)⟩
  split at hop
  ·rename_i hu
   simp only[Option.some.injEq,Prod.mk.injEq]at hop
   obtain⟨rfl,rfl⟩:=hop
   exact go _ rfl
  ·rename_i x k et hu
   have hx:=he.ev x
   split at hop
   ·rename_i hxv
    rw[hxv]at hx
    simp only[Option.some.injEq,Prod.mk.injEq]at hop
    obtain⟨rfl,rfl⟩:=hop
    refine go _ ?_
    simp only[Option.map_some]
    generalize a.eval x=xv at hx
    cases hx
    simp[Instr.makeMap,bN hu,asInt,asIntOf]
   ·cases hop
  ·cases hop
 case makeSlice t l c=>exact cI.some (aVs hJ hR (he.ev l) (he.ev c) hop)
 case slice t x lo hi mx=>
  obtain⟨u,g1,rfl,rfl⟩:=iC (f:=fun v=>v) hop
  obtain⟨v',k1,k2⟩:=aX4 (P:=P) hR (he.ev x) (he.opt lo) (he.opt hi) (he.opt mx) g1
  exact cI.same hR k1 k2
 case fieldAddr t x i=>
  obtain⟨u,g1,rfl,rfl⟩:=iC (f:=fun v=>v) hop
  obtain⟨v',k1,k2⟩:=aTo (P:=P) (w:=w) (he.ev x) g1
  exact cI.same hR k1 k2
 case field t x i=>
  obtain⟨u,g1,rfl,rfl⟩:=iC (f:=fun v=>v) hop
  obtain⟨v',k1,k2⟩:=aTp (P:=P) (w:=w) (he.ev x) g1
  exact cI.same hR k1 k2
 case indexAddr t x i=>
  obtain⟨u,g1,rfl,rfl⟩:=iC (f:=fun v=>v) hop
  obtain⟨v',k1,k2⟩:=aUe (P:=P) (w:=w) (he.ev x) (he.ev i) g1
  exact cI.same hR k1 k2
 case index t x i=>
  obtain⟨u,g1,rfl,rfl⟩:=iC (f:=fun v=>v) hop
  obtain⟨v',k1,k2⟩:=aUg (P:=P) (w:=w) (he.ev x) (he.ev i) g1
  exact cI.same hR k1 k2
 case lookup t x i ok=>
  obtain⟨u,g1,rfl,rfl⟩:=iC (f:=fun v=>v) hop
  obtain⟨v',k1,k2⟩:=aVq (P:=P) hR (he.ev x) (he.ev i) g1
  exact cI.same hR k1 k2
 case mapUpdate t m k x=>
  obtain⟨g1,rfl⟩:=yQ hop
  exact cI.unit (aMf hJ hR (he.ev m) (he.ev k) (he.ev x) g1)
 case range t x=>exact cI.some (aXk hJ hR (he.ev x) hop)
 case entry x=>
  obtain⟨u,g1,rfl,rfl⟩:=iC (f:=fun v=>v) hop
  obtain⟨v',k1,k2⟩:=aTa (P:=P) hR (he.ev x) g1
  exact cI.same hR k1 k2
 case typeAssert x xt t ok=>
  obtain⟨u,g1,rfl,rfl⟩:=iC (f:=fun v=>v) hop
  obtain⟨v',k1,k2⟩:=aQ3 (P:=P) (w:=w) (xt:=xt) (he.ev x) g1
  exact cI.same hR k1 k2
 case extract x i=>
  obtain⟨u,g1,rfl,rfl⟩:=iC (f:=fun v=>v) hop
  obtain⟨v',k1,k2⟩:=aTl (P:=P) (w:=w) (he.ev x) g1
  exact cI.same hR k1 k2
 case call c=>
  obtain⟨callee,args,argTypes⟩:=c
  cases callee<;>simp only[reduceCtorEq]at hop
  case builtin b=>
   have g:=aRr (P:=P) (ty:=ty) (cs:=args.map fun | .const _=>true | _=>false) hJ hR he hop
   simp only[resolve]
   exact g
end
end Go.Abs
namespace Go.Abs
open Go Go.RowKit
def zO (P:Program) (f:FuncId) (args:Array V) (w:World) (Q:V→World→Prop):Prop:=
 ∃n w',(callFunc f args).run P w = .ok n w' ∧
  match n with
  | .value v=>Q v w'
  | .enter g as=>Calls P g as w' fun e w''=>∃v,e = .returned v∧Q v w''
  | _=>False
def aD (P:Program) (J:World→Prop) (f:FuncId) (s:Spec):Prop:=
 ∀(B:Nat),cP J B→∀(r:Ren) (h:aA) (w:World) (args:List V) (args':Array V) (Q:V→aA→Prop),s args h Q→R J B r h w→VRl r args args'.toList →
  zO P f args' w fun v' w'=>∃r' v h',Q v h'∧R J B r' h' w'∧Ext r h w r' h' w'∧VR r' v v'
def aO (P:Program) (J:World→Prop) (I:FuncId→Option Spec):Prop:=∀f s,I f=some s→aD P J f s
section
variable {P:Program} {J:World→Prop} {I:FuncId→Option Spec} {B:Nat}
theorem aQf (hI:aO P J I) (hJ:cP J B) {r:Ren} {h:aA} {w:World} (hR:R J B r h w) {e:Nat→V} {a:Act} (he:eE r e a) {o:Oper} {K:V→aA→Prop}
 (hd:aDo P I o.op e h K) {next:Act→World→Prop} {Q:Exit→Act→World→Prop}
 (hn:∀r' v v' h' w',K v h'→R J B r' h' w'→Ext r h w r' h' w'→VR r' v v'→next (a.put o.dst v') w'):o.wp P a w next Q:=by
 have plain:(match aOp P o.op e h with | some (v,h)=>K v h | none=>False)→o.wp P a w next Q:=by
  intro hk
  split at hk
  ·rename_i v h' hop
   obtain⟨r',n,w',h1,h2,h3,h4⟩:=aQq (P:=P) (a:=a) hJ hR he hop
   unfold Oper.wp
   rw[h1]
   rcases h4 with ⟨v',rfl,hv⟩ | ⟨rfl,rfl⟩
   ·exact hn r' v v' h' w' hk h2 h3 hv
   ·exact hn r' bY undef h' w' hk h2 h3 (.bY _)
  ·exact hk.elim
 obtain⟨dst,op,ty,pos,after,guard⟩:=o
 unfold aDo at hd
 cases op
 case next it s=>
  obtain⟨v,h',v',w',h1,h2,h3,h4,h5⟩:=aWd (P:=P) (t:=ty) hJ hR (he.ev it) hd
  unfold Oper.wp
  simp only[execOp,Sem.run_bind,h1,Result.andThen_ok,Sem.run_pure]
  exact hn r v v' h' w' h2 h3 h4 h5
 case call c=>
  obtain⟨callee,args,argTypes⟩:=c
  cases callee
  case value f=>
   simp only at hd
   unfold cR at hd
   have hf:=he.ev f
   split at hd
   ·rename_i g first captured hfe
    split at hd
    ·rename_i s hs
     rw[hfe]at hf
     generalize hfv:a.eval f=fv at hf
     cases hf with
     | func _ f1 f2 f3 f4=>
     rename_i first' captured'
     have hargs:VRl r (first.toList++fM e args++captured.toList) (first'++args.map a.eval++captured').toList:=by
      rw[Array.toList_append,Array.toList_append]
      exact ((VRa.toList ⟨f1,f2⟩).append (he.arr args)).append (VRa.toList ⟨f3,f4⟩)
     obtain⟨n,w',hrun,hq⟩:=hI g s hs B hJ r h w _ _ _ hd hR hargs
     unfold Oper.wp
     have e1:(execOp a.eval { dst,op:=.call { callee:=.value f,args,argTypes },type:=ty,pos,after,guard }).run P w = .ok n w':=by
      simp only[execOp,resolve,hfv,Deferred.ofValue,Sem.run_bind,Sem.run_pure,Result.andThen_ok,invoke,hrun]
     rw[e1]
     cases n<;>first | exact hq.elim | skip
     ·obtain⟨r',v,h',q1,q2,q3,q4⟩:=hq
      exact hn r' v _ h' w' q1 q2 q3 q4
     ·simp only[Oper.upon]
      refine hq.mono ?_
      rintro en w'' ⟨v',rfl,r',v,h',q1,q2,q3,q4⟩
      exact hn r' v v' h' w'' q1 q2 q3 q4
    ·exact hd.elim
   ·exact hd.elim
  all_goals exact plain hd
 all_goals exact plain hd
structure SR (J:World→Prop) (B n:Nat) (r:Ren) (s:St) (a:Act) (w:World):Prop where
 R:R J B r s.h w
 env:eE r s.e a
 size:a.tmps.size=n
 defers:a.defers=[]
theorem eE.put {r:Ren} {e:Nat→V} {a:Act} {v v':V} (he:eE r e a) (hv:VR r v v') {d:Option Tmp} (hd:∀t,d=some t→t<a.tmps.size) {h:aA} :
 eE r ((⟨e,h⟩:St).put d v).e (a.put d v'):=by
 intro t
 cases d with
 | none=>exact he t
 | some d=>
  simp only[St.put,Act.put]
  by_cases ht:t=d
  ·subst ht
   simp[hd t rfl,hv]
  ·rw[if_neg ht]
   have:=he t
   rw[Array.getD_eq_getD_getElem?]at this ⊢
   rw[Array.getElem?_setIfInBounds_ne (Ne.symm ht)]
   exact this
theorem SR.put {n:Nat} {r r':Ren} {s:St} {a:Act} {w w':World} {h':aA} {v v':V} (hs:SR J B n r s a w) (hR:Abs.R J B r' h' w') (hle:r.le r') (hv:VR r' v v') {d:Option Tmp} (hd:∀t,d=some t→t<n) :
 SR J B n r' ((s.put d v).at h') (a.put d v') w':=by
 refine⟨hR,?_,?_,?_⟩
 ·have:=(hs.env.mono hle).put (h:=s.h) hv (d:=d) (fun t ht=>by rw[hs.size];exact hd t ht)
  exact this
 ·cases d<;>simp[Act.put,hs.size]
 ·cases d<;>exact hs.defers
def uP (J:World→Prop) (B n:Nat) (r0:Ren) (h0:aA) (w0:World) (K:St→Prop) (a:Act) (w:World):Prop:=
 ∃r s,K s∧SR J B n r s a w∧Ext r0 h0 w0 r s.h w
def yZ (n:Nat) (ops:Array Oper):Bool:=ops.all fun o=>match o.dst with | some d=>decide (d<n) | none=>true
theorem aNh {n:Nat} {ops:Array Oper} (h:yZ n ops=true) {i:Nat} {o:Oper} (ho:ops[i]? = some o):∀t,o.dst=some t→t<n:=by
 intro t ht
 obtain⟨hi,rfl⟩:=Array.getElem?_eq_some_iff.1 ho
 have:=(Array.all_eq_true.1 h) i hi
 rw[ht]at this
 simpa using this
theorem aPj {ops:Array Oper} {o:Oper} {r:Ren} {e:Nat→V} {a:Act} (he:eE r e a) {b:Bool} (h:eN ops o e=some b):Region.wanted o (yielded ops a.tmps)=b:=by
 unfold eN at h
 unfold Region.wanted
 split at h
 ·rename_i hg;simp only[Option.some.injEq]at h;subst h;rw[hg]
 ·rename_i j want hg
  rw[hg]
  simp only
  split at h
  ·rename_i d hd
   split at h
   ·rename_i bb hb
    simp only[Option.some.injEq]at h
    have hv:=he d
    rw[hb]at hv
    have hy:yielded ops a.tmps j=some bb:=by
     unfold yielded
     rw[hd]
     simp only[Option.bind_some]
     cases hc:a.tmps[d]? with
     | none=>rw[Array.getD_eq_getD_getElem?,hc]at hv;cases hv
     | some x=>rw[Array.getD_eq_getD_getElem?,hc]at hv;cases hv;rfl
    rw[hy,←h]
    cases bb<;>cases want<;>rfl
   ·rename_i hb
    simp only[Option.some.injEq]at h
    have hv:=he d
    rw[hb]at hv
    have hy:yielded ops a.tmps j=none:=by
     unfold yielded
     rw[hd]
     simp only[Option.bind_some]
     cases hc:a.tmps[d]? with
     | none=>rfl
     | some x=>rw[Array.getD_eq_getD_getElem?,hc]at hv;cases hv;rfl
    rw[hy,←h]
    cases want<;>rfl
   ·cases h
  ·cases h
theorem aKi (hI:aO P J I) (hJ:cP J B) {n:Nat} {ops:Array Oper} (hok:yZ n ops=true) {i:Nat} {s:St} {K:St→Prop} (hev:vJ P I ops i s K) {r:Ren} {a:Act} {w:World}
 (hs:SR J B n r s a w) {r0:Ren} {h0:aA} {w0:World} (hE:Ext r0 h0 w0 r s.h w) (Q:Exit→Act→World→Prop):wpOp P ops Q i (uP J B n r0 h0 w0 K) a w:=by
 unfold vJ at hev
 unfold wpOp
 split at hev
 ·rename_i hi
  rw[hi]
  exact⟨r,s,hev,hs,hE⟩
 ·rename_i o hi
  rw[hi]
  simp only
  split at hev
  ·rename_i hw
   rw[aPj hs.env hw,if_pos rfl]
   refine .inl (aQf hI hJ hs.R hs.env hev fun r' v v' h' w' hk hR' hE' hv=>?_)
   exact⟨r',_,hk,hs.put hR' hE'.ren hv (aNh hok hi),hE.trans hE'⟩
  ·rename_i hw
   rw[aPj hs.env hw,if_neg (by simp)]
   have hp:=hs.put hs.R (Ren.le_refl r) (v:=gone) (v':=undef) .gone (aNh hok hi)
   refine⟨r,_,hev,?_,?_⟩
   ·cases hd:o.dst with
    | none=>rw[hd]at hp;exact hp
    | some d=>rw[hd]at hp;exact hp
   ·cases hd:o.dst with
    | none=>exact hE
    | some d=>exact hE
  ·exact hev.elim
theorem aKj (hI:aO P J I) (hJ:cP J B) {n:Nat} {ops:Array Oper} (hok:yZ n ops=true) {r0:Ren} {h0:aA} {w0:World} {K:St→Prop} {Q:Exit→Act→World→Prop}
 (hQ:∀a w,uP J B n r0 h0 w0 K a w→Q .normal a w):∀(l:List Nat) (s:St) (r:Ren) (a:Act) (w:World),yH P I ops l s K→SR J B n r s a w→Ext r0 h0 w0 r s.h w→wpOps P ops Q l a w
 | [],s,r,a,w,hev,hs,hE=>hQ a w ⟨r,s,hev,hs,hE⟩
 | i::l,s,r,a,w,hev,hs,hE=>by
  rw[wpOps_cons]
  refine wpOp_mono ?_ (aKi hI hJ hok hev hs hE Q)
  rintro a' w' ⟨r',s',hk,hs',hE'⟩
  exact aKj hI hJ hok hQ l s' r' a' w' hk hs' hE'
theorem aKg (hI:aO P J I) (hJ:cP J B) {n:Nat} {ops:Array Oper} (hok:yZ n ops=true) {r0:Ren} {h0:aA} {w0:World} {K:St→Prop} {Q:Exit→Act→World→Prop}
 (hQ:∀a w,uP J B n r0 h0 w0 K a w→Q .normal a w):∀(fuel:Nat) (listed:Array Bool) (s:St) (r:Ren) (a:Act) (w:World),yG P I ops fuel listed s K→SR J B n r s a w→Ext r0 h0 w0 r s.h w →
  wpAny P .any ops Q fuel listed a w
 | 0,listed,s,r,a,w,hev,hs,hE=>⟨hev.1,hQ a w ⟨r,s,hev.2,hs,hE⟩⟩
 | fuel+1,listed,s,r,a,w,hev,hs,hE=>by
  refine⟨fun h=>hQ a w ⟨r,s,hev.1 h,hs,hE⟩,fun i hi=>?_⟩
  refine wpOp_mono ?_ (aKi hI hJ hok (hev.2 i hi) hs hE Q)
  rintro a' w' ⟨r',s',hk,hs',hE'⟩
  exact aKg hI hJ hok hQ fuel _ s' r' a' w' hk hs' hE'
def codeOk (n:Nat):Code→Bool
 | .region _ ops _=>yZ n ops
 | .seq a b=>codeOk n a&&codeOk n b
 | .cond _ a b=>codeOk n a&&codeOk n b
 | .block _ c=>codeOk n c
 | .loop c=>codeOk n c
 | .rangeFunc _ _ a b=>codeOk n a&&codeOk n b
 | .scope c=>codeOk n c
 | _=>true
def QQ (J:World→Prop) (B n:Nat) (r0:Ren) (h0:aA) (w0:World) (K:Ex→St→Prop) (e:Exit) (a:Act) (w:World):Prop:=
 ∃x:Ex,e=x.aKl∧uP J B n r0 h0 w0 (K x) a w
theorem aTk (hI:aO P J I) (hJ:cP J B) (hm:P.follows .mixedOrders=true) {n:Nat} {r0:Ren} {h0:aA} {w0:World} :
 ∀(c:Code) (s:St) (K:Ex→St→Prop) (r:Ren) (a:Act) (w:World),codeOk n c=true→evC P I c s K→SR J B n r s a w→Ext r0 h0 w0 r s.h w→c.wp P (QQ J B n r0 h0 w0 K) a w:=by
 intro c
 induction c with
 | skip=>intro s K r a w _ hev hs hE;exact wp_skip ⟨.normal,rfl,r,s,hev,hs,hE⟩
 | label l=>intro s K r a w _ hev hs hE;exact wp_label ⟨.normal,rfl,r,s,hev,hs,hE⟩
 | ret=>intro s K r a w _ hev hs hE;exact wp_ret ⟨.ret,rfl,r,s,hev,hs,hE⟩
 | exit id=>intro s K r a w _ hev hs hE;exact wp_exit ⟨.exit id,rfl,r,s,hev,hs,hE⟩
 | goto l=>intro s K r a w _ hev;exact hev.elim
 | refuse y=>intro s K r a w _ hev;exact hev.elim
 | scope c=>intro s K r a w _ hev;exact hev.elim
 | rangeFunc f p x y=>intro s K r a w _ hev;exact hev.elim
 | region id ops draw=>
  intro s K r a w hok hev hs hE
  cases draw with
  | false=>exact wp_region (aKj hI hJ hok (fun a w h=>⟨.normal,rfl,h⟩) _ s r a w hev hs hE)
  | true=>
   refine wp_region_any hm (aKg hI hJ hok (fun a w h=>⟨.normal,rfl,h⟩) _ _ s r a _ hev ?_ (hE.trans Ext.drew))
   exact⟨hs.R.drew hJ,hs.env,hs.size,hs.defers⟩
 | seq x y ihx ihy=>
  intro s K r a w hok hev hs hE
  simp only[codeOk,Bool.and_eq_true]at hok
  refine wp_seq (wp_mono (ihx s _ r a w hok.1 hev hs hE) ?_)
  rintro e a' w' ⟨x',rfl,r',s',hk,hs',hE'⟩
  cases x' with
  | normal=>exact ihy s' K r' a' w' hok.2 hk hs' hE'
  | exit id=>exact⟨.exit id,rfl,r',s',hk,hs',hE'⟩
  | ret=>exact⟨.ret,rfl,r',s',hk,hs',hE'⟩
 | cond c x y ihx ihy=>
  intro s K r a w hok hev hs hE
  simp only[codeOk,Bool.and_eq_true]at hok
  simp only[evC]at hev
  have hc:=hs.env.ev c
  split at hev
  ·rename_i hcv
   rw[hcv]at hc
   generalize hcc:a.eval c=cc at hc
   cases hc
   exact wp_cond_true hcc (ihx s K r a w hok.1 hev hs hE)
  ·rename_i hcv
   rw[hcv]at hc
   generalize hcc:a.eval c=cc at hc
   cases hc
   exact wp_cond_false hcc (ihy s K r a w hok.2 hev hs hE)
  ·exact hev.elim
 | block id c ih=>
  intro s K r a w hok hev hs hE
  refine wp_block (wp_mono (ih s _ r a w hok hev hs hE) ?_)
  rintro e a' w' ⟨x',rfl,r',s',hk,hs',hE'⟩
  cases x' with
  | normal=>exact⟨.normal,rfl,r',s',hk,hs',hE'⟩
  | ret=>exact⟨.ret,rfl,r',s',hk,hs',hE'⟩
  | exit j=>
   simp only[Ex.aKl,Exit.inBlock]at hk ⊢
   split
   ·rename_i hj;rw[if_pos hj]at hk;exact⟨.normal,rfl,r',s',hk,hs',hE'⟩
   ·rename_i hj;rw[if_neg hj]at hk;exact⟨.exit j,rfl,r',s',hk,hs',hE'⟩
 | loop c ih=>
  intro s K r a w hok hev hs hE
  obtain⟨fuel,hev⟩:=hev
  refine wp_loop_rounds fuel ?_
  have key:∀(k:Nat) (s:St) (r:Ren) (a:Act) (w:World),pI (evC P I c) k s K→SR J B n r s a w→Ext r0 h0 w0 r s.h w→Code.rounds P c (QQ J B n r0 h0 w0 K) k a w:=by
   intro k
   induction k with
   | zero=>intro s r a w h;exact h.elim
   | succ k ihk=>
    intro s r a w hev hs hE
    rw[rounds_succ]
    refine wp_mono (ih s _ r a w hok hev hs hE) ?_
    rintro e a' w' ⟨x',rfl,r',s',hk,hs',hE'⟩
    cases x' with
    | normal=>exact ihk s' r' a' w' hk hs' hE'
    | exit id=>exact⟨.exit id,rfl,r',s',hk,hs',hE'⟩
    | ret=>exact⟨.ret,rfl,r',s',hk,hs',hE'⟩
  exact key fuel s r a w hev hs hE
def zF (tmps:Array V):ResultVar→Sem V
 | .tmp t=>pure (tmps.getD t undef)
 | .cell b t=>do loadVar t (← asAddr (tmps.getD b undef))
theorem aXt {r:Ren} {h:aA} {w:World} {e:Nat→V} {a:Act} (hR:R J B r h w) (he:eE r e a) {x:ResultVar} {l:List ResultVar} {vs:List V} (hv:kY P h e (x::l)=some vs) :
 ∃v v' vs1,vs=v::vs1∧kY P h e l=some vs1∧(zF a.tmps x).run P w = .ok v' w∧VR r v v':=by
 cases x with
 | tmp t=>
  simp only[kY]at hv
  cases hl:kY P h e l with
  | none=>simp[hl]at hv
  | some vs1=>
   simp only[hl,Option.map_some,Option.some.injEq]at hv
   exact⟨e t,a.tmps.getD t undef,vs1,hv.symm,rfl,rfl,he t⟩
 | cell b t=>
  simp only[kY]at hv
  cases hld:rU P t (e b) h with
  | none=>simp[hld]at hv
  | some v=>
   simp only[hld,Option.bind_some]at hv
   cases hl:kY P h e l with
   | none=>simp[hl]at hv
   | some vs1=>
    simp only[hl,Option.map_some,Option.some.injEq]at hv
    have hb:=he b
    simp only[zF]
    generalize a.tmps.getD b undef=bv at hb
    obtain⟨v',g1,g2⟩:=aL5 (P:=P) hR hb hld
    have hptr:∃ad,bv = .pointer (some ad):=by
     unfold rU at hld
     split at hld
     ·rename_i hbe;rw[hbe]at hb;cases hb;exact⟨_,rfl⟩
     ·cases hld
    obtain⟨ad,rfl⟩:=hptr
    exact⟨v,v',vs1,hv.symm,rfl,g1,g2⟩
theorem aKk {r:Ren} {h:aA} {w:World} {e:Nat→V} {a:Act} (hR:R J B r h w) (he:eE r e a):∀(l:List ResultVar) (vs:List V) (acc:Array V),kY P h e l=some vs →
 ∃vs':List V,(l.foldlM (m:=Sem) (fun (acc:Array V) (x:ResultVar)=>acc.push <$> zF a.tmps x) acc).run P w = .ok (acc++vs'.toArray) w∧VRl r vs vs'
 | [],vs,acc,hv=>by simp[kY]at hv;subst hv;exact⟨[],by simp,VRl.nil r⟩
 | x::l,vs,acc,hv=>by
  obtain⟨v,v',vs1,rfl,hl,g1,g2⟩:=aXt hR he hv
  obtain⟨vs',h1,h2⟩:=aKk hR he l vs1 (acc.push v') hl
  refine⟨v'::vs',?_,VRl.cons g2 h2⟩
  simp only[List.foldlM_cons,Sem.run_bind,Sem.run_map,g1,Result.andThen_ok]
  rw[h1]
  congr 1
  apply Array.ext'
  simp
theorem aOc {r:Ren} {h:aA} {w:World} {e:Nat→V} {a:Act} {fn:Func} (hR:R J B r h w) (he:eE r e a) {vs:List V} (hv:kY P h e fn.results.toList=some vs) :
 ∃v',(results fn a.tmps).run P w = .ok v' w∧VR r (mX vs) v':=by
 obtain⟨vs',h1,h2⟩:=aKk (P:=P) hR he fn.results.toList vs #[] hv
 have e1:(fn.results.mapM (m:=Sem) (zF a.tmps)).run P w = .ok vs'.toArray w:=by
  rw[Array.mapM_eq_foldlM,←Array.foldlM_toList,h1]
  simp
 have hl:=h2.1
 refine⟨if h:vs'.toArray.size=1 then vs'.toArray[0] else .tuple vs'.toArray,?_,?_⟩
 ·have e2:results fn a.tmps=(do
      let vs ← fn.results.mapM (zF a.tmps)
      pure (if h:vs.size=1 then vs[0] else .tuple vs)):=by
   unfold results
   congr 1
  rw[e2,Sem.run_bind,e1]
  rfl
 ·match vs,vs',hl,h2 with
  | [],[],_,_=>exact .bY _
  | [v],[v'],_,h2=>simpa[mX]using h2.2 0 (by simp) (by simp)
  | v::u::vs,v'::u'::vs',_,h2=>
   simp only[mX,List.size_toArray,List.length_cons]
   rw[dif_neg (by omega)]
   exact .tuple h2.toArray.1 h2.toArray.2
theorem aD.aWn (hI:aO P J I) (hm:P.follows .mixedOrders=true) {f:FuncId} {fn:Func} {c:Code} (hf:P.funcs[f]? = some fn) (hb:fn.body=some c) (hok:codeOk fn.ntmps c=true)
 (hcall:∀(args:Array V) (w:World),(callFunc f args).run P w = .ok (.enter f args) w) :
 aD P J f (fun args h K=>args.length≤fn.ntmps∧evF P I fn args h K):=by
 intro B hJ r h w args args' Q hev hR hargs
 obtain⟨hlen,hev⟩:=hev
 unfold evF at hev
 rw[hb]at hev
 refine⟨_,w,hcall args' w,?_⟩
 have hl:=hargs.1
 simp only[Array.length_toList]at hl
 have hsr:SR J B fn.ntmps r ⟨tD args,h⟩ { tmps:=args'++Array.replicate (fn.ntmps - args'.size) undef,defers:=[] } w:=by
  refine⟨hR,fun t=>?_,by simp;omega,rfl⟩
  simp only[tD]
  rw[Array.getD_eq_getD_getElem?,List.getD_eq_getElem?_getD]
  by_cases ht:t<args.length
  ·have ht':t<args'.size:=by omega
   rw[Array.getElem?_append_left ht',List.getElem?_eq_getElem ht,Array.getElem?_eq_getElem ht']
   have:=hargs.2 t ht (by simpa using ht')
   simpa using this
  ·rw[List.getElem?_eq_none (by omega)]
   exact .bY _
 have hwp:=aTk hI hJ hm (n:=fn.ntmps) (r0:=r) (h0:=h) (w0:=w) c _ _ r _ w hok hev hsr (Ext.refl _ _ _)
 refine calls_of_wp hf hb (wp_mono hwp ?_)
 rintro e a' w' ⟨x,rfl,r',s',hk,hs',hE'⟩
 cases x with
 | exit id=>exact hk.elim
 | normal=>
  simp only at hk
  split at hk
  ·rename_i vs hv
   obtain⟨v',g1,g2⟩:=aOc (P:=P) hs'.R hs'.env hv
   exact⟨hs'.defers,v',g1,v',rfl,r',_,s'.h,hk,hs'.R,hE',g2⟩
  ·exact hk.elim
 | ret=>
  simp only at hk
  split at hk
  ·rename_i vs hv
   obtain⟨v',g1,g2⟩:=aOc (P:=P) hs'.R hs'.env hv
   exact⟨hs'.defers,v',g1,v',rfl,r',_,s'.h,hk,hs'.R,hE',g2⟩
  ·exact hk.elim
end
end Go.Abs
namespace Go.Abs
open Go
inductive Lay where
 | one
 | agg (n:Nat)
 | bad
def oG (P:Program) (t:TypeId):Lay:=
 match jK P t,szT P t with
 | some true,some n=>.agg n
 | some false,_=>.one
 | _,_=>.bad
def ldD (l:Lay) (a:V) (h:aA):Option V:=
 match a with
 | .pointer (some ⟨b,o,none⟩)=>
  match l with
  | .agg n=>(h.rdN b o n).map fun l=>.agg l.toArray
  | .one=>h.rd b o
  | .bad=>none
 | _=>none
theorem aI3 (P:Program) (t:TypeId) (a:V) (h:aA):rU P t a h=ldD (oG P t) a h:=by
 unfold rU ldD oG
 cases jK P t with
 | none=>rfl
 | some b=>cases b<;>cases szT P t<;>rfl
def stD (n:Option Nat) (a x:V) (h:aA):Option aA:=
 match a with
 | .pointer (some ⟨b,o,none⟩)=>
  match n,cellsOf x with
  | some n,some vs=>if vs.length=n∧vs.all dH=true then h.wr b o vs else none
  | _,_=>none
 | _=>none
theorem aI7 (P:Program) (t:TypeId) (a x:V) (h:aA):aAa P t a x h=stD (szT P t) a x h:=rfl
def aBe (P:Program) (t:TypeId):Option Nat:=
 match P.underlying t with
 | some (.array _ e)=>some ((szT P e).getD 0)
 | _=>none
def aY (e:Option Nat) (v:V) (h:aA):Option (V×aA):=
 match cellsOf v with
 | some vs=>some (.pointer (some ⟨h.next,0,none⟩),h.new (.cells vs (e.getD vs.length) .rw))
 | none=>none
theorem zZ (P:Program) (t:TypeId) (v:V) (h:aA):uU P t v h=aY (aBe P t) v h:=by
 unfold uU aY aBe yF
 cases cellsOf v with
 | none=>rfl
 | some vs=>
  cases P.underlying t with
  | none=>rfl
  | some d=>cases d<;>rfl
inductive aIi where
 | struct (z:List V) (places:List (Nat×Nat))
 | array (z:List V) (n:Nat)
 | bad
def aAg (P:Program) (t:TypeId):aIi:=
 match (zeroOf P t).bind cellsOf with
 | some z=>
  match P.underlying t with
  | some (.struct fs)=>if aBh P fs then .struct z (fs.toList.map fun f=>(f.offset,(szT P f.type).getD 0)) else .bad
  | some (.array _ e)=>(match szT P e with | some n=>.array z n | none=>.bad)
  | _=>.bad
 | none=>.bad
def cA (k:aIi) (parts:List (Nat×V)):Option V:=
 match k with
 | .struct z ps=>(eP (fun i=>ps[i]?) z parts).map fun l=>.agg l.toArray
 | .array z n=>(eP (fun i=>some (i*n,n)) z parts).map fun l=>.agg l.toArray
 | .bad=>none
theorem aQe (P:Program) (t:TypeId) (ps:List (Nat×V)):wY P t ps=cA (aAg P t) ps:=by
 unfold wY cA aAg
 cases (zeroOf P t).bind cellsOf with
 | none=>rfl
 | some z=>
  simp only
  cases P.underlying t with
  | none=>rfl
  | some d=>
   cases d<;>try rfl
   ·rename_i n e
    simp only
    cases szT P e<;>rfl
   ·rename_i fs
    simp only
    by_cases hok:aBh P fs=true
    ·rw[if_pos hok,if_pos hok]
     have:uL P fs=fun i=>(fs.toList.map fun f=>(f.offset,(szT P f.type).getD 0))[i]?:=by
      funext i
      simp only[uL,List.getElem?_map,Array.getElem?_toList]
      cases hf:fs[i]? with
      | none=>rfl
      | some f=>
       obtain⟨hi,rfl⟩:=Array.getElem?_eq_some_iff.1 hf
       have:=(Array.all_eq_true.1 hok) i hi
       obtain⟨n,hn⟩:=Option.isSome_iff_exists.1 this
       simp[hn]
     rw[this]
    ·rw[if_neg hok,if_neg hok]
def elK (P:Program) (t:TypeId):Option (Nat×List V):=
 match gZ P t with
 | some e=>
  match szT P e,(zeroOf P e).bind cellsOf with
  | some n,some z=>some (n,z)
  | _,_=>none
 | none=>none
def dN (k:Option (Nat×List V)) (len:Nat) (parts:List (Nat×V)) (h:aA):Option (V×aA):=
 match k with
 | some (n,z)=>
  if 0<n∧len*n≤16777216∧z.length=n then
   (eP (fun i=>some (i*n,n)) (eO z (len*n)) parts).map fun l=>(.slice (some ⟨h.next,0,none⟩) len (2*len),h.new (.cells l n .rw))
  else none
 | none=>none
theorem aIv (P:Program) (t:TypeId) (n:Nat) (ps:List (Nat×V)) (h:aA):wZ P t n ps h=dN (elK P t) n ps h:=by
 unfold wZ dN elK
 cases gZ P t with
 | none=>rfl
 | some e=>
  simp only
  cases szT P e with
  | none=>rfl
  | some m=>cases (zeroOf P e).bind cellsOf<;>rfl
/-! ### Comparisons -/
inductive FK where
 | int | string | bool | bad
def fkT (P:Program) (f:Field):FK:=
 if f.name = "_" then .bad else
 match P.underlying f.type with
 | some (.int _)=>.int
 | some .string=>.string
 | some .bool=>.bool
 | _=>.bad
def fkL (P:Program) (fs:List Field):List (Nat×FK):=fs.map fun f=>(f.offset,fkT P f)
def fK (xs ys:Array V):List (Nat×FK)→Option Bool
 | []=>some true
 | (o,k)::fs=>
  match k,xs[o]?,ys[o]? with
  | .int,some (.int k a),some (.int k' b)=>if k=k' then (if a==b then fK xs ys fs else some false) else none
  | .string,some (.string a),some (.string b)=>if a.toList==b.toList then fK xs ys fs else some false
  | .bool,some (.bool a),some (.bool b)=>if a==b then fK xs ys fs else some false
  | _,_,_=>none
theorem aI0 (P:Program) (xs ys:Array V) (fs:List Field):pV P xs ys fs=fK xs ys (fkL P fs):=by
 induction fs with
 | nil=>rfl
 | cons f fs ih=>
  have e1:fkL P (f::fs)=(f.offset,fkT P f)::fkL P fs:=rfl
  rw[e1]
  simp only[pV,fK,ih]
  generalize fK xs ys (fkL P fs)=rest
  unfold fkT
  by_cases hn:f.name = "_"
  ·simp only[hn,if_true]
  ·simp only[hn,if_false]
   generalize xs[f.offset]? = p
   generalize ys[f.offset]? = q
   rcases P.underlying f.type with _ | d
   ·rfl
   ·rcases p with _ | v
    ·cases d<;>rfl
    ·rcases q with _ | u
     ·cases d<;>first | rfl | (cases v<;>rfl)
     ·cases d<;>first | rfl | (cases v<;>first | rfl | (cases u<;>rfl))
inductive EqK where
 | bool
 | ptr (pos:Bool)
 | slice
 | map
 | func
 | iface
 | struct (fs:List (Nat×FK))
 | bad
def eqK (P:Program) (t:TypeId):EqK:=
 match P.underlying t with
 | some .bool=>.bool
 | some (.pointer e)=>.ptr (match szT P e with | some (_+1)=>true | _=>false)
 | some (.slice _)=>.slice
 | some (.map _ _)=>.map
 | some (.func _ _ _)=>.func
 | some (.interface _)=>.iface
 | some (.struct fs)=>if P.eqGuardType P.depth t||P.stoodInHeld t then .bad else .struct (fkL P fs.toList)
 | _=>.bad
def eqD (k:EqK) (c:Bool) (x y:V) (h:aA):Option Bool:=
 match k,x,y with
 | .bool,.bool a,.bool b=>some (a==b)
 | .ptr _,.pointer none,.pointer b=>some b.isNone
 | .ptr _,.pointer (some _),.pointer none=>some false
 | .ptr p,.pointer (some a),.pointer (some b)=>if p&&(rK h a.block&&rK h b.block) then some (a==b) else none
 | .slice,.slice none 0 0,.slice none 0 0=>some true
 | .slice,.slice none 0 0,.slice (some _) _ _=>some false
 | .slice,.slice (some _) _ _,.slice none 0 0=>some false
 | .map,.map none,.map b=>some b.isNone
 | .map,.map (some _),.map none=>some false
 | .func,.nilFunc,.nilFunc=>some true
 | .func,.nilFunc,.func _ _ _=>some false
 | .func,.func _ _ _,.nilFunc=>some false
 | .iface,.nilIface,.nilIface=>if c then some true else none
 | .iface,.nilIface,.iface _ _=>some false
 | .iface,.iface _ _,.nilIface=>some false
 | .struct fs,.agg a,.agg b=>fK a b fs
 | _,_,_=>none
theorem aQg (P:Program) (t:TypeId) (c:Bool) (x y:V) (h:aA):aEq P t c x y h=eqD (eqK P t) c x y h:=by
 unfold aEq eqK
 cases hu:P.underlying t with
 | none=>simp[eqD]
 | some d=>
  cases d
  case pointer e=>
   simp only
   cases x with
   | pointer a=>
    cases y with
    | pointer b=>
     rcases a with _ | a
     ·rfl
     ·rcases b with _ | b
      ·rfl
      ·simp only[eqD]
       cases szT P e with
       | none=>simp
       | some n=>cases n<;>simp
    | _=>cases a<;>rfl
   | _=>rfl
  case slice e=>
   simp only
   cases x with
   | slice a n k=>
    cases y with
    | slice b m j=>cases a<;>cases b<;>first | rfl | (cases n<;>cases k<;>cases m<;>cases j<;>rfl)
    | _=>cases a<;>first | rfl | (cases n<;>cases k<;>rfl)
   | _=>rfl
  case map k e=>
   simp only
   cases x with
   | map a=>
    cases y with
    | map b=>cases a<;>cases b<;>rfl
    | _=>cases a<;>rfl
   | _=>rfl
  case struct fs=>
   simp only
   by_cases hg:(P.eqGuardType P.depth t||P.stoodInHeld t)=true
   ·rw[if_pos hg]
    cases x<;>try rfl
    cases y<;>try rfl
    simp[hg,eqD]
   ·rw[if_neg hg]
    cases x<;>try rfl
    cases y<;>try rfl
    simp only[eqD,if_neg hg,aI0]
  all_goals cases x<;>first | rfl | (cases y<;>rfl)
end Go.Abs

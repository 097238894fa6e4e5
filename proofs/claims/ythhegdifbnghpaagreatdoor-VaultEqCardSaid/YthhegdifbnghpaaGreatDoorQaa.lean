/- Our own abstract machine, part 1: abstract heaps, the relation between abstract and true values, and between abstract heaps and worlds. No program in sight. -/
import Derived.Calls
import Derived.LoopN
import Derived.Below
import Derived.Orders
import Derived.Laws.Sem
import Derived.Laws.World
import Derived.Laws.StructEq
set_option linter.unusedSimpArgs false
set_option linter.unusedVariables false
namespace Go.Abs
open Go
abbrev V:=Value
structure Tgt where
 blk:Nat
 sz:Nat
 esz:Nat
 sh:Nat
abbrev Ren:=Nat→Option Tgt
inductive BK where
 | ro | rw | str | rs
 deriving DecidableEq
inductive cH where
 | cells (c:List V) (esz:Nat) (k:BK)
 | map (es:List MapEntry) (clock:Nat)
 | siter (s:ByteArray) (pos:Nat)
 | miter (m:Option Nat) (since:Nat) (seen:Array Nat) (stepped:Nat)
structure aA where
 get:Nat→Option cH
 next:Nat
def bY:V:=.tuple #[]
def gone:V:=.chan none
def aA.put (h:aA) (b:Nat) (o:cH):aA:={ h with get:=fun x=>if x=b then some o else h.get x }
def aA.new (h:aA) (o:cH):aA:={ h with get:=fun x=>if x=h.next then some o else h.get x,next:=h.next+1 }
def aA.kill (h:aA) (b:Nat):aA:={ h with get:=fun x=>if x=b then none else h.get x }
def aRw (c c':Nat):Prop:=c / 2≤c'∧(c % 2=0→c'=c / 2)
inductive VR (r:Ren):V→V→Prop
 | bY (v:V):VR r (.tuple #[]) v
 | gone:VR r (.chan none) (.tuple #[])
 | bool (b:Bool):VR r (.bool b) (.bool b)
 | int (k:IntKind) (n:Int):VR r (.int k n) (.int k n)
 | float (k:FloatKind) (n:Nat):VR r (.float k n) (.float k n)
 | string (s:ByteArray):VR r (.string s) (.string s)
 | ptrNil:VR r (.pointer none) (.pointer none)
 | ptr {b o:Nat} {t:Tgt} (h:r b=some t):VR r (.pointer (some ⟨b,o,none⟩)) (.pointer (some ⟨t.blk,o+t.sh,none⟩))
 | sliceNil:VR r (.slice none 0 0) (.slice none 0 0)
 | slice {b o n c c':Nat} {t:Tgt} (h:r b=some t) (hc:aRw c c') (hn:n≤c / 2) (hs:o+t.sh+c'*t.esz≤t.sz) :
  VR r (.slice (some ⟨b,o,none⟩) n c) (.slice (some ⟨t.blk,o+t.sh,none⟩) n c')
 | sliceGone (a:Option Addr) (c:Nat):VR r (.slice none 0 1) (.slice a 0 c)
 | mapNil:VR r (.map none) (.map none)
 | map {b:Nat} {t:Tgt} (h:r b=some t):VR r (.map (some b)) (.map (some t.blk))
 | nilFunc:VR r .nilFunc .nilFunc
 | func (fn:Fn) {f f' c c':Array V} (hf:f.size=f'.size) (hfe:∀(i:Nat) (h1:i<f.size) (h2:i<f'.size),VR r f[i] f'[i])
  (hc:c.size=c'.size) (hce:∀(i:Nat) (h1:i<c.size) (h2:i<c'.size),VR r c[i] c'[i]):VR r (.func fn f c) (.func fn f' c')
 | iface (t:TypeId) {v v':V} (h:VR r v v'):VR r (.iface t v) (.iface t v')
 | nilIface:VR r .nilIface .nilIface
 | agg {c c':Array V} (hc:c.size=c'.size) (hce:∀(i:Nat) (h1:i<c.size) (h2:i<c'.size),VR r c[i] c'[i]):VR r (.agg c) (.agg c')
 | tuple {c c':Array V} (hc:c.size=c'.size) (hce:∀(i:Nat) (h1:i<c.size) (h2:i<c'.size),VR r c[i] c'[i]):VR r (.tuple c) (.tuple c')
def VRa (r:Ren) (a b:Array V):Prop:=a.size=b.size∧∀(i:Nat) (h1:i<a.size) (h2:i<b.size),VR r a[i] b[i]
def Ren.le (r r':Ren):Prop:=∀b t,r b=some t→r' b=some t
theorem Ren.le_refl (r:Ren):r.le r:=fun _ _ h=>h
theorem Ren.le_trans {a b c:Ren} (h:a.le b) (k:b.le c):a.le c:=fun x t e=>k x t (h x t e)
theorem VR.mono {r r':Ren} (hr:r.le r') {v v':V} (h:VR r v v'):VR r' v v':=by
 induction h with
 | bY v=>exact .bY v
 | gone=>exact .gone
 | bool b=>exact .bool b
 | int k n=>exact .int k n
 | float k n=>exact .float k n
 | string s=>exact .string s
 | ptrNil=>exact .ptrNil
 | ptr h=>exact .ptr (hr _ _ h)
 | sliceNil=>exact .sliceNil
 | slice h hc hn hs=>exact .slice (hr _ _ h) hc hn hs
 | sliceGone a c=>exact .sliceGone a c
 | mapNil=>exact .mapNil
 | map h=>exact .map (hr _ _ h)
 | nilFunc=>exact .nilFunc
 | func fn hf _ hc _ i1 i2=>exact .func fn hf i1 hc i2
 | iface t _ ih=>exact .iface t ih
 | nilIface=>exact .nilIface
 | agg hc _ ih=>exact .agg hc ih
 | tuple hc _ ih=>exact .tuple hc ih
theorem VRa.mono {r r':Ren} (hr:r.le r') {a b:Array V} (h:VRa r a b):VRa r' a b:=⟨h.1,fun i h1 h2=>(h.2 i h1 h2).mono hr⟩
def iL:V→Bool
 | .bool _ | .int .. | .float .. | .string _ | .pointer none | .slice none 0 0 | .map none | .nilFunc | .nilIface=>true
 | .func _ f c=>f.size==0&&c.size==0
 | _=>false
def bS:V→Bool
 | .bool _ | .int .. | .float .. | .string _ | .pointer none | .slice none 0 0 | .map none | .nilFunc | .nilIface=>true
 | .func _ f c=>f.size==0&&c.size==0
 | .iface _ v=>iL v
 | .agg c=>c.toList.all iL
 | _=>false
theorem aJq {v:V} (h:iL v=true):bS v=true:=by
 unfold iL at h
 split at h<;>first | rfl | cases h | exact h
theorem VR.iL {r:Ren} {v:V} (h:iL v=true):VR r v v:=by
 unfold Abs.iL at h
 split at h
 case h_10 fn f c=>
  simp at h
  refine .func fn rfl (fun i h1=>?_) rfl (fun i h1=>?_)<;>simp[h]at h1
 case h_11=>cases h
 all_goals constructor
theorem VR.closed {r:Ren} {v:V} (h:bS v=true):VR r v v:=by
 unfold bS at h
 split at h
 case h_10 fn f c=>exact VR.iL (v:=.func fn f c) h
 case h_11 t v=>exact .iface t (VR.iL h)
 case h_12 c=>
  simp only[List.all_eq_true]at h
  exact .agg rfl fun i h1 _=>VR.iL (h _ (by simp))
 case h_13=>cases h
 all_goals constructor
theorem VR.oE {r:Ren}:∀{v v':V},bS v=true→VR r v v'→v'=v:=by
 intro v v' hc h
 induction h with
 | bY v=>simp[bS]at hc
 | ptr | slice | sliceGone | map | tuple | gone=>simp[bS]at hc
 | func fn hf _ hcc _ _ _=>
  simp[bS]at hc
  obtain⟨h1,h2⟩:=hc
  subst h1 h2
  have e1:=Array.eq_empty_of_size_eq_zero (by simpa using hf.symm)
  have e2:=Array.eq_empty_of_size_eq_zero (by simpa using hcc.symm)
  rw[e1,e2]
 | iface t _ ih=>simp only[bS]at hc;rw[ih (aJq hc)]
 | agg hs he ih=>
  simp only[bS,List.all_eq_true]at hc
  congr 1
  refine Array.ext hs.symm fun i h1 h2=>ih i h2 h1 ?_
  exact aJq (hc _ (by simp))
 | _=>rfl
/-! ### Lists of cells -/
def VRl (r:Ren) (a b:List V):Prop:=a.length=b.length∧∀(i:Nat) (h1:i<a.length) (h2:i<b.length),VR r a[i] b[i]
theorem VRl.mono {r r':Ren} (hr:r.le r') {a b:List V} (h:VRl r a b):VRl r' a b:=⟨h.1,fun i h1 h2=>(h.2 i h1 h2).mono hr⟩
theorem VRl.nil (r:Ren):VRl r [] []:=⟨rfl,fun i h=>by simp at h⟩
theorem VRl.cons {r:Ren} {v v':V} {a b:List V} (h:VR r v v') (k:VRl r a b):VRl r (v::a) (v'::b):=by
 refine⟨by simp[k.1],fun i h1 h2=>?_⟩
 cases i with
 | zero=>exact h
 | succ i=>exact k.2 i (by simpa using h1) (by simpa using h2)
theorem VRl.append {r:Ren} {a b a' b':List V} (h:VRl r a b) (k:VRl r a' b'):VRl r (a++a') (b++b'):=by
 refine⟨by simp[h.1,k.1],fun i h1 h2=>?_⟩
 simp only[List.getElem_append]
 have hl:=h.1
 by_cases hi:i<a.length
 ·rw[dif_pos hi,dif_pos (hl▸hi)];exact h.2 i hi _
 ·rw[dif_neg hi,dif_neg (hl▸hi)]
  simp only[←hl]
  exact k.2 _ _ _
theorem VRa.toList {r:Ren} {a b:Array V} (h:VRa r a b):VRl r a.toList b.toList:=⟨by simpa using h.1,fun i h1 h2=>by simpa using h.2 i (by simpa using h1) (by simpa using h2)⟩
theorem VRl.toArray {r:Ren} {a b:List V} (h:VRl r a b):VRa r a.toArray b.toArray:=⟨by simpa using h.1,fun i h1 h2=>by simpa using h.2 i (by simpa using h1) (by simpa using h2)⟩
theorem VRl.agg {r:Ren} {a b:List V} (h:VRl r a b):VR r (.agg a.toArray) (.agg b.toArray):=.agg h.toArray.1 h.toArray.2
def cellsOf:V→Option (List V)
 | .agg c=>some c.toList
 | .tuple _=>none
 | .chan _=>none
 | v=>some [v]
theorem VR.cells {r:Ren} {v v':V} (h:VR r v v') {c:List V} (hc:cellsOf v=some c):VRl r c v'.cells.toList:=by
 cases h<;>simp only[cellsOf,Option.some.injEq,reduceCtorEq]at hc<;>subst hc
 case agg hs he=>exact VRa.toList ⟨hs,he⟩
 all_goals exact VRl.cons (by constructor<;>assumption) (VRl.nil r)
def dH:V→Bool
 | .agg _=>false
 | .tuple _=>false
 | .chan _=>false
 | _=>true
theorem VR.dH {r:Ren} {v v':V} (h:VR r v v') (h1:dH v=true):v'.oneCell'=true:=by
 cases h<;>simp_all [Abs.dH,Value.oneCell']
end Go.Abs
namespace Go.Abs
open Go Go.RowKit
def OR (B:Nat) (r:Ren) (w:World) (t:Tgt):cH→Prop
 | .cells c esz k=>t.esz=esz∧(∃cc el fr,w.heap[t.blk]? = some (.cells cc el fr)∧cc.size=t.sz∧c.length+t.sh≤cc.size ∧
  (∀(i:Nat) (h:i<c.length) (h':i+t.sh<cc.size),VR r c[i] cc[i+t.sh]) ∧
  (k≠.ro→∀o,o<cc.size→¬(fr.1≤o∧o<fr.2))∧(k = .rw→fr.1=fr.2))∧(k≠.ro→B≤t.blk)∧(k≠.rs→t.sh=0)
 | .map es clock=>(B≤t.blk∧t.sh=0)∧∃ces,w.heap[t.blk]? = some (.map ces clock)∧ces.size=es.length ∧
  (∀(i:Nat) (h:i<es.length) (h':i<ces.size),VR r es[i].key ces[i].key∧VR r es[i].val ces[i].val∧ces[i].born=es[i].born)
 | .siter s pos=>(B≤t.blk∧t.sh=0)∧w.heap[t.blk]? = some (.stringIter s pos)
 | .miter none since seen last=>(B≤t.blk∧t.sh=0)∧w.heap[t.blk]? = some (.mapIter none since seen last)
 | .miter (some m) since seen last=>(B≤t.blk∧t.sh=0)∧∃tm,r m=some tm∧w.heap[t.blk]? = some (.mapIter (some tm.blk) since seen last)
theorem OR.wF {B r w w' t o} (h:OR B r w t o) (hb:w'.heap[t.blk]? = w.heap[t.blk]?):OR B r w' t o:=by
 cases o with
 | cells c e k=>simpa only[OR,hb]using h
 | map es c=>simpa only[OR,hb]using h
 | siter s p=>simpa only[OR,hb]using h
 | miter m a b c=>cases m<;>simpa only[OR,hb]using h
theorem OR.drew {B r w t o} (h:OR B r w t o):OR B r w.drew t o:=h.wF rfl
theorem OR.mono {B r r' w t o} (hr:r.le r') (h:OR B r w t o):OR B r' w t o:=by
 cases o with
 | cells c e k=>
  obtain⟨h0,⟨cc,el,fr,h1,h2,h3,h4,h5⟩,h6⟩:=h
  exact⟨h0,⟨cc,el,fr,h1,h2,h3,fun i hi hi'=>(h4 i hi hi').mono hr,h5⟩,h6⟩
 | map es c=>
  obtain⟨h0,ces,h1,h2,h3⟩:=h
  exact⟨h0,ces,h1,h2,fun i hi hi'=>⟨(h3 i hi hi').1.mono hr,(h3 i hi hi').2.1.mono hr,(h3 i hi hi').2.2⟩⟩
 | siter s p=>exact h
 | miter m a b c=>
  cases m with
  | none=>exact h
  | some m=>obtain⟨h0,tm,h1,h2⟩:=h;exact⟨h0,tm,hr _ _ h1,h2⟩
def aZu (h:aA) (b:Nat):Prop:=∃o,h.get b=some o∧∀c e,o≠.cells c e .ro
def cH.tR (o:cH):Prop:=∃c e,o = .cells c e .ro
structure R (J:World→Prop) (B:Nat) (r:Ren) (h:aA) (w:World):Prop where
 base:B≤w.heap.size
 lt:∀b t,r b=some t→t.blk<w.heap.size∧b<h.next
 live:∀b o,h.get b=some o→∃t,r b=some t∧OR B r w t o
 inj:∀b b' o o' t t',h.get b=some o→h.get b'=some o'→r b=some t→r b'=some t'→t.blk=t'.blk→b=b'∨(o.tR∧o'.tR)
 inv:J w
theorem R.tN {J B r h w} (hR:R J B r h w) {b b' o o' t t'} (hb:h.get b=some o) (hb':h.get b'=some o') (ht:r b=some t) (ht':r b'=some t') (e:t.blk=t'.blk)
 (hw:∀c e,o'≠.cells c e .ro):b=b':=by
 rcases hR.inj b b' o o' t t' hb hb' ht ht' e with h | ⟨_,c,e,h⟩
 ·exact h
 ·exact absurd h (hw c e)
def vM (r:Ren) (h:aA) (k:Nat):Prop:=∃b t,aZu h b∧r b=some t∧t.blk=k
structure Ext (r:Ren) (h:aA) (w:World) (r':Ren) (h':aA) (w':World):Prop where
 ren:r.le r'
 next:h.next≤h'.next
 os:w'.os=w.os
 tape:w'.tape=w.tape
 output:w'.output=w.output
 size:w.heap.size≤w'.heap.size
 block:∀k,k<w.heap.size→¬vM r h k→w'.heap[k]? = w.heap[k]?
 feet:∀k,k<w.heap.size→vM r' h' k→vM r h k
theorem Ext.refl (r:Ren) (h:aA) (w:World):Ext r h w r h w:=
 ⟨Ren.le_refl r,Nat.le_refl _,rfl,rfl,rfl,Nat.le_refl _,fun _ _ _=>rfl,fun _ _ h=>h⟩
theorem Ext.trans {r h w r1 h1 w1 r2 h2 w2} (a:Ext r h w r1 h1 w1) (b:Ext r1 h1 w1 r2 h2 w2):Ext r h w r2 h2 w2:=
 ⟨Ren.le_trans a.ren b.ren,Nat.le_trans a.next b.next,b.os.trans a.os,b.tape.trans a.tape,b.output.trans a.output,Nat.le_trans a.size b.size,
  fun k hk hf=>(b.block k (Nat.lt_of_lt_of_le hk a.size) fun hf1=>hf (a.feet k hk hf1)).trans (a.block k hk hf),
  fun k hk hf=>a.feet k hk (b.feet k (Nat.lt_of_lt_of_le hk a.size) hf)⟩
theorem R.aGe {J B r h w} (hR:R J B r h w) {k:Nat} (hk:vM r h k):B≤k:=by
 obtain⟨b,t,⟨o,ho,hw⟩,ht,rfl⟩:=hk
 obtain⟨t',ht',hO⟩:=hR.live b o ho
 rw[ht]at ht';cases ht'
 cases o with
 | cells c e k=>
  refine hO.2.2.1 ?_
  rintro rfl
  exact hw c e rfl
 | map es c=>exact hO.1.1
 | siter s p=>exact hO.1.1
 | miter m a b c=>cases m<;>exact hO.1.1
theorem Ext.below {J B r h w r' h' w'} (hR:R J B r h w) (e:Ext r h w r' h' w'):Below B w w':=
 ⟨e.os,e.tape,e.output,e.size,fun k hk=>e.block k (Nat.lt_of_lt_of_le hk hR.base) fun hf=>by have:=hR.aGe hf;omega⟩
def cP (J:World→Prop) (B:Nat):Prop:=∀w w',J w→Below B w w'→w.drawn≤w'.drawn→J w'
def DF (J:World→Prop):Prop:=∀(w:World) (n:Nat),J w→J { w with drawn:=n }
theorem cP.free {J:World→Prop} {B:Nat} (hJ:cP J B) (hD:DF J) {w w':World} (h:J w) (hb:Below B w w'):J w':=
 hD { w' with drawn:=w.drawn } w'.drawn (hJ w { w' with drawn:=w.drawn } h ⟨hb.os,hb.tape,hb.output,hb.size,hb.block⟩ (Nat.le_refl _))
theorem R.drew {J B r h w} (hJ:cP J B) (hR:R J B r h w):R J B r h w.drew:=
 ⟨hR.base,hR.lt,fun b o ho=>(hR.live b o ho).imp fun t h=>⟨h.1,h.2.drew⟩,hR.inj,hJ _ _ hR.inv (Below.drew (Below.refl _ _)) (Nat.le_succ _)⟩
theorem Ext.drew {r h w}:Ext r h w r h w.drew:=
 ⟨Ren.le_refl r,Nat.le_refl _,rfl,rfl,rfl,Nat.le_refl _,fun _ _ _=>rfl,fun _ _ h=>h⟩
end Go.Abs
namespace Go.Abs
open Go Go.RowKit
def Ren.upd (r:Ren) (b:Nat) (t:Tgt):Ren:=fun x=>if x=b then some t else r x
theorem Ren.cX (r:Ren) (b:Nat) (t:Tgt):r.upd b t b=some t:=if_pos rfl
theorem Ren.eD (r:Ren) {b x:Nat} (t:Tgt) (h:x≠b):r.upd b t x=r x:=if_neg h
theorem R.oH {J B r h w} (hR:R J B r h w) (t:Tgt):r.le (r.upd h.next t):=by
 intro b t' hb
 have:b≠h.next:=Nat.ne_of_lt (hR.lt b t' hb).2
 rw[Ren.eD _ _ this];exact hb
theorem aGn {w:World} {o:Obj} {k:Nat} (h:k<w.heap.size):(w.alloc o).heap[k]? = w.heap[k]?:=Below.heap_alloc w o k h
theorem heap_alloc_new {w:World} {o:Obj}:(w.alloc o).heap[w.heap.size]? = some o:=by
 show (w.heap.push o)[w.heap.size]? = some o
 simp
theorem R.alloc {J B r h w} (hJ:cP J B) (hR:R J B r h w) (o:cH) (o':Obj) (t:Tgt) (ht:t.blk=w.heap.size)
 (hO:OR B (r.upd h.next t) (w.alloc o') t o):R J B (r.upd h.next t) (h.new o) (w.alloc o')∧Ext r h w (r.upd h.next t) (h.new o) (w.alloc o'):=by
 have hle:=hR.oH t
 have old:∀b o1,(h.new o).get b=some o1→(b=h.next∧o1=o)∨(b≠h.next∧h.get b=some o1):=by
  intro b o1 hb
  by_cases e:b=h.next
  ·subst e;simp[aA.new]at hb;exact .inl ⟨rfl,hb.symm⟩
  ·exact .inr ⟨e,by simpa[aA.new,e]using hb⟩
 refine⟨⟨?_,?_,?_,?_,?_⟩,⟨hle,Nat.le_succ _,rfl,rfl,rfl,by simp,?_,?_⟩⟩
 ·have:=hR.base;simp;omega
 ·intro b t' hb
  by_cases e:b=h.next
  ·subst e;rw[Ren.cX]at hb;cases hb;simp[aA.new,ht]
  ·rw[Ren.eD _ _ e]at hb
   have:=hR.lt b t' hb
   simp[aA.new];omega
 ·intro b o1 hb
  rcases old b o1 hb with ⟨rfl,rfl⟩ | ⟨e,hb'⟩
  ·exact⟨t,Ren.cX _ _ _,hO⟩
  ·obtain⟨t',h1,h2⟩:=hR.live b o1 hb'
   exact⟨t',hle _ _ h1,(h2.wF (aGn (hR.lt _ _ h1).1)).mono hle⟩
 ·intro b b' o1 o1' t1 t1' hb hb' h1 h1' e
  rcases old b o1 hb with ⟨rfl,rfl⟩ | ⟨e1,hb⟩<;>rcases old b' o1' hb' with ⟨rfl,rfl⟩ | ⟨e2,hb'⟩
  ·exact .inl rfl
  ·rw[Ren.cX]at h1;cases h1
   rw[Ren.eD _ _ e2]at h1'
   have:=(hR.lt _ _ h1').1;exfalso;omega
  ·rw[Ren.cX]at h1';cases h1'
   rw[Ren.eD _ _ e1]at h1
   have:=(hR.lt _ _ h1).1;exfalso;omega
  ·rw[Ren.eD _ _ e1]at h1;rw[Ren.eD _ _ e2]at h1'
   exact hR.inj b b' o1 o1' t1 t1' hb hb' h1 h1' e
 ·exact hJ _ _ hR.inv ((Below.refl _ _).alloc hR.base _) (Nat.le_refl _)
 ·intro k hk _;exact aGn hk
 ·rintro k hk ⟨b,t',⟨o1,hb,hw⟩,h1,rfl⟩
  rcases old b o1 hb with ⟨rfl,rfl⟩ | ⟨e,hb⟩
  ·rw[Ren.cX]at h1;cases h1;omega
  ·rw[Ren.eD _ _ e]at h1
   exact⟨b,t',⟨o1,hb,hw⟩,h1,rfl⟩
structure iJ (w w':World) (k:Nat) (o:Obj):Prop where
 os:w'.os=w.os
 tape:w'.tape=w.tape
 output:w'.output=w.output
 size:w'.heap.size=w.heap.size
 here:w'.heap[k]? = some o
 else_:∀j,j≠k→w'.heap[j]? = w.heap[j]?
 drawn:w'.drawn=w.drawn
theorem iJ.below {w w' k o} (h:iJ w w' k o) {B:Nat} (hB:B≤k):Below B w w':=
 ⟨h.os,h.tape,h.output,Nat.le_of_eq h.size.symm,fun j hj=>h.else_ j (by omega)⟩
theorem R.wT {J B r h w w'} (hJ:cP J B) (hR:R J B r h w) {b:Nat} {o o2:cH} {o':Obj} {t:Tgt} (hb:h.get b=some o) (hw:∀c e,o≠.cells c e .ro)
 (ht:r b=some t) (hT:iJ w w' t.blk o') (hO:OR B r w' t o2) (_hw2:∀c e,o2≠.cells c e .ro) :
 R J B r (h.put b o2) w'∧Ext r h w r (h.put b o2) w':=by
 have hfoot:vM r h t.blk:=⟨b,t,⟨o,hb,hw⟩,ht,rfl⟩
 have old:∀b1 o1,(h.put b o2).get b1=some o1→(b1=b∧o1=o2)∨(b1≠b∧h.get b1=some o1):=by
  intro b1 o1 hb1
  by_cases e:b1=b
  ·subst e;simp[aA.put]at hb1;exact .inl ⟨rfl,hb1.symm⟩
  ·exact .inr ⟨e,by simpa[aA.put,e]using hb1⟩
 have was:∀b1 o1,(h.put b o2).get b1=some o1→∃o0,h.get b1=some o0:=fun b1 o1 hb1=>by
  rcases old b1 o1 hb1 with ⟨rfl,_⟩ | ⟨_,h1⟩
  ·exact⟨o,hb⟩
  ·exact⟨o1,h1⟩
 refine⟨⟨?_,?_,?_,?_,?_⟩,⟨Ren.le_refl r,Nat.le_refl _,hT.os,hT.tape,hT.output,Nat.le_of_eq hT.size.symm,?_,?_⟩⟩
 ·rw[hT.size];exact hR.base
 ·intro b1 t1 h1;rw[hT.size];exact hR.lt b1 t1 h1
 ·intro b1 o1 hb1
  rcases old b1 o1 hb1 with ⟨rfl,rfl⟩ | ⟨e,h1⟩
  ·exact⟨t,ht,hO⟩
  ·obtain⟨t1,h2,h3⟩:=hR.live b1 o1 h1
   refine⟨t1,h2,h3.wF (hT.else_ _ fun e1=>e (hR.tN h1 hb h2 ht e1 hw))⟩
 ·intro b1 b2 o1 o2' t1 t2 h1 h2 k1 k2 e
  rcases old _ _ h1 with ⟨rfl,rfl⟩ | ⟨e1,q1⟩<;>rcases old _ _ h2 with ⟨rfl,rfl⟩ | ⟨e2,q2⟩
  ·exact .inl rfl
  ·exact .inl (hR.tN q2 hb k2 k1 e.symm hw).symm
  ·exact .inl (hR.tN q1 hb k1 k2 e hw)
  ·exact hR.inj b1 b2 o1 o2' t1 t2 q1 q2 k1 k2 e
 ·exact hJ _ _ hR.inv (hT.below (hR.aGe hfoot)) (Nat.le_of_eq hT.drawn.symm)
 ·intro k _ hf;exact hT.else_ k fun e=>hf (e▸hfoot)
 ·rintro k hk ⟨b1,t1,⟨o1,hb1,hw1⟩,h1,rfl⟩
  rcases old b1 o1 hb1 with ⟨rfl,rfl⟩ | ⟨e,h2⟩
  ·rw[ht]at h1;cases h1;exact hfoot
  ·exact⟨b1,t1,⟨o1,h2,hw1⟩,h1,rfl⟩
theorem R.rename {J B r h w w'} (hJ:cP J B) (hR:R J B r h w) {b:Nat} {o o2:cH} {o':Obj} {t t2:Tgt} (hb:h.get b=some o) (hw:∀c e,o≠.cells c e .ro)
 (ht:r b=some t) (hT:iJ w w' t.blk o') (et:t2.blk=t.blk) (hO:OR B (r.upd h.next t2) w' t2 o2) :
 R J B (r.upd h.next t2) ((h.kill b).new o2) w'∧Ext r h w (r.upd h.next t2) ((h.kill b).new o2) w':=by
 have hfoot:vM r h t.blk:=⟨b,t,⟨o,hb,hw⟩,ht,rfl⟩
 have hle:=hR.oH t2
 have hbn:b≠h.next:=Nat.ne_of_lt (hR.lt b t ht).2
 have old:∀b1 o1,((h.kill b).new o2).get b1=some o1→(b1=h.next∧o1=o2)∨(b1≠h.next∧b1≠b∧h.get b1=some o1):=by
  intro b1 o1 hb1
  by_cases e:b1=h.next
  ·subst e;simp[aA.new,aA.kill]at hb1;exact .inl ⟨rfl,hb1.symm⟩
  ·by_cases e2:b1=b
   ·subst e2;simp[aA.new,aA.kill,e]at hb1
   ·exact .inr ⟨e,e2,by simpa[aA.new,aA.kill,e,e2]using hb1⟩
 refine⟨⟨?_,?_,?_,?_,?_⟩,⟨hle,Nat.le_succ _,hT.os,hT.tape,hT.output,Nat.le_of_eq hT.size.symm,?_,?_⟩⟩
 ·rw[hT.size];exact hR.base
 ·intro b1 t1 h1
  rw[hT.size]
  by_cases e:b1=h.next
  ·subst e;rw[Ren.cX]at h1;cases h1;exact⟨by rw[et];exact (hR.lt b t ht).1,by simp[aA.new,aA.kill]⟩
  ·rw[Ren.eD _ _ e]at h1
   have:=hR.lt b1 t1 h1
   exact⟨this.1,by simp[aA.new,aA.kill];omega⟩
 ·intro b1 o1 hb1
  rcases old b1 o1 hb1 with ⟨rfl,rfl⟩ | ⟨e,e2,h1⟩
  ·exact⟨t2,Ren.cX _ _ _,hO⟩
  ·obtain⟨t1,h2,h3⟩:=hR.live b1 o1 h1
   refine⟨t1,hle _ _ h2,(h3.wF (hT.else_ _ fun e1=>e2 (hR.tN h1 hb h2 ht e1 hw))).mono hle⟩
 ·intro b1 b2 o1 o2' t1 t2 h1 h2 k1 k2 e
  rcases old b1 o1 h1 with ⟨rfl,rfl⟩ | ⟨e1,f1,h1⟩<;>rcases old b2 o2' h2 with ⟨rfl,rfl⟩ | ⟨e2,f2,h2⟩
  ·exact .inl rfl
  ·rw[Ren.cX]at k1;cases k1
   rw[Ren.eD _ _ e2]at k2
   exact absurd (hR.tN h2 hb k2 ht (e.symm.trans et) hw) f2
  ·rw[Ren.cX]at k2;cases k2
   rw[Ren.eD _ _ e1]at k1
   exact absurd (hR.tN (by assumption) hb k1 ht (e.trans et) hw) f1
  ·rw[Ren.eD _ _ e1]at k1;rw[Ren.eD _ _ e2]at k2
   exact hR.inj b1 b2 o1 o2' t1 t2 h1 h2 k1 k2 e
 ·exact hJ _ _ hR.inv (hT.below (hR.aGe hfoot)) (Nat.le_of_eq hT.drawn.symm)
 ·intro k _ hf;exact hT.else_ k fun e=>hf (e▸hfoot)
 ·rintro k hk ⟨b1,t1,⟨o1,hb1,hw1⟩,h1,rfl⟩
  rcases old b1 o1 hb1 with ⟨rfl,rfl⟩ | ⟨e,e2,h2⟩
  ·rw[Ren.cX]at h1;cases h1;rw[et];exact hfoot
  ·rw[Ren.eD _ _ e]at h1;exact⟨b1,t1,⟨o1,h2,hw1⟩,h1,rfl⟩
theorem R.kill {J B r h w} (hR:R J B r h w) (b:Nat):R J B r (h.kill b) w∧Ext r h w r (h.kill b) w:=by
 have old:∀b1 o1,(h.kill b).get b1=some o1→h.get b1=some o1:=by
  intro b1 o1 hb1
  by_cases e:b1=b
  ·subst e;simp[aA.kill]at hb1
  ·simpa[aA.kill,e]using hb1
 refine⟨⟨hR.base,hR.lt,fun b1 o1 h1=>hR.live _ _ (old _ _ h1),fun b1 b2 o1 o2 t1 t2 h1 h2=>hR.inj b1 b2 o1 o2 t1 t2 (old _ _ h1) (old _ _ h2),hR.inv⟩,
  ⟨Ren.le_refl r,Nat.le_refl _,rfl,rfl,rfl,Nat.le_refl _,fun _ _ _=>rfl,?_⟩⟩
 rintro k hk ⟨b1,t1,⟨o1,hb1,hw1⟩,h1,rfl⟩
 exact⟨b1,t1,⟨o1,old _ _ hb1,hw1⟩,h1,rfl⟩
/-! ### Stores of several cells -/
def dJ (c:List V) (o:Nat):List V→List V
 | []=>c
 | v::vs=>dJ (c.set o v) (o+1) vs
theorem sY (c:List V) (o:Nat) (vs:List V):(dJ c o vs).length=c.length:=by
 induction vs generalizing c o with
 | nil=>rfl
 | cons v vs ih=>simp[dJ,ih]
def mY (c:Array V) (o:Nat):List V→Array V
 | []=>c
 | v::vs=>mY (c.setIfInBounds o v) (o+1) vs
theorem qR (c:Array V) (o:Nat) (vs:List V):(mY c o vs).size=c.size:=by
 induction vs generalizing c o with
 | nil=>rfl
 | cons v vs ih=>simp[mY,ih]
theorem addr_add (b o i:Nat):(⟨b,o,none⟩:Addr).add i=⟨b,o+i,none⟩:=by
 unfold Addr.add
 split
 ·simp_all
 ·rfl
theorem qY {w:World} {b:Nat} {cc:Array V} {el:TypeId} {fr:Nat×Nat} (h:w.heap[b]? = some (.cells cc el fr)) (o:Nat):w.cell? ⟨b,o,none⟩=cc[o]?:=by
 simp[World.cell?,h]
theorem aGf {w:World} {b:Nat} {cc:Array V} {el:TypeId} {fr:Nat×Nat} (h:w.heap[b]? = some (.cells cc el fr)) (o:Nat):w.frozen? ⟨b,o,none⟩=(decide (fr.1≤o)&&decide (o<fr.2)):=by
 obtain⟨lo,hi⟩:=fr
 simp[World.frozen?,h]
theorem aZf {w:World} {b:Nat} {cc:Array V} {el:TypeId} {fr:Nat×Nat} (h:w.heap[b]? = some (.cells cc el fr)) (o:Nat) (v:V) :
 iJ w (w.setCell ⟨b,o,none⟩ v) b (.cells (cc.setIfInBounds o v) el fr):=by
 refine⟨rfl,rfl,rfl,by simp[World.setCell],?_,fun j hj=>?_,rfl⟩
 ·simp[World.setCell,Array.getElem?_modify,h]
 ·simp[World.setCell,Array.getElem?_modify,Ne.symm hj]
theorem iJ.trans {w w1 w2 k o1 o2} (a:iJ w w1 k o1) (b:iJ w1 w2 k o2):iJ w w2 k o2:=
 ⟨b.os.trans a.os,b.tape.trans a.tape,b.output.trans a.output,b.size.trans a.size,b.here,fun j hj=>(b.else_ j hj).trans (a.else_ j hj),b.drawn.trans a.drawn⟩
theorem iJ.same {w:World} {k:Nat} {o:Obj} (h:w.heap[k]? = some o):iJ w w k o:=⟨rfl,rfl,rfl,rfl,h,fun _ _=>rfl,rfl⟩
theorem aHs {P:Program} {b:Nat} {el:TypeId} {fr:Nat×Nat} {o:Nat}:∀(vs:List V) (i:Nat) (w:World) (cc:Array V),w.heap[b]? = some (.cells cc el fr) →
 (∀v∈vs,v.oneCell'=true)→o+i+vs.length≤cc.size→(∀j,o+i≤j→j<o+i+vs.length→¬(fr.1≤j∧j<fr.2)) →
 ∃w',(storeCells ⟨b,o,none⟩ vs i).run P w = .ok () w'∧iJ w w' b (.cells (mY cc (o+i) vs) el fr)
 | [],i,w,cc,h,_,_,_=>⟨w,rfl,iJ.same h⟩
 | v::vs,i,w,cc,h,h1,hl,hf=>by
  have hlt:o+i<cc.size:=by simp only[List.length_cons]at hl;omega
  have hc:w.cell? ⟨b,o+i,none⟩=some cc[o+i]:=by rw[qY h];exact Array.getElem?_eq_getElem hlt
  have hfz:w.frozen? ⟨b,o+i,none⟩=false:=by
   rw[aGf h]
   have:=hf (o+i) (Nat.le_refl _) (by simp)
   simp only[Bool.and_eq_false_iff,decide_eq_false_iff_not]
   omega
  have hT:=aZf h (o+i) v
  obtain⟨w',hr,hT'⟩:=aHs (P:=P) (o:=o) vs (i+1) (w.setCell ⟨b,o+i,none⟩ v) _ hT.here (fun u hu=>h1 u (List.mem_cons_of_mem _ hu))
   (by simp at hl ⊢;omega) (fun j a c=>hf j (by omega) (by simp at c ⊢;omega))
  refine⟨w',?_,hT.trans hT'⟩
  simp only[storeCells,Sem.run_bind,addr_add]
  rw[run_store P w _ v .plain (h1 v (List.mem_cons_self ..)),hc]
  simp only[hfz,Bool.false_eq_true,if_false,Result.andThen_ok]
  exact hr
theorem run_loadCellsFrom {P:Program} {w:World} {b:Nat} {cc:Array V} {el:TypeId} {fr:Nat×Nat} (h:w.heap[b]? = some (.cells cc el fr)) {o:Nat} :
 ∀(n i:Nat) (acc:Array V),o+i+n≤cc.size→(loadCellsFrom ⟨b,o,none⟩ i n acc).run P w = .ok (acc++cc.extract (o+i) (o+i+n)) w
 | 0,i,acc,_=>by simp[loadCellsFrom];omega
 | n+1,i,acc,hl=>by
  have hc:w.cell? ⟨b,o+i,none⟩=some cc[o+i]:=by rw[qY h];exact Array.getElem?_eq_getElem (by omega)
  simp only[loadCellsFrom,Sem.run_bind,addr_add,run_load,hc,Result.andThen_ok]
  rw[run_loadCellsFrom h n (i+1) _ (by omega)]
  congr 1
  apply Array.ext'
  simp only[Array.toList_append,Array.toList_push,List.append_assoc,Array.toList_extract]
  congr 1
  have e:o+i<cc.toList.length:=by simp;omega
  have:(cc.toList.extract (o+i) (o+i+(n+1)))=cc[o+i]::cc.toList.extract (o+i+1) (o+i+1+n):=by
   simp only[List.extract_eq_take_drop]
   rw[show o+i+(n+1) - (o+i)=n+1 from by omega,show o+i+1+n - (o+i+1)=n from by omega]
   rw[List.drop_eq_getElem_cons e]
   simp
  rw[this]
  simp[Nat.add_assoc]
theorem run_loadCells {P:Program} {w:World} {b:Nat} {cc:Array V} {el:TypeId} {fr:Nat×Nat} (h:w.heap[b]? = some (.cells cc el fr)) {o n:Nat} (hl:o+n≤cc.size) :
 (loadCells ⟨b,o,none⟩ n).run P w = .ok (cc.extract o (o+n)) w:=by
 unfold loadCells
 rw[run_loadCellsFrom h n 0 #[] (by omega)]
 simp
end Go.Abs
namespace Go.Abs
open Go
section
variable (P:Program)
def jK (t:TypeId):Option Bool:=
 match P.underlying t with
 | some (.struct _)=>some true
 | some (.array _ _)=>some true
 | some _=>some false
 | none=>none
def szT (t:TypeId):Option Nat:=(P.info? t).map (·.size)
def gZ (t:TypeId):Option TypeId:=
 match P.underlying t with
 | some (.slice e)=>some e
 | _=>none
def aA.rd (h:aA) (b o:Nat):Option V:=
 match h.get b with
 | some (.cells c _ _)=>c[o]?
 | _=>none
def aA.rdN (h:aA) (b o n:Nat):Option (List V):=
 match h.get b with
 | some (.cells c _ _)=>if o+n≤c.length then some ((c.drop o).take n) else none
 | _=>none
def aA.wr (h:aA) (b o:Nat) (vs:List V):Option aA:=
 match h.get b with
 | some (.cells c e k)=>if k≠.ro∧o+vs.length≤c.length then some (h.put b (.cells (dJ c o vs) e k)) else none
 | _=>none
def rU (t:TypeId) (a:V) (h:aA):Option V:=
 match a with
 | .pointer (some ⟨b,o,none⟩)=>
  match jK P t,szT P t with
  | some true,some n=>(h.rdN b o n).map fun l=>.agg l.toArray
  | some false,_=>h.rd b o
  | _,_=>none
 | _=>none
def aAa (t:TypeId) (a x:V) (h:aA):Option aA:=
 match a with
 | .pointer (some ⟨b,o,none⟩)=>
  match szT P t,cellsOf x with
  | some n,some vs=>if vs.length=n∧vs.all dH=true then h.wr b o vs else none
  | _,_=>none
 | _=>none
def yF (t:TypeId) (n:Nat):Nat:=
 match P.underlying t with
 | some (.array _ e)=>(szT P e).getD 0
 | _=>n
def zeroOf (t:TypeId):Option V:=
 match (P.info? t).bind (·.zero) with
 | some z=>if bS z then some z else none
 | none=>none
def uU (t:TypeId) (v:V) (h:aA):Option (V×aA):=
 match cellsOf v with
 | some vs=>some (.pointer (some ⟨h.next,0,none⟩),h.new (.cells vs (yF P t vs.length) .rw))
 | none=>none
def eP (place:Nat→Option (Nat×Nat)) (cells:List V):List (Nat×V)→Option (List V)
 | []=>some cells
 | (i,v)::rest=>
  match place i,cellsOf v with
  | some (off,size),some vs=>if vs.length=size∧off+vs.length≤cells.length then eP place (dJ cells off vs) rest else none
  | _,_=>none
def uL (fs:Array Field) (i:Nat):Option (Nat×Nat):=
 match fs[i]? with
 | some f=>(szT P f.type).map fun n=>(f.offset,n)
 | none=>none
def aBh (fs:Array Field):Bool:=fs.all fun f=>(szT P f.type).isSome
def wY (t:TypeId) (parts:List (Nat×V)):Option V:=
 match (zeroOf P t).bind cellsOf with
 | some z=>
  match P.underlying t with
  | some (.struct fs)=>if aBh P fs then (eP (uL P fs) z parts).map fun l=>.agg l.toArray else none
  | some (.array _ e)=>
   match szT P e with
   | some n=>(eP (fun i=>some (i*n,n)) z parts).map fun l=>.agg l.toArray
   | none=>none
  | _=>none
 | none=>none
def eO (z:List V) (n:Nat):List V:=(List.range n).map fun i=>z.getD (i % z.length) Abs.bY
def wZ (t:TypeId) (len:Nat) (parts:List (Nat×V)) (h:aA):Option (V×aA):=
 match gZ P t with
 | some e=>
  match szT P e,(zeroOf P e).bind cellsOf with
  | some n,some z=>
   if 0<n∧len*n≤16777216∧z.length=n then
    (eP (fun i=>some (i*n,n)) (eO z (len*n)) parts).map fun l=>(.slice (some ⟨h.next,0,none⟩) len (2*len),h.new (.cells l n .rw))
   else none
  | _,_=>none
 | none=>none
def aM (x:V):Option V:=
 match x with
 | .pointer (some a)=>some (.pointer (some a))
 | .iface t v=>some (.iface t v)
 | .func (.func g) f c=>some (.func (.func g) f c)
 | _=>none
def eX (op:BinOp) (k:IntKind) (a b:Int):Option V:=
 match op with
 | .add=>some (.int k (k.wrap (a+b)))
 | .sub=>some (.int k (k.wrap (a - b)))
 | .mul=>some (.int k (k.wrap (a*b)))
 | .quo=>if b=0 then none else some (.int k (k.wrap (a.tdiv b)))
 | .rem=>if b=0 then none else some (.int k (a.tmod b))
 | .and=>some (.int k (k.wrap ((BitVec.ofInt k.bits a &&& BitVec.ofInt k.bits b).toNat)))
 | .or=>some (.int k (k.wrap ((BitVec.ofInt k.bits a ||| BitVec.ofInt k.bits b).toNat)))
 | .xor=>some (.int k (k.wrap ((BitVec.ofInt k.bits a ^^^ BitVec.ofInt k.bits b).toNat)))
 | .andNot=>some (.int k (k.wrap ((BitVec.ofInt k.bits a &&& ~~~ BitVec.ofInt k.bits b).toNat)))
 | .eql=>some (.bool (a==b))
 | .neq=>some (.bool (a != b))
 | .lss=>some (.bool (decide (a<b)))
 | .leq=>some (.bool (decide (a≤b)))
 | .gtr=>some (.bool (decide (a > b)))
 | .geq=>some (.bool (decide (a≥b)))
 | _=>none
def uW (op:BinOp) (k:IntKind) (x y:Int):Option V:=
 if y<0 then none else
 match op with
 | .shl=>some (.int k (k.wrap (x*2 ^ (min y.toNat k.bits))))
 | .shr=>some (.int k (x.fdiv (2 ^ (min y.toNat k.bits))))
 | _=>none
def qV (op:BinOp) (x y:ByteArray):Option V:=
 match op with
 | .add=>if ((x.size+y.size:Nat):Int) > IntKind.i64.max then none else some (.string (x++y))
 | .eql=>some (.bool (x.toList==y.toList))
 | .neq=>some (.bool (!(x.toList==y.toList)))
 | .lss=>some (.bool (Op.bytesLess x.toList y.toList))
 | .leq=>some (.bool (Op.bytesLess x.toList y.toList||x.toList==y.toList))
 | .gtr=>some (.bool (!(Op.bytesLess x.toList y.toList||x.toList==y.toList)))
 | .geq=>some (.bool (!Op.bytesLess x.toList y.toList))
 | _=>none
def pV (xs ys:Array V):List Field→Option Bool
 | []=>some true
 | f::fs=>
  if f.name = "_" then none else
  match P.underlying f.type,xs[f.offset]?,ys[f.offset]? with
  | some (.int _),some (.int k a),some (.int k' b)=>if k=k' then (if a==b then pV xs ys fs else some false) else none
  | some .string,some (.string a),some (.string b)=>if a.toList==b.toList then pV xs ys fs else some false
  | some .bool,some (.bool a),some (.bool b)=>if a==b then pV xs ys fs else some false
  | _,_,_=>none
def rK (h:aA) (b:Nat):Bool:=
 match h.get b with
 | some (.cells _ _ .rw)=>true
 | _=>false
def aEq (t:TypeId) (c:Bool) (x y:V) (h:aA):Option Bool:=
 match P.underlying t,x,y with
 | some .bool,.bool a,.bool b=>some (a==b)
 | some (.pointer _),.pointer none,.pointer b=>some b.isNone
 | some (.pointer _),.pointer (some _),.pointer none=>some false
 | some (.pointer e),.pointer (some a),.pointer (some b)=>
  match szT P e with
  | some (_+1)=>if rK h a.block&&rK h b.block then some (a==b) else none
  | _=>none
 | some (.slice _),.slice none 0 0,.slice none 0 0=>some true
 | some (.slice _),.slice none 0 0,.slice (some _) _ _=>some false
 | some (.slice _),.slice (some _) _ _,.slice none 0 0=>some false
 | some (.map _ _),.map none,.map b=>some b.isNone
 | some (.map _ _),.map (some _),.map none=>some false
 | some (.func _ _ _),.nilFunc,.nilFunc=>some true
 | some (.func _ _ _),.nilFunc,.func _ _ _=>some false
 | some (.func _ _ _),.func _ _ _,.nilFunc=>some false
 | some (.interface _),.nilIface,.nilIface=>if c then some true else none
 | some (.interface _),.nilIface,.iface _ _=>some false
 | some (.interface _),.iface _ _,.nilIface=>some false
 | some (.struct fs),.agg a,.agg b=>if P.eqGuardType P.depth t||P.stoodInHeld t then none else pV P a b fs.toList
 | _,_,_=>none
def jN:Operand→Bool
 | .const _=>true
 | _=>false
def wX (op:BinOp) (t:TypeId) (c:Bool) (x y:V) (h:aA):Option V:=
 match x,y with
 | .int k a,.int k' b=>
  match op with
  | .shl=>uW .shl k a b
  | .shr=>uW .shr k a b
  | op=>if k=k' then eX op k a b else none
 | .string a,.string b=>qV op a b
 | x,y=>
  match op with
  | .eql=>(aEq P t c x y h).map .bool
  | .neq=>(aEq P t c x y h).map fun b=>.bool (!b)
  | _=>none
def aUn (op:UnOp) (x:V):Option V:=
 match op,x with
 | .neg,.int k n=>eX .sub k 0 n
 | .xor,.int k n=>eX .xor k (if k.signed then -1 else k.max) n
 | .not,.bool b=>some (.bool (!b))
 | _,_=>none
def bytesOf:List V→Option (List UInt8)
 | []=>some []
 | .int .u8 n::r=>(bytesOf r).map fun l=>UInt8.ofNat n.toNat::l
 | _=>none
def jB (size:Nat) (x:V) (h:aA):Option (List V):=
 match x with
 | .slice none 0 0=>some []
 | .slice (some ⟨b,o,none⟩) n _=>h.rdN b o (n*size)
 | _=>none
def xK (x:V) (h:aA):Option (V×aA):=
 match x with
 | .slice (some ⟨b,o,none⟩) n c=>
  match h.get b with
  | some (.cells cs esz .rw)=>some (.slice (some ⟨b,o,none⟩) n c,h.put b (.cells cs esz .str))
  | _=>none
 | _=>none
def xB (s d:TypeId) (x:V) (h:aA):Option (V×aA):=
 match P.underlying s,P.underlying d,x with
 | some (.int _),some (.int k),.int _ n=>some (.int k (k.wrap n),h)
 | some .string,some .string,.string b=>some (.string b,h)
 | some (.slice e),some .string,x=>
  match P.underlying e with
  | some (.int .u8)=>((jB 1 x h).bind bytesOf).map fun l=>(.string ⟨l.toArray⟩,h)
  | _=>none
 | some .string,some (.slice e),.string b=>
  match P.underlying e with
  | some (.int .u8)=>some (.slice (some ⟨h.next,0,none⟩) b.size (2*b.size+1),h.new (.cells (b.data.toList.map fun x=>.int .u8 x.toNat) 1 .str))
  | _=>none
 | some (.slice _),some (.slice e),x=>
  match P.underlying e with
  | some (.int .u8)=>if s=d then xK x h else none
  | _=>none
 | _,_,_=>none
def dL (x:V) (y:Nat):Option Nat:=
 match x with
 | .int _ i=>if 0≤i∧i≤y then some i.toNat else none
 | _=>none
def cD (x:Option V) (y d:Nat):Option Nat:=
 match x with
 | some x=>dL x y
 | none=>some d
def xM (t:TypeId) (x:V) (lo hi mx:Option V) (h:aA):Option V:=
 match P.underlying t,x with
 | some .string,.string s=>
  match mx,cD hi s.size s.size with
  | none,some u=>(cD lo u 0).map fun l=>.string (s.extract l u)
  | _,_=>none
 | some (.slice e),.slice none 0 0=>
  match szT P e,mx,hi with
  | some _,none,hi=>
   match cD hi 0 0,cD lo 0 0 with
   | some _,some _=>some (.slice none 0 0)
   | _,_=>none
  | some _,some m,some u=>
   match dL m 0,dL u 0,cD lo 0 0 with
   | some _,some _,some _=>some (.slice none 0 0)
   | _,_,_=>none
  | _,_,_=>none
 | some (.slice e),.slice none 0 1=>
  match szT P e,mx,cD hi 0 0,cD lo 0 0 with
  | some _,none,some _,some _=>some (.slice none 0 1)
  | _,_,_,_=>none
 | some (.slice e),.slice (some ⟨b,o,none⟩) n c=>
  match szT P e,h.get b with
  | some size,some (.cells _ esz _)=>
   if size=esz then
    match mx with
    | none=>
     match cD hi (c / 2) n with
     | some u=>
      match cD lo u 0 with
      | some l=>
       if l=0 then some (.slice (some ⟨b,o,none⟩) u c)
       else if l<c / 2 then some (.slice (some ⟨b,o+l*size,none⟩) (u - l) (c - 2*l))
       else if c % 2=0 then some (.slice (some ⟨b,o,none⟩) (u - l) 0)
       else some (.slice none 0 1)
      | none=>none
     | none=>none
    | some m=>
     match dL m (c / 2),hi with
     | some m,some u=>
      match dL u m with
      | some u=>
       match cD lo u 0 with
       | some l=>some (.slice (some ⟨b,if m=l then o else o+l*size,none⟩) (u - l) (2*(m - l)))
       | none=>none
      | none=>none
     | _,_=>none
   else none
  | _,_=>none
 | _,_=>none
def aBg (t:TypeId) (i:Nat):Option Nat:=
 match P.underlying t with
 | some (.struct fs)=>
  match fs[i]? with
  | some f=>(match szT P f.type with | some (_+1)=>some f.offset | _=>none)
  | none=>none
 | _=>none
def aE8 (t:TypeId) (x:V) (i:Nat):Option V:=
 match x,aBg P t i with
 | .pointer (some ⟨b,o,none⟩),some off=>some (.pointer (some ⟨b,o+off,none⟩))
 | _,_=>none
def uV (t:TypeId) (cs:Array V) (off:Nat):Option V:=
 match jK P t,szT P t with
 | some true,some n=>some (.agg (cs.extract off (off+n)))
 | some false,_=>cs[off]?
 | _,_=>none
def xE (t:TypeId) (x:V) (i:Nat):Option V:=
 match P.underlying t,x with
 | some (.struct fs),.agg cs=>
  match fs[i]? with
  | some f=>uV P f.type cs f.offset
  | none=>none
 | _,_=>none
def xG (t:TypeId) (x i:V):Option V:=
 match P.underlying t,x,i with
 | some (.slice e),.slice (some ⟨b,o,none⟩) n _,.int _ i=>
  match szT P e with
  | some size=>if 0≤i∧i<n then some (.pointer (some ⟨b,o+i.toNat*size,none⟩)) else none
  | none=>none
 | some (.array n e),.pointer (some ⟨b,o,none⟩),.int _ i=>
  match szT P e with
  | some size=>if 0≤i∧i<n then some (.pointer (some ⟨b,o+i.toNat*size,none⟩)) else none
  | none=>none
 | _,_,_=>none
def xF (t:TypeId) (x i:V):Option V:=
 match P.underlying t,x,i with
 | some (.array n e),.agg cs,.int _ i=>
  match szT P e with
  | some size=>if 0≤i∧i<n then uV P e cs (i.toNat*size) else none
  | none=>none
 | some .string,.string s,.int _ i=>
  match (if 0≤i then s[i.toNat]? else none) with
  | some b=>some (.int .u8 b.toNat)
  | none=>none
 | _,_,_=>none
def rT (kt:TypeId) (x y:V):Option Bool:=
 match P.underlying kt,x,y with
 | some (.int _),.int k a,.int k' b=>if k=k' then some (a==b) else none
 | some .string,.string a,.string b=>some (a==b)
 | some (.struct fs),.agg a,.agg b=>if P.stoodInHeld kt then none else pV P a b fs.toList
 | _,_,_=>none
def qU (kt:TypeId) (x:V):Bool:=
 match P.underlying kt,x with
 | some (.int _),.int _ _=>true
 | some .string,.string _=>true
 | some (.struct fs),.agg cs=>bS (.agg cs)&&fs.all fun f=>f.name != "_"&&(match P.underlying f.type,cs[f.offset]? with
  | some (.int _),some (.int _ _)=>true
  | some .string,some (.string _)=>true
  | some .bool,some (.bool _)=>true
  | _,_=>false)
 | _,_=>false
def pW (kt:TypeId) (k:V):List MapEntry→Nat→Option (Option (Nat×V))
 | [],_=>some none
 | e::es,i=>
  match rT P kt k e.key with
  | some true=>if bS e.key then some (some (i,e.val)) else none
  | some false=>if bS e.key then pW kt k es (i+1) else none
  | none=>none
def xI (t:TypeId) (x k:V) (ok:Bool) (h:aA):Option V:=
 match P.underlying t with
 | some (.map kt et)=>
  if qU P kt k then
   match zeroOf P et,(match x with
    | .map none=>some none
    | .map (some b)=>(match h.get b with | some (.map es _)=>pW P kt k es 0 | _=>none)
    | _=>none) with
   | some _,some (some (_,v))=>some (if ok then .tuple #[v,.bool true] else v)
   | some z,some none=>some (if ok then .tuple #[z,.bool false] else z)
   | _,_=>none
  else none
 | _=>none
def uT (t:TypeId) (x k v:V) (h:aA):Option aA:=
 match P.underlying t with
 | some (.map kt _)=>
  if qU P kt k then
   match x with
   | .map (some b)=>
    match h.get b with
    | some (.map es clock)=>
     match pW P kt k es 0 with
     | some (some (i,_))=>if (es[i]?).any (fun e=>Instr.sameBits 10000 e.key k) then some (h.put b (.map (es.modify i fun e=>{ e with key:=k,val:=v }) clock)) else none
     | some none=>some (h.put b (.map (es++[{ key:=k,val:=v,born:=clock }]) (clock+1)))
     | none=>none
    | _=>none
   | _=>none
  else none
 | _=>none
def xC (t:TypeId) (x k:V) (h:aA):Option aA:=
 match P.underlying t with
 | some (.map kt _)=>
  if qU P kt k then
   match x with
   | .map none=>some h
   | .map (some b)=>
    match h.get b with
    | some (.map es clock)=>
     match pW P kt k es 0 with
     | some (some (i,_))=>some (h.put b (.map (es.eraseIdx i) clock))
     | some none=>some (h.put b (.map es clock))
     | none=>none
    | _=>none
   | _=>none
  else none
 | _=>none
def xL (t:TypeId) (x:V) (h:aA):Option (V×aA):=
 let p:V:=.pointer (some ⟨h.next,0,none⟩)
 match P.underlying t,x with
 | some .string,.string s=>some (p,h.new (.siter s 0))
 | some (.map _ _),.map none=>some (p,h.new (.miter none 0 #[] 0))
 | some (.map _ _),.map (some b)=>(match h.get b with | some (.map _ clock)=>some (p,h.new (.miter (some b) clock #[] clock)) | _=>none)
 | _,_=>none
def pZ (es:List MapEntry) (since:Nat) (seen:Array Nat):List (Option MapEntry):=
 let left:=es.filter fun e=>!seen.contains e.born
 let old:=left.filter (·.born<since)
 let new:=left.filter (·.born≥since)
 (if old.isEmpty then [none] else [])++(old++new).map some
def dS (x:V) (isString:Bool) (h:aA) (K:V→aA→Prop):Prop:=
 match x with
 | .pointer (some ⟨b,0,none⟩)=>
  match h.get b,isString with
  | some (.siter s pos),true=>
   if pos<s.size then
    K (.tuple #[.bool true,.int .i64 pos,.int .i32 (Utf8.decode s pos).1]) (h.put b (.siter s (pos+(Utf8.decode s pos).2)))
   else K (.tuple #[.bool false]) h
  | some (.miter none _ _ _),false=>K (.tuple #[.bool false]) h
  | some (.miter (some m) since seen last),false=>
   match h.get m with
   | some (.map es clock)=>
    (!seen.isEmpty&&!es.isEmpty&&es.all (·.born≥last))=false ∧
    ∀c∈pZ es since seen,
     match c with
     | some e=>K (.tuple #[.bool true,e.key,e.val]) (h.put b (.miter (some m) since (seen.push e.born) clock))
     | none=>K (.tuple #[.bool false]) h
   | _=>False
  | _,_=>False
 | _=>False
def gV (x:V) (h:aA):Option V:=
 match x with
 | .pointer (some ⟨b,0,none⟩)=>
  match h.get b with
  | some (.miter (some m) _ seen stepped)=>
   match seen.back?,h.get m with
   | some stamp,some (.map es clock)=>
    if clock=stepped then (es.find? (·.born==stamp)).map fun e=>.tuple #[e.key,e.val] else none
   | _,_=>none
  | _=>none
 | _=>none
def wW (x:V) (asserted:TypeId) (ok:Bool):Option V:=
 match P.underlying asserted,x with
 | some (.interface _),_=>none
 | some _,.iface t v=>if t=asserted then some (if ok then .tuple #[v,.bool true] else v) else none
 | _,_=>none
def bJ (x:V) (i:Nat):Option V:=
 match x with
 | .tuple vs=>vs[i]?
 | _=>none
def xJ (t:TypeId) (l c:V) (h:aA):Option (V×aA):=
 match gZ P t,l,c with
 | some e,.int _ l,.int _ c=>
  match P.info? e,(zeroOf P e).bind cellsOf with
  | some i,some z=>
   if 0≤l∧l≤c∧c≤1099511627776∧i.bytes≤64∧z.length=i.size∧0<i.size then
    some (.slice (some ⟨h.next,0,none⟩) l.toNat (2*c.toNat),h.new (.cells (eO z (c.toNat*i.size)) i.size .rw))
   else none
  | _,_=>none
 | _,_,_=>none
def dX:V→Option Nat
 | .slice none 0 0=>some 0
 | .slice none 0 1=>some 0
 | .slice (some ⟨_,_,none⟩) n _=>some n
 | .string s=>some s.size
 | _=>none
def dT (size:Nat) (x:V) (h:aA):Option (List V):=
 match x with
 | .string s=>if size=1 then some (s.data.toList.map fun b=>.int .u8 b.toNat) else none
 | x=>jB size x h
def tA (t:TypeId):Bool:=
 match P.underlying t with
 | some (.slice _)=>true
 | some .string=>true
 | _=>false
def uQ (ts:Array TypeId) (s x:V) (h:aA):Option (V×aA):=
 match (ts[0]?).bind (gZ P),ts[1]? with
 | some e,some xt=>
  match P.info? e,dX x,(zeroOf P e).bind cellsOf with
  | some i,some n,some z=>
   if tA P xt=true∧0<i.size∧i.bytes≤64∧z.length=i.size then
    match s with
    | .slice none 0 0=>
     if n=0 then some (.slice none 0 0,h)
     else if n≤1099511627776 then
      (dT i.size x h).map fun new=>(.slice (some ⟨h.next,0,none⟩) n (2*n+1),h.new (.cells new i.size .rw))
     else none
    | .slice (some ⟨b,o,none⟩) m c=>
     if n=0 then some (.slice (some ⟨b,o,none⟩) m c,h) else
     if m+n≤c / 2 then
      match dT i.size x h,h.get b with
      | some new,some (.cells _ esz _)=>if esz=i.size∧new.all dH=true then (h.wr b (o+m*i.size) new).map fun h'=>(.slice (some ⟨b,o,none⟩) (m+n) c,h') else none
      | _,_=>none
     else if m+n≤1099511627776 then
      match dT i.size x h,h.rdN b o (m*i.size) with
      | some new,some old=>
       if c % 2=0 then some (.slice (some ⟨h.next,0,none⟩) (m+n) (2*(m+n)+1),h.new (.cells (old++new) i.size .rw))
       else
        match h.get b with
        | some (.cells _ esz k)=>
         if esz=i.size∧k≠.ro∧new.all dH=true then some (.slice (some ⟨h.next,0,none⟩) (m+n) (2*(m+n)+1),(h.kill b).new (.cells (old++new) i.size (if o=0 then k else .rs)))
         else none
        | _=>none
      | _,_=>none
     else none
    | _=>none
   else none
  | _,_,_=>none
 | _,_=>none
def uS (ts:Array TypeId) (d s:V) (h:aA):Option (V×aA):=
 match (ts[0]?).bind (gZ P) with
 | some e=>
  match szT P e,d,dX s with
  | some size,.slice none 0 0,some _=>some (.int .i64 0,h)
  | some size,.slice (some ⟨b,o,none⟩) m _,some n=>
   if 0<size then
    match dT size s h with
    | some cs=>let k:=Nat.min n m;if (cs.take (k*size)).all dH=true then (h.wr b o (cs.take (k*size))).map fun h'=>(.int .i64 k,h') else none
    | none=>none
   else none
  | _,_,_=>none
 | none=>none
def xH (ts:Array TypeId) (x:V) (h:aA):Option V:=
 match (ts[0]?).bind P.underlying,x with
 | some .string,.string s=>some (.int .i64 s.size)
 | some (.array n _),_=>some (.int .i64 n)
 | some (.slice _),.slice _ n _=>some (.int .i64 n)
 | some (.map _ _),.map none=>some (.int .i64 0)
 | some (.map _ _),.map (some b)=>(match h.get b with | some (.map es _)=>some (.int .i64 es.length) | _=>none)
 | _,_=>none
def xA (ts:Array TypeId) (x:V) (h:aA):Option aA:=
 match (ts[0]?).bind (gZ P),x with
 | some e,.slice a n c=>
  match a,n with
  | none,0=>if c=0 then some h else none
  | some _,0=>some h
  | some ⟨b,o,none⟩,n+1=>
   match (zeroOf P e).bind cellsOf with
   | some z=>if z.length≠0∧z.all dH=true then h.wr b o (eO z ((n+1)*z.length)) else none
   | none=>none
  | _,_=>none
 | _,_=>none
def tC (mx:Bool):List V→V→Option V
 | [],.int k a=>some (.int k a)
 | .int k' b::r,.int k a=>if k=k' then tC mx r (.int k (if mx then (if b > a then b else a) else (if b<a then b else a))) else none
 | _,_=>none
def gI (mx:Bool):List V→Option V
 | .int k a::r=>tC mx r (.int k a)
 | _=>none
def lT (b:Builtin) (ts:Array TypeId) (args:List V) (h:aA):Option (V×aA):=
 match b,args with
 | .append,[s,x]=>uQ P ts s x h
 | .copy,[d,s]=>uS P ts d s h
 | .len,[x]=>(xH P ts x h).map fun v=>(v,h)
 | .delete,[m,k]=>((ts[0]?).bind fun t=>xC P t m k h).map fun h=>(Abs.bY,h)
 | .clear,[x]=>(xA P ts x h).map fun h=>(Abs.bY,h)
 | .min,l=>(gI false l).map fun v=>(v,h)
 | .max,l=>(gI true l).map fun v=>(v,h)
 | _,_=>none
abbrev Spec:=List V→aA→(V→aA→Prop)→Prop
def aEv (e:Nat→V):Operand→V
 | .tmp t=>e t
 | .const v=>if bS v then v else Abs.bY
 | .global _=>Abs.bY
 | .func f=>.func (.func f) #[] #[]
def fM (e:Nat→V) (xs:Array Operand):List V:=xs.toList.map (aEv e)
def cR (I:FuncId→Option Spec) (f:V) (args:List V) (h:aA) (K:V→aA→Prop):Prop:=
 match f with
 | .func (.func g) first captured=>
  match I g with
  | some s=>s (first.toList++args++captured.toList) h K
  | none=>False
 | _=>False
def aOp (o:Op) (e:Nat→V) (h:aA):Option (V×aA):=
 match o with
 | .move x=>some (aEv e x,h)
 | .assign x=>some (aEv e x,h)
 | .pick c a b=>(match aEv e c with | .bool t=>some (if t then aEv e a else aEv e b,h) | _=>none)
 | .alloc t=>(zeroOf P t).bind fun z=>uU P t z h
 | .box t x=>uU P t (aEv e x) h
 | .build t ps=>(wY P t (ps.toList.map fun p=>(p.1,aEv e p.2))).map fun v=>(v,h)
 | .buildSlice t n ps=>wZ P t n (ps.toList.map fun p=>(p.1,aEv e p.2)) h
 | .insert t m k v=>(uT P t (aEv e m) (aEv e k) (aEv e v) h).map fun h=>(Abs.bY,h)
 | .load t a=>(rU P t (aEv e a) h).map fun v=>(v,h)
 | .store t a x=>(aAa P t (aEv e a) (aEv e x) h).map fun h=>(Abs.bY,h)
 | .nilCheck x=>(aM (aEv e x)).map fun v=>(v,h)
 | .binOp op t x y _=>(wX P op t (jN x||jN y) (aEv e x) (aEv e y) h).map fun v=>(v,h)
 | .unOp op _ x=>(aUn op (aEv e x)).map fun v=>(v,h)
 | .convert s d x=>xB P s d (aEv e x) h
 | .makeInterface t x=>(match P.underlying t with | some (.interface _)=>none | some _=>some (.iface t (aEv e x),h) | none=>none)
 | .makeFunc fn f c=>some (.func fn (f.map (aEv e)) (c.map (aEv e)),h)
 | .makeMap t r=>
  match r,P.underlying t with
  | none,some (.map _ _)=>some (.map (some h.next),h.new (.map [] 0))
  | some x,some (.map _ _)=>(match aEv e x with | .int _ _=>some (.map (some h.next),h.new (.map [] 0)) | _=>none)
  | _,_=>none
 | .makeSlice t l c=>xJ P t (aEv e l) (aEv e c) h
 | .slice t x lo hi mx=>(xM P t (aEv e x) (lo.map (aEv e)) (hi.map (aEv e)) (mx.map (aEv e)) h).map fun v=>(v,h)
 | .fieldAddr t x i=>(aE8 P t (aEv e x) i).map fun v=>(v,h)
 | .field t x i=>(xE P t (aEv e x) i).map fun v=>(v,h)
 | .indexAddr t x i=>(xG P t (aEv e x) (aEv e i)).map fun v=>(v,h)
 | .index t x i=>(xF P t (aEv e x) (aEv e i)).map fun v=>(v,h)
 | .lookup t x i ok=>(xI P t (aEv e x) (aEv e i) ok h).map fun v=>(v,h)
 | .mapUpdate t m k v=>(uT P t (aEv e m) (aEv e k) (aEv e v) h).map fun h=>(Abs.bY,h)
 | .range t x=>xL P t (aEv e x) h
 | .entry it=>(gV (aEv e it) h).map fun v=>(v,h)
 | .typeAssert x _ t ok=>(wW P (aEv e x) t ok).map fun v=>(v,h)
 | .extract t i=>(bJ (aEv e t) i).map fun v=>(v,h)
 | .call c=>
  match c.callee with
  | .builtin b=>lT P b c.argTypes (fM e c.args) h
  | _=>none
 | _=>none
def aDo (I:FuncId→Option Spec) (o:Op) (e:Nat→V) (h:aA) (K:V→aA→Prop):Prop:=
 match o with
 | .next it s=>dS (aEv e it) s h K
 | .call c=>
  match c.callee with
  | .value f=>cR I (aEv e f) (fM e c.args) h K
  | _=>
   match aOp P o e h with
   | some (v,h)=>K v h
   | none=>False
 | _=>
  match aOp P o e h with
  | some (v,h)=>K v h
  | none=>False
end
end Go.Abs
namespace Go.Abs
open Go
structure St where
 e:Nat→V
 h:aA
def St.put (s:St) (d:Option Tmp) (v:V):St:=
 match d with
 | some d=>{ s with e:=fun x=>if x=d then v else s.e x }
 | none=>s
def St.at (s:St) (h:aA):St:={ s with h:=h }
def eN (ops:Array Oper) (o:Oper) (e:Nat→V):Option Bool:=
 match o.guard with
 | none=>some true
 | some (j,want)=>
  match (ops[j]?).bind (·.dst) with
  | some d=>(match e d with | .bool b=>some (b==want) | .chan none=>some false | _=>none)
  | none=>none
section
variable (P:Program) (I:FuncId→Option Spec)
def vJ (ops:Array Oper) (i:Nat) (s:St) (K:St→Prop):Prop:=
 match ops[i]? with
 | none=>K s
 | some o=>
  match eN ops o s.e with
  | some true=>aDo P I o.op s.e s.h fun v h=>K ((s.put o.dst v).at h)
  | some false=>K (s.put o.dst gone)
  | none=>False
def yH (ops:Array Oper):List Nat→St→(St→Prop)→Prop
 | [],s,K=>K s
 | i::rest,s,K=>vJ P I ops i s fun s=>yH ops rest s K
def yG (ops:Array Oper):Nat→Array Bool→St→(St→Prop)→Prop
 | 0,listed,s,K=>Region.ready .any ops listed=[]∧K s
 | fuel+1,listed,s,K=>
  (Region.ready .any ops listed=[]→K s) ∧
  ∀i∈Region.ready .any ops listed,vJ P I ops i s fun s=>yG ops fuel (listed.setIfInBounds i true) s K
inductive Ex where
 | normal
 | exit (id:Nat)
 | ret
def Ex.aKl:Ex→Exit
 | .normal=>.normal
 | .exit id=>.exit id
 | .ret=>.ret
def pI (step:St→(Ex→St→Prop)→Prop):Nat→St→(Ex→St→Prop)→Prop
 | 0,_,_=>False
 | n+1,s,K=>step s fun x s=>match x with
  | .normal=>pI step n s K
  | x=>K x s
def evC:Code→St→(Ex→St→Prop)→Prop
 | .skip,s,K=>K .normal s
 | .region _ ops false,s,K=>yH P I ops (List.range ops.size) s fun s=>K .normal s
 | .region _ ops true,s,K=>yG P I ops ops.size (Array.replicate ops.size false) s fun s=>K .normal s
 | .seq a b,s,K=>evC a s fun x s=>match x with
  | .normal=>evC b s K
  | x=>K x s
 | .cond c a b,s,K=>match aEv s.e c with
  | .bool true=>evC a s K
  | .bool false=>evC b s K
  | _=>False
 | .block id c,s,K=>evC c s fun x s=>match x with
  | .exit j=>if j=id then K .normal s else K (.exit j) s
  | x=>K x s
 | .loop c,s,K=>∃n,pI (evC c) n s K
 | .exit id,s,K=>K (.exit id) s
 | .label _,s,K=>K .normal s
 | .ret,s,K=>K .ret s
 | .rangeFunc _ _ _ _,_,_=>False
 | .scope _,_,_=>False
 | .goto _,_,_=>False
 | .refuse _,_,_=>False
def kY (h:aA) (e:Nat→V):List ResultVar→Option (List V)
 | []=>some []
 | .tmp t::r=>(kY h e r).map fun l=>e t::l
 | .cell a t::r=>(rU P t (e a) h).bind fun v=>(kY h e r).map fun l=>v::l
def mX:List V→V
 | [v]=>v
 | l=>.tuple l.toArray
def tD (args:List V):Nat→V:=fun i=>args.getD i bY
def evF (f:Func) (args:List V) (h:aA) (K:V→aA→Prop):Prop:=
 match f.body with
 | none=>False
 | some c=>evC P I c ⟨tD args,h⟩ fun x s=>
  match x with
  | .exit _=>False
  | _=>
   match kY P s.h s.e f.results.toList with
   | some l=>K (mX l) s.h
   | none=>False
end
end Go.Abs
namespace Go.Abs
open Go Go.RowKit
section
variable {P:Program} {w:World}
theorem bN {t:TypeId} {d:TypeDesc} (h:P.underlying t=some d):(underlying t).run P w = .ok d w:=by
 simp[underlying,h]
theorem zG {t:TypeId} {b:Bool} (h:jK P t=some b):(isAgg t).run P w = .ok b w:=by
 unfold jK at h
 cases hu:P.underlying t with
 | none=>simp[hu]at h
 | some d=>
  simp only[hu]at h
  simp only[isAgg,Sem.run_bind,bN hu,Result.andThen_ok]
  cases d<;>simp at h<;>subst h<;>rfl
theorem aUi {t:TypeId} {n:Nat} (h:szT P t=some n):∃i,P.info? t=some i∧i.size=n:=by
 unfold szT at h
 cases hi:P.info? t with
 | none=>simp[hi]at h
 | some i=>simp[hi]at h;exact⟨i,rfl,h⟩
theorem run_typeInfo {t:TypeId} {i:TypeInfo} (h:P.info? t=some i):(typeInfo t).run P w = .ok i w:=by
 simp[typeInfo,h]
theorem run_sizeOf {t:TypeId} {n:Nat} (h:szT P t=some n):(sizeOf t).run P w = .ok n w:=by
 obtain⟨i,hi,rfl⟩:=aUi h
 simp[sizeOf,run_typeInfo hi]
theorem wN {t:TypeId} {z:V} (h:zeroOf P t=some z):(zeroValue t).run P w = .ok z w∧bS z=true:=by
 unfold zeroOf at h
 cases hi:P.info? t with
 | none=>simp[hi]at h
 | some i=>
  simp only[hi,Option.bind_some]at h
  cases hz:i.zero with
  | none=>simp[hz]at h
  | some z'=>
   simp only[hz]at h
   split at h
   ·simp at h;subst h;rename_i hc;exact⟨by simp[zeroValue,run_typeInfo hi,hz],hc⟩
   ·simp at h
end
section
variable {P:Program} {J:World→Prop} {B:Nat} {r:Ren} {h:aA} {w:World}
theorem R.row (hR:R J B r h w) {b:Nat} {c:List V} {e:Nat} {k:BK} (hb:h.get b=some (.cells c e k)) :
 ∃t cc el fr,r b=some t∧t.esz=e∧w.heap[t.blk]? = some (.cells cc el fr)∧cc.size=t.sz∧c.length+t.sh≤cc.size ∧
  (∀(i:Nat) (h:i<c.length) (h':i+t.sh<cc.size),VR r c[i] cc[i+t.sh])∧(k≠.ro→∀o,o<cc.size→¬(fr.1≤o∧o<fr.2))∧(k = .rw→fr.1=fr.2)∧(k≠.ro→B≤t.blk)∧(k≠.rs→t.sh=0):=by
 obtain⟨t,ht,h0,⟨cc,el,fr,h1,h2,h3,h4,h5,h6⟩,h7⟩:=hR.live b _ hb
 exact⟨t,cc,el,fr,ht,h0,h1,h2,h3,h4,h5,h6,h7⟩
theorem aXn (hR:R J B r h w) {b o:Nat} {v:V} {t:Tgt} (ht:r b=some t) (hl:h.rd b o=some v):∃v',w.cell? ⟨t.blk,o+t.sh,none⟩=some v'∧VR r v v':=by
 unfold aA.rd at hl
 split at hl
 ·rename_i c e k hb
  obtain⟨t',cc,el,fr,ht',_,h1,h2,h3,h4,_⟩:=hR.row hb
  rw[ht]at ht';cases ht'
  obtain⟨hlt,rfl⟩:=List.getElem?_eq_some_iff.1 hl
  refine⟨cc[o+t.sh],?_,h4 o hlt (by omega)⟩
  rw[qY h1];exact Array.getElem?_eq_getElem (by omega)
 ·cases hl
theorem zA (hR:R J B r h w) {b o n:Nat} {l:List V} {t:Tgt} (ht:r b=some t) (hl:h.rdN b o n=some l) :
 ∃c,(loadCells ⟨t.blk,o+t.sh,none⟩ n).run P w = .ok c w∧VRl r l c.toList∧l.length=n∧c.size=n:=by
 unfold aA.rdN at hl
 split at hl
 ·rename_i c e k hb
  split at hl
  ·rename_i hlen
   obtain⟨t',cc,el,fr,ht',_,h1,h2,h3,h4,_⟩:=hR.row hb
   rw[ht]at ht';cases ht'
   simp only[Option.some.injEq]at hl
   subst hl
   refine⟨_,run_loadCells h1 (by omega),⟨?_,fun i a1 a2=>?_⟩,?_,?_⟩
   ·simp;omega
   ·simp only[Array.toList_extract,List.extract_eq_take_drop,List.getElem_take,List.getElem_drop]
    have:i<n:=by simp at a1;omega
    have e:o+t.sh+i=o+i+t.sh:=by omega
    simp only[e]
    exact h4 (o+i) (by omega) (by omega)
   ·simp;omega
   ·simp;omega
  ·cases hl
 ·cases hl
theorem aL5 (hR:R J B r h w) {t:TypeId} {x x' v:V} (hx:VR r x x') (hl:rU P t x h=some v) :
 ∃v',(Instr.loadAt t x').run P w = .ok v' w∧VR r v v':=by
 unfold rU at hl
 split at hl
 ·rename_i b o
  cases hx with
  | @ptr _ _ tg htg=>
  simp only[Instr.loadAt,Instr.sureAddr,Sem.run_bind,Sem.run_pure,Result.andThen_ok,loadVar]
  split at hl
  ·rename_i n hag hsz
   rw[zG hag]
   simp only[Result.andThen_ok,if_true,Sem.run_bind,run_sizeOf hsz]
   cases hr:h.rdN b o n with
   | none=>simp[hr]at hl
   | some l=>
    simp only[hr,Option.map_some,Option.some.injEq]at hl
    subst hl
    obtain⟨c,h1,h2,_⟩:=zA (P:=P) hR htg hr
    rw[h1]
    exact⟨.agg c,rfl,by have:=h2.agg;simpa using this⟩
  ·rename_i hag
   rw[zG hag]
   obtain⟨v',h1,h2⟩:=aXn hR htg hl
   refine⟨v',?_,h2⟩
   simp[h1]
  ·cases hl
 ·cases hl
theorem aE7 (k:Nat):∀(vs vs':List V) (c:List V) (cc:Array V) (o o':Nat),o'=o+k→VRl r vs vs' →
 (∀(i:Nat) (h:i<c.length) (h':i+k<cc.size),VR r c[i] cc[i+k])→∀(i:Nat) (h:i<(dJ c o vs).length) (h':i+k<(mY cc o' vs').size),VR r (dJ c o vs)[i] (mY cc o' vs')[i+k]
 | [],[],c,cc,o,o',_,_,hc=>hc
 | [],_::_,c,cc,o,o',_,h,_=>by have:=h.1;simp at this
 | _::_,[],c,cc,o,o',_,h,_=>by have:=h.1;simp at this
 | v::vs,v'::vs',c,cc,o,o',eo,h,hc=>by
  have h0:VR r v v':=h.2 0 (by simp) (by simp)
  have h1:VRl r vs vs':=⟨by have:=h.1;simpa using this,fun i a b=>h.2 (i+1) (by simpa using a) (by simpa using b)⟩
  refine aE7 k vs vs' (c.set o v) (cc.setIfInBounds o' v') (o+1) (o'+1) (by omega) h1 fun i a b=>?_
  have b':i+k<cc.size:=by simpa using b
  rw[List.getElem_set,Array.getElem_setIfInBounds b']
  by_cases hio:o=i
  ·rw[if_pos hio,if_pos (by omega)];exact h0
  ·rw[if_neg hio,if_neg (by omega)];exact hc i (by simpa using a) b'
theorem aEz (hJ:cP J B) (hR:R J B r h w) {b o:Nat} {vs vs':List V} {t:Tgt} {h':aA} (ht:r b=some t) (hv:VRl r vs vs') (h1:∀v∈vs',v.oneCell'=true)
 (hw:h.wr b o vs=some h'):∃w',(storeCells ⟨t.blk,o+t.sh,none⟩ vs').run P w = .ok () w'∧R J B r h' w'∧Ext r h w r h' w':=by
 unfold aA.wr at hw
 split at hw
 ·rename_i c e k hb
  split at hw
  ·rename_i hcond
   obtain⟨hk,hlen⟩:=hcond
   simp only[Option.some.injEq]at hw
   subst hw
   obtain⟨t',cc,el,fr,ht',he,hh,hs,hl,hc,hf,hf2,hB⟩:=hR.row hb
   rw[ht]at ht';cases ht'
   have hvl:=hv.1
   obtain⟨w',hrun,hT⟩:=aHs (P:=P) (o:=o+t.sh) vs' 0 w cc hh h1 (by omega) (fun j a c=>hf hk j (by omega))
   refine⟨w',hrun,?_⟩
   refine hR.wT hJ hb (fun c' e' he'=>by cases he';exact hk rfl) ht hT ?_ (fun c' e' he'=>by cases he';exact hk rfl)
   refine⟨he,⟨_,el,fr,hT.here,by rw[qR,hs],by rw[qR,sY];exact hl,?_,?_,?_⟩,hB⟩
   ·exact aE7 t.sh vs vs' c cc o (o+t.sh+0) (by omega) hv hc
   ·intro hk o' ho';rw[qR]at ho';exact hf hk o' ho'
   ·exact hf2
  ·cases hw
 ·cases hw
theorem yX {vs vs':List V} (hv:VRl r vs vs') (h:vs.all dH=true):∀v∈vs',v.oneCell'=true:=by
 intro v hvm
 obtain⟨i,hi,rfl⟩:=List.getElem_of_mem hvm
 have hi2:i<vs.length:=by have:=hv.1;omega
 exact (hv.2 i hi2 hi).dH (List.all_eq_true.1 h _ (List.getElem_mem hi2))
theorem aYk (hJ:cP J B) (hR:R J B r h w) {t:TypeId} {x x' v v':V} {h':aA} (hx:VR r x x') (hv:VR r v v') (hs:aAa P t x v h=some h') :
 ∃w',(Instr.storeAt t x' v').run P w = .ok () w'∧R J B r h' w'∧Ext r h w r h' w':=by
 unfold aAa at hs
 split at hs
 ·rename_i b o
  cases hx with
  | @ptr _ _ tg htg=>
  split at hs
  ·rename_i n vs hsz hcs
   split at hs
   ·rename_i hcond
    have hvl:=hv.cells hcs
    obtain⟨w',h1,h2⟩:=aEz (P:=P) hJ hR htg hvl (yX hvl hcond.2) hs
    refine⟨w',?_,h2⟩
    simp only[Instr.storeAt,Instr.sureAddr,Sem.run_bind,Sem.run_pure,Result.andThen_ok,storeVar,run_sizeOf hsz]
    have:v'.cells.size=n:=by have:=hvl.1;simp at this;omega
    simp only[this,ne_eq,not_true_eq_false,if_false,Sem.run_bind,Sem.run_pure,Result.andThen_ok]
    exact h1
   ·cases hs
  ·cases hs
 ·cases hs
theorem aMz (hJ:cP J B) (hR:R J B r h w) {t:TypeId} {v v' x:V} {h':aA} (hv:VR r v v') (hn:uU P t v h=some (x,h')) :
 ∃r' x' w',(newVar t v').run P w = .ok x' w'∧R J B r' h' w'∧Ext r h w r' h' w'∧VR r' x (.pointer (some x')):=by
 unfold uU at hn
 split at hn
 ·rename_i vs hcs
  simp only[Option.some.injEq,Prod.mk.injEq]at hn
  obtain⟨rfl,rfl⟩:=hn
  have hvl:=hv.cells hcs
  have hrun:(newVar t v').run P w = .ok ⟨w.heap.size,0,none⟩ (w.alloc (.cells v'.cells t)):=by simp[newVar,newRow]
  have hlen:vs.length=v'.cells.size:=by have:=hvl.1;simpa using this
  obtain⟨h1,h2⟩:=hR.alloc hJ (.cells vs (yF P t vs.length) .rw) (.cells v'.cells t) ⟨w.heap.size,v'.cells.size,yF P t vs.length,0⟩ rfl
   ⟨rfl,⟨v'.cells,t,(0,0),heap_alloc_new,rfl,by rw[Nat.add_zero];omega,fun i a b=>by
    have:=(hvl.mono (hR.oH ⟨w.heap.size,v'.cells.size,yF P t vs.length,0⟩)).2 i a (by simpa using b)
    simpa using this,fun _ o _=>by simp,fun _=>rfl⟩,fun _=>hR.base,fun _=>rfl⟩
  refine⟨_,_,_,hrun,h1,h2,.ptr (Ren.cX _ _ _)⟩
 ·cases hn
end
end Go.Abs

/- Our own abstract machine, part 11: slices that are made, appended to, copied; conversions. -/
import Derived.Test.YthhegdifbnghpaaGreatDoorQab
import Derived.Laws.BytesString
set_option linter.unusedSimpArgs false
set_option linter.unusedVariables false
namespace Go.Abs
open Go Go.RowKit
section
variable {P:Program} {J:World→Prop} {B:Nat} {r:Ren} {h:aA} {w:World}
theorem aZy (z:List V) (n:Nat):(eO z n).length=n:=by simp[eO]
theorem aIg {z:List V} {zv:Array V} {n:Nat} (hz:VRl r z zv.toList) (hpos:0<n→0<zv.size):VRl r (eO z n) ((Array.range n).map (zv[·% zv.size]!)).toList:=by
 have hl:=hz.1
 simp only[Array.length_toList]at hl
 refine⟨by simp[eO],fun i a b=>?_⟩
 have hi:i<n:=by simpa[eO]using a
 have hp:=hpos (Nat.lt_of_le_of_lt (Nat.zero_le _) hi)
 have hm:i % z.length<z.length:=Nat.mod_lt _ (by omega)
 have hm':i % zv.size<zv.size:=Nat.mod_lt _ hp
 simp only[eO,List.getElem_map,List.getElem_range,Array.toList_map,Array.toList_range]
 rw[List.getD_eq_getElem?_getD,List.getElem?_eq_getElem hm,Option.getD_some]
 rw[getElem!_pos zv (i % zv.size) hm']
 have:=hz.2 (i % z.length) hm (by simp;omega)
 simp only[Array.getElem_toList]at this
 simp only[hl]at this ⊢
 exact this
theorem aMx (hJ:cP J B) (hR:R J B r h w) {e:TypeId} {l:List V} {l':Array V} {esz:Nat} (hl:VRl r l l'.toList) :
 R J B (r.upd h.next ⟨w.heap.size,l'.size,esz,0⟩) (h.new (.cells l esz .rw)) (w.alloc (.cells l' e))∧Ext r h w (r.upd h.next ⟨w.heap.size,l'.size,esz,0⟩) (h.new (.cells l esz .rw)) (w.alloc (.cells l' e)):=by
 have hlen:=hl.1
 simp only[Array.length_toList]at hlen
 refine hR.alloc hJ _ _ _ rfl ⟨rfl,⟨l',e,(0,0),heap_alloc_new,rfl,by rw[Nat.add_zero];omega,fun i a b=>?_,fun _ o _=>by simp,fun _=>rfl⟩,fun _=>hR.base,fun _=>rfl⟩
 have:=(hl.mono (hR.oH ⟨w.heap.size,l'.size,esz,0⟩)).2 i a (by simpa using b)
 simpa using this
theorem yC {t e:TypeId} (h:gZ P t=some e):P.underlying t=some (.slice e):=by
 unfold gZ at h
 split at h
 ·simp at h;subst h;assumption
 ·cases h
theorem aIf {e:TypeId} {z:List V} (h:(zeroOf P e).bind cellsOf=some z):∃zv,(zeroValue e).run P w = .ok zv w∧VRl r z zv.cells.toList:=by
 cases hz:zeroOf P e with
 | none=>simp[hz]at h
 | some zv=>
  simp only[hz,Option.bind_some]at h
  obtain⟨h1,h2⟩:=wN (w:=w) hz
  exact⟨zv,h1,(VR.closed h2).cells h⟩
theorem aRm (hJ:cP J B) (hR:R J B r h w) {t:TypeId} {n:Nat} {ps ps':List (Nat×V)} {v:V} {h':aA} (hl:ps.length=ps'.length)
 (hp:∀(i:Nat) (h:i<ps.length) (h':i<ps'.length),ps[i].1=ps'[i].1∧VR r ps[i].2 ps'[i].2) (hb:wZ P t n ps h=some (v,h')) :
 ∃r' v' w',(Instr.buildSlice t n ps'.toArray).run P w = .ok v' w'∧R J B r' h' w'∧Ext r h w r' h' w'∧VR r' v v':=by
 unfold wZ at hb
 split at hb
 ·rename_i e he
  have hu:=yC he
  split at hb
  ·rename_i sz z hsz hz
   split at hb
   ·rename_i hc
    obtain⟨hc1,hc2,hc3⟩:=hc
    obtain⟨zv,hzr,hzl⟩:=aIf (P:=P) (w:=w) (r:=r) hz
    have hzs:zv.cells.size=sz:=by have:=hzl.1;simp at this;omega
    have hsp:0<sz:=hc1
    have hz0:=aIg (n:=n*sz) hzl (fun _=>hzs▸hsp)
    cases hf:eP (fun i=>some (i*sz,sz)) (eO z (n*sz)) ps with
    | none=>simp[hf]at hb
    | some l=>
     simp only[hf,Option.map_some,Option.some.injEq,Prod.mk.injEq]at hb
     obtain⟨rfl,rfl⟩:=hb
     obtain⟨l',h3,h4⟩:=zX ps ps' _ _ l hl hp hz0 hf
     obtain⟨h1,h2⟩:=aMx (e:=e) (esz:=sz) hJ hR h4
     have hsize:l'.size=n*sz:=by
      have g:=h4.1
      have g2:∀(ps:List (Nat×V)) (c l:List V),eP (fun i=>some (i*sz,sz)) c ps=some l→l.length=c.length:=by
       intro ps
       induction ps with
       | nil=>intro c l h;simp[eP]at h;rw[h]
       | cons p ps ih=>
        intro c l h
        obtain⟨i,v⟩:=p
        simp only[eP]at h
        split at h
        ·split at h
         ·rw[ih _ _ h,sY]
         ·cases h
        ·cases h
      have:=g2 _ _ _ hf
      rw[aZy]at this
      simp at g;omega
     refine⟨_,.slice (some ⟨w.heap.size,0,none⟩) n n,_,?_,h1,h2,.slice (Ren.cX _ _ _) ⟨by omega,fun _=>by omega⟩ (by omega) (by simp only[Nat.zero_add];omega)⟩
     simp only[Instr.buildSlice,Sem.run_bind,bN hu,Result.andThen_ok,run_sizeOf hsz]
     rw[if_neg (by omega)]
     by_cases hn:n*sz=0
     ·rw[if_pos hn]
      have e0:(Array.range (n*sz)).map (fun x=>(#[]:Array V)[x % (#[]:Array V).size]!)=(Array.range (n*sz)).map (zv.cells[·% zv.cells.size]!):=by rw[hn];simp
      simp only[Sem.run_bind,Result.andThen_ok,Sem.run_pure,e0,h3]
      rfl
     ·rw[if_neg hn]
      simp only[Sem.run_bind,hzr,Result.andThen_ok,Sem.run_pure,h3]
      rfl
   ·cases hb
  ·cases hb
 ·cases hb
theorem aIb {k:IntKind} {n:Int} (h1:k.min≤n) (h2:n≤k.max):k.wrap n=n:=by
 unfold IntKind.wrap IntKind.min IntKind.max at *
 cases k<;>simp[IntKind.signed,IntKind.bits]at *<;>(try split)<;>omega
theorem aVs (hJ:cP J B) (hR:R J B r h w) {t:TypeId} {l l' c c' v:V} {h':aA} (hl:VR r l l') (hc:VR r c c') (hm:xJ P t l c h=some (v,h')) :
 ∃r' v' w',(Instr.makeSlice t l' c').run P w = .ok v' w'∧R J B r' h' w'∧Ext r h w r' h' w'∧VR r' v v':=by
 unfold xJ at hm
 split at hm
 ·rename_i e k1 ln k2 cn he
  cases hl;cases hc
  have hu:=yC he
  split at hm
  ·rename_i i z hi hz
   split at hm
   ·rename_i hcond
    obtain⟨a1,a2,a3,a4,a5,a6⟩:=hcond
    simp only[Option.some.injEq,Prod.mk.injEq]at hm
    obtain⟨rfl,rfl⟩:=hm
    obtain⟨zv,hzr,hzl⟩:=aIf (P:=P) (w:=w) (r:=r) hz
    have hzs:zv.cells.size=i.size:=by have:=hzl.1;simp at this;omega
    have hz0:=aIg (n:=cn.toNat*i.size) hzl (fun _=>by omega)
    obtain⟨h1,h2⟩:=aMx (e:=e) (esz:=i.size) hJ hR hz0
    have hwl:IntKind.i64.wrap ln=ln:=aIb (by simp[IntKind.min,IntKind.signed,IntKind.bits];omega) (by simp[IntKind.max,IntKind.signed,IntKind.bits];omega)
    have hwc:IntKind.i64.wrap cn=cn:=aIb (by simp[IntKind.min,IntKind.signed,IntKind.bits];omega) (by simp[IntKind.max,IntKind.signed,IntKind.bits];omega)
    refine⟨_,.slice (some ⟨w.heap.size,0,none⟩) ln.toNat cn.toNat,_,?_,h1,h2,.slice (Ren.cX _ _ _) ⟨by omega,fun _=>by omega⟩ (by omega) (by simp)⟩
    have hb:(i.bytes:Int)*cn≤64*1099511627776:=Int.le_trans (Int.mul_le_mul_of_nonneg_right (by omega:(i.bytes:Int)≤64) (by omega)) (by omega)
    have hsz:(sizeOf e).run P w = .ok i.size w:=by simp[sizeOf,run_typeInfo hi]
    simp only[Instr.makeSlice,Sem.run_bind,bN hu,Result.andThen_ok,asInt,asIntOf,Sem.run_pure,run_typeInfo hi,hwl,hwc]
    rw[if_neg (by simp only[Bool.or_eq_true,decide_eq_true_eq,not_or,Int.not_lt];refine⟨⟨⟨by omega,?_⟩,by omega⟩,by omega⟩;omega)]
    simp only[Sem.run_bind,Sem.run_pure,Result.andThen_ok,run_askRoom,hsz]
    by_cases hcz:cn.toNat*i.size=0
    ·have e0:(Array.range (cn.toNat*i.size)).map (zv.cells[·% zv.cells.size]!) = #[]:=by rw[hcz];simp
     rw[if_pos hcz]
     simp only[Sem.run_pure,Sem.run_bind,Result.andThen_ok]
     rw[e0,hcz]
     have e1:(Array.range 0).map (fun x=>(#[]:Array V)[x % (#[]:Array V).size]!) = #[]:=by simp
     rw[e1]
     rfl
    ·rw[if_neg hcz]
     simp only[Sem.run_bind,hzr,Result.andThen_ok,Sem.run_pure]
     rfl
   ·cases hm
  ·cases hm
 ·cases hm
theorem aX3 (hR:R J B r h w) {size:Nat} {x x':V} {l:List V} (hx:VR r x x') (hs:jB size x h=some l) :
 ∃(a':Option Addr) (n c':Nat),x' = .slice a' n c'∧l.length=n*size∧∃l',(match a' with | some a=>loadCells a (n*size) | none=>pure #[]:Sem (Array V)).run P w = .ok l' w∧VRl r l l'.toList:=by
 unfold jB at hs
 split at hs
 ·cases hx
  simp only[Option.some.injEq]at hs
  subst hs
  exact⟨none,0,0,rfl,by simp,#[],rfl,VRl.nil r⟩
 ·rename_i b o n c
  cases hx with
  | @slice _ _ _ _ c' tg htg hc hn hz=>
  obtain⟨l',h1,h2,h3,h4⟩:=zA (P:=P) hR htg hs
  exact⟨_,n,c',rfl,h3,l',h1,h2⟩
 ·cases hs
theorem aRs {l:List V} {l':Array V} {bs:List UInt8} (hv:VRl r l l'.toList) (hb:bytesOf l=some bs):l'=(l.toArray)∧∃ns:List Int,l=ns.map (fun n=>Value.int .u8 n)∧bs=ns.map fun n=>UInt8.ofNat n.toNat:=by
 have key:∀(l:List V) (l':List V) (bs:List UInt8),VRl r l l'→bytesOf l=some bs→l'=l∧∃ns:List Int,l=ns.map (fun n=>Value.int .u8 n)∧bs=ns.map fun n=>UInt8.ofNat n.toNat:=by
  intro l
  induction l with
  | nil=>
   intro l' bs hv hb
   have:=hv.1
   simp[bytesOf]at hb
   subst hb
   cases l' with
   | nil=>exact⟨rfl,[],rfl,rfl⟩
   | cons a l'=>simp at this
  | cons a l ih=>
   intro l' bs hv hb
   cases l' with
   | nil=>have:=hv.1;simp at this
   | cons a' l'=>
    have h0:VR r a a':=hv.2 0 (by simp) (by simp)
    have ht:VRl r l l':=⟨by have:=hv.1;simpa using this,fun i x y=>hv.2 (i+1) (by simpa using x) (by simpa using y)⟩
    cases a with
    | int k n=>
     cases k<;>simp only[bytesOf,reduceCtorEq]at hb
     cases hbl:bytesOf l with
     | none=>simp[hbl]at hb
     | some bl=>
      simp only[hbl,Option.map_some,Option.some.injEq]at hb
      subst hb
      cases h0
      obtain⟨rfl,ns,rfl,rfl⟩:=ih l' bl ht hbl
      exact⟨rfl,n::ns,rfl,rfl⟩
    | _=>simp[bytesOf]at hb
 obtain⟨h1,h2⟩:=key l l'.toList bs hv hb
 exact⟨by apply Array.ext';simpa using h1,h2⟩
theorem aTz (ns:List Int):∀(s:ByteArray),(ns.foldl (fun r n=>r.push (UInt8.ofNat n.toNat)) s)=⟨s.data++(ns.map fun n=>UInt8.ofNat n.toNat).toArray⟩:=by
 induction ns with
 | nil=>intro s;simp
 | cons n ns ih=>
  intro s
  simp only[List.foldl_cons,List.map_cons]
  rw[ih]
  congr 1
  apply Array.ext'
  simp[ByteArray.push]
theorem aZe {w:World} {b:Nat} {cc:Array V} {el:TypeId} {fr:Nat×Nat} (h:w.heap[b]? = some (.cells cc el fr)) (he:fr.1=fr.2) (k n:Nat) (hn:n≠0) :
 iJ w (w.freeze ⟨b,k,none⟩ n) b (.cells cc el (k,k+n)):=by
 obtain⟨lo,hi⟩:=fr
 simp only at he
 subst he
 refine⟨by simp[World.freeze,hn],by simp[World.freeze,hn],by simp[World.freeze,hn],by simp[World.freeze,hn],?_,fun j hj=>?_,by simp[World.freeze,hn]⟩
 ·simp[World.freeze,hn,Array.getElem?_modify,h]
 ·simp[World.freeze,hn,Array.getElem?_modify,Ne.symm hj]
theorem aVx (hJ:cP J B) (hR:R J B r h w) {x x' v:V} {h':aA} (hx:VR r x x') (hc:xK x h=some (v,h')) :
 ∃a n c w',x' = .slice (some a) n c∧(markStringish a).run P w = .ok () w'∧R J B r h' w'∧Ext r h w r h' w'∧VR r v x':=by
 unfold xK at hc
 split at hc
 ·rename_i b o n c
  split at hc
  ·rename_i cs esz hb
   simp only[Option.some.injEq,Prod.mk.injEq]at hc
   obtain⟨rfl,rfl⟩:=hc
   cases hx with
   | slice ht hcap hn hs=>
    obtain⟨t',cc,el,fr,ht',h0,h1,h2,h3,h4,h5,h6,h7⟩:=hR.row hb
    cases ht.symm.trans ht'
    have hT:=aZe h1 (h6 rfl) cc.size 1 (by decide)
    have hsh:∀k,w.heap[k]? = some (.cells cc el fr)→w.shape? k=some (el,cc.size):=fun k hk=>by unfold World.shape?;rw[hk]
    obtain⟨hR',hE⟩:=hR.wT hJ hb (by rintro c e ⟨⟩) ht hT (o2:=.cells cs esz .str) ⟨h0,⟨cc,el,(cc.size,cc.size+1),hT.here,h2,h3,h4,fun _ o ho=>by simp;omega,fun hk=>by cases hk⟩,fun _=>h7.1 (by decide),fun _=>h7.2 (by decide)⟩ (by rintro c e ⟨⟩)
    refine⟨_,_,_,_,rfl,?_,hR',hE,.slice ht hcap hn hs⟩
    simp only[markStringish,Sem.run_bind,run_shape,hsh _ h1,Result.andThen_ok,run_freeze]
  ·cases hc
 ·cases hc
theorem aSp (hJ:cP J B) (hR:R J B r h w) {s d:TypeId} {x x' v:V} {h':aA} (hx:VR r x x') (hc:xB P s d x h=some (v,h')) :
 ∃r' v' w',(convert s d x').run P w = .ok v' w'∧R J B r' h' w'∧Ext r h w r' h' w'∧VR r' v v':=by
 unfold xB at hc
 split at hc
 ·rename_i k0 k k1 n hs hd
  cases hx
  simp only[Option.some.injEq,Prod.mk.injEq]at hc
  obtain⟨rfl,rfl⟩:=hc
  refine⟨r,_,w,?_,hR,Ext.refl _ _ _,.int _ _⟩
  simp only[convert,Sem.run_bind,bN hs,bN hd,Result.andThen_ok,Conv.intToInt,Sem.run_pure]
 ·rename_i b hs hd
  cases hx
  simp only[Option.some.injEq,Prod.mk.injEq]at hc
  obtain⟨rfl,rfl⟩:=hc
  refine⟨r,_,w,?_,hR,Ext.refl _ _ _,.string _⟩
  simp only[convert,Sem.run_bind,bN hs,bN hd,Result.andThen_ok,Sem.run_pure]
 ·rename_i x d1 d2 d3 e hs hd
  split at hc
  ·rename_i he
   cases hsc:jB 1 x h with
   | none=>simp[hsc]at hc
   | some l=>
    simp only[hsc,Option.bind_some]at hc
    cases hbl:bytesOf l with
    | none=>simp[hbl]at hc
    | some bs=>
     simp only[hbl,Option.map_some,Option.some.injEq,Prod.mk.injEq]at hc
     obtain⟨rfl,rfl⟩:=hc
     obtain⟨a',n,c',rfl,hln,l',hrun,hvl⟩:=aX3 (P:=P) hR hx hsc
     obtain⟨hle,ns,hl,hbs⟩:=aRs hvl hbl
     refine⟨r,.string ⟨bs.toArray⟩,w,?_,hR,Ext.refl _ _ _,.string _⟩
     rw[run_convert_bytes_string w s d e a' n c' hs he hd]
     cases a' with
     | none=>
      simp only[Sem.run_pure,Result.ok.injEq,and_true]at hrun
      subst hrun
      have:l=[]:=by have:=congrArg Array.toList hle;simpa using this.symm
      rw[this]at hl
      have hn0:ns=[]:=by simpa using hl.symm
      subst hn0
      subst hbs
      rfl
     | some a=>
      simp only[Nat.mul_one]at hrun
      rw[run_bytesToString w a n c' ns (by rw[hrun,hle,hl]),aTz,hbs]
      simp
  ·cases hc
 ·rename_i e b hs hd
  cases hx
  split at hc
  ·rename_i he
   simp only[Option.some.injEq,Prod.mk.injEq]at hc
   obtain⟨rfl,rfl⟩:=hc
   simp only[convert,Sem.run_bind,bN hs,bN hd,bN he,Result.andThen_ok,Conv.stringToBytes,run_choose,Question.forced,Bool.false_eq_true,if_false,newRow,run_newObj,Sem.run_pure]
   generalize hcap:(Question.appendCap b.size 0 e).cut (w.tape w.drawn (.appendCap b.size 0 e))=cap
   have hcge:b.size≤cap:=by rw[←hcap];simp only[Question.cut];omega
   generalize hcells:(b.data.map fun b=>Value.int .u8 b.toNat)++Array.replicate (cap - b.size) (.int .u8 0)=cells
   have hbd:b.data.size=b.size:=rfl
   have hcs:cells.size=cap:=by rw[←hcells];simp[hbd];omega
   have hw1:(w.drew.alloc (.cells cells e)).heap[w.drew.heap.size]? = some (.cells cells e):=heap_alloc_new
   have hfr:(markStringish ⟨w.heap.size,0,none⟩).run P (w.drew.alloc (.cells cells e)) = .ok () (w.drew.alloc (.cells cells e (cells.size,cells.size+1))):=by
    have hsh:(w.drew.alloc (.cells cells e)).shape? w.heap.size=some (e,cells.size):=by
     have e1:(w.drew.alloc (.cells cells e)).heap[w.heap.size]? = some (.cells cells e):=hw1
     unfold World.shape?
     rw[e1]
    simp only[markStringish,Sem.run_bind,run_shape,hsh,Result.andThen_ok,run_freeze]
    congr 1
    unfold World.freeze
    simp only[Nat.add_one_ne_zero,if_false,Nat.succ_ne_zero]
    unfold World.alloc
    congr 1
    apply Array.ext_getElem?
    intro i
    rw[Array.getElem?_modify,Array.getElem?_push,Array.getElem?_push]
    by_cases hi:i=w.drew.heap.size
    ·subst hi;simp
    ·simp only[World.size_drew]at hi
     simp[hi,Ne.symm hi]
   have hR1:=hR.drew hJ
   obtain⟨h1,h2⟩:=hR1.alloc hJ (.cells (b.data.toList.map fun x=>.int .u8 x.toNat) 1 .str) (.cells cells e (cells.size,cells.size+1)) ⟨w.heap.size,cells.size,1,0⟩ rfl
    ⟨rfl,⟨cells,e,(cells.size,cells.size+1),heap_alloc_new,rfl,by simp[hcs,hbd];exact hcge,fun i a c=>by
     have hi:i<b.data.size:=by simpa using a
     have:cells[i] = .int .u8 b.data[i].toNat:=by
      subst hcells
      rw[Array.getElem_append_left (by simpa using hi)]
      simp
     show VR _ _ cells[i]
     rw[this]
     simp only[List.getElem_map,Array.getElem_toList]
     exact .int _ _,fun _ o ho=>by simp;omega,fun hk=>by cases hk⟩,fun _=>hR.base,fun _=>rfl⟩
   refine⟨_,.slice (some ⟨w.heap.size,0,none⟩) b.size cap,_,?_,h1,Ext.drew.trans h2,.slice (Ren.cX _ _ _) ⟨by omega,fun he=>by omega⟩ (by omega) (by simp[hcs])⟩
   change ((markStringish ⟨w.heap.size,0,none⟩).run P (w.drew.alloc (.cells cells e))).andThen _=_
   rw[hfr]
   rfl
  ·cases hc
 ·rename_i x d1 d2 d3 e0 e hs hd
  split at hc
  ·rename_i he
   split at hc
   ·rename_i hsd
    subst hsd
    cases hs.symm.trans hd
    obtain⟨a,n,c,w',rfl,hrun,h1,h2,h3⟩:=aVx (P:=P) hJ hR hx hc
    refine⟨r,_,w',?_,h1,h2,h3⟩
    simp only[convert,Sem.run_bind,bN hs,bN hd,bN he,Result.andThen_ok,beq_self_eq_true,hrun,Sem.run_pure]
   ·cases hc
  ·cases hc
 ·cases hc
end
end Go.Abs

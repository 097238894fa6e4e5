/- Library functions: what the shelf's contracts say of them, as specs. No program in sight. (To stand in the place of the placeholders of Lib0, Lib1.) -/
import Derived.Test.YthhegdifbnghpaaGreatDoorQam
import Derived.Shelf.Strings.SlTrimAscii
import Derived.Shelf.Strconv.Itoa4
import Derived.Shelf.Strconv.ParseIntPublic10
import Derived.Shelf.SlIter.Nil
import Derived.Test.YthhegdifbnghpaaGreatDoorQan
set_option linter.unusedSimpArgs false
set_option linter.unusedVariables false
namespace Go.Abs
open Go Go.RowKit Go.Shelf Go.Proofs
def L.aE3:Spec:=fun args h K=>match args with
 | [.int .i64 n,.int .i64 10]=>-9223372036854775808≤n∧n≤9223372036854775807∧K (.string ⟨(Lib.itoa n).toArray⟩) h
 | _=>False
def L.aE5:Spec:=fun args h K=>match args with
 | [.string s,.int .i64 10,.int .i64 64]=>∃v,s.data.toList.length≤1000000∧Lib.parseIntB 64 s.data.toList = .ok v∧K (.tuple #[.int .i64 v,.nilIface]) h
 | _=>False
def L.Trim:Spec:=fun args h K=>match args with
 | [.string s,.string cs]=>s.data.toList.length≤1000000∧cs.data.toList.length≤1000000∧(cs.data.toList.all fun b=>decide (b.toNat<128))=true∧K (.string ⟨(Lib.trimS s.data.toList cs.data.toList).toArray⟩) h
 | _=>False
def L.clone:Spec:=fun args h K=>match args with
 | [.iface t (.map (some b))]=>(match h.get b with
  | some (.map es clk)=>K (.iface t (.map (some h.next))) (h.new (.map es clk))
  | _=>False)
 | _=>False
variable {P:Program} {ρ:Shelf.Ren} {J:World→Prop}
theorem aRe (w:World) (k:Nat) (os:Array Obj):Below w.heap.size w (Sort.grow (w.drewN k) os):=
 ⟨rfl,rfl,rfl,by simp[World.drewN],fun i hi=>Sort.heap_grow_old (w.drewN k) os hi⟩
theorem aRd (w:World) (e:TypeId) (s:ByteArray):Below w.heap.size w (Lib.bytesWorld w e s):=by
 refine⟨?_,?_,?_,?_,fun i hi=>?_⟩
 ·simp[Lib.bytesWorld,World.freeze]<;>rfl
 ·simp[Lib.bytesWorld,World.freeze]<;>rfl
 ·simp[Lib.bytesWorld,World.freeze]<;>rfl
 ·simp only[Lib.bytesWorld,World.freeze]
  rw[if_neg (by decide)]
  simp only[Array.size_modify]
  show w.heap.size≤(w.heap.push _).size
  simp
 ·have hne:w.heap.size≠i:=by omega
  simp only[Lib.bytesWorld,World.freeze]
  rw[if_neg (by decide)]
  simp only[Array.getElem?_modify,hne,if_false]
  exact aGn (w:=w.drew) hi
theorem L.aP1 (hD:DF J) (M:LaysM.n173 P ρ) (hJ:∀w,J w→Lib.TabIs P w "internal/strconv.uint64pow10" .u64 Lib.pow10Tab)
 (hcall:∀(args:Array V) (w:World),(callFunc (ρ.f 173) args).run P w = .ok (.enter (ρ.f 173) args) w):aD P J (ρ.f 173) L.aE3:=by
 refine aD.aCm hD hcall fun args hp Q w hs hw=>?_
 unfold L.aE3 at hs
 split at hs
 ·rename_i n
  obtain⟨h0,h1,hq⟩:=hs
  refine⟨_,by simp[bS],rfl,hq,?_⟩
  refine (Any.strconv_FormatInt_10 M n h0 h1 w (hJ w hw)).mono ?_
  rintro e w' ⟨rfl,k,os,rfl⟩
  exact⟨rfl,aRe w k os⟩
 ·exact hs.elim
theorem L.aP9 (hD:DF J) (M:Lays.n160 P ρ) (h116:(P.info? (ρ.t 116)).map (fun i=>(i.zero,i.size))=some (some (.agg (Array.replicate 256 (.bool false))),256))
 (hcall:∀(args:Array V) (w:World),(callFunc (ρ.f 160) args).run P w = .ok (.enter (ρ.f 160) args) w):aD P J (ρ.f 160) L.Trim:=by
 refine aD.aCm hD hcall fun args hp Q w hs _=>?_
 unfold L.Trim at hs
 split at hs
 ·rename_i s cs
  obtain⟨h1,h2,h3,hq⟩:=hs
  refine⟨_,by simp[bS],rfl,hq,?_⟩
  have e1:s.size=s.data.toList.length:=Array.length_toList.symm
  have e2:cs.size=cs.data.toList.length:=Array.length_toList.symm
  exact Any.strings_Trim_laid M h116 s cs w (by omega) (by omega) (ascii_of_all h3)
 ·exact hs.elim
theorem VR.tup {r:Ren} {l:List V} (h:∀v∈l,bS v=true):VR r (.tuple l.toArray) (.tuple l.toArray):=
 .tuple rfl fun i h1 _=>VR.closed (h _ (by simp))
theorem L.aP6 (hD:DF J) (M:LaysC.n174 P ρ) (hcall:∀(args:Array V) (w:World),(callFunc (ρ.f 174) args).run P w = .ok (.enter (ρ.f 174) args) w):aD P J (ρ.f 174) L.aE5:=by
 refine aD.yW hcall fun B hJ r hp w args args' Q hs hR ha=>?_
 unfold L.aE5 at hs
 split at hs
 ·rename_i s
  obtain⟨v,h1,h2,hq⟩:=hs
  rw[ha.closed (by simp[bS])]
  have e1:s.size=s.data.toList.length:=Array.length_toList.symm
  refine (Any.strconv_ParseInt_10_at64_ok M s (by omega) v h2 w).mono ?_
  rintro e w' ⟨rfl,hw⟩
  have hb:Below w.heap.size w w':=by
   rcases hw with rfl | ⟨t,rfl⟩
   ·exact Below.refl _ _
   ·exact aRd w _ t
  obtain⟨hR',hE⟩:=hR.below hJ hD hb
  exact⟨_,rfl,r,_,hp,hq,hR',hE,VR.tup (l:=[.int .i64 v,.nilIface]) (by simp[bS])⟩
 ·exact hs.elim
theorem L.aR8 {f:FuncId} (hrun:∀(t:TypeId) (b:Nat) (w:World) (es:Array MapEntry) (clock:Nat),w.heap[b]? = some (.map es clock) →
      (callFunc f #[.iface t (.map (some b))]).run P w = .ok (.value (.iface t (.map (some w.heap.size)))) (w.alloc (.map es clock))):aD P J f L.clone:=by
 intro B hJ r hp w args args' Q hs hR ha
 unfold L.clone at hs
 split at hs
 ·rename_i t b
  split at hs
  ·rename_i es clk hb
   obtain⟨tm,ces,ht,hBm,hw,hsz,hve⟩:∃tm ces,r b=some tm∧B≤tm.blk∧w.heap[tm.blk]? = some (.map ces clk)∧ces.size=es.length ∧
    ∀(i:Nat) (h:i<es.length) (h':i<ces.size),VR r es[i].key ces[i].key∧VR r es[i].val ces[i].val∧ces[i].born=es[i].born:=by
    obtain⟨tm,h1,h2,ces,h3,h4,h5⟩:=hR.live b _ hb
    exact⟨tm,ces,h1,h2.1,h3,h4,h5⟩
   have hargs:args' = #[.iface t (.map (some tm.blk))]:=by
    have hl:=ha.1
    obtain⟨l⟩:=args'
    match l,hl with
    | [x],_=>
     have h0:=ha.2 0 (by simp) (by simp)
     simp only[List.getElem_cons_zero]at h0
     cases h0 with
     | iface _ h0=>
      cases h0 with
      | map h0=>
       rw[ht]at h0
       cases h0
       rfl
   subst hargs
   refine⟨_,_,hrun t tm.blk w ces clk hw,?_⟩
   have hle:=hR.oH (t:=⟨w.heap.size,0,0,0⟩)
   obtain⟨h1,h2⟩:=hR.alloc hJ (.map es clk) (.map ces clk) ⟨w.heap.size,0,0,0⟩ rfl
    ⟨⟨hR.base,rfl⟩,ces,heap_alloc_new,hsz,fun i a c=>⟨(hve i a c).1.mono hle,(hve i a c).2.1.mono hle,(hve i a c).2.2⟩⟩
   exact⟨_,_,_,hs,h1,h2,.iface _ (.map (Ren.cX _ _ _))⟩
  ·exact hs.elim
 ·exact hs.elim
end Go.Abs
namespace Go.Abs
open Go Go.RowKit Go.Proofs
def hU:V→List UInt8
 | .string s=>s.data.toList
 | _=>[]
def eR (es:List MapEntry):List (List UInt8):=(es.map fun e=>hU e.key).mergeSort fun x y=>decide (x≤y)
def sZ (ks:List (List UInt8)) (h:aA):V:=if ks=[] then .slice none 0 0 else .slice (some ⟨h.next,0,none⟩) ks.length (2*ks.length+1)
def rN (ks:List (List UInt8)) (h:aA):aA:=if ks=[] then h else h.new (.cells (ks.map encStr) 1 .rw)
def L.Sorted (ok:FuncId→Prop):Spec:=fun args h K=>match args with
 | [.func (.func g) f c]=>f = #[]∧ok g∧∃b m es clk e,∃_:BK,c = #[.pointer (some ⟨b,0,none⟩)]∧h.get b=some (.cells [.map (some m)] e .rw)∧h.get m=some (.map es clk)∧es.length≤1000 ∧
  (∀x∈es,(∃s,x.key = .string s∧s.size≤maxLen)∧x.born<clk)∧(es.map (·.born)).Nodup∧(es.map (·.key)).Nodup∧K (sZ (eR es) h) (rN (eR es) h)
 | _=>False
theorem R.aJh {J:World→Prop} {B:Nat} (hJ:cP J B) (hD:DF J) {r:Ren} {h:aA} {w w':World} (hR:R J B r h w) (hb:Below w.heap.size w w') (o:cH) (t:Tgt) (h1:w.heap.size≤t.blk) (h2:t.blk<w'.heap.size)
 (hO:OR B (r.upd h.next t) w' t o):R J B (r.upd h.next t) (h.new o) w'∧Ext r h w (r.upd h.next t) (h.new o) w':=by
 obtain⟨hR',hE⟩:=hR.below hJ hD hb
 have hle:=hR.oH t
 have old:∀b o1,(h.new o).get b=some o1→(b=h.next∧o1=o)∨(b≠h.next∧h.get b=some o1):=by
  intro b o1 hb
  by_cases e:b=h.next
  ·subst e;simp[aA.new]at hb;exact .inl ⟨rfl,hb.symm⟩
  ·exact .inr ⟨e,by simpa[aA.new,e]using hb⟩
 refine⟨⟨hR'.base,?_,?_,?_,hR'.inv⟩,⟨hle,Nat.le_succ _,hE.os,hE.tape,hE.output,hE.size,?_,?_⟩⟩
 ·intro b t' hb
  by_cases e:b=h.next
  ·subst e;rw[Ren.cX]at hb;cases hb;exact⟨h2,by simp[aA.new]⟩
  ·rw[Ren.eD _ _ e]at hb
   have:=hR'.lt b t' hb
   refine⟨this.1,?_⟩
   simp[aA.new];omega
 ·intro b o1 hb
  rcases old b o1 hb with ⟨rfl,rfl⟩ | ⟨e,hb'⟩
  ·exact⟨t,Ren.cX _ _ _,hO⟩
  ·obtain⟨t',h3,h4⟩:=hR'.live b o1 hb'
   exact⟨t',hle _ _ h3,h4.mono hle⟩
 ·intro b b' o1 o1' t1 t1' hb hb' g1 g1' e
  rcases old b o1 hb with ⟨rfl,rfl⟩ | ⟨e1,hb⟩<;>rcases old b' o1' hb' with ⟨rfl,rfl⟩ | ⟨e2,hb'⟩
  ·exact .inl rfl
  ·rw[Ren.cX]at g1;cases g1
   rw[Ren.eD _ _ e2]at g1'
   have:=(hR.lt _ _ g1').1;exfalso;omega
  ·rw[Ren.cX]at g1';cases g1'
   rw[Ren.eD _ _ e1]at g1
   have:=(hR.lt _ _ g1).1;exfalso;omega
  ·rw[Ren.eD _ _ e1]at g1;rw[Ren.eD _ _ e2]at g1'
   exact hR.inj b b' o1 o1' t1 t1' hb hb' g1 g1' e
 ·intro k hk _;exact hb.block k hk
 ·rintro k hk ⟨b,t',⟨o1,hb,hw⟩,g1,rfl⟩
  rcases old b o1 hb with ⟨rfl,rfl⟩ | ⟨e,hb⟩
  ·rw[Ren.cX]at g1;cases g1;omega
  ·rw[Ren.eD _ _ e]at g1
   exact⟨b,t',⟨o1,hb,hw⟩,g1,rfl⟩
def rV (_:V):Option (DataW Unit×List MemPlace):=some (.nil,[])
theorem VR.aYn {r:Ren} {s:ByteArray} {x:V} (h:VR r (.string s) x):x = .string s:=VR.oE (by rfl) h
theorem VR.aKu {r:Ren} {g:Fn} {f c:Array V} {x:V} (h:VR r (.func g f c) x):∃f' c',x = .func g f' c'∧f.size=f'.size∧c.size=c'.size∧∀(i:Nat) (h1:i<c.size) (h2:i<c'.size),VR r c[i] c'[i]:=by
 cases h with
 | func _ hf hfe hc hce=>exact⟨_,_,rfl,hf,hc,hce⟩
theorem VR.aNw {r:Ren} {b o:Nat} {x:V} {t:Tgt} (h:VR r (.pointer (some ⟨b,o,none⟩)) x) (ht:r b=some t):x = .pointer (some ⟨t.blk,o+t.sh,none⟩):=by
 cases h with
 | ptr h1=>rw[ht]at h1;cases h1;rfl
theorem L.aP8 {P:Program} {J:World→Prop} (hD:DF J) {f:FuncId} {ok:FuncId→Prop} {kt:TypeId} (hkt:P.underlying kt=some .string) (hcall:∀(args:Array V) (w:World),(callFunc f args).run P w = .ok (.enter f args) w)
 (hrun:∀g,ok g→∀(bm:Nat) (w:World) (b nn:Nat) (D0:DataW Unit),bm<w.heap.size→w.cell? ⟨bm,0,none⟩=some (.map (some b))→w.ownsMap P kt rV b nn D0→Maps.size D0≤maxLen→Maps.size D0*16≤140737488355328 →
  Calls P f #[.func (.func g) #[] #[.pointer (some ⟨bm,0,none⟩)]] w fun e w'=>∃(v:Value) (ss:List (List UInt8)),e = .returned v∧ss.Perm (strKeys D0) ∧
   w'.ownsRow w.heap.size kt 1 v ss.length ((ss.mergeSort (fun x y=>decide (x≤y))).map encStr)∧(v = .slice none 0 0↔ss=[])∧Below w.heap.size w w'):aD P J f (L.Sorted ok):=by
 refine aD.yW hcall fun B hJ r hp w args args' Q hs hR ha=>?_
 unfold L.Sorted at hs
 split at hs
 ·rename_i g ff c
  obtain⟨rfl,hg,b,m,es,clk,e,k,rfl,hb,hm,hn,hk,hnb,hnk,hq⟩:=hs
  obtain⟨t,ht,hO⟩:=hR.live b _ hb
  obtain⟨_,⟨cc,el,fr,hcc,hsz,hle,hv,_⟩,_,hsh⟩:=hO
  have hsh:=hsh (by decide)
  obtain⟨tm,htm,hOm⟩:=hR.live m _ hm
  obtain⟨hBm,ces,hces,hcs,hent⟩:=hOm
  have hargs:args' = #[.func (.func g) #[] #[.pointer (some ⟨t.blk,0,none⟩)]]:=by
   have hl:=ha.1
   obtain⟨l⟩:=args'
   match l,hl with
   | [x],_=>
    have h0:=ha.2 0 (by simp) (by simp)
    simp only[List.getElem_cons_zero]at h0
    obtain⟨f',c',rfl,hf,hc,hce⟩:=h0.aKu
    have e1:f' = #[]:=Array.eq_empty_of_size_eq_zero hf.symm
    obtain⟨ys⟩:=c'
    match ys,hc with
    | [y],_=>
     have h1:=hce 0 (by simp) (by simp)
     simp only[List.getElem_toArray,List.getElem_cons_zero]at h1
     rw[e1,h1.aNw ht,hsh]
  subst hargs
  have h0:0<cc.size:=by simp at hle;omega
  have hcell:w.cell? ⟨t.blk,0,none⟩=some (.map (some tm.blk)):=by
   have h1:=hv 0 (by simp) (by omega)
   simp only[List.getElem_cons_zero]at h1
   simp only[World.cell?,hcc]
   simp only[hsh,Nat.add_zero]at h1
   rw[Array.getElem?_eq_getElem h0]
   generalize cc[0]=x at h1
   cases h1 with
   | map h1=>
    rw[htm]at h1
    cases h1
    rfl
  have hkey:∀(i:Nat) (h:i<es.length) (h':i<ces.size),ces[i].key=es[i].key:=by
   intro i h h'
   obtain⟨⟨s,h1,_⟩,_⟩:=hk es[i] (List.getElem_mem h)
   have h2:=(hent i h h').1
   rw[h1]at h2 ⊢
   exact h2.aYn
  have hkeys:ces.toList.map (·.key)=es.map (·.key):=by
   refine List.ext_getElem (by simp[hcs]) fun i h1 h2=>?_
   simp only[List.getElem_map,Array.getElem_toList]
   exact hkey i (by simpa using h2) (by simpa using h1)
  have hborns:ces.toList.map (·.born)=es.map (·.born):=by
   refine List.ext_getElem (by simp[hcs]) fun i h1 h2=>?_
   simp only[List.getElem_map,Array.getElem_toList]
   exact (hent i (by simpa using h2) (by simpa using h1)).2.2
  have hmem:∀x∈ces.toList,(∃s,x.key = .string s∧s.size≤maxLen)∧x.born<clk:=by
   intro x hx
   obtain⟨i,hi,rfl⟩:=List.getElem_of_mem hx
   have h1:i<ces.size:=by simpa using hi
   have h2:i<es.length:=by omega
   obtain⟨⟨s,h3,h4⟩,h5⟩:=hk es[i] (List.getElem_mem h2)
   simp only[Array.getElem_toList]
   exact⟨⟨s,(hkey i h2 h1).trans h3,h4⟩,by rw[(hent i h2 h1).2.2];exact h5⟩
  have hrd:∀x∈ces.toList,WideElems.rd P kt rV x=some (.string (hU x.key),.nil):=by
   intro x hx
   obtain⟨⟨s,h1,h2⟩,_⟩:=hmem x hx
   simp only[WideElems.rd,h1,WideMaps.keyOf_string_mk hkt h2,rV,Option.bind_some,Option.map_some,hU]
  have hfit:WideElems.Fit P kt rV ces clk:=by
   refine⟨by rw[hcs];simp only[maxLen];omega,⟨fun x hx=>(hmem x hx).2,by rw[hborns];exact hnb,by rw[hkeys];exact hnk⟩,fun x hx=>⟨_,hrd x hx⟩⟩
  have hown:w.ownsMap P kt rV tm.blk ces.size (.map ((ces.toList.map (WideElems.rg P kt rV)).foldr DataW.insert [])):=⟨ces,clk,hces,hfit,Nat.le_refl _,rfl⟩
  have hrg:ces.toList.map (WideElems.rg P kt rV)=es.map fun x=>(Lit.string (hU x.key),DataW.nil):=by
   have h1:ces.toList.map (WideElems.rg P kt rV)=(ces.toList.map (·.key)).map fun v=>(Lit.string (hU v),DataW.nil):=by
    rw[List.map_map]
    refine List.map_congr_left fun x hx=>?_
    simp only[WideElems.rg,hrd x hx,Option.getD_some,Function.comp]
   rw[h1,hkeys,List.map_map]
   rfl
  rw[hrg]at hown
  have hsize:Maps.size (H:=Unit) (.map ((es.map fun x=>(Lit.string (hU x.key),DataW.nil)).foldr DataW.insert []))=es.length:=by
   show ((es.map fun x=>(Lit.string (hU x.key),DataW.nil)).foldr DataW.insert []).length=_
   rw[DataW.length_sorted,List.length_map]
  have hsk:(strKeys (H:=Unit) (.map ((es.map fun x=>(Lit.string (hU x.key),DataW.nil)).foldr DataW.insert []))).Perm (es.map fun x=>hU x.key):=by
   show (List.map (fun (p:Lit×DataW Unit)=>strOf p.1) _).Perm _
   refine ((WideShapes.sorted_perm _).map _).trans ?_
   rw[List.map_map]
   exact List.Perm.refl _
  refine (hrun g hg t.blk w tm.blk ces.size _ (hR.lt b t ht).1 hcell hown (by rw[hsize];simp only[maxLen];omega) (by rw[hsize];omega)).mono ?_
  rintro e' w' ⟨v,ss,rfl,hperm,hrow,hnil,hbel⟩
  have hp2:=hperm.trans hsk
  have hsort:ss.mergeSort (fun x y=>decide (x≤y))=eR es:=mergeSort_of_perm hp2
  have hlen:ss.length=(eR es).length:=by rw[←hsort,List.length_mergeSort]
  rw[hsort]at hrow
  by_cases hz:eR es=[]
  ·have hss:ss=[]:=List.eq_nil_of_length_eq_zero (by rw[hlen,hz];rfl)
   obtain rfl:=hnil.2 hss
   rw[sZ,rN,if_pos hz,if_pos hz]at hq
   obtain⟨hR',hE⟩:=hR.below hJ hD hbel
   exact⟨_,rfl,r,_,hp,hq,hR',hE,.sliceNil⟩
  ·rw[sZ,rN,if_neg hz,if_neg hz]at hq
   rcases hrow.2 with ⟨rfl,hz'⟩ | ⟨gb,cap,cur,rfl,hbase,hgb,r1,r2,r3,r4⟩
   ·exact absurd (List.eq_nil_of_length_eq_zero (by rw[←hlen];exact hz')) hz
   ·have hgl:gb<w'.heap.size:=(Array.getElem?_eq_some_iff.1 hgb).1
    have hc:cur.size=cap:=by omega
    have hcells:∀r':Ren,∀(i:Nat) (h1:i<((eR es).map encStr).length) (h2:i<cur.size),VR r' ((eR es).map encStr)[i] cur[i]:=by
     intro r' i h1 h2
     have h3:((eR es).map encStr)[i]? = cur[i]?:=by
      rw[←r4,List.getElem?_take,if_pos (by rw[List.length_map,←hlen]at h1;omega),Array.getElem?_toList]
     rw[List.getElem?_eq_getElem h1,Array.getElem?_eq_getElem h2,Option.some.injEq]at h3
     rw[←h3,List.getElem_map]
     exact .string _
    obtain⟨hR',hE⟩:=hR.aJh hJ hD hbel (.cells ((eR es).map encStr) 1 .rw) ⟨gb,cur.size,1,0⟩ hbase hgl
     ⟨rfl,⟨cur,kt,(0,0),hgb,rfl,by rw[List.length_map,←hlen,Nat.add_zero];omega,hcells _,fun _ o _ ho=>by omega,fun _=>rfl⟩,fun _=>Nat.le_trans hR.base hbase,fun _=>rfl⟩
    refine⟨_,rfl,_,_,_,hq,hR',hE,?_⟩
    rw[←hlen]
    exact .slice (b:=hp.next) (o:=0) (t:=⟨gb,cur.size,1,0⟩) (Ren.cX _ _ _) ⟨by omega,fun he=>by omega⟩ (by omega) (by simp;omega)
 ·exact hs.elim
end Go.Abs
namespace Go.Abs
open Go Go.RowKit
def rZ (ks:List IdM) (h:aA):V:=if ks=[] then .slice none 0 0 else .slice (some ⟨h.next,0,none⟩) ks.length (2*ks.length+1)
def rY (ks:List IdM) (h:aA):aA:=if ks=[] then h else h.new (.cells (cB ks) 2 .rw)
def L.wU (ok:FuncId→Prop):Spec:=fun args h K=>match args with
 | [.func (.func g) ff c]=>ff = #[]∧ok g∧∃(b m:Nat) (t:List (Eg IdM)) (clk e:Nat) (_:BK),c = #[ptr b 0]∧h.get b=some (.cells [.map (some m)] e .rw)∧h.get m=some (.map (t.map bM.me) clk)∧t.length≤1000000 ∧
  (t.map (·.b)).Nodup∧(∀e∈t,e.b<clk)∧∀ks:List IdM,ks.Perm (iA t)→K (rZ ks h) (rY ks h)
 | _=>False
theorem aXb {a b:List IdM} (h:(a.map IdM.agg).Perm (b.map IdM.agg)):a.Perm b:=by
 have inv:∀l:List IdM,(l.map IdM.agg).map (fun v=>match v with | .agg cs=>(match cs.toList with | [.int .i64 x,.int .i64 y]=>(⟨x,y⟩:IdM) | _=>default) | _=>default)=l:=by
  intro l
  rw[List.map_map]
  conv=>rhs;rw[←List.map_id l]
  exact List.map_congr_left fun i _=>rfl
 have:=h.map (fun v=>match v with | .agg cs=>(match cs.toList with | [.int .i64 x,.int .i64 y]=>(⟨x,y⟩:IdM) | _=>default) | _=>default)
 rwa [inv,inv]at this
theorem L.aPq {P:Program} {J:World→Prop} (hD:DF J) {f:FuncId} {ok:FuncId→Prop} {et:TypeId} (hcall:∀(args:Array V) (w:World),(callFunc f args).run P w = .ok (.enter f args) w)
 (hrun:∀g,ok g→∀(bm b:Nat) (ces:Array MapEntry) (clk:Nat),(∀e∈ces.toList,e.born<clk)→(ces.toList.map (·.born)).Nodup→(∀e∈ces.toList,∃i:IdM,e.key=i.agg)→ces.size≤maxLen→ces.size*16≤140737488355328 →
  ∀(w:World),bm<w.heap.size→w.cell? ⟨bm,0,none⟩=some (.map (some b))→w.heap[b]? = some (.map ces clk) →
  Calls P f #[.func (.func g) #[] #[.pointer (some ⟨bm,0,none⟩)]] w fun e w'=>∃(v:Value) (ss:List IdM),e = .returned v∧(ss.map IdM.agg).Perm (ces.toList.map (·.key)) ∧
   w'.ownsRow w.heap.size et 2 v ss.length (cB ss)∧(v = .slice none 0 0↔ss=[])∧Below w.heap.size w w'):aD P J f (L.wU ok):=by
 refine aD.yW hcall fun B hJ r hp w args args' Q hs hR ha=>?_
 unfold L.wU at hs
 split at hs
 ·rename_i g ff c
  obtain⟨rfl,hg,b,m,es,clk,e,k,rfl,hb,hm,hn,hnb,hk,hq⟩:=hs
  obtain⟨t,ht,hO⟩:=hR.live b _ hb
  obtain⟨_,⟨cc,el,fr,hcc,hsz,hle,hv,_⟩,_,hsh⟩:=hO
  have hsh:=hsh (by decide)
  obtain⟨tm,htm,hOm⟩:=hR.live m _ hm
  obtain⟨hBm,ces,hces,hcs,hent⟩:=hOm
  have hargs:args' = #[.func (.func g) #[] #[.pointer (some ⟨t.blk,0,none⟩)]]:=by
   have hl:=ha.1
   obtain⟨l⟩:=args'
   match l,hl with
   | [x],_=>
    have h0:=ha.2 0 (by simp) (by simp)
    simp only[List.getElem_cons_zero]at h0
    obtain⟨f',c',rfl,hf,hc,hce⟩:=h0.aKu
    have e1:f' = #[]:=Array.eq_empty_of_size_eq_zero hf.symm
    obtain⟨ys⟩:=c'
    match ys,hc with
    | [y],_=>
     have h1:=hce 0 (by simp) (by simp)
     simp only[List.getElem_toArray,List.getElem_cons_zero]at h1
     rw[e1,h1.aNw ht,hsh]
  subst hargs
  have h0:0<cc.size:=by simp at hle;omega
  have hcell:w.cell? ⟨t.blk,0,none⟩=some (.map (some tm.blk)):=by
   have h1:=hv 0 (by simp) (by omega)
   simp only[List.getElem_cons_zero]at h1
   simp only[World.cell?,hcc]
   simp only[hsh,Nat.add_zero]at h1
   rw[Array.getElem?_eq_getElem h0]
   generalize cc[0]=x at h1
   cases h1 with
   | map h1=>
    rw[htm]at h1
    cases h1
    rfl
  have hcs':ces.size=es.length:=by simpa using hcs
  have hkey:∀(i:Nat) (h:i<es.length) (h':i<ces.size),ces[i].key=es[i].k.agg∧ces[i].born=es[i].b:=by
   intro i h h'
   have h2:=hent i (by simpa using h) h'
   simp only[List.getElem_map]at h2
   exact⟨VR.oE (bM.closed _) h2.1,h2.2.2⟩
  have hkeys:ces.toList.map (·.key)=(iA es).map IdM.agg:=by
   refine List.ext_getElem (by simp[hcs',iA]) fun i h1 h2=>?_
   simp only[List.getElem_map,Array.getElem_toList,iA]
   exact (hkey i (by simpa[iA]using h2) (by simpa using h1)).1
  have hborns:ces.toList.map (·.born)=es.map (·.b):=by
   refine List.ext_getElem (by simp[hcs']) fun i h1 h2=>?_
   simp only[List.getElem_map,Array.getElem_toList]
   exact (hkey i (by simpa using h2) (by simpa using h1)).2
  have hmem:∀x∈ces.toList,(∃i:IdM,x.key=i.agg)∧x.born<clk:=by
   intro x hx
   obtain⟨i,hi,rfl⟩:=List.getElem_of_mem hx
   have h1:i<ces.size:=by simpa using hi
   have h2:i<es.length:=by omega
   simp only[Array.getElem_toList]
   exact⟨⟨_,(hkey i h2 h1).1⟩,by rw[(hkey i h2 h1).2];exact hk _ (List.getElem_mem h2)⟩
  refine (hrun g hg t.blk tm.blk ces clk (fun x hx=>(hmem x hx).2) (by rw[hborns];exact hnb) (fun x hx=>(hmem x hx).1) (by simp only[maxLen];omega) (by omega) w (hR.lt b t ht).1 hcell hces).mono ?_
  rintro e' w' ⟨v,ss,rfl,hperm,hrow,hnil,hbel⟩
  rw[hkeys]at hperm
  have hq:=hq ss (aXb hperm)
  have hlen:ss.length=es.length:=by
   have:=hperm.length_eq
   simpa[iA]using this
  by_cases hz:ss=[]
  ·obtain rfl:=hnil.2 hz
   rw[rZ,rY,if_pos hz,if_pos hz]at hq
   obtain⟨hR',hE⟩:=hR.below hJ hD hbel
   exact⟨_,rfl,r,_,hp,hq,hR',hE,.sliceNil⟩
  ·rw[rZ,rY,if_neg hz,if_neg hz]at hq
   rcases hrow.2 with ⟨rfl,hz'⟩ | ⟨gb,cap,cur,rfl,hbase,hgb,r1,r2,r3,r4⟩
   ·exact absurd (List.eq_nil_of_length_eq_zero hz') hz
   ·have hgl:gb<w'.heap.size:=(Array.getElem?_eq_some_iff.1 hgb).1
    have hfl:=sJ ss
    have hcells:∀r':Ren,∀(i:Nat) (h1:i<(cB ss).length) (h2:i<cur.size),VR r' (cB ss)[i] cur[i]:=by
     intro r' i h1 h2
     have h3:(cB ss)[i]? = cur[i]?:=by
      rw[←r4,List.getElem?_take,if_pos (by omega),Array.getElem?_toList]
     rw[List.getElem?_eq_getElem h1,Array.getElem?_eq_getElem h2,Option.some.injEq]at h3
     rw[←h3]
     exact VR.closed (aTr _ (List.getElem_mem h1))
    obtain⟨hR',hE⟩:=hR.aJh hJ hD hbel (.cells (cB ss) 2 .rw) ⟨gb,cur.size,2,0⟩ hbase hgl
     ⟨rfl,⟨cur,et,(0,0),hgb,rfl,by rw[Nat.add_zero];omega,hcells _,fun _ o _ ho=>by omega,fun _=>rfl⟩,fun _=>Nat.le_trans hR.base hbase,fun _=>rfl⟩
    refine⟨_,rfl,_,_,_,hq,hR',hE,?_⟩
    exact .slice (b:=hp.next) (o:=0) (t:=⟨gb,cur.size,2,0⟩) (Ren.cX _ _ _) ⟨by omega,fun he=>by omega⟩ (by omega) (by simp;omega)
 ·exact hs.elim
end Go.Abs
namespace Go.Abs
open Go
def F.zJ (_:FE):Spec:=L.aE3
def F.wP (_:FE):Spec:=L.aE5
def F.zK (_:FE):Spec:=L.Trim
def F.oW (E:FE):Spec:=L.Sorted fun g=>g=E.k 3∨g=E.k 4∨g=E.k 12
def F.uK (E:FE):Spec:=L.wU fun g=>g=E.k 11∨g=E.k 13∨g=E.k 16
def F.pL (_:FE):Spec:=L.clone
end Go.Abs

/- slices.SortFunc of transactions' names, of whatever length, as a spec. No program in sight. -/
import Derived.Test.YthhegdifbnghpaaGreatDoorQap
import Derived.Shelf.SlSortCmp.NoneTotal
set_option linter.unusedSimpArgs false
set_option linter.unusedVariables false
namespace Go.Abs
open Go
def yP (x y:IdM):Prop:=x.client<y.client∨(x.client=y.client∧x.seq≤y.seq)
def pF (x y:IdM):Prop:=x.client<y.client∨(x.client=y.client∧x.seq<y.seq)
def L.aE6 (g:FuncId):Spec:=fun args h K=>match args with
 | [.slice none 0 0,.func (.func g') ff c]=>ff = #[]∧c = #[]∧g'=g∧K (.tuple #[]) h
 | [.slice (some ⟨b,0,none⟩) n _,.func (.func g') ff c]=>ff = #[]∧c = #[]∧g'=g∧∃(l:List IdM) (all:List V),h.get b=some (.cells all 2 .rw)∧n=l.length∧all.take (n*2)=cB l∧n≤1000000 ∧
  ∀l':List IdM,l'.Perm l→l'.Pairwise yP→K (.tuple #[]) (h.put b (.cells (cB l'++all.drop (n*2)) 2 .rw))
 | _=>False
end Go.Abs
namespace Go.Abs
open Go Go.RowKit Go.Proofs Go.Sort Go.Shelf
def eI (x:IdM):List Value:=[.int .i64 x.client,.int .i64 x.seq]
theorem grown_of {W w':World} (h:Below W.heap.size W w') (hd:W.drawn≤w'.drawn):∃q os',w'=grow (W.drewN q) os':=by
 refine⟨w'.drawn - W.drawn,w'.heap.extract W.heap.size w'.heap.size,?_⟩
 obtain⟨h1,h2,h3,h4,h5⟩:=h
 obtain⟨hp,tp,dr,os,out⟩:=w'
 obtain⟨hp0,tp0,dr0,os0,out0⟩:=W
 simp only at h1 h2 h3 h4 h5 hd
 subst h1 h2 h3
 simp only[grow,World.drewN,World.mk.injEq,true_and,and_true]
 refine⟨?_,by omega⟩
 apply Array.ext_getElem?
 intro k
 rw[Array.getElem?_append]
 by_cases hk:k<hp0.size
 ·rw[if_pos hk];exact h5 k hk
 ·rw[if_neg hk,Array.getElem?_extract]
  by_cases hk2:k<hp.size
  ·rw[if_pos (by omega)]
   congr 1
   omega
  ·rw[Array.getElem?_eq_none (by omega)]
   split
   ·rw[Array.getElem?_eq_none (by omega)]
   ·rfl
theorem aBk:∀(l:List IdM) (j:Nat),j<l.length*2→(cB l)[j]? = some ((eI l.toArray[j / 2]!)[j % 2]!)
 | [],j,h=>by simp at h
 | x::l,0,_=>by simp[cB,eI]
 | x::l,1,_=>by simp[cB,eI]
 | x::l,j+2,h=>by
  have h1:=aBk l j (by simp at h;omega)
  have e1:(j+2) / 2=j / 2+1:=by omega
  have e2:(j+2) % 2=j % 2:=by omega
  rw[e1,e2]
  have e3:(cB (x::l))[j+2]? = (cB l)[j]?:=by simp[cB]
  rw[e3,h1]
  have hlt:j / 2<l.length:=by simp at h;omega
  simp[hlt]
theorem aKo (l:List IdM):flatK eI 2 l.toArray=(cB l).toArray:=by
 apply Array.ext_getElem?
 intro j
 by_cases hj:j<l.length*2
 ·have h1:=get_flatK eI 2 l.toArray j (by simpa using hj)
  have h2:=aBk l j hj
  have hsz:j<(flatK eI 2 l.toArray).size:=by simpa using hj
  rw[getElem!_pos _ j hsz]at h1
  rw[Array.getElem?_eq_getElem hsz,h1,←h2]
  simp
 ·rw[Array.getElem?_eq_none (by simp;omega),Array.getElem?_eq_none (by simp only[List.size_toArray,sJ];omega)]
theorem aYs {cf:IdM→IdM→Int} (hc:∀x y,cf x y<0↔pF x y):SWO (ltOf cf):=by
 have e:∀x y,ltOf cf x y=true↔pF x y:=fun x y=>by unfold ltOf;rw[decide_eq_true_eq];exact hc x y
 have f:∀x y,ltOf cf x y=false↔¬pF x y:=fun x y=>by rw[←e,Bool.not_eq_true]
 refine⟨fun x=>?_,fun x y z=>?_,fun x y z=>?_⟩
 ·rw[f];unfold pF;omega
 ·simp only[e];unfold pF;omega
 ·simp only[f];unfold pF;omega
variable {P:Program} {ρ:Shelf.Ren} {J:World→Prop}
set_option maxHeartbeats 1000000 in
theorem L.aP7 (hD:DF J) (M:SlLaysF0.n6 P ρ) (aE:∀w,(isAgg (ρ.t 24)).run P w = .ok true w) (zE:∀w,(Go.sizeOf (ρ.t 24)).run P w = .ok 2 w) {g:FuncId} {cf:IdM→IdM→Int}
 (eg:∀args w,(callFunc g args).run P w = .ok (.enter g args) w) (hc:∀x y,cf x y<0↔pF x y)
 (hcmp:∀(W:World) (x y:IdM),Calls P g #[x.agg,y.agg] W fun e w'=>e = .returned (.int .i64 (cf x y))∧Below W.heap.size W w'∧W.drawn≤w'.drawn)
 (hcall:∀(args:Array V) (w:World),(callFunc (ρ.f 6) args).run P w = .ok (.enter (ρ.f 6) args) w):aD P J (ρ.f 6) (L.aE6 g):=by
 refine aD.yW hcall fun B hJ r hp w args args' Q hs hR ha=>?_
 unfold L.aE6 at hs
 split at hs
 ·rename_i g' ff c
  obtain⟨rfl,rfl,rfl,hq⟩:=hs
  rw[ha.closed (by simp[bS])]
  refine (AnyF.slices_SortFunc_none M none 0 _ w).mono ?_
  rintro e w' ⟨rfl,rfl⟩
  exact⟨_,rfl,r,_,hp,hq,hR,Ext.refl _ _ _,.tuple rfl fun i h=>by simp at h⟩
 ·rename_i b n cc g' ff c
  obtain⟨rfl,rfl,rfl,l,all,hb,rfl,htk,hn,hq⟩:=hs
  obtain⟨t,ht,hO⟩:=hR.live b _ hb
  obtain⟨hes,⟨cs,el,fr,hcs,hsz,hle,hv,hfr,hfr2⟩,hB,hsh⟩:=hO
  have hsh:=hsh (by decide)
  have hfr:=hfr (by decide)
  have hargs:∃c',args' = #[.slice (some ⟨t.blk,0,none⟩) l.length c',.func (.func g') #[] #[]]:=by
   have hl:=ha.1
   obtain⟨zs⟩:=args'
   match zs,hl with
   | [x,y],_=>
    have h0:=ha.2 0 (by simp) (by simp)
    have h1:=ha.2 1 (by simp) (by simp)
    simp only[List.getElem_cons_zero,List.getElem_cons_succ]at h0 h1
    have e1:=VR.oE (by simp[bS]) h1
    subst e1
    cases h0 with
    | slice h _ _ _=>
     rw[ht]at h
     cases h
     exact⟨_,by rw[hsh]⟩
  obtain⟨c',rfl⟩:=hargs
  have hlen:l.length*2≤all.length:=by
   have:=congrArg List.length htk
   rw[List.length_take,sJ]at this
   omega
  have hlt:t.blk<w.heap.size:=(hR.lt b t ht).1
  have hget:∀j,j<l.length*2→cs[j]? = (cB l)[j]?:=by
   intro j hj
   have hj1:j<all.length:=by omega
   have hj2:j<cs.size:=by omega
   have h1:=hv j hj1 (by rw[hsh];exact hj2)
   simp only[hsh,Nat.add_zero]at h1
   have h2:(cB l)[j]? = some all[j]:=by rw[←htk,List.getElem?_take,if_pos hj,List.getElem?_eq_getElem hj1]
   have h3:=aBk l j hj
   rw[h2,Option.some.injEq]at h3
   have hcl:bS all[j]=true:=by
    rw[h3]
    have:j % 2=0∨j % 2=1:=by omega
    rcases this with e | e<;>rw[e]<;>rfl
   rw[h2,Array.getElem?_eq_getElem hj2,VR.oE hcl h1]
  have hH:HoldsK eI 2 w t.blk 0 l.toArray:=by
   intro j hj
   have hj:j<l.length*2:=by simpa using hj
   rw[Nat.zero_add,qY hcs,aGf hcs,hget j hj,aKo]
   have hjf:j<(cB l).length:=by rw[sJ];exact hj
   refine⟨by simp[hjf],?_⟩
   have:=hfr j (by omega)
   rw[←Bool.not_eq_true,Bool.and_eq_true,decide_eq_true_eq,decide_eq_true_eq]
   exact this
  have hL:CmpLays P g' #[] eI 2 cf t.blk 0 l.toArray.size w:=fun m os dk _ x y=>
   (hcmp _ x y).mono fun e w' ⟨h1,h2,h3⟩=>⟨h1,grown_of h2 h3⟩
  refine (AnyQ.slices_SortFunc M 2 aE zE eI (fun _=>rfl) (fun x v hv=>by simp[eI]at hv;rcases hv with rfl | rfl<;>rfl) cf (aYs hc) g' #[] t.blk 0 c' l.toArray w eg hL hH hlt (by simp;omega)).mono ?_
  rintro e w' ⟨rfl,d',m,os,⟨hs1,_,hs2⟩,hs3,rfl⟩
  have hs1:d'.size=l.length:=by simpa using hs1
  have hx:d'.toList.Perm l:=by
   have e1:(d'.extract 0 l.toArray.size)=d':=by
    rw[show l.toArray.size=d'.size by simp[hs1]];simp
   have e2:(l.toArray.extract 0 l.toArray.size)=l.toArray:=by simp
   rw[e1,e2]at hs2
   exact hs2
  have hpw:d'.toList.Pairwise yP:=by
   rw[List.pairwise_iff_getElem]
   intro i j hi hj hij
   have h1:=hs3 i j (Nat.zero_le _) hij (by simpa[hs1]using hj)
   simp only[Array.length_toList]at hi hj
   rw[getElem!_pos d' i hi,getElem!_pos d' j hj]at h1
   have h2:¬pF d'[j] d'[i]:=by
    rw[←hc]
    simpa[ltOf]using h1
   simp only[Array.getElem_toList]
   unfold pF at h2
   unfold yP
   omega
  have hq:=hq d'.toList hx hpw
  have hd':d'=d'.toList.toArray:=by simp
  generalize d'.toList=l' at hx hpw hq hd'
  subst hd'
  have hl':l'.length=l.length:=hx.length_eq
  have hfl':=sJ l'
  have hpc:∀k,(putCells id 0 (flatK eI 2 l'.toArray) cs)[k]? = if k<l.length*2 then (cB l')[k]? else cs[k]?:=by
   intro k
   rw[aKo]
   simp only[putCells,Array.getElem?_mapIdx,List.size_toArray,Nat.zero_add,Nat.zero_le,true_and,Nat.sub_zero,id_eq]
   by_cases hk:k<l.length*2
   ·have hk2:k<cs.size:=by omega
    have hk3:k<(cB l').length:=by omega
    rw[if_pos hk,Array.getElem?_eq_getElem hk2,Option.map_some,if_pos hk3,List.getElem?_eq_getElem hk3]
    simp[hk3]
   ·rw[if_neg hk]
    by_cases hk2:k<cs.size
    ·rw[Array.getElem?_eq_getElem hk2,Option.map_some,if_neg (by omega)]
    ·rw[Array.getElem?_eq_none (by omega),Option.map_none]
  have hT:iJ w (putRowK eI 2 w t.blk 0 l'.toArray) t.blk (.cells (putCells id 0 (flatK eI 2 l'.toArray) cs) el fr):=by
   refine⟨rfl,rfl,rfl,by simp[putRowK,putRow,mapBlock],?_,fun j hj=>?_,rfl⟩
   ·simp[putRowK,putRow,mapBlock,Array.getElem?_modify,hcs,onCells]
   ·simp[putRowK,putRow,mapBlock,Array.getElem?_modify,Ne.symm hj]
  have hsz2:(putCells id 0 (flatK eI 2 l'.toArray) cs).size=cs.size:=by simp[putCells]
  have hO2:∀(i:Nat) (h1:i<(cB l'++all.drop (l.length*2)).length) (h2:i+t.sh<(putCells id 0 (flatK eI 2 l'.toArray) cs).size),VR r (cB l'++all.drop (l.length*2))[i] (putCells id 0 (flatK eI 2 l'.toArray) cs)[i+t.sh]:=by
   intro i h1 h2
   rw[hsz2]at h2
   rw[hsh]at h2
   have hi2:i<cs.size:=by omega
   have h2':(putCells id 0 (flatK eI 2 l'.toArray) cs)[i+t.sh]? = some (putCells id 0 (flatK eI 2 l'.toArray) cs)[i+t.sh]:=Array.getElem?_eq_getElem (by rw[hsz2,hsh];exact h2)
   have h1':(cB l'++all.drop (l.length*2))[i]? = some (cB l'++all.drop (l.length*2))[i]:=List.getElem?_eq_getElem h1
   generalize (putCells id 0 (flatK eI 2 l'.toArray) cs)[i+t.sh]=x at h2'
   generalize (cB l'++all.drop (l.length*2))[i]=y at h1'
   rw[hsh,Nat.add_zero,hpc]at h2'
   by_cases hi:i<l.length*2
   ·rw[if_pos hi]at h2'
    rw[List.getElem?_append_left (by omega),h2',Option.some.injEq]at h1'
    subst h1'
    rw[aBk l' i (by omega),Option.some.injEq]at h2'
    subst h2'
    have:i % 2=0∨i % 2=1:=by omega
    rcases this with e | e<;>rw[e]<;>exact .int _ _
   ·rw[if_neg hi]at h2'
    rw[List.getElem?_append_right (by omega),hfl',List.getElem?_drop,show l.length*2+(i - l'.length*2)=i by omega]at h1'
    obtain⟨hy,rfl⟩:=List.getElem?_eq_some_iff.1 h1'
    obtain⟨hx2,rfl⟩:=Array.getElem?_eq_some_iff.1 h2'
    have:=hv i hy (by omega)
    simpa only[hsh,Nat.add_zero]using this
  obtain⟨hR1,hE1⟩:=hR.wT hJ hb (o2:=.cells (cB l'++all.drop (l.length*2)) 2 .rw) (fun _ _=>by simp) ht hT
   ⟨hes,⟨_,el,fr,hT.here,by rw[hsz2];exact hsz,by rw[hsz2];simp only[List.length_append,List.length_drop];omega,hO2,fun _=>by rw[hsz2];exact hfr,hfr2⟩,hB,fun _=>hsh⟩ (fun _ _=>by simp)
  have hbel:Below (putRowK eI 2 w t.blk 0 l'.toArray).heap.size (putRowK eI 2 w t.blk 0 l'.toArray) (sortWorldK eI 2 w t.blk 0 m l'.toArray os):=by
   refine⟨rfl,rfl,rfl,?_,fun k hk=>?_⟩
   ·show _≤((putRowK eI 2 w t.blk 0 l'.toArray).heap++os).size
    simp
   ·exact Sort.heap_grow_old (putRowK eI 2 (Sort.ahead w m) t.blk 0 l'.toArray) os hk
  obtain⟨hR2,hE2⟩:=hR1.below hJ hD hbel
  exact⟨_,rfl,r,_,_,hq,hR2,hE1.trans hE2,.tuple rfl fun i h=>by simp at h⟩
 ·exact hs.elim
end Go.Abs

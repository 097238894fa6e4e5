/- Our own abstract machine, part 7: operations that do not touch the heap (but for reading): they speak truly of the model. -/
import Derived.Test.YthhegdifbnghpaaGreatDoorQaa
set_option linter.unusedSimpArgs false
set_option linter.unusedVariables false
namespace Go.Abs
open Go Go.RowKit
section
variable {P:Program} {J:World→Prop} {B:Nat} {r:Ren} {h:aA} {w:World}
theorem zX {place:Nat→Option (Nat×Nat)}:∀(ps:List (Nat×V)) (ps':List (Nat×V)) (z:List V) (z':Array V) (l:List V),
 ps.length=ps'.length→(∀(i:Nat) (h:i<ps.length) (h':i<ps'.length),ps[i].1=ps'[i].1∧VR r ps[i].2 ps'[i].2) →
 VRl r z z'.toList→eP place z ps=some l→∃l',Instr.fill place z' ps'=some l'∧VRl r l l'.toList
 | [],[],z,z',l,_,_,hz,hf=>by simp[eP]at hf;subst hf;exact⟨z',rfl,hz⟩
 | [],_::_,_,_,_,h,_,_,_=>by simp at h
 | _::_,[],_,_,_,h,_,_,_=>by simp at h
 | (i,v)::ps,(i',v')::ps',z,z',l,hl,hp,hz,hf=>by
  obtain⟨e,hv⟩:=hp 0 (by simp) (by simp)
  simp only[List.getElem_cons_zero]at e hv
  subst e
  simp only[eP]at hf
  split at hf
  ·rename_i off size vs hpl hcs
   split at hf
   ·rename_i hcond
    have hvl:=hv.cells hcs
    have hlen:=hvl.1
    have hzl:=hz.1
    simp only[Array.length_toList]at hlen hzl
    simp only[Instr.fill,hpl]
    rw[if_neg (by simp only[ne_eq,Bool.or_eq_true,decide_eq_true_eq,not_or,Nat.not_lt];omega)]
    have hset:∀(xs:List V) (cs:Array V) (j:Nat),((xs.zipIdx j).foldl (fun cs (c,j)=>cs.setIfInBounds (off+j) c) cs)=mY cs (off+j) xs:=by
     intro xs
     induction xs with
     | nil=>intro cs j;rfl
     | cons x xs ih=>intro cs j;simp only[List.zipIdx_cons,List.foldl_cons,mY];rw[ih];rfl
    have hz2:(v'.cells.zipIdx.foldl (fun cs (c,j)=>cs.setIfInBounds (off+j) c) z')=mY z' off v'.cells.toList:=by
     rw[←Array.foldl_toList,Array.toList_zipIdx]
     exact hset _ _ 0
    rw[hz2]
    refine zX ps ps' _ _ l (by simpa using hl) (fun j a b=>hp (j+1) (by simpa using a) (by simpa using b)) ?_ hf
    refine⟨by simp[sY,qR,hzl],fun j a b=>?_⟩
    have:=aE7 0 vs v'.cells.toList z z' off off rfl hvl (fun i a b=>by have:=hz.2 i a (by simpa using b);simpa using this) j a (by simpa using b)
    simpa using this
   ·cases hf
  ·cases hf
theorem aVw {fs:Array Field} (hok:aBh P fs=true) :
 ∃places:Array (Nat×Nat),(fs.mapM (m:=Sem) fun f=>do pure (f.offset,←sizeOf f.type)).run P w = .ok places w∧∀i,places[i]? = uL P fs i:=by
 have key:∀(l:List Field) (acc:Array (Nat×Nat)),(∀f∈l,(szT P f.type).isSome) →
  ∃ps:List (Nat×Nat),(l.foldlM (m:=Sem) (fun (acc:Array (Nat×Nat)) (f:Field)=>do pure (acc.push (f.offset,←sizeOf f.type))) acc).run P w = .ok (acc++ps.toArray) w ∧
   ps.length=l.length∧∀(i:Nat),ps[i]? = (l[i]?).bind fun (f:Field)=>(szT P f.type).map fun n=>(f.offset,n):=by
  intro l
  induction l with
  | nil=>intro acc _;exact⟨[],by simp,rfl,fun i=>by simp⟩
  | cons f l ih=>
   intro acc hl
   have hf:=hl f (List.mem_cons_self ..)
   obtain⟨n,hn⟩:=Option.isSome_iff_exists.1 hf
   obtain⟨ps,h1,h2,h3⟩:=ih (acc.push (f.offset,n)) (fun g hg=>hl g (List.mem_cons_of_mem _ hg))
   refine⟨(f.offset,n)::ps,?_,by simp[h2],fun i=>?_⟩
   ·simp only[List.foldlM_cons,Sem.run_bind,run_sizeOf hn,Result.andThen_ok,Sem.run_pure]
    rw[h1]
    congr 1
    apply Array.ext'
    simp
   ·cases i with
    | zero=>simp[hn]
    | succ i=>simpa using h3 i
 obtain⟨ps,h1,h2,h3⟩:=key fs.toList #[] (fun f hf=>by
  have:=Array.all_eq_true.1 hok
  obtain⟨i,hi,rfl⟩:=List.getElem_of_mem hf
  have:=this i (by simpa using hi)
  simpa using this)
 refine⟨ps.toArray,?_,fun i=>?_⟩
 ·rw[Array.mapM_eq_foldlM,←Array.foldlM_toList]
  have:(fun (bs:Array (Nat×Nat)) (a:Field)=>bs.push <$> (do pure (a.offset,←sizeOf a.type):Sem (Nat×Nat)))=(fun (acc:Array (Nat×Nat)) (f:Field)=>do pure (acc.push (f.offset,←sizeOf f.type))):=by
   funext acc f
   simp
  rw[this,h1]
  simp
 ·simp only[uL]
  have:=h3 i
  simp only[List.getElem?_toArray,this]
  simp only[Array.getElem?_toList]
  cases fs[i]?<;>rfl
theorem aRn {t:TypeId} {ps ps':List (Nat×V)} {v:V} (hl:ps.length=ps'.length) (hp:∀(i:Nat) (h:i<ps.length) (h':i<ps'.length),ps[i].1=ps'[i].1∧VR r ps[i].2 ps'[i].2)
 (hb:wY P t ps=some v):∃v',(Instr.build t ps'.toArray).run P w = .ok v' w∧VR r v v':=by
 unfold wY at hb
 split at hb
 ·rename_i z hz
  cases hz0:zeroOf P t with
  | none=>simp[hz0]at hz
  | some zv=>
   simp only[hz0,Option.bind_some]at hz
   obtain⟨hzr,hzc⟩:=wN (w:=w) hz0
   have hzl:=(VR.closed (r:=r) hzc).cells hz
   simp only[Instr.build,Sem.run_bind,hzr,Result.andThen_ok]
   split at hb
   ·rename_i fs hu
    split at hb
    ·rename_i hok
     simp only[bN hu,Result.andThen_ok]
     obtain⟨places,h1,h2⟩:=aVw (P:=P) (w:=w) hok
     have e:(fun x=>places[x]?)=uL P fs:=funext h2
     cases hf:eP (uL P fs) z ps with
     | none=>simp[hf]at hb
     | some l=>
      simp only[hf,Option.map_some,Option.some.injEq]at hb
      subst hb
      obtain⟨l',h3,h4⟩:=zX ps ps' z zv.cells l hl hp hzl hf
      simp only[Sem.run_bind,h1,Result.andThen_ok]
      rw[e,h3]
      exact⟨.agg l',rfl,by have:=h4.agg;simpa using this⟩
    ·cases hb
   ·rename_i n e hu
    split at hb
    ·rename_i sz hsz
     simp only[bN hu,Result.andThen_ok]
     cases hf:eP (fun i=>some (i*sz,sz)) z ps with
     | none=>simp[hf]at hb
     | some l=>
      simp only[hf,Option.map_some,Option.some.injEq]at hb
      subst hb
      obtain⟨l',h3,h4⟩:=zX ps ps' z zv.cells l hl hp hzl hf
      simp only[Sem.run_bind,run_sizeOf hsz,Result.andThen_ok]
      rw[h3]
      exact⟨.agg l',rfl,by have:=h4.agg;simpa using this⟩
    ·cases hb
   ·cases hb
 ·cases hb
theorem aUl {op:BinOp} {k:IntKind} {a b:Int} {v:V} (hv:eX op k a b=some v):(binOp op 0 (.int k a) (.int k b)).run P w = .ok v w∨op = .shl∨op = .shr:=by
 cases op<;>simp only[eX,Option.some.injEq,reduceCtorEq]at hv<;>first | exact .inr (.inl rfl) | exact .inr (.inr rfl) | skip
 all_goals left
 case quo=>split at hv<;>simp at hv;subst hv;rename_i hb;simp[binOp,Op.intDiv,hb]
 case rem=>split at hv<;>simp at hv;subst hv;rename_i hb;simp[binOp,Op.intDiv,hb]
 all_goals subst hv;simp[binOp,Op.intArith,Op.intBits,Op.intCmp]
theorem aNr {t:TypeId} {cs cs':Array V} {off:Nat} {v:V} (hc:VRa r cs cs') (hp:uV P t cs off=some v):∃v',(part t cs' off).run P w = .ok v' w∧VR r v v':=by
 unfold uV at hp
 split at hp
 ·rename_i n hag hsz
  simp only[Option.some.injEq]at hp
  subst hp
  simp only[part,Sem.run_bind,zG hag,Result.andThen_ok,if_true,run_sizeOf hsz]
  refine⟨_,rfl,.agg (by simp[hc.1]) fun i a b=>?_⟩
  simp only[Array.getElem_extract]
  exact hc.2 _ _ _
 ·rename_i hag
  simp only[part,Sem.run_bind,zG hag,Result.andThen_ok]
  obtain⟨hlt,rfl⟩:=Array.getElem?_eq_some_iff.1 hp
  have hlt':off<cs'.size:=hc.1▸hlt
  refine⟨cs'[off],?_,hc.2 off hlt hlt'⟩
  simp[Array.getElem?_eq_getElem hlt']
 ·cases hp
theorem aTp {t:TypeId} {x x' v:V} {i:Nat} (hx:VR r x x') (hf:xE P t x i=some v):∃v',(Instr.field t x' i).run P w = .ok v' w∧VR r v v':=by
 unfold xE at hf
 split at hf
 ·rename_i fs cs hu
  cases hx with
  | @agg _ cs' hs he=>
  split at hf
  ·rename_i f hfi
   obtain⟨v',h1,h2⟩:=aNr (P:=P) (w:=w) ⟨hs,he⟩ hf
   refine⟨v',?_,h2⟩
   simp only[Instr.field,Sem.run_bind,bN hu,Result.andThen_ok,hfi,asAgg,Sem.run_pure]
   exact h1
  ·cases hf
 ·cases hf
theorem aTo {t:TypeId} {x x' v:V} {i:Nat} (hx:VR r x x') (hf:aE8 P t x i=some v):∃v',(Instr.fieldAt t x' i).run P w = .ok v' w∧VR r v v':=by
 unfold aE8 at hf
 split at hf
 ·rename_i b o off ho
  cases hx with
  | @ptr _ _ tg htg=>
  simp only[Option.some.injEq]at hf
  subst hf
  unfold aBg at ho
  split at ho
  ·rename_i fs hu
   split at ho
   ·rename_i f hfi
    split at ho
    ·rename_i n hsz
     simp only[Option.some.injEq]at ho
     subst ho
     refine⟨_,?_,.ptr (o:=o+f.offset) htg⟩
     simp only[Instr.fieldAt,Sem.run_bind,bN hu,Result.andThen_ok,hfi,Instr.sureAddr,Sem.run_pure,fieldPlace,run_sizeOf hsz,Nat.add_one_ne_zero,if_false,addr_add,show o+tg.sh+f.offset=o+f.offset+tg.sh by omega]
    ·cases ho
   ·cases ho
  ·cases ho
 ·cases hf
theorem aUe {t:TypeId} {x x' i i' v:V} (hx:VR r x x') (hi:VR r i i') (hf:xG P t x i=some v):∃v',(Instr.indexAt t x' i').run P w = .ok v' w∧VR r v v':=by
 unfold xG at hf
 split at hf
 ·rename_i e b o n c k i hu
  cases hx with
  | @slice _ _ _ _ c' tg htg hc hn hs=>
  cases hi
  split at hf
  ·rename_i size hsz
   split at hf
   ·rename_i hlt
    simp only[Option.some.injEq]at hf
    subst hf
    refine⟨_,?_,.ptr htg⟩
    simp[Instr.indexAt,asIntOf,bN hu,hlt,run_sizeOf hsz,addr_add]
    omega
   ·cases hf
  ·cases hf
 ·rename_i n e b o k i hu
  cases hx with
  | @ptr _ _ tg htg=>
  cases hi
  split at hf
  ·rename_i size hsz
   split at hf
   ·rename_i hlt
    simp only[Option.some.injEq]at hf
    subst hf
    refine⟨_,?_,.ptr htg⟩
    simp[Instr.indexAt,Instr.sureAddr,asIntOf,bN hu,hlt,run_sizeOf hsz,addr_add]
    omega
   ·cases hf
  ·cases hf
 ·cases hf
theorem aUg {t:TypeId} {x x' i i' v:V} (hx:VR r x x') (hi:VR r i i') (hf:xF P t x i=some v):∃v',(Instr.index t x' i').run P w = .ok v' w∧VR r v v':=by
 unfold xF at hf
 split at hf
 ·rename_i n e cs k i hu
  cases hx with
  | @agg _ cs' hs he=>
  cases hi
  split at hf
  ·rename_i size hsz
   split at hf
   ·rename_i hlt
    obtain⟨v',h1,h2⟩:=aNr (P:=P) (w:=w) ⟨hs,he⟩ hf
    refine⟨v',?_,h2⟩
    simp[Instr.index,asIntOf,bN hu,hlt,run_sizeOf hsz]
    exact h1
   ·cases hf
  ·cases hf
 ·rename_i s k i hu
  cases hx
  cases hi
  split at hf
  ·rename_i b hb
   simp only[Option.some.injEq]at hf
   subst hf
   refine⟨_,?_,.int _ _⟩
   simp only[Instr.index,asIntOf,Sem.run_bind,Sem.run_pure,Result.andThen_ok,bN hu]
   rw[hb]
   rfl
  ·cases hf
 ·cases hf
theorem aZh {op:UnOp} {x x' v:V} (hx:VR r x x') (hv:aUn op x=some v):(Op.unary op x').run P w = .ok v w∧VR r v v:=by
 unfold aUn at hv
 split at hv
 ·cases hx
  simp only[eX,Option.some.injEq]at hv
  subst hv
  exact⟨by simp[Op.unary,Op.intArith],.int _ _⟩
 ·cases hx
  simp only[eX,Option.some.injEq]at hv
  subst hv
  exact⟨by simp[Op.unary,Op.intBits],.int _ _⟩
 ·cases hx
  simp only[Option.some.injEq]at hv
  subst hv
  exact⟨by simp[Op.unary],.bool _⟩
 ·cases hv
theorem vB {x x':V} {y n:Nat} {code:BoundsCode} (hx:VR r x x') (hb:dL x y=some n) {y':Nat} (hy:y≤y') :
 (Instr.sliceBound x' y' code).run P w = .ok n w∧n≤y:=by
 unfold dL at hb
 split at hb
 ·cases hx
  split at hb
  ·rename_i hc
   simp only[Option.some.injEq]at hb
   subst hb
   refine⟨?_,by omega⟩
   have h2:(0:Int)≤‹Int›∧‹Int›≤(y':Int):=by omega
   simp[Instr.sliceBound,asIntOf,h2]
  ·cases hb
 ·cases hb
inductive VRo (r:Ren):Option V→Option V→Prop
 | none:VRo r none none
 | some {a a':V} (h:VR r a a'):VRo r (some a) (some a')
theorem aDq {isSlice:Bool} {len cap l u:Nat} {lo lo' hi hi':Option V} (hlo:VRo r lo lo') (hhi:VRo r hi hi') {cap0:Nat} (hcap:cap0≤cap) (hlen:len≤cap0)
 (h1:cD hi cap0 len=some u) (h2:cD lo u 0=some l) :
 (Instr.sliceBounds isSlice len cap lo' hi' none).run P w = .ok (l,u,cap) w∧u≤cap0∧l≤u:=by
 unfold Instr.sliceBounds
 cases hlo with
 | none=>
  simp only[cD,Option.some.injEq]at h2
  cases hhi with
  | none=>simp only[cD,Option.some.injEq]at h1;subst h1 h2;exact⟨by simp,hlen,Nat.zero_le _⟩
  | some hh=>obtain⟨b1,b2⟩:=vB (P:=P) (w:=w) (code:=if isSlice=true then .sliceAcap else .sliceAlen) hh h1 hcap;subst h2;exact⟨by simp[b1],b2,Nat.zero_le _⟩
 | some hl=>
  obtain⟨c1,c2⟩:=vB (P:=P) (w:=w) (code:=.sliceB) hl h2 (Nat.le_refl u)
  cases hhi with
  | none=>simp only[cD,Option.some.injEq]at h1;subst h1;exact⟨by simp[c1],hlen,c2⟩
  | some hh=>obtain⟨b1,b2⟩:=vB (P:=P) (w:=w) (code:=if isSlice=true then .sliceAcap else .sliceAlen) hh h1 hcap;exact⟨by simp[b1,c1],b2,c2⟩
theorem aOm {isSlice:Bool} {len cap l u m:Nat} {lo lo':Option V} {hi hi' mx mx':V} (hlo:VRo r lo lo') (hhi:VR r hi hi') (hmx:VR r mx mx') {cap0:Nat} (hcap:cap0≤cap)
 (h0:dL mx cap0=some m) (h1:dL hi m=some u) (h2:cD lo u 0=some l) :
 (Instr.sliceBounds isSlice len cap lo' (some hi') (some mx')).run P w = .ok (l,u,m) w∧m≤cap0∧u≤m∧l≤u:=by
 obtain⟨a1,a2⟩:=vB (P:=P) (w:=w) (code:=if isSlice then .slice3Acap else .slice3Alen) hmx h0 hcap
 obtain⟨b1,b2⟩:=vB (P:=P) (w:=w) (code:=.slice3B) hhi h1 (Nat.le_refl m)
 unfold Instr.sliceBounds
 cases hlo with
 | none=>simp only[cD,Option.some.injEq]at h2;subst h2;exact⟨by simp[a1,b1],a2,b2,Nat.zero_le _⟩
 | some hl=>
  obtain⟨c1,c2⟩:=vB (P:=P) (w:=w) (code:=.slice3C) hl h2 (Nat.le_refl u)
  exact⟨by simp[a1,b1,c1],a2,b2,c2⟩
theorem aFm {x:V} {n:Nat} (h:dL x 0=some n):n=0:=by
 unfold dL at h
 split at h
 ·split at h
  ·simp at h;omega
  ·cases h
 ·cases h
theorem xR {x:Option V} {n:Nat} (h:cD x 0 0=some n):n=0:=by
 cases x with
 | none=>simpa[cD]using h.symm
 | some x=>exact aFm h
theorem aX4 (hR:R J B r h w) {t:TypeId} {x x' v:V} {lo lo' hi hi' mx mx':Option V} (hx:VR r x x') (hlo:VRo r lo lo') (hhi:VRo r hi hi') (hmx:VRo r mx mx')
 (hf:xM P t x lo hi mx h=some v):∃v',(Instr.sliceAt t x' lo' hi' mx').run P w = .ok v' w∧VR r v v':=by
 unfold xM at hf
 split at hf
 ·rename_i s hu
  cases hx
  split at hf
  ·rename_i u hu1
   cases hl:cD lo u 0 with
   | none=>simp[hl]at hf
   | some l=>
    simp only[hl,Option.map_some,Option.some.injEq]at hf
    subst hf
    cases hmx
    refine⟨_,?_,.string _⟩
    simp only[Instr.sliceAt,Sem.run_bind,bN hu,Result.andThen_ok,Instr.slice,Option.isSome_none,Bool.false_eq_true,if_false]
    have:=(aDq (P:=P) (w:=w) (isSlice:=false) (r:=r) hlo hhi (Nat.le_refl _) (Nat.le_refl _) hu1 hl).1
    simp only[Sem.run_bind,this,Result.andThen_ok,Sem.run_pure]
  ·cases hf
 ·rename_i e hu
  cases hx
  split at hf
  ·rename_i size hi0 hsz
   cases hmx
   split at hf
   ·rename_i u l hu1 hl
    simp only[Option.some.injEq]at hf
    subst hf
    have eu:=xR hu1
    subst eu
    have el:=xR hl
    subst el
    refine⟨.slice none 0 0,?_,.sliceNil⟩
    have:=(aDq (P:=P) (w:=w) (isSlice:=true) (r:=r) (len:=0) (cap:=0) hlo hhi (Nat.le_refl _) (Nat.le_refl _) hu1 hl).1
    simp only[Instr.sliceAt,Sem.run_bind,bN hu,Result.andThen_ok,Instr.slice,this,run_sizeOf hsz,Sem.run_pure,if_true,Nat.sub_self]
   ·cases hf
  ·rename_i size mv uv hsz
   cases hmx with
   | some hm=>
   cases hhi with
   | some hh=>
   split at hf
   ·rename_i m u l hm1 hu1 hl
    simp only[Option.some.injEq]at hf
    subst hf
    have em:=aFm hm1
    subst em
    have eu:=aFm hu1
    subst eu
    have el:=xR hl
    subst el
    refine⟨.slice none 0 0,?_,.sliceNil⟩
    have:=(aOm (P:=P) (w:=w) (isSlice:=true) (r:=r) (len:=0) (cap:=0) hlo hh hm (Nat.le_refl _) hm1 hu1 hl).1
    simp only[Instr.sliceAt,Sem.run_bind,bN hu,Result.andThen_ok,Instr.slice,this,run_sizeOf hsz,Sem.run_pure,if_true,Nat.sub_self]
   ·cases hf
  ·cases hf
 ·rename_i e hu
  split at hf
  ·rename_i size u l hsz hu1 hl
   simp only[Option.some.injEq]at hf
   subst hf
   cases hmx
   have eu:=xR hu1
   subst eu
   have el:=xR hl
   subst el
   cases hx with
   | sliceGone a c=>
   have hrun:=(aDq (P:=P) (w:=w) (isSlice:=true) (r:=r) (len:=0) (cap:=c) hlo hhi (Nat.zero_le _) (Nat.le_refl _) hu1 hl).1
   obtain⟨a',ha⟩:∃a',(Instr.sliceAt t (Value.slice a 0 c) lo' hi' none).run P w=Result.ok (Value.slice a' (0 - 0) (c - 0)) w:=
    ⟨_,by
     simp only[Instr.sliceAt,Sem.run_bind,bN hu,Result.andThen_ok,Instr.slice,hrun,run_sizeOf hsz,Sem.run_pure]
     rfl⟩
   exact⟨_,ha,.sliceGone _ _⟩
  ·cases hf
 ·rename_i e b o n c hu
  cases hx with
  | @slice _ _ _ _ c' tg htg hc hn hs=>
  split at hf
  ·rename_i size c0 esz k hsz hb
   split at hf
   ·rename_i hse
    subst hse
    obtain⟨t',cc,el,fr,ht',hesz,_⟩:=hR.row hb
    rw[htg]at ht';cases ht'
    subst hesz
    cases hmx with
    | none=>
     simp only at hf
     split at hf
     ·rename_i u hu1
      split at hf
      ·rename_i l hl
       obtain⟨hrun,hu2,hl2⟩:=aDq (P:=P) (w:=w) (isSlice:=true) (r:=r) hlo hhi hc.1 hn hu1 hl
       split at hf
       ·rename_i h0
        subst h0
        simp only[Option.some.injEq]at hf
        subst hf
        refine⟨.slice (some ⟨tg.blk,o+tg.sh,none⟩) u c',?_,.slice htg hc hu2 hs⟩
        simp only[Instr.sliceAt,Sem.run_bind,bN hu,Result.andThen_ok,Instr.slice,hrun,run_sizeOf hsz,Nat.zero_mul,Option.map_some,Nat.sub_zero,Sem.run_pure]
        congr 2
        split<;>rfl
       ·rename_i h0
        split at hf
        ·rename_i hlt
         simp only[Option.some.injEq]at hf
         subst hf
         have hc1:=hc.1
         refine⟨.slice (some ⟨tg.blk,o+l*tg.esz+tg.sh,none⟩) (u - l) (c' - l),?_,.slice htg ⟨by omega,fun he=>?_⟩ (by omega) ?_⟩
         ·simp only[Instr.sliceAt,Sem.run_bind,bN hu,Result.andThen_ok,Instr.slice,hrun,run_sizeOf hsz,Option.map_some,Sem.run_pure]
          rw[if_neg (by omega),addr_add,show o+tg.sh+l*tg.esz=o+l*tg.esz+tg.sh by omega]
         ·have:=hc.2 (by omega);omega
         ·have e1:l*tg.esz+(c' - l)*tg.esz=c'*tg.esz:=by rw[←Nat.add_mul,show l+(c' - l)=c' from by omega]
          omega
        ·split at hf
         ·rename_i hge he
          simp only[Option.some.injEq]at hf
          subst hf
          have hce:=hc.2 he
          have:l=c':=by omega
          subst this
          refine⟨.slice (some ⟨tg.blk,o+tg.sh,none⟩) (u - l) (l - l),?_,.slice htg ⟨by omega,fun _=>by omega⟩ (by omega) (by simp;omega)⟩
          simp only[Instr.sliceAt,Sem.run_bind,bN hu,Result.andThen_ok,Instr.slice,hrun,run_sizeOf hsz,Sem.run_pure,if_true]
         ·simp only[Option.some.injEq]at hf
          subst hf
          have hul:u - l=0:=by omega
          obtain⟨a,ha⟩:∃a,(Instr.sliceAt t (Value.slice (some { block:=tg.blk,off:=o+tg.sh }) n c') lo' hi' none).run P w=Result.ok (Value.slice a (u - l) (c' - l)) w:=
           ⟨_,by
            simp only[Instr.sliceAt,Sem.run_bind,bN hu,Result.andThen_ok,Instr.slice,hrun,run_sizeOf hsz,Sem.run_pure]
            rfl⟩
          exact⟨_,ha,by rw[hul];exact .sliceGone _ _⟩
      ·cases hf
     ·cases hf
    | some hm=>
     simp only at hf
     split at hf
     ·rename_i m u0 hm0 
      split at hf
      ·rename_i u hu1
       split at hf
       ·rename_i l hl
        simp only[Option.some.injEq]at hf
        subst hf
        cases hhi with
        | some hh=>
        obtain⟨hrun,hm2,hu2,hl2⟩:=aOm (P:=P) (w:=w) (isSlice:=true) (r:=r) (len:=n) hlo hh hm hc.1 hm0 hu1 hl
        have hc1:=hc.1
        refine⟨.slice (some ⟨tg.blk,(if m=l then o else o+l*tg.esz)+tg.sh,none⟩) (u - l) (m - l),?_,.slice htg ⟨by omega,fun _=>by omega⟩ (by omega) ?_⟩
        ·simp only[Instr.sliceAt,Sem.run_bind,bN hu,Result.andThen_ok,Instr.slice,hrun,run_sizeOf hsz,Sem.run_pure,Option.map_some,addr_add]
         split
         ·rfl
         ·rw[show o+tg.sh+l*tg.esz=o+l*tg.esz+tg.sh by omega]
        ·split
         ·subst m;simp;omega
         ·have e1:l*tg.esz+(m - l)*tg.esz=m*tg.esz:=by rw[←Nat.add_mul,show l+(m - l)=m from by omega]
          have e2:m*tg.esz≤c'*tg.esz:=Nat.mul_le_mul_right _ (by omega)
          omega
       ·cases hf
      ·cases hf
     ·cases hf
   ·cases hf
  ·cases hf
 ·cases hf
end
end Go.Abs
namespace Go.Abs
open Go Go.RowKit
section
variable {P:Program} {J:World→Prop} {B:Nat} {r:Ren} {h:aA} {w:World}
theorem VRa.get {xs xs':Array V} (hx:VRa r xs xs') {i:Nat} {v:V} (h:xs[i]? = some v):∃v',xs'[i]? = some v'∧VR r v v':=by
 obtain⟨hlt,rfl⟩:=Array.getElem?_eq_some_iff.1 h
 have hlt':i<xs'.size:=hx.1▸hlt
 exact⟨xs'[i],Array.getElem?_eq_getElem hlt',hx.2 i hlt hlt'⟩
theorem uH {t:TypeId} {cs:Array V} {off:Nat} {v:V} (ha:jK P t=some false) (h:cs[off]? = some v):(part t cs off).run P w = .ok v w:=by
 simp only[part,Sem.run_bind,zG ha,Result.andThen_ok]
 simp[h]
theorem xD {xs xs' ys ys':Array V} (hx:VRa r xs xs') (hy:VRa r ys ys') (d:Nat):∀(fs:List Field) (b:Bool),pV P xs ys fs=some b →
 (Op.eqFields (d+1) xs' ys' fs).run P w = .ok b w
 | [],b,h=>by simp[pV]at h;subst h;rfl
 | f::fs,b,h=>by
  simp only[pV]at h
  split at h
  ·cases h
  ·rename_i hn
   simp only[Op.eqFields,ne_eq,hn,not_false_eq_true,if_true,Sem.run_bind]
   split at h
   ·rename_i kk k a k' b' hu h1 h2
    obtain⟨v1,g1,e1⟩:=hx.get h1
    obtain⟨v2,g2,e2⟩:=hy.get h2
    cases e1;cases e2
    have ha:jK P f.type=some false:=by simp[jK,hu]
    rw[uH ha g1]
    simp only[Result.andThen_ok]
    rw[uH ha g2]
    simp only[Result.andThen_ok]
    split at h
    ·subst k'
     rw[run_equalIn_int w d f.type k kk a b' hu]
     simp only[Result.andThen_ok]
     split at h
     ·rename_i hab
      simp only[hab,Bool.not_true,Bool.false_eq_true,if_false]
      exact xD hx hy d fs b h
     ·rename_i hab
      simp only[hab,Bool.not_false,if_true]
      simp at h;subst h;rfl
    ·cases h
   ·rename_i a b' hu h1 h2
    obtain⟨v1,g1,e1⟩:=hx.get h1
    obtain⟨v2,g2,e2⟩:=hy.get h2
    cases e1;cases e2
    have ha:jK P f.type=some false:=by simp[jK,hu]
    rw[uH ha g1]
    simp only[Result.andThen_ok]
    rw[uH ha g2]
    simp only[Result.andThen_ok]
    rw[run_equalIn_string w d f.type a b' hu]
    simp only[Result.andThen_ok]
    split at h
    ·rename_i hab
     simp only[hab,Bool.not_true,Bool.false_eq_true,if_false]
     exact xD hx hy d fs b h
    ·rename_i hab
     simp only[hab,Bool.not_false,if_true]
     simp at h;subst h;rfl
   ·rename_i a b' hu h1 h2
    obtain⟨v1,g1,e1⟩:=hx.get h1
    obtain⟨v2,g2,e2⟩:=hy.get h2
    cases e1;cases e2
    have ha:jK P f.type=some false:=by simp[jK,hu]
    rw[uH ha g1]
    simp only[Result.andThen_ok]
    rw[uH ha g2]
    simp only[Result.andThen_ok]
    rw[run_equalIn_bool' w d f.type a b' hu]
    simp only[Result.andThen_ok]
    split at h
    ·rename_i hab
     simp only[hab,Bool.not_true,Bool.false_eq_true,if_false]
     exact xD hx hy d fs b h
    ·rename_i hab
     simp only[hab,Bool.not_false,if_true]
     simp at h;subst h;rfl
   ·cases h
theorem aOn (hR:R J B r h w) {b:Nat} (hb:rK h b=true):∃o t cc el fr,h.get b=some o∧r b=some t∧w.heap[t.blk]? = some (.cells cc el fr)∧∀o,w.frozen? ⟨t.blk,o,none⟩=false:=by
 unfold rK at hb
 split at hb
 ·rename_i c e hg
  obtain⟨t,cc,el,fr,ht,_,h1,_,_,_,_,h6,_⟩:=hR.row hg
  refine⟨_,t,cc,el,fr,hg,ht,h1,fun o=>?_⟩
  rw[aGf h1]
  have:=h6 rfl
  simp only[Bool.and_eq_false_iff,decide_eq_false_iff_not]
  omega
 ·cases hb
theorem aXy (hR:R J B r h w) {a b:Addr} {a' b':Addr} (ha:VR r (.pointer (some a)) (.pointer (some a'))) (hb:VR r (.pointer (some b)) (.pointer (some b')))
 (h1:rK h a.block=true) (h2:rK h b.block=true):(sameAddr a' b').run P w = .ok (a==b) w:=by
 cases ha with
 | @ptr ba oa ta hta=>
 cases hb with
 | @ptr bb ob tb htb=>
 obtain⟨o1,t1,cc1,el1,fr1,g1,r1,w1,f1⟩:=aOn hR h1
 obtain⟨o2,t2,cc2,el2,fr2,g2,r2,w2,f2⟩:=aOn hR h2
 simp only at h1 h2 g1 r1 g2 r2
 rw[hta]at r1;cases r1
 rw[htb]at r2;cases r2
 unfold sameAddr
 by_cases e:ba=bb
 ·subst e
  rw[hta]at htb;cases htb
  simp only[beq_self_eq_true,if_true]
  congr 1
  by_cases eo:oa=ob
  ·subst eo;simp
  ·have n1:((⟨ta.blk,oa+ta.sh,none⟩:Addr)==⟨ta.blk,ob+ta.sh,none⟩)=false:=by simp[eo]
   have n2:((⟨ba,oa,none⟩:Addr)==⟨ba,ob,none⟩)=false:=by simp[eo]
   rw[n1,n2];rfl
 ·have hne:ta.blk≠tb.blk:=fun e2=>e (hR.tN g1 g2 hta htb e2 fun _ _ h=>by subst h;simp[rK,g2]at h2)
  have n1:((⟨ba,oa,none⟩:Addr)==⟨bb,ob,none⟩)=false:=by simp[e]
  have s1:w.shape? ta.blk=some (el1,cc1.size):=by simp[World.shape?,w1]
  have s2:w.shape? tb.blk=some (el2,cc2.size):=by simp[World.shape?,w2]
  have m1:(stringish ⟨ta.blk,oa+ta.sh,none⟩).run P w = .ok false w:=by
   simp[stringish,f1,s1]
  have m2:(stringish ⟨tb.blk,ob+tb.sh,none⟩).run P w = .ok false w:=by
   simp[stringish,f2,s2]
  rw[n1]
  simp[hne,f1,noView,viewAt,s1,s2,mayBeOne,m1,m2]
theorem aKc (hR:R J B r h w) {t:TypeId} {c:Bool} {x x' y y':V} {b:Bool} (hx:VR r x x') (hy:VR r y y') (he:aEq P t c x y h=some b) :
 (Op.equal t x' y').run P w = .ok b w:=by
 have e0:Op.equal t x' y'=Op.equalIn (9999+1) t x' y':=rfl
 rw[e0]
 unfold aEq at he
 split at he
 case h_4=>
  rename_i e a a2 hu
  cases hsz:szT P e with
  | none=>simp[hsz]at he
  | some n=>
   cases n with
   | zero=>simp[hsz]at he
   | succ n=>
    simp only[hsz]at he
    split at he
    ·rename_i hl
     simp only[Bool.and_eq_true]at hl
     simp only[Option.some.injEq]at he
     subst he
     cases hx with
     | ptr h1=>
     cases hy with
     | ptr h2=>
     have:=aXy (P:=P) hR (.ptr h1) (.ptr h2) hl.1 hl.2
     rw[Op.equalIn]
     simp only[Sem.run_bind,bN hu,Result.andThen_ok,run_sizeOf hsz]
     simpa using this
    ·cases he
 case h_16=>
  rename_i fs a a2 hu
  split at he
  ·cases he
  ·rename_i hg
   simp only[Bool.or_eq_true,not_or,Bool.not_eq_true]at hg
   cases hx with
   | agg h1 h1e=>
   cases hy with
   | agg h2 h2e=>
   have hf:P.fieldsOf t=fs:=by simp[Program.fieldsOf,hu]
   rw[run_equalIn_struct w 9999 t _ _ (by rw[hf];exact hu) hg.2,hf]
   exact xD ⟨h1,h1e⟩ ⟨h2,h2e⟩ 9998 _ _ he
 case h_17=>cases he
 case h_13=>
  rename_i ms hu
  cases hx;cases hy
  split at he<;>simp at he
  subst he
  rw[Op.equalIn]
  simp only[Sem.run_bind,bN hu,Result.andThen_ok,Sem.run_pure]
 all_goals
  rename_i hu
  simp only[Option.some.injEq]at he
  subst he
  rw[Op.equalIn]
  simp only[Sem.run_bind,bN hu,Result.andThen_ok]
  cases hx<;>cases hy<;>first | rfl | simp
theorem aYq {op:BinOp} {a b:ByteArray} {v:V} (hv:qV op a b=some v):(Op.stringOp op a b).run P w = .ok v w∧VR r v v:=by
 unfold qV at hv
 cases op<;>simp only[Option.some.injEq,reduceCtorEq]at hv
 case add=>
  split at hv
  ·cases hv
  ·rename_i hc
   simp at hv;subst hv
   exact⟨by simp only[Op.stringOp,if_neg hc];rfl,.string _⟩
 all_goals subst hv;exact⟨rfl,.bool _⟩
theorem aOt {op:BinOp} {k yk:IntKind} {a b:Int} {v:V} (hv:uW op k a b=some v):(Op.shift op k a yk b).run P w = .ok v w∧VR r v v:=by
 unfold uW at hv
 split at hv
 ·cases hv
 ·rename_i hb
  simp only[Op.shift,hb,if_false]
  cases op<;>simp only[Option.some.injEq,reduceCtorEq]at hv<;>subst hv<;>exact⟨rfl,.int _ _⟩
theorem aQk {op:BinOp} {k:IntKind} {a b:Int} {v:V} (hv:eX op k a b=some v):VR r v v:=by
 unfold eX at hv
 cases op<;>simp only[Option.some.injEq,reduceCtorEq]at hv<;>first | (subst hv;constructor) | skip
 all_goals (split at hv<;>simp at hv;subst hv;constructor)
theorem aDp {op:BinOp} {t:TypeId} {x y:Operand} {a b:V} (h1:(op = .eql∨op = .neq)→(a = .nilIface∧b = .nilIface→jN x||jN y) )
 (h2:(op = .eql∨op = .neq)→∀c d,a = .agg c→b = .agg d→P.eqGuardType P.depth t=false):(eqGuard op t x y a b).run P w = .ok () w:=by
 cases op<;>first | rfl | skip
 all_goals
  have g1:=h1 (by simp)
  have g2:=h2 (by simp)
  clear h1 h2
  simp only[eqGuard,Bool.not_true,Bool.false_eq_true,if_false]
  split
  ·have g:=g1 ⟨rfl,rfl⟩
   clear g1 g2
   cases x<;>cases y<;>first | rfl | (simp[jN]at g;done)
  ·rename_i c d
   have g:=g2 c d rfl rfl
   clear g1 g2
   simp[g]
  ·rfl
def mS:V→Bool
 | .bool _ | .pointer _ | .slice .. | .map _ | .nilFunc | .func .. | .nilIface | .iface .. | .agg _=>true
 | _=>false
theorem zV {t:TypeId} {c:Bool} {x y:V} {b:Bool} (he:aEq P t c x y h=some b):mS x=true:=by
 unfold aEq at he
 split at he<;>first | rfl | cases he
theorem VR.mS {x x':V} (hx:VR r x x') (h:mS x=true):Abs.mS x'=true:=by
 cases hx<;>first | rfl | (simp[Abs.mS]at h;done)
theorem aI1 {t:TypeId} {c:Bool} {x x' y y':V} {b:Bool} (hx:VR r x x') (hy:VR r y y') (he:aEq P t c x y h=some b) (h1:x' = .nilIface) (h2:y' = .nilIface):c=true:=by
 subst h1 h2
 have hp:=zV he
 cases hx with
 | bY=>simp[Abs.mS]at hp
 | nilIface=>
  cases hy with
  | bY=>unfold aEq at he;split at he<;>simp_all
  | nilIface=>unfold aEq at he;split at he<;>simp_all
theorem aI2 {t:TypeId} {c:Bool} {x x' y y':V} {b:Bool} (hx:VR r x x') (hy:VR r y y') (he:aEq P t c x y h=some b) {p q:Array V} (h1:x' = .agg p) (h2:y' = .agg q) :
 P.eqGuardType P.depth t=false:=by
 subst h1 h2
 have hp:=zV he
 cases hx with
 | bY=>simp[Abs.mS]at hp
 | @agg c1 _ a1 a2=>
  have key:∀y,aEq P t c (.agg c1) y h=some b→P.eqGuardType P.depth t=false:=by
   intro y he
   unfold aEq at he
   split at he
   case h_16=>
    split at he
    ·cases he
    ·rename_i hg
     simp only[Bool.or_eq_true,not_or,Bool.not_eq_true]at hg
     exact hg.1
   all_goals first | (cases he;done) | (rename_i hh _;cases hh;done) | (rename_i hh;cases hh;done) | skip
  exact key _ he
theorem binOp_eql {t:TypeId} {x y:V} (h:mS x=true):binOp .eql t x y=(do pure (.bool (← Op.equal t x y))):=by
 cases x<;>first | rfl | (cases y<;>rfl) | (simp[mS]at h;done)
theorem binOp_neq {t:TypeId} {x y:V} (h:mS x=true):binOp .neq t x y=(do pure (.bool (!(← Op.equal t x y)))):=by
 cases x<;>first | rfl | (cases y<;>rfl) | (simp[mS]at h;done)
theorem aRh (hR:R J B r h w) {op:BinOp} {t:TypeId} {xo yo:Operand} {x x' y y' v:V} (hx:VR r x x') (hy:VR r y y')
 (hv:wX P op t (jN xo||jN yo) x y h=some v):(do eqGuard op t xo yo x' y';binOp op t x' y':Sem V).run P w = .ok v w∧VR r v v:=by
 unfold wX at hv
 split at hv
 ·rename_i k a k' b
  cases hx;cases hy
  have hg:(eqGuard op t xo yo (.int k a) (.int k' b)).run P w = .ok () w:=aDp (fun _ h=>by cases h.1) (fun _ c d h=>by cases h)
  rw[Sem.run_bind,hg]
  simp only[Result.andThen_ok]
  split at hv
  ·exact aOt (yk:=k') hv
  ·exact aOt (yk:=k') hv
  ·rename_i n1 n2
   split at hv
   ·rename_i hk
    subst hk
    have h1:=aUl (P:=P) (w:=w) hv
    have h2:binOp op t (.int k a) (.int k b)=binOp op 0 (.int k a) (.int k b):=by cases op<;>rfl
    rw[h2]
    rcases h1 with h1 | h1 | h1
    ·exact⟨h1,aQk hv⟩
    ·exact absurd h1 n1
    ·exact absurd h1 n2
   ·cases hv
 ·rename_i a b
  cases hx;cases hy
  have hg:(eqGuard op t xo yo (.string a) (.string b)).run P w = .ok () w:=aDp (fun _ h=>by cases h.1) (fun _ c d h=>by cases h)
  rw[Sem.run_bind,hg]
  simp only[Result.andThen_ok]
  have:binOp op t (.string a) (.string b)=Op.stringOp op a b:=by cases op<;>rfl
  rw[this]
  exact aYq hv
 ·split at hv
  ·cases he:aEq P t (jN xo||jN yo) x y h with
   | none=>simp[he]at hv
   | some b=>
    simp only[he,Option.map_some,Option.some.injEq]at hv
    subst hv
    have h1:=aKc (P:=P) hR hx hy he
    rw[Sem.run_bind,aDp (fun _ g=>aI1 hx hy he g.1 g.2) (fun _ c d g1 g2=>aI2 hx hy he g1 g2)]
    simp only[Result.andThen_ok,binOp_eql (hx.mS (zV he)),Sem.run_bind,h1]
    exact⟨rfl,.bool _⟩
  ·cases he:aEq P t (jN xo||jN yo) x y h with
   | none=>simp[he]at hv
   | some b=>
    simp only[he,Option.map_some,Option.some.injEq]at hv
    subst hv
    have h1:=aKc (P:=P) hR hx hy he
    rw[Sem.run_bind,aDp (fun _ g=>aI1 hx hy he g.1 g.2) (fun _ c d g1 g2=>aI2 hx hy he g1 g2)]
    simp only[Result.andThen_ok,binOp_neq (hx.mS (zV he)),Sem.run_bind,h1]
    exact⟨rfl,.bool _⟩
  ·cases hv
end
end Go.Abs
namespace Go.Abs
open Go Go.RowKit
section
variable {P:Program} {J:World→Prop} {B:Nat} {r:Ren} {h:aA} {w:World}
theorem aTl {x x' v:V} {i:Nat} (hx:VR r x x') (he:bJ x i=some v):∃v',(Instr.extract x' i).run P w = .ok v' w∧VR r v v':=by
 unfold bJ at he
 split at he
 ·rename_i vs
  cases hx with
  | bY=>simp at he
  | tuple h1 h2=>
   obtain⟨v',g1,g2⟩:=VRa.get ⟨h1,h2⟩ he
   exact⟨v',by simp[Instr.extract,g1],g2⟩
 ·cases he
theorem aQ3 {x x' v:V} {xt t:TypeId} {ok:Bool} (hx:VR r x x') (ha:wW P x t ok=some v):∃v',(Instr.typeAssert x' xt t ok).run P w = .ok v' w∧VR r v v':=by
 unfold wW at ha
 split at ha
 ·cases ha
 ·rename_i d ty y hni hu
  cases hx with
  | @iface _ _ y' hy=>
  split at ha
  ·rename_i e
   subst e
   simp only[Option.some.injEq]at ha
   subst ha
   refine⟨if ok=true then .tuple #[y',.bool true] else y',?_,?_⟩
   ·simp only[Instr.typeAssert,Sem.run_bind,bN hu,Result.andThen_ok]
    cases d<;>first | (exact absurd rfl (hni _)) | simp
   ·cases ok
    ·exact hy
    ·refine .tuple rfl fun i h1 h2=>?_
     have:i=0∨i=1:=by simp at h1;omega
     rcases this with rfl | rfl
     ·exact hy
     ·exact .bool _
  ·cases ha
 ·cases ha
/-! ### Maps -/
theorem aW8 {t:TypeId} {cs:Array V} {off:Nat} {v:V} {d:TypeDesc} (hu:P.underlying t=some d) (hd:(∃k,d = .int k)∨d = .string∨d = .bool) (h:cs[off]? = some v) :
 (part t cs off).run P w = .ok v w:=by
 refine uH ?_ h
 rcases hd with ⟨k,rfl⟩ | rfl | rfl<;>simp[jK,hu]
theorem vS {kt:TypeId} {k k':V} {e:Bool} (hk:VR r k k') (ho:qU P kt k=true):(Instr.checkKey e 10000 kt k').run P w = .ok () w∧k'=k∧bS k=true:=by
 have e0:Instr.checkKey e 10000 kt k'=Instr.checkKey e (9999+1) kt k':=rfl
 rw[e0]
 unfold qU at ho
 split at ho
 ·rename_i hu
  cases hk
  refine⟨?_,rfl,by simp[bS]⟩
  rw[Instr.checkKey]
  simp only[Sem.run_bind,bN hu,Result.andThen_ok,Sem.run_pure]
 ·rename_i hu
  cases hk
  refine⟨?_,rfl,by simp[bS]⟩
  rw[Instr.checkKey]
  simp only[Sem.run_bind,bN hu,Result.andThen_ok,Sem.run_pure]
 ·rename_i fs cs hu
  simp only[Bool.and_eq_true]at ho
  obtain⟨hc,hf⟩:=ho
  have hkk:=VR.oE hc hk
  subst hkk
  refine⟨?_,rfl,hc⟩
  rw[Instr.checkKey]
  simp only[Sem.run_bind,bN hu,Result.andThen_ok]
  rw[←Array.forIn_toList]
  rw[←Array.all_toList]at hf
  generalize fs.toList=l at hf
  clear hu hk
  induction l with
  | nil=>rfl
  | cons f l ih=>
   simp only[List.all_cons,Bool.and_eq_true]at hf
   obtain⟨⟨hn,hs⟩,hl⟩:=hf
   have hn':f.name ≠ "_":=by simpa using hn
   simp only[List.forIn_cons,hn',ne_eq,not_false_eq_true,if_true,Sem.run_bind]
   have:∃(v:V) (d:TypeDesc),P.underlying f.type=some d∧((∃k,d = .int k)∨d = .string∨d = .bool)∧cs[f.offset]? = some v:=by
    split at hs
    ·rename_i h1 h2;exact⟨_,_,h1,.inl ⟨_,rfl⟩,h2⟩
    ·rename_i h1 h2;exact⟨_,_,h1,.inr (.inl rfl),h2⟩
    ·rename_i h1 h2;exact⟨_,_,h1,.inr (.inr rfl),h2⟩
    ·cases hs
   obtain⟨v,d,h1,h2,h3⟩:=this
   rw[aW8 h1 h2 h3]
   simp only[Result.andThen_ok]
   have:(Instr.checkKey e 9999 f.type v).run P w = .ok () w:=by
    have e1:Instr.checkKey e 9999 f.type v=Instr.checkKey e (9998+1) f.type v:=rfl
    rw[e1,Instr.checkKey]
    simp only[Sem.run_bind,bN h1,Result.andThen_ok]
    rcases h2 with ⟨k,rfl⟩ | rfl | rfl<;>rfl
   rw[this]
   simp only[Result.andThen_ok,Sem.run_pure]
   exact ih hl
 ·cases ho
theorem aLg {kt:TypeId} {x y:V} {b:Bool} (he:rT P kt x y=some b) (hx:bS x=true) (hy:bS y=true):(Op.equal kt x y).run P w = .ok b w:=by
 have e0:Op.equal kt x y=Op.equalIn (9999+1) kt x y:=rfl
 rw[e0]
 unfold rT at he
 split at he
 ·rename_i hu
  split at he
  ·rename_i hkk;subst hkk;simp only[Option.some.injEq]at he;subst he;exact run_equalIn_int w 9999 _ _ _ _ _ hu
  ·cases he
 ·rename_i hu
  simp only[Option.some.injEq]at he;subst he
  rw[run_equalIn_string w 9999 _ _ _ hu,beq_toListBytes]
 ·rename_i fs a c hu
  split at he
  ·cases he
  ·rename_i hp
   have hf:P.fieldsOf kt=fs:=by simp[Program.fieldsOf,hu]
   rw[run_equalIn_struct w 9999 kt _ _ (by rw[hf];exact hu) (by simpa using hp),hf]
   have r0:Ren:=fun _=>none
   have va:∀{z:Array V},bS (.agg z)=true→VRa r0 z z:=fun hz=>by
    have:=VR.closed (r:=r0) hz
    cases this with
    | agg h1 h2=>exact⟨h1,h2⟩
   exact xD (r:=r0) (va hx) (va hy) 9998 _ _ he
 ·cases he
def VRe (r:Ren) (es:List MapEntry) (ces:List MapEntry):Prop:=ces.length=es.length ∧
 ∀(i:Nat) (h:i<es.length) (h':i<ces.length),VR r es[i].key ces[i].key∧VR r es[i].val ces[i].val∧ces[i].born=es[i].born
theorem VRe.tail {e e':MapEntry} {es ces:List MapEntry} (h:VRe r (e::es) (e'::ces)):VRe r es ces:=
 ⟨by have:=h.1;simpa using this,fun i a b=>h.2 (i+1) (by simpa using a) (by simpa using b)⟩
def aIj (P:Program) (r:Ren) (kt:TypeId) (k:V) (es ces:List MapEntry) (i:Nat):Option (Nat×V)→Option (Nat×V)→Prop
 | none,none=>True
 | some (j,v),some (j',v')=>j=j'∧VR r v v'∧i≤j∧∃e e',es[j - i]? = some e∧ces[j - i]? = some e'∧e.val=v∧e'.key=e.key∧bS e.key=true∧rT P kt k e.key=some true
 | _,_=>False
theorem aKn {kt:TypeId} {k:V} (hk:bS k=true):∀(es ces:List MapEntry) (i:Nat) (res:Option (Nat×V)),VRe r es ces→pW P kt k es i=some res →
 ∃res',aIj P r kt k es ces i res res' ∧
  (Instr.findAsking kt k ces i).run P w = .ok res' w ∧
  (∀d,P.underlying kt=some d→(∃kk,d = .int kk)∨d = .string→Instr.findNow d k ces i=some res')
 | [],[],i,res,_,hf=>by simp[pW]at hf;subst hf;exact⟨none,trivial,rfl,fun _ _ _=>rfl⟩
 | [],_::_,_,_,h,_=>by have:=h.1;simp at this
 | _::_,[],_,_,h,_=>by have:=h.1;simp at this
 | e::es,e'::ces,i,res,h,hf=>by
  have h0:=h.2 0 (by simp) (by simp)
  simp only[List.getElem_cons_zero]at h0
  simp only[pW]at hf
  have now:∀{b:Bool},rT P kt k e.key=some b→∀d,P.underlying kt=some d→(∃kk,d = .int kk)∨d = .string→Instr.sameNow d k e.key=some b:=by
   intro b hb d hu hd
   unfold rT at hb
   rw[hu]at hb
   rcases hd with ⟨kk,rfl⟩ | rfl
   ·split at hb<;>simp_all [Instr.sameNow]
   ·split at hb<;>simp_all [Instr.sameNow]
  split at hf
  ·rename_i hke
   split at hf
   ·rename_i hc
    simp only[Option.some.injEq]at hf
    subst hf
    have hkk:=VR.oE hc h0.1
    refine⟨some (i,e'.val),⟨rfl,h0.2.1,Nat.le_refl _,e,e',by simp,by simp,rfl,hkk,hc,hke⟩,?_,?_⟩
    ·simp only[Instr.findAsking,hkk,Sem.run_bind,aLg hke hk hc,Result.andThen_ok,if_true,Sem.run_pure]
    ·intro d hu hd
     simp only[Instr.findNow,hkk,now hke d hu hd]
   ·cases hf
  ·rename_i hke
   split at hf
   ·rename_i hc
    have hkk:=VR.oE hc h0.1
    obtain⟨res',g1,g2,g3⟩:=aKn hk es ces (i+1) res h.tail hf
    refine⟨res',?_,?_,?_⟩
    ·cases res with
     | none=>
      cases res' with
      | none=>trivial
      | some p'=>exact g1.elim
     | some p=>
      cases res' with
      | none=>exact g1.elim
      | some p'=>
       obtain⟨a1,a2,a3,x,x',a4,a5,a6⟩:=g1
       refine⟨a1,a2,by omega,x,x',?_,?_,a6⟩
       ·rw[show p.1 - i=(p.1 - (i+1))+1 from by omega];simpa using a4
       ·rw[show p.1 - i=(p.1 - (i+1))+1 from by omega];simpa using a5
    ·simp only[Instr.findAsking,hkk,Sem.run_bind,aLg hke hk hc,Result.andThen_ok,Bool.false_eq_true,if_false]
     exact g2
    ·intro d hu hd
     simp only[Instr.findNow,hkk,now hke d hu hd]
     exact g3 d hu hd
   ·cases hf
  ·cases hf
theorem tK {kt:TypeId} {k:V} (hk:bS k=true) (hok:qU P kt k=true) {es ces:List MapEntry} {res:Option (Nat×V)} (h:VRe r es ces) (hf:pW P kt k es 0=some res) :
 ∃res',aIj P r kt k es ces 0 res res' ∧
  (Instr.findKey kt k ces).run P w = .ok res' w:=by
 obtain⟨res',g1,g2,g3⟩:=aKn (P:=P) (w:=w) hk es ces 0 res h hf
 refine⟨res',g1,?_⟩
 ·unfold qU at hok
  split at hok
  ·rename_i kk _ _ hu
   simp only[Instr.findKey,Sem.run_bind,bN hu,Result.andThen_ok,g3 _ hu (.inl ⟨kk,rfl⟩),Sem.run_pure]
  ·rename_i hu
   simp only[Instr.findKey,Sem.run_bind,bN hu,Result.andThen_ok,g3 _ hu (.inr rfl),Sem.run_pure]
  ·rename_i fs cs hu
   simp only[Instr.findKey,Sem.run_bind,bN hu,Result.andThen_ok]
   cases ces with
   | nil=>simp[Instr.findAsking]at g2;subst g2;simp[Instr.findNow]
   | cons e' ces=>simp only[Instr.findNow,Instr.sameNow];exact g2
  ·cases hok
theorem R.map (hR:R J B r h w) {b:Nat} {es:List MapEntry} {clock:Nat} (hb:h.get b=some (.map es clock)) :
 ∃t ces,r b=some t∧(B≤t.blk∧t.sh=0)∧w.heap[t.blk]? = some (.map ces clock)∧VRe r es ces.toList:=by
 obtain⟨t,ht,h0,ces,h1,h2,h3⟩:=hR.live b _ hb
 exact⟨t,ces,ht,h0,h1,by simpa using h2,fun i a c=>by simpa using h3 i a (by simpa using c)⟩
theorem aVq (hR:R J B r h w) {t:TypeId} {x x' k k' v:V} {ok:Bool} (hx:VR r x x') (hk:VR r k k') (hl:xI P t x k ok h=some v) :
 ∃v',(Instr.lookup t x' k' ok).run P w = .ok v' w∧VR r v v':=by
 unfold xI at hl
 split at hl
 ·rename_i kt et hu
  split at hl
  ·rename_i hok
   have fin:∀(a a':V) (b:Bool),VR r a a'→VR r (if ok=true then .tuple #[a,.bool b] else a) (if ok=true then .tuple #[a',.bool b] else a'):=by
    intro a a' b ha
    cases ok
    ·exact ha
    ·refine .tuple rfl fun i h1 h2=>?_
     have:i=0∨i=1:=by simp at h1;omega
     rcases this with rfl | rfl
     ·exact ha
     ·exact .bool _
   split at hl
   ·rename_i z fv hz hf
    simp only[Option.some.injEq]at hl
    subst hl
    split at hf
    ·cases hf
    ·rename_i b
     cases hx with
     | @map _ tg htg=>
     split at hf
     ·rename_i es clock hb
      obtain⟨t',ces,ht',_,hw,hv⟩:=hR.map hb
      rw[htg]at ht';cases ht'
      obtain⟨hck,rfl,hkc⟩:=vS (P:=P) (w:=w) (e:=ces.isEmpty) hk hok
      obtain⟨res',g1,g2⟩:=tK (P:=P) (w:=w) hkc hok hv hf
      cases res' with
      | none=>exact g1.elim
      | some p=>
       obtain⟨_,g3,_⟩:=g1
       refine⟨_,?_,fin _ _ true g3⟩
       simp only[Instr.lookup,Sem.run_bind,bN hu,Result.andThen_ok,getObj,Sem.run,hw,hck,g2,Sem.run_pure]
     ·cases hf
    ·cases hf
   ·rename_i z hz hf
    simp only[Option.some.injEq]at hl
    subst hl
    obtain⟨hz1,hz2⟩:=wN (w:=w) hz
    split at hf
    ·cases hx
     obtain⟨hck,rfl,hkc⟩:=vS (P:=P) (w:=w) (e:=true) hk hok
     refine⟨_,?_,fin _ _ false (VR.closed hz2)⟩
     have hfk:(Instr.findKey kt k' []).run P w = .ok none w:=by
      obtain⟨res',g1,g2⟩:=tK (P:=P) (w:=w) (r:=r) (res:=none) (es:=[]) (ces:=[]) hkc hok ⟨rfl,fun i a=>by simp at a⟩ rfl
      cases res' with
      | none=>exact g2
      | some p=>exact g1.elim
     simp only[Instr.lookup,Sem.run_bind,bN hu,Result.andThen_ok,Sem.run_pure,Array.isEmpty_empty,hck,hfk,hz1]
    ·rename_i b
     cases hx with
     | @map _ tg htg=>
     split at hf
     ·rename_i es clock hb
      obtain⟨t',ces,ht',_,hw,hv⟩:=hR.map hb
      rw[htg]at ht';cases ht'
      obtain⟨hck,rfl,hkc⟩:=vS (P:=P) (w:=w) (e:=ces.isEmpty) hk hok
      obtain⟨res',g1,g2⟩:=tK (P:=P) (w:=w) hkc hok hv hf
      cases res' with
      | some p=>exact g1.elim
      | none=>
       refine⟨_,?_,fin _ _ false (VR.closed hz2)⟩
       simp only[Instr.lookup,Sem.run_bind,bN hu,Result.andThen_ok,getObj,Sem.run,hw,hck,g2,Sem.run_pure,hz1]
     ·cases hf
    ·cases hf
   ·cases hl
  ·cases hl
 ·cases hl
end
end Go.Abs
namespace Go.Abs
open Go Go.RowKit
section
variable {P:Program} {J:World→Prop} {B:Nat} {r:Ren} {h:aA} {w:World}
theorem aH5 {k:Nat} {o:Obj} (hk:k<w.heap.size):iJ w { w with heap:=w.heap.setIfInBounds k o } k o:=
 ⟨rfl,rfl,rfl,by simp,by simp[hk],fun j hj=>by simp[Array.getElem?_setIfInBounds_ne (Ne.symm hj)],rfl⟩
theorem R.aDr (hJ:cP J B) (hR:R J B r h w) {b:Nat} {es es2:List MapEntry} {clock clock2:Nat} {t:Tgt} {ces2:Array MapEntry} (hb:h.get b=some (.map es clock)) (ht:r b=some t)
 (hv:VRe r es2 ces2.toList) :
 R J B r (h.put b (.map es2 clock2)) { w with heap:=w.heap.setIfInBounds t.blk (.map ces2 clock2) }∧Ext r h w r (h.put b (.map es2 clock2)) { w with heap:=w.heap.setIfInBounds t.blk (.map ces2 clock2) }:=by
 obtain⟨t',ces,ht',hB,hw,_⟩:=hR.map hb
 rw[ht]at ht';cases ht'
 have hT:=aH5 (w:=w) (o:=.map ces2 clock2) (hR.lt _ _ ht).1
 refine hR.wT hJ hb (fun c e he=>by cases he) ht hT ⟨hB,ces2,hT.here,by simpa using hv.1,fun i a c=>by have:=hv.2 i a (by simpa using c);simpa only[Array.getElem_toList]using this⟩ (fun c e he=>by cases he)
theorem uI {k:Nat} {o o1:Obj} (h:w.heap[k]? = some o1) (h1:∀c e f,o1≠.cells c e f):(setObj k o).run P w = .ok () { w with heap:=w.heap.setIfInBounds k o }:=by
 simp only[setObj,Sem.run,h]
theorem kI {k:Nat} {o:Obj} (h:w.heap[k]? = some o) (h1:∀c e f,o≠.cells c e f):(getObj k).run P w = .ok o w:=by
 simp only[getObj,Sem.run,h]
theorem aMf (hJ:cP J B) (hR:R J B r h w) {t:TypeId} {x x' k k' v v':V} {h':aA} (hx:VR r x x') (hk:VR r k k') (hv:VR r v v') (hu:uT P t x k v h=some h') :
 ∃w',(Instr.mapUpdate t x' k' v').run P w = .ok () w'∧R J B r h' w'∧Ext r h w r h' w':=by
 unfold uT at hu
 split at hu
 ·rename_i kt et hun
  split at hu
  ·rename_i hok
   split at hu
   ·rename_i b
    cases hx with
    | @map _ tg htg=>
    split at hu
    ·rename_i es clock hb
     obtain⟨t',ces,ht',_,hw,hve⟩:=hR.map hb
     rw[htg]at ht';cases ht'
     obtain⟨hck,rfl,hkc⟩:=vS (P:=P) (w:=w) (e:=false) hk hok
     have hg:=kI (P:=P) hw (fun c e f he=>by cases he)
     split at hu
     ·rename_i i pv hf
      split at hu
      ·rename_i hsb
       simp only[Option.some.injEq]at hu
       subst hu
       obtain⟨res',g1,g2⟩:=tK (P:=P) (w:=w) hkc hok hve hf
       cases res' with
       | none=>exact g1.elim
       | some p=>
        obtain⟨i',v0⟩:=p
        obtain⟨e1,_,_,e,e',h1,h2,_,h4,_⟩:=g1
        simp only[Nat.sub_zero]at h1 h2
        subst e1
        have hces:ces[i]? = some e':=by simpa using h2
        have hs:Instr.sameBits 10000 e'.key k'=true:=by rw[h4];simpa[h1]using hsb
        have hks:(Instr.keyThatStays (((ces[i]?).map (·.key)).getD k') k').run P w = .ok k' w:=by
         simp[Instr.keyThatStays,hces,hs]
        refine⟨_,?_,hR.aDr hJ hb htg (ces2:=ces.modify i fun e=>{ e with key:=k',val:=v' }) ?_⟩
        ·simp only[Instr.mapUpdate,Sem.run_bind,bN hun,Result.andThen_ok,hg,hck,g2,hks]
         exact uI hw (fun c e f he=>by cases he)
        ·have hl:=hve.1
         refine⟨by simpa using hl,fun j a c=>?_⟩
         have a':j<es.length:=by simpa using a
         have c':j<ces.toList.length:=by simpa using c
         have:=hve.2 j a' c'
         simp only[List.getElem_modify,Array.toList_modify]
         split
         ·exact⟨VR.closed hkc,hv,this.2.2⟩
         ·exact this
      ·cases hu
     ·rename_i hf
      simp only[Option.some.injEq]at hu
      subst hu
      obtain⟨res',g1,g2⟩:=tK (P:=P) (w:=w) hkc hok hve hf
      cases res' with
      | some p=>exact g1.elim
      | none=>
       refine⟨_,?_,hR.aDr hJ hb htg (ces2:=ces.push { key:=k',val:=v',born:=clock }) ?_⟩
       ·simp only[Instr.mapUpdate,Sem.run_bind,bN hun,Result.andThen_ok,hg,hck,g2]
        exact uI hw (fun c e f he=>by cases he)
       ·have hl:=hve.1
        refine⟨by simpa using hl,fun j a c=>?_⟩
        simp only[Array.toList_push]
        by_cases hj:j<es.length
        ·have hj':j<ces.toList.length:=by omega
         rw[List.getElem_append_left hj,List.getElem_append_left hj']
         exact hve.2 j hj hj'
        ·have hj2:j=es.length:=by simp at a;omega
         subst hj2
         simp only[List.getElem_append_right (Nat.le_refl _),Nat.sub_self,List.getElem_cons_zero]
         rw[List.getElem_append_right (by omega)]
         simp only[hl,Nat.sub_self,List.getElem_cons_zero]
         exact⟨VR.closed hkc,hv,by simp⟩
     ·cases hu
    ·cases hu
   ·cases hu
  ·cases hu
 ·cases hu
theorem aS2 (hJ:cP J B) (hR:R J B r h w) {t:TypeId} {ts:Array TypeId} (hts:ts[0]? = some t) {ty:TypeId} {x x' k k':V} {h':aA} (hx:VR r x x') (hk:VR r k k') (hu:xC P t x k h=some h') :
 ∃w',(Builtin.delete_ ts ty #[x',k']).run P w = .ok (.tuple #[]) w'∧R J B r h' w'∧Ext r h w r h' w':=by
 unfold xC at hu
 split at hu
 ·rename_i kt et hun
  split at hu
  ·rename_i hok
   split at hu
   ·cases hx
    simp only[Option.some.injEq]at hu
    subst hu
    obtain⟨hck,rfl,hkc⟩:=vS (P:=P) (w:=w) (e:=true) hk hok
    exact⟨w,by simp[Builtin.delete_,hts,bN hun,hck],hR,Ext.refl _ _ _⟩
   ·rename_i b
    cases hx with
    | @map _ tg htg=>
    split at hu
    ·rename_i es clock hb
     obtain⟨t',ces,ht',_,hw,hve⟩:=hR.map hb
     rw[htg]at ht';cases ht'
     obtain⟨hck,rfl,hkc⟩:=vS (P:=P) (w:=w) (e:=ces.isEmpty) hk hok
     have hg:=kI (P:=P) hw (fun c e f he=>by cases he)
     split at hu
     ·rename_i i pv hf
      simp only[Option.some.injEq]at hu
      subst hu
      obtain⟨res',g1,g2⟩:=tK (P:=P) (w:=w) hkc hok hve hf
      cases res' with
      | none=>exact g1.elim
      | some p=>
       obtain⟨i',v0⟩:=p
       obtain⟨e1,_,_,e,e',h1,h2,_⟩:=g1
       simp only[Nat.sub_zero]at h1 h2
       subst e1
       have hl:=hve.1
       have hi:i<ces.size:=by obtain⟨hlt,_⟩:=List.getElem?_eq_some_iff.1 h2;simpa using hlt
       refine⟨_,?_,hR.aDr hJ hb htg (ces2:=ces.eraseIdxIfInBounds i) ?_⟩
       ·simp[Builtin.delete_,hts,bN hun,hg,hck,g2,uI (P:=P) hw (fun c e f he=>by cases he)]
       ·have e2:(ces.eraseIdxIfInBounds i).toList=ces.toList.eraseIdx i:=by simp[Array.eraseIdxIfInBounds,hi]
        rw[e2]
        refine⟨by simp[List.length_eraseIdx,hl],fun j a c=>?_⟩
        simp only[List.getElem_eraseIdx]
        split
        ·exact hve.2 j _ _
        ·exact hve.2 (j+1) _ _
     ·rename_i hf
      simp only[Option.some.injEq]at hu
      subst hu
      obtain⟨res',g1,g2⟩:=tK (P:=P) (w:=w) hkc hok hve hf
      cases res' with
      | some p=>exact g1.elim
      | none=>
       refine⟨_,?_,hR.aDr hJ hb htg (ces2:=ces) hve⟩
       simp[Builtin.delete_,hts,bN hun,hg,hck,g2,uI (P:=P) hw (fun c e f he=>by cases he)]
     ·cases hu
    ·cases hu
   ·cases hu
  ·cases hu
 ·cases hu
theorem aXk (hJ:cP J B) (hR:R J B r h w) {t:TypeId} {x x' v:V} {h':aA} (hx:VR r x x') (hr:xL P t x h=some (v,h')) :
 ∃r' v' w',(Instr.range t x').run P w = .ok v' w'∧R J B r' h' w'∧Ext r h w r' h' w'∧VR r' v v':=by
 unfold xL at hr
 have go:∀(o:cH) (o':Obj),OR B (r.upd h.next ⟨w.heap.size,0,0,0⟩) (w.alloc o') ⟨w.heap.size,0,0,0⟩ o →
  ∃r' v' w',(do pure (.pointer (some ⟨← newObj o',0,none⟩)):Sem V).run P w = .ok v' w'∧R J B r' (h.new o) w'∧Ext r h w r' (h.new o) w'∧VR r' (.pointer (some ⟨h.next,0,none⟩)) v':=by
  intro o o' hO
  obtain⟨h1,h2⟩:=hR.alloc hJ o o' ⟨w.heap.size,0,0,0⟩ rfl hO
  exact⟨_,_,_,rfl,h1,h2,.ptr (Ren.cX _ _ _)⟩
 split at hr
 ·rename_i s hu
  cases hx
  simp only[Option.some.injEq,Prod.mk.injEq]at hr
  obtain⟨rfl,rfl⟩:=hr
  obtain⟨r',v',w',h1,h2⟩:=go (.siter s 0) (.stringIter s 0) ⟨⟨hR.base,rfl⟩,heap_alloc_new⟩
  exact⟨r',v',w',by simpa only[Instr.range,Sem.run_bind,bN hu,Result.andThen_ok,Sem.run_pure]using h1,h2⟩
 ·rename_i hu
  cases hx
  simp only[Option.some.injEq,Prod.mk.injEq]at hr
  obtain⟨rfl,rfl⟩:=hr
  obtain⟨r',v',w',h1,h2⟩:=go (.miter none 0 #[] 0) (.mapIter none 0 #[] 0) ⟨⟨hR.base,rfl⟩,heap_alloc_new⟩
  exact⟨r',v',w',by simpa only[Instr.range,Sem.run_bind,bN hu,Result.andThen_ok,Sem.run_pure]using h1,h2⟩
 ·rename_i b hu
  cases hx with
  | @map _ tg htg=>
  split at hr
  ·rename_i es clock hb
   simp only[Option.some.injEq,Prod.mk.injEq]at hr
   obtain⟨rfl,rfl⟩:=hr
   obtain⟨t',ces,ht',_,hw,hve⟩:=hR.map hb
   rw[htg]at ht';cases ht'
   obtain⟨r',v',w',h1,h2⟩:=go (.miter (some b) clock #[] clock) (.mapIter (some tg.blk) clock #[] clock) ⟨⟨hR.base,rfl⟩,tg,hR.oH _ _ _ htg,heap_alloc_new⟩
   refine⟨r',v',w',?_,h2⟩
   simpa only[Instr.range,Sem.run_bind,bN hu,Result.andThen_ok,Sem.run_pure,kI hw (fun c e f he=>by cases he)]using h1
  ·cases hr
 ·cases hr
theorem aF9 {es:List MapEntry} {ces:List MapEntry} (h:VRe r es ces) (p:Nat→Bool):VRe r (es.filter fun e=>p e.born) (ces.filter fun e=>p e.born):=by
 induction es generalizing ces with
 | nil=>
  cases ces with
  | nil=>exact⟨rfl,fun i a=>by simp at a⟩
  | cons e ces=>have:=h.1;simp at this
 | cons e es ih=>
  cases ces with
  | nil=>have:=h.1;simp at this
  | cons e' ces=>
   have h0:=h.2 0 (by simp) (by simp)
   simp only[List.getElem_cons_zero]at h0
   have ht:=ih h.tail
   simp only[List.filter_cons,h0.2.2]
   split
   ·refine⟨by simp[ht.1],fun i a c=>?_⟩
    cases i with
    | zero=>exact h0
    | succ i=>exact ht.2 i (by simpa using a) (by simpa using c)
   ·exact ht
theorem VRe.append {a b a' b':List MapEntry} (h:VRe r a b) (k:VRe r a' b'):VRe r (a++a') (b++b'):=by
 refine⟨by simp[h.1,k.1],fun i h1 h2=>?_⟩
 have hl:=h.1
 by_cases hi:i<a.length
 ·rw[List.getElem_append_left hi,List.getElem_append_left (by omega)];exact h.2 i hi _
 ·rw[List.getElem_append_right (by omega),List.getElem_append_right (by omega)]
  simp only[hl]
  exact k.2 _ _ _
theorem VRe.born {es ces:List MapEntry} (h:VRe r es ces):ces.map (·.born)=es.map (·.born):=by
 refine List.ext_getElem (by simp[h.1]) fun i h1 h2=>?_
 simp only[List.getElem_map]
 exact (h.2 i (by simpa using h2) (by simpa using h1)).2.2
theorem VRe.all {es ces:List MapEntry} (h:VRe r es ces) (p:Nat→Bool):(ces.all fun e=>p e.born)=es.all fun e=>p e.born:=by
 have e1:(ces.all fun e=>p e.born)=(ces.map (·.born)).all p:=by simp[List.all_map,Function.comp_def]
 have e2:(es.all fun e=>p e.born)=(es.map (·.born)).all p:=by simp[List.all_map,Function.comp_def]
 rw[e1,e2,h.born]
theorem VRe.isEmpty {es ces:List MapEntry} (h:VRe r es ces):ces.isEmpty=es.isEmpty:=by
 have:=h.1
 cases es<;>cases ces<;>simp_all
def aPm (r:Ren):Option MapEntry→Option MapEntry→Prop
 | none,none=>True
 | some e,some e'=>VR r e.key e'.key∧VR r e.val e'.val∧e'.born=e.born
 | _,_=>False
theorem aRv {es ces:List MapEntry} (h:VRe r es ces) (since:Nat) (seen:Array Nat) {c':Option MapEntry} (hc:c'∈pZ ces since seen):∃c∈pZ es since seen,aPm r c c':=by
 have hl:=aF9 h (fun n=>!seen.contains n)
 have ho:=aF9 hl (fun n=>decide (n<since))
 have hn:=aF9 hl (fun n=>decide (n≥since))
 have hon:=ho.append hn
 simp only[pZ]at hc ⊢
 rw[List.mem_append]at hc
 rcases hc with hc | hc
 ·refine⟨none,?_,?_⟩
  ·rw[List.mem_append]
   left
   split at hc
   ·rename_i hh
    have he:=ho.isEmpty
    simp only[hh]at he
    rw[if_pos he.symm];exact List.mem_singleton.2 rfl
   ·cases hc
  ·split at hc
   ·simp at hc;subst hc;trivial
   ·cases hc
 ·obtain⟨e',he',rfl⟩:=List.mem_map.1 hc
  obtain⟨i,hi,rfl⟩:=List.getElem_of_mem he'
  have hi2:=hon.1
  refine⟨some _,List.mem_append.2 (.inr (List.mem_map.2 ⟨_,List.getElem_mem (by omega:i<_),rfl⟩)),hon.2 i (by omega) hi⟩
theorem aOl {P:Program} {w:World} {es:Array MapEntry} {since:Nat} {seen:Array Nat} :
 ∃c w',(do
  let left:=es.filter fun e=>!seen.contains e.born
  let old:=left.filter (·.born<since)
  let new:=left.filter (·.born≥since)
  let candidates:Array (Option MapEntry):=(if old.isEmpty then #[none] else #[])++(old++new).map some
  pure candidates[←choose (.mapNext candidates.size)]?:Sem (Option (Option MapEntry))).run P w = .ok (some c) w'∧(w'=w∨w'=w.drew)∧c∈pZ es.toList since seen:=by
 have e:((if (((es.filter fun e=>!seen.contains e.born).filter (·.born<since)).isEmpty) then #[none] else #[])++(((es.filter fun e=>!seen.contains e.born).filter (·.born<since))++((es.filter fun e=>!seen.contains e.born).filter (·.born≥since))).map some:Array (Option MapEntry)).toList=pZ es.toList since seen:=by
  simp only[pZ,Array.toList_append,Array.toList_map,Array.toList_filter]
  congr 1
  rw[←Array.isEmpty_toList]
  simp only[Array.toList_filter]
  split<;>rfl
 generalize hA:((if (((es.filter fun e=>!seen.contains e.born).filter (·.born<since)).isEmpty) then #[none] else #[])++(((es.filter fun e=>!seen.contains e.born).filter (·.born<since))++((es.filter fun e=>!seen.contains e.born).filter (·.born≥since))).map some:Array (Option MapEntry))=A at e
 have hne:0<A.size:=by
  rw[←hA]
  simp only[Array.size_append,Array.size_map]
  split
  ·simp;omega
  ·rename_i hh
   have:0<((es.filter fun e=>!seen.contains e.born).filter (·.born<since)).size:=by
    rcases Nat.eq_zero_or_pos ((es.filter fun e=>!seen.contains e.born).filter (·.born<since)).size with h0 | h0
    ·exact absurd (by unfold Array.isEmpty;exact decide_eq_true h0) hh
    ·exact h0
   omega
 simp only[hA,Sem.run_bind,run_choose]
 split
 ·refine⟨A[0],w,?_,.inl rfl,?_⟩
  ·simp[Array.getElem?_eq_getElem hne]
  ·rw[←e];simp
 ·have hlt:(Question.mapNext A.size).cut (w.tape w.drawn (.mapNext A.size))<A.size:=Nat.mod_lt _ hne
  refine⟨A[(Question.mapNext A.size).cut (w.tape w.drawn (.mapNext A.size))],w.drew,?_,.inr rfl,?_⟩
  ·simp[Array.getElem?_eq_getElem hlt]
  ·rw[←e];simp
theorem aWd (hJ:cP J B) (hR:R J B r h w) {x x':V} {s:Bool} {t:TypeId} {K:V→aA→Prop} (hx:VR r x x') (hn:dS x s h K) :
 ∃v h' v' w',(Instr.next x' s t).run P w = .ok v' w'∧K v h'∧R J B r h' w'∧Ext r h w r h' w'∧VR r v v':=by
 have over:VR r (.tuple #[.bool false]) (.tuple #[.bool false]):=
  .tuple rfl fun i a c=>by
   have:i=0:=by simp at a;omega
   subst this;exact .bool _
 have tri:∀{a b a' b':V},VR r a a'→VR r b b'→VR r (.tuple #[.bool true,a,b]) (.tuple #[.bool true,a',b']):=by
  intro a b a' b' h1 h2
  refine .tuple rfl fun i a c=>?_
  have:i=0∨i=1∨i=2:=by simp at a;omega
  rcases this with rfl | rfl | rfl
  ·exact .bool _
  ·exact h1
  ·exact h2
 unfold dS at hn
 split at hn
 ·rename_i b
  cases hx with
  | @ptr _ _ tg htg=>
  split at hn
  ·rename_i str pos hb
   obtain⟨t',ht',hB,hw⟩:=hR.live _ _ hb
   rw[htg]at ht';cases ht'
   simp only[hB.2,Nat.add_zero]
   have hg:=kI (P:=P) hw (fun c e f he=>by cases he)
   split at hn
   ·rename_i hp
    have hT:=aH5 (w:=w) (o:=.stringIter str (pos+(Utf8.decode str pos).2)) (hR.lt _ _ htg).1
    obtain⟨h1,h2⟩:=hR.wT hJ hb (fun c e he=>by cases he) htg hT (o2:=.siter str (pos+(Utf8.decode str pos).2)) ⟨hB,hT.here⟩ (fun c e he=>by cases he)
    refine⟨_,_,_,_,?_,hn,h1,h2,tri (.int _ _) (.int _ _)⟩
    simp only[Instr.next,Sem.run_bind,hg,Result.andThen_ok,if_pos hp,uI (P:=P) hw (fun c e f he=>by cases he),Sem.run_pure,goInt]
   ·rename_i hp
    refine⟨_,_,.tuple #[.bool false],w,?_,hn,hR,Ext.refl _ _ _,over⟩
    simp only[Instr.next,Sem.run_bind,hg,Result.andThen_ok,if_neg hp,Sem.run_pure]
  ·rename_i a1 a2 a3 hb
   obtain⟨t',ht',hB,hw⟩:=hR.live _ _ hb
   rw[htg]at ht';cases ht'
   simp only[hB.2,Nat.add_zero]
   have hg:=kI (P:=P) hw (fun c e f he=>by cases he)
   refine⟨_,_,.tuple #[.bool false],w,?_,hn,hR,Ext.refl _ _ _,over⟩
   simp only[Instr.next,Sem.run_bind,hg,Result.andThen_ok,Sem.run_pure]
  ·rename_i m since seen last hb
   obtain⟨t',ht',hB,tm,htm,hw⟩:=hR.live _ _ hb
   rw[htg]at ht';cases ht'
   simp only[hB.2,Nat.add_zero]
   have hg:=kI (P:=P) hw (fun c e f he=>by cases he)
   split at hn
   ·rename_i es clock hm
    obtain⟨hcond,hK⟩:=hn
    obtain⟨t',ces,ht',_,hwm,hve⟩:=hR.map hm
    rw[htm]at ht';cases ht'
    have hgm:=kI (P:=P) hwm (fun c e f he=>by cases he)
    have hc:(!seen.isEmpty&&!ces.isEmpty&&ces.all fun e=>decide (e.born≥last))=false:=by
     rw[←hcond]
     have e1:(ces.all fun e=>decide (e.born≥last))=es.all fun e=>decide (e.born≥last):=by
      rw[←Array.all_toList];exact hve.all (fun n=>decide (n≥last))
     have e2:ces.isEmpty=es.isEmpty:=by rw[←Array.isEmpty_toList];exact hve.isEmpty
     rw[e1,e2]
    obtain⟨c',w',hrun,hw',hmem⟩:=aOl (P:=P) (w:=w) (es:=ces) (since:=since) (seen:=seen)
    obtain⟨c,hcm,hcr⟩:=aRv hve since seen hmem
    have hk:=hK c hcm
    have hR':R J B r h w':=by
     rcases hw' with rfl | rfl
     ·exact hR
     ·exact hR.drew hJ
    have hE':Ext r h w r h w':=by
     rcases hw' with rfl | rfl
     ·exact Ext.refl _ _ _
     ·exact Ext.drew
    have hw2:w'.heap=w.heap:=by rcases hw' with rfl | rfl<;>rfl
    have split1:(Instr.next (.pointer (some ⟨tg.blk,0,none⟩)) false t).run P w=((match some c' with
     | some (some e)=>do setObj tg.blk (.mapIter (some tm.blk) since (seen.push e.born) clock);pure (.tuple #[.bool true,e.key,e.val])
     | some none=>pure (.tuple #[.bool false])
     | none=>stuck "Next: no such candidate":Sem V).run P w'):=by
     simp only[Sem.run_bind,Sem.run_pure]at hrun
     simp only[Instr.next,Sem.run_bind,hg,Result.andThen_ok,hgm,hc,Bool.false_eq_true,if_false]
     revert hrun
     generalize (choose _).run P w=q
     intro hrun
     cases q with
     | halt x y=>simp at hrun
     | ok i w1=>
      simp only[Result.andThen_ok,Result.ok.injEq]at hrun ⊢
      obtain⟨hrun,rfl⟩:=hrun
      rw[hrun]
      rfl
    cases c with
    | none=>
     cases c' with
     | some e'=>exact hcr.elim
     | none=>
      simp only at hk
      exact⟨_,_,_,_,by rw[split1];rfl,hk,hR',hE',over⟩
    | some e=>
     cases c' with
     | none=>exact hcr.elim
     | some e'=>
      obtain⟨hk1,hk2,hk3⟩:=hcr
      simp only at hk
      have hwb:w'.heap[tg.blk]? = some (.mapIter (some tm.blk) since seen last):=by rw[hw2];exact hw
      have hT:=aH5 (w:=w') (o:=.mapIter (some tm.blk) since (seen.push e.born) clock) (hR'.lt _ _ htg).1
      obtain⟨h1,h2⟩:=hR'.wT hJ hb (fun c e he=>by cases he) htg hT (o2:=.miter (some m) since (seen.push e.born) clock) ⟨hB,tm,htm,hT.here⟩ (fun c e he=>by cases he)
      refine⟨_,_,_,_,?_,hk,h1,hE'.trans h2,tri hk1 hk2⟩
      rw[split1]
      simp only[Sem.run_bind,hk3,uI (P:=P) hwb (fun c e f he=>by cases he),Result.andThen_ok,Sem.run_pure]
   ·cases hn
  ·cases hn
 ·cases hn
theorem aTa (hR:R J B r h w) {x x' v:V} (hx:VR r x x') (he:gV x h=some v):∃v',(Instr.entry x').run P w = .ok v' w∧VR r v v':=by
 unfold gV at he
 split at he
 ·rename_i b
  cases hx with
  | @ptr _ _ tg htg=>
  split at he
  ·rename_i m s0 seen stepped hb
   obtain⟨t',ht',hB,tm,htm,hw⟩:=hR.live _ _ hb
   rw[htg]at ht';cases ht'
   simp only[hB.2,Nat.add_zero]
   have hg:=kI (P:=P) hw (fun c e f he=>by cases he)
   split at he
   ·rename_i stamp es clock hs hm
    obtain⟨t',ces,ht',_,hwm,hve⟩:=hR.map hm
    rw[htm]at ht';cases ht'
    have hgm:=kI (P:=P) hwm (fun c e f he=>by cases he)
    split at he
    ·rename_i hcl
     subst hcl
     cases hf:es.find? (·.born==stamp) with
     | none=>simp[hf]at he
     | some e=>
      simp only[hf,Option.map_some,Option.some.injEq]at he
      subst he
      have key:∀(es ces:List MapEntry),VRe r es ces→es.find? (·.born==stamp)=some e→∃e',ces.find? (·.born==stamp)=some e'∧VR r e.key e'.key∧VR r e.val e'.val:=by
       intro es
       induction es with
       | nil=>intro ces _ h;simp at h
       | cons a es ih=>
        intro ces hv hf
        cases ces with
        | nil=>have:=hv.1;simp at this
        | cons a' ces=>
         have h0:=hv.2 0 (by simp) (by simp)
         simp only[List.getElem_cons_zero]at h0
         simp only[List.find?_cons,h0.2.2]at hf ⊢
         split at hf
         ·simp at hf;subst hf;exact⟨a',rfl,h0.1,h0.2.1⟩
         ·exact ih ces hv.tail hf
      obtain⟨e',h1,h2,h3⟩:=key es ces.toList hve hf
      have hfa:ces.find? (·.born==stamp)=some e':=by rw[←Array.find?_toList];exact h1
      refine⟨.tuple #[e'.key,e'.val],?_,?_⟩
      ·simp[Instr.entry,hg,hs,hgm,hfa]
      ·refine .tuple rfl fun i a c=>?_
       have:i=0∨i=1:=by simp at a;omega
       rcases this with rfl | rfl
       ·exact h2
       ·exact h3
    ·cases he
   ·cases he
  ·cases he
 ·cases he
end
end Go.Abs

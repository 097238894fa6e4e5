/- A vault: what a part wrote into a table. -/
import Derived.Test.YthhegdifbnghpaaGreatDoorQbf
import Derived.Test.YthhegdifbnghpaaGreatDoorQax
import Derived.Test.YthhegdifbnghpaaGreatDoorQay
import Derived.Test.YthhegdifbnghpaaGreatDoorQbd
import Derived.Test.YthhegdifbnghpaaGreatDoorQav
import Derived.Test.YthhegdifbnghpaaGreatDoorQbc
set_option linter.unusedSimpArgs false
set_option linter.unusedVariables false
namespace Go.Abs
open Go
variable {E:FE} {F:Fr} {h:aA} {L:List Pl} {k:Nat} {w:V} {s:SpM}
theorem aYu (E:FE) (hs:s.kind=1) (z:Sep F h (dZ k w s::L)):∃b tp,w=ptr b 0∧h.rd b 1=some tp∧(∀key q,cG key s.bX=some q→q.val.size≤BB) ∧
 ∀key,cl (Go.Abs.F.eM E) [tp,str key] h fun r h'=>h'=h∧r = .tuple #[str (match cG key s.bX with | some q=>q.val | none=>⟨#[]⟩),.bool (cG key s.bX).isSome]:=by
 obtain⟨S,h1,h2,h3,z1⟩:=z.rH
 obtain⟨f,q,kk⟩:=z1.head
 have q:SpS h f w S:=q
 cases S with
 | qu a b i l=>exact absurd h3.1 (by rw[hs];decide)
 | to l g=>exact absurd h3.1 (by rw[hs];decide)
 | tab g=>
  obtain⟨pt,q⟩:=q
  obtain⟨b,f',rfl,rfl,hg,hA,up⟩:=q.open
  have hA:Tab h f' pt g:=hA
  obtain⟨_,tg,hn,_⟩:=h3
  refine⟨b,pt,rfl,by rw[aH hg 1];rfl,fun key q hq=>?_,fun key=>?_⟩
  ·have h4:=tg.same key
   rw[hq,Option.map_some]at h4
   obtain⟨e,he,hv⟩:=qJ h4
   obtain⟨x,hx,hz⟩:=h1.1 e he
   rw[hv]at hx
   cases hx
   exact hz
  ·refine aK (zL hA (fun e he=>by obtain⟨s,h,_⟩:=h1.1 e he;exact⟨s,h⟩) key) ?_
   rintro r h' ⟨rfl,rfl⟩
   refine⟨rfl,?_⟩
   rw[tg.same key]
   cases cG key s.bX<;>rfl
theorem aYv (E:FE) (hs:s.kind=1) (key val:ByteArray) (hz:key.size≤maxLen∧val.size≤BB) (z:Sep F h (dZ k w s::L)):∃b tp,w=ptr b 0∧h.rd b 1=some tp ∧
 cl (Go.Abs.F.iG E) [tp,str key,str val] h fun r h'=>Sep F h' (dZ (k+1) w { s with bX:=fB ⟨key,val,0⟩ s.bX }::L):=by
 obtain⟨S,h1,h2,h3,z1⟩:=z.rH
 obtain⟨f,q,kk⟩:=z1.head
 have q:SpS h f w S:=q
 cases S with
 | qu a b i l=>exact absurd h3.1 (by rw[hs];decide)
 | to l g=>exact absurd h3.1 (by rw[hs];decide)
 | tab g=>
  obtain⟨pt,q⟩:=q
  obtain⟨b,f',rfl,rfl,hg,hA,up⟩:=q.open
  have hA:Tab h f' pt g:=hA
  refine⟨b,pt,rfl,by rw[aH hg 1];rfl,?_⟩
  refine aK (aPb hA key (str val)) ?_
  rintro r h' ⟨_,c,t2,m2⟩
  obtain⟨q1,q2⟩:=up (jY pt (cM key (str val) c g)) m2 t2
  have hst:=h1.step ⟨4,⟨#[]⟩,key,val,0⟩ 0 c hz
  obtain⟨_,_,a3⟩:=aFb h3 h1 ⟨4,⟨#[]⟩,key,val,0⟩ 0 c
  have e1:((bR.tab g).act ⟨4,⟨#[]⟩,key,val,0⟩ 0 c).2.2 = .tab (cM key (str val) c g):=rfl
  have e2:(s.act ⟨4,⟨#[]⟩,key,val,0⟩ 0).2.2 = { s with bX:=fB ⟨key,val,0⟩ s.bX }:=by
   unfold SpM.act
   rw[if_pos hs,if_pos (by simp),if_pos rfl]
  rw[e1]at hst a3
  rw[e2]at a3
  exact Sep.tG hst trivial a3 (kk (pN (ptr b 0) (.tab (cM key (str val) c g))) q2 ⟨pt,q1⟩)
theorem aYt (E:FE) (hs:s.kind=1) (key:ByteArray) (hz:key.size≤maxLen) (z:Sep F h (dZ k w s::L)):∃b tp,w=ptr b 0∧h.rd b 1=some tp ∧
 cl (Go.Abs.F.iF E) [tp,str key] h fun r h'=>Sep F h' (dZ (k+1) w { s with bX:=iP key s.bX }::L):=by
 obtain⟨S,h1,h2,h3,z1⟩:=z.rH
 obtain⟨f,q,kk⟩:=z1.head
 have q:SpS h f w S:=q
 cases S with
 | qu a b i l=>exact absurd h3.1 (by rw[hs];decide)
 | to l g=>exact absurd h3.1 (by rw[hs];decide)
 | tab g=>
  obtain⟨pt,q⟩:=q
  obtain⟨b,f',rfl,rfl,hg,hA,up⟩:=q.open
  have hA:Tab h f' pt g:=hA
  refine⟨b,pt,rfl,by rw[aH hg 1];rfl,?_⟩
  refine aK (aPa hA (fun e he=>by obtain⟨s,h,_⟩:=h1.1 e he;exact⟨s,h⟩) key) ?_
  rintro r h' ⟨_,t2,m2⟩
  obtain⟨q1,q2⟩:=up (jY pt (eS key g)) m2 t2
  have hst:=h1.step ⟨5,⟨#[]⟩,key,⟨#[]⟩,0⟩ 0 0 ⟨hz,(by decide:(⟨#[]⟩:ByteArray).size≤BB)⟩
  obtain⟨_,_,a3⟩:=aFb h3 h1 ⟨5,⟨#[]⟩,key,⟨#[]⟩,0⟩ 0 0
  have e1:((bR.tab g).act ⟨5,⟨#[]⟩,key,⟨#[]⟩,0⟩ 0 0).2.2 = .tab (eS key g):=rfl
  have e2:(s.act ⟨5,⟨#[]⟩,key,⟨#[]⟩,0⟩ 0).2.2 = { s with bX:=iP key s.bX }:=by
   unfold SpM.act
   rw[if_pos hs,if_pos (by simp),if_neg (show ¬((5:Int)=4) by decide),if_pos rfl]
  rw[e1]at hst a3
  rw[e2]at a3
  exact Sep.tG hst trivial a3 (kk (pN (ptr b 0) (.tab (eS key g))) q2 ⟨pt,q1⟩)
def wrO (n:ByteArray) (v:SpM) (o:Oq) (s:SpM):SpM:=
 if o.space=n∧(o.fn=4∨o.fn=5) then (match cG o.key v.bX with | some q=>{ s with bX:=fB ⟨o.key,q.val,0⟩ s.bX } | none=>{ s with bX:=iP o.key s.bX }) else s
theorem aIc (n:ByteArray) (v:SpM) (o:Oq) (l:List Oq) (s:SpM):fG n v (o::l) s=fG n v l (wrO n v o s):=by
 simp only[fG,wrO]
 split<;>rfl
theorem aId (n:ByteArray) (v:SpM) (o:Oq):∀(l:List Oq) (s:SpM),fG n v (l++[o]) s=wrO n v o (fG n v l s)
 | [],s=>by rw[List.nil_append,aIc];rfl
 | a::l,s=>by rw[List.cons_append,aIc,aId n v o l,aIc]
theorem aLb {κ α:Type} [DecidableEq κ] (k:κ) (x y:α):∀l:List (κ×α),ins k y (ins k x l)=ins k y l
 | []=>by simp[ins]
 | (a,u)::l=>by
  by_cases h:a=k
  ·simp[ins,h]
  ·simp[ins,h,aLb k x y l]
def onN (n:ByteArray) (l:List Oq):Nat:=(l.filter fun o=>decide (o.space=n)).length
theorem aM8 (n:ByteArray) (l:List Oq) (o:Oq):onN n (l++[o])=onN n l+if o.space=n then 1 else 0:=by
 unfold onN
 rw[List.filter_append,List.length_append]
 by_cases h:o.space=n<;>simp[h]
theorem aHg (n:ByteArray) (l:List Oq) (o:Oq):onN n (o::l)=(if o.space=n then 1 else 0)+onN n l:=by
 unfold onN
 by_cases h:o.space=n
 ·simp[h];omega
 ·simp[h]
theorem aM9:∀(l:List Oq) {ns:List ByteArray},ns.Nodup→(ns.map fun n=>onN n l).sum≤l.length
 | [],ns,_=>by
  have:(ns.map fun n=>onN n []).sum=0:=by
   induction ns with
   | nil=>rfl
   | cons a t ih=>simp_all [onN]
  omega
 | o::l,ns,h=>by
  have ih:=aM9 l h
  have h1:∀ns:List ByteArray,ns.Nodup→(ns.map fun n=>onN n (o::l)).sum≤1+(ns.map fun n=>onN n l).sum∧(o.space∉ns→(ns.map fun n=>onN n (o::l)).sum=(ns.map fun n=>onN n l).sum):=by
   intro ns
   induction ns with
   | nil=>intro _;simp
   | cons a t ih=>
    intro hnd
    obtain⟨h1,h2⟩:=List.nodup_cons.1 hnd
    obtain⟨i1,i2⟩:=ih h2
    simp only[List.map_cons,List.sum_cons,aHg]
    by_cases e:o.space=a
    ·have:=i2 (by rw[e];exact h1)
     rw[if_pos e]
     refine⟨?_,fun hn=>absurd (by simp[e]) hn⟩
     simp only[aHg]at this
     omega
    ·rw[if_neg e]
     simp only[aHg]at i1 i2
     refine⟨by omega,fun hn=>?_⟩
     have:=i2 fun hm=>hn (by simp[hm])
     omega
  have:=(h1 ns h).1
  rw[List.length_cons]
  omega
end Go.Abs
namespace Go.Abs
open Go
variable {E:FE} {F:Fr} {h:aA} {L:List Pl} {k:Nat}
theorem aVp {mv clk:Nat} {t:List (Et ByteArray (Option SpM))} {view:List (ByteArray×Option SpM)} (q:OkE t clk view) {e:Et ByteArray (Option SpM)} (he:e∈t) (s:Sep F h (bO mv (t.map (Et.m aU)) clk::L)) :
 bW (some (.string,(some (.pointer none)))) (.map (some mv)) (str e.k) false h=some e.v:=by
 have g:=s.qL
 rw[rD]at g
 have h1:=aG3 aU (z:=nil) g e.k false
 have hn:(iA (t.map Et.g)).Nodup:=by
  rw[aGw,←oC]
  exact q.ndt
 have h2:cC e.k (t.map Et.g)=some e.v:=aKw (e:=e.g) hn (List.mem_map.2 ⟨e,he,rfl⟩)
 rw[h2]at h1
 exact h1
theorem aX1 {h3:aA} {bo:Nat} {fn:Int} (r0:h3.rd bo 0=some (i64 fn)) (hf:fn=4∨fn=5) {X:V→Prop} (hX:X (.bool false)) :
 kv (gdV (.bool false) false (aF (some 0) (ptr bo 0))) fun v33=>kv (gdV (.bool false) false (ldD .one v33 h3)) fun v34=>kv (gdV (.bool false) false (aC .bad .neq true v34 (.int .i64 4) h3)) fun v35=>kv (gdV (.bool false) false (some v35)) fun v36=>
  kv (gdV v36 true (aF (some 0) (ptr bo 0))) fun v37=>kv (gdV v36 true (ldD .one v37 h3)) fun v38=>kv (gdV v36 true (aC .bad .neq true v38 (.int .i64 5) h3)) fun v39=>kv (gdV (.bool false) false (bC v36 v39 (.bool false))) fun v40=>kv (bC (.bool false) (.bool true) v40) X:=by
 rcases hf with rfl | rfl<;>simpa[aQ,dO,aR,r0]using hX
theorem aX2 {h3:aA} {bo:Nat} {fn:Int} (r0:h3.rd bo 0=some (i64 fn)) (b:Bool) (hf:b=true∨¬(fn=4∨fn=5)) {X:V→Prop} (hX:X (.bool true)) :
 kv (gdV (.bool b) false (aF (some 0) (ptr bo 0))) fun v33=>kv (gdV (.bool b) false (ldD .one v33 h3)) fun v34=>kv (gdV (.bool b) false (aC .bad .neq true v34 (.int .i64 4) h3)) fun v35=>kv (gdV (.bool b) false (some v35)) fun v36=>
  kv (gdV v36 true (aF (some 0) (ptr bo 0))) fun v37=>kv (gdV v36 true (ldD .one v37 h3)) fun v38=>kv (gdV v36 true (aC .bad .neq true v38 (.int .i64 5) h3)) fun v39=>kv (gdV (.bool b) false (bC v36 v39 (.bool false))) fun v40=>kv (bC (.bool b) (.bool true) v40) X:=by
 cases b with
 | true=>simpa[aQ,dO,aR]using hX
 | false=>
  have h1:¬(fn=4∨fn=5):=by simpa using hf
  have h4:(fn != 4)=true:=by simp;omega
  have h5:(fn != 5)=true:=by simp;omega
  simpa[aQ,dO,aR,r0,h4,h5]using hX
theorem aV0 {k k':Nat} (hk:k≤k') (n0:ByteArray) (v0:V):∀(F:Fr) (h:aA) (L:List Pl) (n:ByteArray) (v:V) (x:SpM),Sep F h (dG n0 v0 (spV k) n v x::L)→Sep F h (dG n0 v0 (spV k') n v x::L):=fun F h L n v x s=>by
 by_cases e:n=n0
 ·simp only[dG,if_pos e]at s ⊢;exact s
 ·simp only[dG,if_neg e]at s ⊢;exact rE hk _ _ _ _ _ _ s
theorem aZo {pv pp ms mp mv clk:Nat} {a c oa va:V} {p:cF} {sp:List (ByteArray×SpM)} {t:List (Et ByteArray (Option SpM))} (all:Bool) {e:Et ByteArray (Option SpM)} (he:e∈t) (q:OkE t clk p.view)
 (ht:all=false→∃s t0,e.x=some s∧s.kind=1∧lkp e.k sp=some t0∧t0.kind=1) (hz:∀o∈p.ops,o.key.size≤maxLen) (hl:p.ops.length≤8)
 (s:Sep F h (vwV k e.k e.v e.x::aL aU (spV k) ms sp::bO mv (t.map (Et.m aU)) clk::aP pv [.map (some ms),a,.map (some mp),c] 4::aP pp [oa,va,i64 p.now,.map (some mv)] 4::cV oa p.ops::L)) :
 cl (Go.Abs.F.nZ E) [ptr pv 0,ptr pp 0,str e.k,.bool all] h fun r h'=>
  Sep F h' (aL aU (spV (k+onN e.k p.ops)) ms (iR p all e.k e.x sp)::bO mv (t.map (Et.m aU)) clk::aP pv [.map (some ms),a,.map (some mp),c] 4::aP pp [oa,va,i64 p.now,.map (some mv)] 4::cV oa p.ops::L):=by
 refine aN ?_
 have r3:h.rd pp 3=some (.map (some mv)):=by rw[aH (Sep.get (s.re6 [4] rfl)) 3];rfl
 have r0:h.rd pv 0=some (.map (some ms)):=by rw[aH (Sep.get (s.re6 [3] rfl)) 0];rfl
 have hlk:=aVp q he s.drop.drop
 simp only[Go.Abs.F.nZ,bK,bE,aB,aS,Nat.zero_add,r3,r0,hlk,aQ]
 cases all with
 | true=>
  have nn:=Sep.aJ9 (k:=k) (n:=e.k) s true
  simp only[if_true,aB,nn,aR,aG]
  cases hx:e.x with
  | none=>
   rw[hx]at s
   simp only[Option.isNone_none,if_true]
   obtain⟨h2,e2,s2⟩:=Sep.aF0 (D:=aU) (A:=spV k) (k:=e.k) (z:=nil) s.drop
   have e2:gL (some (.string,(some (.pointer none)))) (.map (some ms)) (str e.k) h=some h2:=e2
   rw[e2,bV]
   exact Sep.iW (rE (Nat.le_add_right _ _)) s2
  | some x=>
   rw[hx]at s
   simp only[Option.isNone_some,Bool.false_eq_true,if_false]
   obtain⟨h2,e2,s2⟩:=Sep.tP (D:=aU) (A:=spV k) (k:=e.k) (v:=e.v) (x:=x) (z:=nil) s.up1
   have e2:cU (some (.string,(some (.pointer none)))) (.map (some ms)) (str e.k) e.v h=some h2:=e2
   rw[e2,bV]
   exact Sep.iW (rE (Nat.le_add_right _ _)) s2
 | false=>
  obtain⟨x,t0,hx,hxk,ht0,htk⟩:=ht rfl
  rw[hx]at s ⊢
  generalize e.v=ev at s hlk ⊢
  have hlays:iR p false e.k (some x) sp=ins e.k (fG e.k x p.ops t0) sp:=by simp only[iR,ht0]
  rw[hlays]
  have q0:h.rd pp 0=some oa:=by rw[aH (Sep.get (s.re6 [4] rfl)) 0];rfl
  obtain⟨f,q1,_⟩:=Sep.head (s.re6 [5] rfl)
  have q1:SlE dOp h f oa p.ops:=q1
  simp only[Bool.false_eq_true,if_false,aB,aR,aG,q0,q1.len]
  rw[←vQ ht0]at s
  refine⟨fun n vs h'=>∃i:Nat,vs=[i64 i]∧n=p.ops.length - i∧i≤p.ops.length ∧
   Sep F h' (dZ k ev x::aL aU (spV (k+onN e.k (p.ops.take i))) ms (ins e.k (fG e.k x (p.ops.take i) t0) sp)::bO mv (t.map (Et.m aU)) clk::aP pv [.map (some ms),a,.map (some mp),c] 4::aP pp [oa,va,i64 p.now,.map (some mv)] 4::cV oa p.ops::L),
   p.ops.length,⟨0,rfl,by omega,by omega,s⟩,?_⟩
  clear s r0 q0 q1 hlk r3
  rintro n e0 h1 ⟨i,he0,rfl,hi,s1⟩
  simp only[List.cons.injEq,and_true]at he0
  simp only[he0,cN,aB,aG,decide_eq_true_eq]
  rcases Nat.lt_or_ge i p.ops.length with hxi | hxi
  case inr=>
   rw[if_neg (show ¬((i:Nat):Int)<(p.ops.length:Nat) by omega)]
   rw[List.take_of_length_le hxi]at s1
   exact s1.drop
  rw[if_pos (show ((i:Nat):Int)<(p.ops.length:Nat) by omega)]
  obtain⟨f1,q1,_⟩:=Sep.head (s1.re6 [5] rfl)
  have q1:SlE dOp h1 f1 oa p.ops:=q1
  have hg:p.ops[i]? = some p.ops[i]:=List.getElem?_eq_getElem hxi
  obtain⟨cb,i1,i2⟩:=q1.ld hg
  have i1:aV (.slice 5) oa (i64 i)=_:=i1
  have i2:ldD (.agg 5) _ h1=some (p.ops[i]).agg:=i2
  have hoz:=hz _ (List.getElem_mem hxi)
  have htk1:p.ops.take (i+1)=p.ops.take i++[p.ops[i]]:=by rw[List.take_add_one,hg];rfl
  generalize p.ops[i]=o at i2 hoz htk1
  rw[i1,aB,i2,aB,aCj,aZ]
  have s2:=s1.box ((⟨0,⟨#[]⟩,⟨#[]⟩,⟨#[]⟩,0⟩:Oq).cells) 5
  clear s1 q1
  rw[st5 s2.get,bV]
  have s3:=s2.write (cs':=o.cells)
  clear s2
  generalize aA.put _ _ _=h3 at s3 ⊢
  generalize h1.next=bo at s3 ⊢
  have r0:h3.rd bo 0=some (i64 o.fn):=by rw[aH s3.get 0];rfl
  have r1:h3.rd bo 1=some (str o.space):=by rw[aH s3.get 1];rfl
  have r2:h3.rd bo 2=some (str o.key):=by rw[aH s3.get 2];rfl
  rw[bE,aB,aS,Nat.zero_add,r1,aB,zI,aB]
  have nextR:∀{h':aA},Sep F h' (dZ k ev x::aL aU (spV (k+onN e.k (p.ops.take (i+1)))) ms (ins e.k (fG e.k x (p.ops.take (i+1)) t0) sp)::bO mv (t.map (Et.m aU)) clk::aP pv [.map (some ms),a,.map (some mp),c] 4::aP pp [oa,va,i64 p.now,.map (some mv)] 4::cV oa p.ops::L) →
   kv (aC .bad .add true (i64 i) (.int .i64 1) h') fun v78=>∃m,m<p.ops.length - i∧∃j:Nat,[v78]=[i64 j]∧m=p.ops.length - j∧j≤p.ops.length ∧
    Sep F h' (dZ k ev x::aL aU (spV (k+onN e.k (p.ops.take j))) ms (ins e.k (fG e.k x (p.ops.take j) t0) sp)::bO mv (t.map (Et.m aU)) clk::aP pv [.map (some ms),a,.map (some mp),c] 4::aP pp [oa,va,i64 p.now,.map (some mv)] 4::cV oa p.ops::L):=by
   intro h' s'
   rw[cY _ 1 (by omega) (by omega),aB]
   exact⟨p.ops.length - (i+1),by omega,i+1,by simp,rfl,by omega,s'⟩
  by_cases hw:o.space=e.k∧(o.fn=4∨o.fn=5)
  case neg=>
   have hwr:fG e.k x (p.ops.take (i+1)) t0=fG e.k x (p.ops.take i) t0:=by
    rw[htk1,aId]
    unfold wrO
    rw[if_neg hw]
   have hsub:k+onN e.k (p.ops.take i)≤k+onN e.k (p.ops.take (i+1)):=by rw[htk1,aM8];omega
   refine aX2 r0 _ ?_ ?_
   ·by_cases hsp:o.space=e.k
    ·exact .inr fun hf=>hw ⟨hsp,hf⟩
    ·exact .inl (by simp[hsp])
   rw[aG,if_pos rfl]
   refine nextR ?_
   rw[hwr]
   exact (Sep.iW (rE hsub) s3.drop.up1).up1
  obtain⟨hsp,hfn⟩:=hw
  have hd:decide (o.space=e.k)=true:=by simp[hsp]
  rw[hd]
  refine aX1 r0 hfn ?_
  rw[aG,if_neg (by simp)]
  have hon:onN e.k (p.ops.take (i+1))=onN e.k (p.ops.take i)+1:=by rw[htk1,aM8,if_pos hsp]
  have hwr:fG e.k x (p.ops.take (i+1)) t0=wrO e.k x o (fG e.k x (p.ops.take i) t0):=by rw[htk1,aId]
  have hki:(fG e.k x (p.ops.take i) t0).kind=1:=by rw[aE0];exact htk
  rw[hwr,hon]at nextR
  unfold wrO at nextR
  rw[if_pos ⟨hsp,hfn⟩]at nextR
  have nextR:=fun {h'} s=>@nextR h' s
  generalize hgw:fG e.k x (p.ops.take i) t0=tt at s3 nextR hki
  have hj:∃jj,onN e.k (p.ops.take i)=jj:=⟨_,rfl⟩
  obtain⟨jj,hj⟩:=hj
  rw[hj]at s3 nextR
  obtain⟨bx,tx,rfl,rx,hzx,getx⟩:=aYu E hxk s3.drop
  have lkS:lkp e.k (ins e.k tt sp)=some tt:=by rw[mF,if_pos rfl]
  have q0:h3.rd pv 0=some (.map (some ms)):=by rw[aH (Sep.get (s3.re7 [4] rfl)) 0];rfl
  simp only[bK,aB,bE,aS,Nat.zero_add,rx,r2]
  refine aK (getx o.key) ?_
  rintro r4 h4 ⟨rfl,rfl⟩
  obtain⟨w2,e2,s5⟩:=(s3.re7 [2,1,3,4,5,6] rfl).pH (z:=nil) lkS false
  have e2:bW (some (.string,(some (.pointer none)))) (.map (some ms)) (str e.k) false h4=some w2:=e2
  simp only[bU,List.getElem?_toArray,List.getElem?_cons_zero,List.getElem?_cons_succ,aB,aG,q0,e2]
  have back:∀{h':aA} {tt':SpM},Sep F h' (dZ (k+jj+1) w2 tt'::aL aU (dG e.k w2 (spV (k+jj))) ms (ins e.k tt sp)::dZ k (ptr bx 0) x::bO mv (t.map (Et.m aU)) clk::aP pv [.map (some ms),a,.map (some mp),c] 4::aP pp [oa,va,i64 p.now,.map (some mv)] 4::cV oa p.ops::L) →
   Sep F h' (dZ k (ptr bx 0) x::aL aU (spV (k+(jj+1))) ms (ins e.k tt' sp)::bO mv (t.map (Et.m aU)) clk::aP pv [.map (some ms),a,.map (some mp),c] 4::aP pp [oa,va,i64 p.now,.map (some mv)] 4::cV oa p.ops::L):=by
   intro h' tt' s6
   have s7:=(Sep.iW (aV0 (Nat.le_succ (k+jj)) e.k w2) s6.up1).up1
   have s8:=Sep.uZ (A:=spV (k+jj+1)) (k:=e.k) (v:=w2) (x':=tt') s7 lkS
   rw[aLb]at s8
   exact s8.up1
  cases hq:cG o.key x.bX with
  | some qq=>
   rw[hq]at nextR
   simp only[Option.isSome_some,if_true]
   obtain⟨b2,t2,rfl,rx2,put2⟩:=aYv E hki o.key qq.val ⟨hoz,hzx _ _ hq⟩ s5
   simp only[bK,aB,bE,aS,Nat.zero_add,rx2,r2]
   refine aK put2 ?_
   intro r6 h6 s6
   exact nextR (back s6)
  | none=>
   rw[hq]at nextR
   simp only[Option.isSome_none,Bool.false_eq_true,if_false]
   obtain⟨b2,t2,rfl,rx2,del2⟩:=aYt E hki o.key hoz s5
   simp only[bK,aB,bE,aS,Nat.zero_add,rx2,r2]
   refine aK del2 ?_
   intro r6 h6 s6
   exact nextR (back s6)
end Go.Abs
namespace Go.Abs
open Go
variable {E:FE} {F:Fr} {h:aA} {L:List Pl} {k:Nat} {p:V} {st:dC}
def blV (_:ByteArray) (v:V) (x:Bool):Pl:=dI (v = .bool x)
theorem Sep.aL9 {ma:Nat} {l:List (ByteArray×Bool)} (s:Sep F h (aL aU blV ma l::L)) (n:ByteArray) :
 bW (some (.string,(some (.bool false)))) (.map (some ma)) (str n) false h=some (.bool ((lkp n l).getD false)):=by
 cases hk:Go.Abs.lkp n l with
 | none=>
  have h1:=s.sP (z:=.bool false) hk false
  have h1:bW (some (.string,(some (.bool false)))) (.map (some ma)) (str n) false h=some (.bool false):=h1
  rw[h1];rfl
 | some x=>
  obtain⟨w,h1,s1⟩:=s.pH (z:=.bool false) hk false
  have h1:bW (some (.string,(some (.bool false)))) (.map (some ma)) (str n) false h=some w:=h1
  obtain⟨hw,_⟩:=Sep.pure (φ:=w = .bool x) s1
  rw[h1,hw];rfl
theorem Sep.aWk {κ α:Type} [DecidableEq κ] {D:KD κ} {A:κ→V→α→Pl} {m:Nat} {l:List (κ×α)} {k:κ} {w:V} (s:Sep F h (aL D (dG k w A) m l::L)) (hk:Go.Abs.lkp k l=none) :
 Sep F h (aL D A m l::L):=by
 obtain⟨t,clk,q,s1⟩:=s.fA
 have ht:∀e∈t,e.k≠k:=fun e he hc=>by
  have h1:k∉bA l:=lA.1 hk
  exact h1 ((keys_perm q.perm).mem_iff.1 (by rw[oC];exact List.mem_map.2 ⟨e,he,hc⟩))
 rw[sL (v:=w) ht]at s1
 exact Sep.fJ q s1
theorem aQy {v:V} {ks:List bF} {ma:Nat} (s:Sep F h (aL aU blV ma []::fQ v ks::L)) (hsz:ks.length≤1000000) {K:aA→Prop}
 (hK:∀h' l,(∀n,(lkp n l).getD false=ks.any fun x=>decide (x.space=n)&&x.all)→Sep F h' (aL aU blV ma l::fQ v ks::L)→K h') :
 kv (bH .slice v h) fun v23=>
∃(Inv24:Nat→List V→aA→Prop) (n24:Nat),Inv24 n24 [(.int .i64 0)] h∧∀(n24:Nat) (e24:Nat→V) (h:aA),Inv24 n24 [(e24 39)] h →
kv (aC .bad .lss false (e24 39) v23 h) fun v25=>
ifV v25 (
kv (aV (.slice 3) v (e24 39)) fun v26=>
kv (ldD (.agg 3) v26 h) fun v27=>
kP (aY none (.agg #[(.string ⟨#[]⟩),(.string ⟨#[]⟩),(.bool false)]) h) fun v28 h=>
kH (stD (some 3) v28 v27 h) fun _ h=>
kv (aF (some 0) v28) fun v29=>
kv (ldD .one v29 h) fun v30=>
kv (aF (some 0) v28) fun v31=>
kv (ldD .one v31 h) fun v32=>
kv (bW (some (.string,(some (.bool false)))) (.map (some ma)) v32 false h) fun v33=>
kv (gdV v33 false (aF (some 2) v28)) fun v34=>
kv (gdV v33 false (ldD .one v34 h)) fun v35=>
kv (bC v33 (.bool true) v35) fun v36=>
kH (cU (some (.string,(some (.bool false)))) (.map (some ma)) v30 v36 h) fun _ h=>
kv (aC .bad .add true (e24 39) (.int .i64 1) h) fun v37=>
∃m,m<n24∧Inv24 m [v37] h) (
K h):=by
 obtain⟨f0,q0,_⟩:=s.up1.head
 have q0:SlE bG h f0 v ks:=q0
 rw[q0.len,aB]
 refine⟨fun n vs h'=>∃(i:Nat) (l:List (ByteArray×Bool)),vs=[i64 i]∧n=ks.length - i∧i≤ks.length∧(∀n,(lkp n l).getD false=(ks.take i).any fun x=>decide (x.space=n)&&x.all)∧Sep F h' (aL aU blV ma l::fQ v ks::L),
  ks.length,⟨0,[],rfl,by omega,by omega,fun n=>by simp[lkp],s⟩,?_⟩
 rintro n e h1 ⟨i,l,he,rfl,hi,hl,s1⟩
 simp only[List.cons.injEq,and_true]at he
 simp only[he,cN,aB,aG,decide_eq_true_eq]
 rcases Nat.lt_or_ge i ks.length with hx | hx
 case inr=>
  rw[if_neg (show ¬((i:Nat):Int)<(ks.length:Nat) by omega)]
  rw[List.take_of_length_le hx]at hl
  exact hK _ _ hl s1
 rw[if_pos (show ((i:Nat):Int)<(ks.length:Nat) by omega)]
 obtain⟨f1,q1,_⟩:=s1.up1.head
 have q1:SlE bG h1 f1 v ks:=q1
 have hg:ks[i]? = some ks[i]:=List.getElem?_eq_getElem hx
 obtain⟨c,i1,i2⟩:=q1.ld hg
 have i1:aV (.slice 3) _ _=_:=i1
 have i2:ldD (.agg 3) _ _=some (ks[i]).agg:=i2
 have hnext:∀n,((ks.take (i+1)).any fun x=>decide (x.space=n)&&x.all)=(((ks.take i).any fun x=>decide (x.space=n)&&x.all)||(decide (ks[i].space=n)&&ks[i].all)):=fun n=>by
  rw[List.take_add_one,hg,Option.toList_some,List.any_append,List.any_cons,List.any_nil,Bool.or_false]
 generalize ks[i]=kx at i2 hnext
 simp only[i1,aB,i2,yU,aZ]
 have s2:=s1.box (bG.enc ⟨⟨#[]⟩,⟨#[]⟩,false⟩) 3
 rw[st3 s2.get,bV]
 have s3:=s2.write (cs':=bG.enc kx)
 generalize (h1.new (.cells (bG.enc ⟨⟨#[]⟩,⟨#[]⟩,false⟩) 3 .rw)).put h1.next (.cells (bG.enc kx) 3 .rw)=h3 at s3 ⊢
 generalize h1.next=bk at s3 ⊢
 have r0:h3.rd bk 0=some (str kx.space):=by rw[aH s3.get 0];rfl
 have r2:h3.rd bk 2=some (.bool kx.all):=by rw[aH s3.get 2];rfl
 simp only[bE,aB,aS,Nat.zero_add,r0,Sep.aL9 s3.drop kx.space,aQ,r2]
 have hb:∀X:V→Prop,X (.bool ((lkp kx.space l).getD false||kx.all))→kv (if (lkp kx.space l).getD false=false then some (ptr bk 2) else some gone) fun v51=>kv (if (lkp kx.space l).getD false=false then ldD .one v51 h3 else some gone) fun v52=>kv (bC (.bool ((lkp kx.space l).getD false)) (.bool true) v52) X:=by
  intro X hX
  cases hv:(lkp kx.space l).getD false with
  | true=>
   rw[hv]at hX
   simpa[aR]using hX
  | false=>
   rw[hv]at hX
   simpa[aR,r2]using hX
 refine hb _ ?_
 obtain⟨h4,e4,s4⟩:=Sep.tP (D:=aU) (A:=blV) (k:=kx.space) (v:=.bool ((lkp kx.space l).getD false||kx.all)) (x:=(lkp kx.space l).getD false||kx.all) (z:=.bool false) (Sep.up1 (Sep.mkPure (φ:=(Value.bool ((lkp kx.space l).getD false||kx.all):V) = .bool ((lkp kx.space l).getD false||kx.all)) rfl s3.drop))
 have e4:cU (some (.string,(some (.bool false)))) (.map (some ma)) (str kx.space) (.bool ((lkp kx.space l).getD false||kx.all)) h3=some h4:=e4
 rw[e4,bV,cY _ 1 (by omega) (by omega),aB]
 refine⟨ks.length - (i+1),by omega,i+1,_,by simp,rfl,by omega,fun n=>?_,s4⟩
 rw[mF,hnext n,←hl n]
 by_cases e:kx.space=n
 ·rw[if_pos e,e];simp
 ·rw[if_neg e];simp[e]
set_option maxHeartbeats 1000000 in
theorem aPh (ve:VlE E) (id:IdM) (yes:Bool) (hi:dK k st) (hk:k≤900) (s:Sep F h (eL k p st::L)) :
 cl (Go.Abs.F.jG E) [p,id.agg,.bool yes] h fun r h'=>r = .bool (qF st id yes).1∧Sep F h' (eL (k+8) p (qF st id yes).2::L):=by
 obtain⟨E9,hE9⟩:=ve.ord
 have hM:=ve.op.mono
 refine aN ?_
 obtain⟨b,ms,a,mp,c,rfl,s0⟩:=s.sV
 clear s
 simp only[Go.Abs.F.jG,oO,aZ,dA,aB,aQ,if_true,bK,bE,aS,Nat.zero_add]
 have s1:=s0.box (cId id) 2
 clear s0
 generalize h.new (.cells (cId id) 2 .rw)=h1 at s1 ⊢
 generalize h.next=bi at s1 ⊢
 have r3:h1.rd b 3=some c:=by rw[aH s1.drop.get 3];rfl
 rw[r3,aB,ld2 s1.get,aB]
 refine cT rfl (aK (aUc id s1.up5) ?_)
 rintro r h2 ⟨rfl,s2⟩
 clear s1 r3
 simp only[dE,aB,aR,Bool.false_eq_true,if_false,aG,Bool.not_not,decide_eq_true_eq]
 rw[xX]
 by_cases hov:id∈st.ov
 ·rw[if_pos hov,if_pos hov]
  rw[if_pos hov]at s2
  exact⟨rfl,sQ (Nat.le_add_right k 8) (Sep.kW (s2.re6 [2,3,4,5,0] rfl))⟩
 rw[if_neg hov,if_neg hov]
 rw[if_neg hov]at s2
 have r2:h2.rd b 2=some (.map (some mp)):=by rw[aH s2.drop.drop.get 2];rfl
 rw[r2,aB,ld2 s2.drop.get,aB]
 cases hk1:Go.Abs.lkp id st.pt with
 | none=>
  have e1:=s2.up5.sP (z:=nil) hk1 false
  have e1:bW (some ((.struct false [(0,.int),(1,.int)]),(some (.pointer none)))) (.map (some mp)) id.agg false h2=some nil:=e1
  rw[e1,aB]
  simp only[tX,aB,aG,if_true]
  exact⟨trivial,sQ (Nat.le_add_right k 8) (Sep.kW (st:=({ st with ov:=id::st.ov }:dC)) (s2.re6 [2,3,4,5,0] rfl))⟩
 | some x=>
 obtain⟨w,e1,s3⟩:=s2.up5.pH (z:=nil) hk1 false
 have e1:bW (some ((.struct false [(0,.int),(1,.int)]),(some (.pointer none)))) (.map (some mp)) id.agg false h2=some w:=e1
 obtain⟨bp,oa,va,mv,rfl,s4⟩:=Sep.wG (k:=k) (x:=x) s3
 clear s2 s3
 rw[e1,aB]
 simp only[dA,aB,aG,Bool.false_eq_true,if_false]
 have em:∀h:aA,fO true none h=some (.map (some h.next),h.new (.map [] 0)):=fun _=>rfl
 rw[em,aZ]
 have s5:=s4.wD (D:=aU) (A:=blV)
 clear s4 e1 r2
 generalize h2.new (.map [] 0)=h3 at s5 ⊢
 generalize h2.next=ma at s5 ⊢
 have r1:h3.rd b 1=some a:=by rw[aH (Sep.get (s5.fS [8] rfl)) 1];rfl
 rw[r1,aB,ld2 (Sep.get (s5.fS [7] rfl)),aB]
 have hnlk:=hi.nlk
 have hfew:=hi.few id
 refine aK (aL7 hM hE9 id (s5.fS [10,0,1,2,3,4,5,6,7,8,9] rfl) (by omega) (by omega)) ?_
 rintro kv_ h4 ⟨ks,hks,hkl,s6⟩
 clear s5 r1
 refine aQy (s6.uF [2,0,1,3,4,5,6,7,8,9,10,11] rfl) (by omega) fun h5 la hla s7=>?_
 clear s6
 have hal:∀n,(lkp n la).getD false=dM st.lk id n:=fun n=>by
  rw[hla n,Bool.eq_iff_iff]
  unfold dM
  rw[List.any_eq_true,List.any_eq_true]
  constructor
  ·rintro⟨y,h1,h2⟩
   exact⟨(y,id),(hks y).1 h1,by simpa using h2⟩
  ·rintro⟨y,h1,h2⟩
   simp only[Bool.and_eq_true,decide_eq_true_eq]at h2
   obtain⟨⟨h3,h4⟩,h5⟩:=h2
   exact⟨y.1,(hks y.1).2 (by rw[←h3];exact h1),by simp[h4,h5]⟩
 have r1:h5.rd b 1=some a:=by rw[aH (Sep.get (s7.uF [10] rfl)) 1];rfl
 rw[r1,aB,ld2 (Sep.get (s7.uF [9] rfl)),aB]
 refine aK (aL6 hM hE9 id (s7.uF [2,0,3,4,5,6,7,8,9,10,11] rfl) (by omega) (by omega)) ?_
 rintro r h6 ⟨_,s8⟩
 clear s7 r1
 have r2:h6.rd b 2=some (.map (some mp)):=by rw[aH (Sep.get (s8.fS [9] rfl)) 2];rfl
 rw[r2,aB,ld2 (Sep.get (s8.fS [8] rfl)),aB]
 obtain⟨h7,e7,s9⟩:=Sep.aF0 (D:=bM) (k:=id) (z:=nil) (s8.fS [6,0,1,2,3,5,7,8,9,10] rfl)
 have e7:gL (some ((.struct false [(0,.int),(1,.int)]),(some (.pointer none)))) (.map (some mp)) id.agg h6=some h7:=e7
 have s9:=Sep.aWk s9 (by rw[tT hi.dpt,if_pos rfl])
 clear s8 r2
 rw[e7,bV]
 have r3:h7.rd bp 3=some (.map (some mv)):=by rw[aH (Sep.get (s9.oS [3] rfl)) 3];rfl
 rw[bK,aB,bE,aB,aS,Nat.zero_add,r3,aB]
 have hpm:=iS hk1
 obtain⟨t,clk,q,s10⟩:=Sep.fA (s9.oS [5,9,2,8,3,4,1,0,6] rfl)
 have htl:t.length=x.view.length:=by have:=q.perm.length_eq;simpa[cJ]using this
 have htk:(t.map (·.k)).Nodup:=by rw[←oC];exact q.ndt
 clear s9 r3 e7
 refine Sep.range s10 (fun it h8 s11=>?_)
 clear s10
 refine⟨fun n vs h'=>∃td rem seen,vs=[]∧n=t.length - td.length∧dW t td seen∧t.Perm (td++rem) ∧
  Sep F h' (cE it mv clk seen::bO mv (t.map (Et.m aU)) clk::(rem.map (Et.p (vwV k))++aL aU (spV (k+((td.map fun e=>onN e.k x.ops).sum))) ms (if yes=true then dP x (dM st.lk id) (cJ td) st.sp else st.sp)::aL aU blV ma la ::
   aP b [.map (some ms),a,.map (some mp),c] 4::aP bp [oa,va,i64 x.now,.map (some mv)] 4::cV oa x.ops::dR a (dY id st.lk)::aL bM (ptV k) mp (rmv id st.pt)::eC c (id::st.ov)::L)),
  t.length,⟨[],t,#[],rfl,rfl,dW.nil t,by simp,by
   have e0:(if yes=true then dP x (dM st.lk id) (cJ []) st.sp else st.sp)=st.sp:=by split<;>rfl
   rw[e0];exact s11⟩,?_⟩
 clear s11
 rintro n e0 h9 ⟨td,rem,seen,_,rfl,hs,hpr,s12⟩
 have tdk:(td.map (·.k)).Nodup:=by
  have:=(hpr.map (·.k)).nodup_iff.1 htk
  rw[List.map_append,List.nodup_append]at this
  exact this.1
 refine Sep.sR s12 q.lt q.bn hs (fun e he hne h10 s13 hs5 hent hlen=>?_) (fun hperm=>?_)
 ·simp only[bU,List.getElem?_toArray,List.getElem?_cons_zero,List.getElem?_cons_succ,aB,aG,if_true]
  rw[hent,mC]
  simp only[bU,List.getElem?_toArray,List.getElem?_cons_zero,List.getElem?_cons_succ,aB]
  have hrem:e∈rem:=by
   rcases List.mem_append.1 (hpr.mem_iff.1 he) with h | h
   ·exact absurd h hne
   ·exact h
  obtain⟨r1,r2,hr⟩:=List.append_of_mem hrem
  have hpr':t.Perm ((td++[e])++(r1++r2)):=by
   rw[hr]at hpr
   refine hpr.trans ?_
   rw[List.append_assoc,List.singleton_append]
   exact List.Perm.append_left _ List.perm_middle
  have hkn:e.k∉td.map (·.k):=by
   have:=(hpr'.map (·.k)).nodup_iff.1 htk
   rw[List.map_append,List.map_append,List.nodup_append]at this
   have h2:=this.1
   rw[List.nodup_append]at h2
   intro hm
   exact h2.2.2 _ hm e.k (by simp) rfl
  have hsum:((td++[e]).map fun e=>onN e.k x.ops).sum=(td.map fun e=>onN e.k x.ops).sum+onN e.k x.ops:=by simp
  have s14:Sep F h10 (vwV k e.k e.v e.x::cE it mv clk (seen.push e.b)::bO mv (t.map (Et.m aU)) clk::((r1++r2).map (Et.p (vwV k))++aL aU (spV (k+((td.map fun e=>onN e.k x.ops).sum))) ms (if yes=true then dP x (dM st.lk id) (cJ td) st.sp else st.sp)::aL aU blV ma la ::
   aP b [.map (some ms),a,.map (some mp),c] 4::aP bp [oa,va,i64 x.now,.map (some mv)] 4::cV oa x.ops::dR a (dY id st.lk)::aL bM (ptV k) mp (rmv id st.pt)::eC c (id::st.ov)::L)):=by
   refine s13.perm ?_
   rw[hr]
   simp only[List.map_append,List.map_cons,List.append_assoc,List.cons_append]
   refine (List.Perm.trans ?_ (List.perm_middle (l₁:=[cE it mv clk (seen.push e.b),bO mv (t.map (Et.m aU)) clk])))
   exact List.Perm.append_left [cE it mv clk (seen.push e.b),bO mv (t.map (Et.m aU)) clk] List.perm_middle
  clear s13 s12
  cases yes with
  | false=>
   simp only[Bool.false_eq_true,if_false]at s14 ⊢
   refine⟨t.length - (td.length+1),by omega,td++[e],r1++r2,_,trivial,by simp,hs5,hpr',?_⟩
   rw[hsum]
   have s15:=s14.drop
   have s16:Sep F h10 (aL aU (spV (k+((td.map fun e=>onN e.k x.ops).sum))) ms st.sp::cE it mv clk (seen.push e.b)::bO mv (t.map (Et.m aU)) clk::((r1++r2).map (Et.p (vwV k))++aL aU blV ma la ::
    aP b [.map (some ms),a,.map (some mp),c] 4::aP bp [oa,va,i64 x.now,.map (some mv)] 4::cV oa x.ops::dR a (dY id st.lk)::aL bM (ptV k) mp (rmv id st.pt)::eC c (id::st.ov)::L)):=
    s15.perm (List.perm_middle (l₁:=cE it mv clk (seen.push e.b)::bO mv (t.map (Et.m aU)) clk::((r1++r2).map (Et.p (vwV k)))))
   have s17:=Sep.iW (rE (show k+((td.map fun e=>onN e.k x.ops).sum)≤k+((td.map fun e=>onN e.k x.ops).sum+onN e.k x.ops) by omega)) s16
   exact s17.perm (List.perm_middle (l₁:=cE it mv clk (seen.push e.b)::bO mv (t.map (Et.m aU)) clk::((r1++r2).map (Et.p (vwV k))))).symm
  | true=>
   simp only[if_true]at s14 ⊢
   have s15:=aCc (Nat.le_add_right k ((td.map fun e=>onN e.k x.ops).sum)) _ _ _ _ _ _ s14
   generalize hS:(td.map fun e=>onN e.k x.ops).sum=S at s14 s15 hsum ⊢
   clear s14
   have s16:Sep F h10 (aL aU (spV (k+S)) ms (dP x (dM st.lk id) (cJ td) st.sp)::aL aU blV ma la::aP b [.map (some ms),a,.map (some mp),c] 4::aP bp [oa,va,i64 x.now,.map (some mv)] 4::cV oa x.ops::dR a (dY id st.lk)::aL bM (ptV k) mp (rmv id st.pt)::eC c (id::st.ov) ::
    vwV (k+S) e.k e.v e.x::cE it mv clk (seen.push e.b)::bO mv (t.map (Et.m aU)) clk::((r1++r2).map (Et.p (vwV k))++L)):=by
    refine s15.perm ?_
    exact List.perm_append_comm_assoc (vwV (k+S) e.k e.v e.x::cE it mv clk (seen.push e.b)::bO mv (t.map (Et.m aU)) clk::((r1++r2).map (Et.p (vwV k))))
     [aL aU (spV (k+S)) ms (dP x (dM st.lk id) (cJ td) st.sp),aL aU blV ma la,aP b [.map (some ms),a,.map (some mp),c] 4,aP bp [oa,va,i64 x.now,.map (some mv)] 4,cV oa x.ops,dR a (dY id st.lk),aL bM (ptV k) mp (rmv id st.pt),eC c (id::st.ov)] L
   clear s15
   rw[show aU.enc e.k=str e.k from rfl,Sep.aL9 s16.up1 e.k,aB,hal e.k]
   have hlx:lkp e.k (dP x (dM st.lk id) (cJ td) st.sp)=lkp e.k st.sp:=by
    rw[vV x _ _ hi.dsp (by rw[oC];exact tdk),lA.2 (by rw[oC];exact hkn)]
   have hev:(e.k,e.x)∈x.view:=q.perm.mem_iff.1 (List.mem_map.2 ⟨e,he,rfl⟩)
   have hmay:=uX (hi.may _ hpm)
   refine aK (aZo (dM st.lk id e.k) he q (fun hf=>?_) (fun o ho=>?_) hmay.2.1 (s16.fS [8,0,10,2,3,4,9,1,5,6,7] rfl)) ?_
   ·rw[hlx]
    exact hi.tab _ hpm _ hev (aWh hi hpm hf)
   ·have:=(aG7 (hmay.2.2 o ho)).key
    simp only[maxLen]
    omega
   ·intro r h11 s17
    refine⟨t.length - (td.length+1),by omega,td++[e],r1++r2,_,trivial,by simp,hs5,hpr',?_⟩
    have hla2:dP x (dM st.lk id) (cJ (td++[e])) st.sp=iR x (dM st.lk id e.k) e.k e.x (dP x (dM st.lk id) (cJ td) st.sp):=by
     unfold dP cJ
     rw[List.map_append,List.foldl_append]
     rfl
    rw[hsum,hla2,←Nat.add_assoc]
    have s18:Sep F h11 ([cE it mv clk (seen.push e.b),bO mv (t.map (Et.m aU)) clk]++([aL aU (spV (k+S+onN e.k x.ops)) ms (iR x (dM st.lk id e.k) e.k e.x (dP x (dM st.lk id) (cJ td) st.sp)),aL aU blV ma la,aP b [.map (some ms),a,.map (some mp),c] 4,aP bp [oa,va,i64 x.now,.map (some mv)] 4,cV oa x.ops,dR a (dY id st.lk),aL bM (ptV k) mp (rmv id st.pt),eC c (id::st.ov)]++((r1++r2).map (Et.p (vwV k))++L))):=s17.oS [5,1,0,6,2,3,4,7,8,9] rfl
    exact s18.perm (List.Perm.append_left _ (List.perm_append_comm_assoc _ ((r1++r2).map (Et.p (vwV k))) L))
 ·simp only[bU,List.getElem?_toArray,List.getElem?_cons_zero,List.getElem?_cons_succ,aB,aG,Bool.false_eq_true,if_false]
  have hrem:rem=[]:=by
   have h1:=hperm.length_eq
   have h2:=hpr.length_eq
   rw[List.length_append]at h2
   exact List.eq_nil_of_length_eq_zero (by omega)
  subst hrem
  simp only[List.map_nil,List.nil_append]at s12
  have hS:(td.map fun e=>onN e.k x.ops).sum≤8:=by
   have h1:=aM9 x.ops tdk
   rw[List.map_map]at h1
   have h2:=hi.aC0 _ hpm
   have h2:x.ops.length≤8:=h2
   have h3:(td.map ((fun n=>onN n x.ops) ∘ fun e=>e.k))=td.map fun e=>onN e.k x.ops:=rfl
   rw[h3]at h1
   omega
  have hab:(cJ td).Perm x.view:=((hperm.map _).symm).trans q.perm
  have hvn:(bA (cJ td)).Nodup:=by rw[oC];exact tdk
  have s13:Sep F h9 (aL aU (spV (k+8)) ms (if yes=true then dP x (dM st.lk id) x.view st.sp else st.sp)::aP b [.map (some ms),a,.map (some mp),c] 4::dR a (dY id st.lk)::aL bM (ptV (k+8)) mp (rmv id st.pt)::eC c (id::st.ov)::L):=by
   have s14:=Sep.iW (aCb (Nat.le_add_right k 8)) (s12.oS [8,2,4,7,9] rfl)
   have s15:=Sep.iW (rE (show k+(td.map fun e=>onN e.k x.ops).sum≤k+8 by omega)) s14.up1
   have s16:=s15.re5 [0,2,3,1,4] rfl
   cases yes with
   | false=>exact s16
   | true=>exact Sep.aNs (aVe x _ hi.dsp hvn hab) s16
  exact⟨trivial,Sep.kW (st:=(⟨if yes=true then dP x (dM st.lk id) x.view st.sp else st.sp,dY id st.lk,rmv id st.pt,id::st.ov⟩:dC)) (s13.re5 [1,0,2,3,4] rfl)⟩
end Go.Abs
namespace Go.Abs
open Go Go.Proofs
variable {E:FE} {F:Fr} {h:aA} {L:List Pl} {k:Nat} {p v:V} {st:dC} {ov:List IdM}
def aC8 (v:V) (l:List IdM):Pl:=⟨fun h f=>SlE dId h f v l,fun _ _ q=>q.lt,fun _ _ _ q hl hs=>SlE.same q hl hs⟩
theorem aSe (ks:List IdM) (h:aA):∃fp',SlE dId (rY ks h) fp' (rZ ks h) ks∧Mod h [] (rY ks h) fp':=by
 unfold rY rZ
 by_cases hk:ks=[]
 ·subst hk
  exact⟨[],SlE.nil (D:=dId),Mod.refl (by simp)⟩
 ·rw[if_neg hk,if_neg hk]
  refine⟨[h.next],⟨dId.qI ks,.inr ⟨h.next,2*ks.length+1,cB ks,rfl,rfl,by simp,by omega,by simp;rfl,?_,?_⟩⟩,by simp,fun x hx _=>?_,by simp,by simp⟩
  ·rw[sJ]
   have:(2*ks.length+1) / 2=ks.length:=by omega
   rw[this]
   exact Nat.le_refl _
  ·rw[List.take_of_length_le (by rw[sJ];exact Nat.le_refl _)]
   rfl
  ·have a:x≠h.next:=by omega
   simp[a]
theorem aUz {α:Type} {A:IdM→V→α→Pl} {m b g:Nat} {l:List (IdM×α)} (s:Sep F h (aL bM A m l::aP b [.map (some m)] 1::L)) (hl:l.length≤1000000) (hg:g=E.k 11∨g=E.k 13∨g=E.k 16) {K:V→aA→Prop}
 (hK:∀r h' ks,ks.Perm (bA l)→Sep F h' (aC8 r ks::aL bM A m l::aP b [.map (some m)] 1::L)→K r h') :
 cl (Go.Abs.F.uK E) [.func (.func g) #[] #[ptr b 0]] h K:=by
 refine aN ?_
 obtain⟨t,clk,q,s1⟩:=s.fA
 have gm:=s1.qL
 rw[rD]at gm
 have htl:t.length=l.length:=by have:=q.perm.length_eq;simpa[cJ]using this
 refine⟨rfl,hg,b,m,t.map Et.g,clk,1,.rw,rfl,s.drop.get,gm,by simp;omega,?_,?_,fun ks hks=>?_⟩
 ·rw[List.map_map];exact q.bn
 ·intro e he
  obtain⟨e',he',rfl⟩:=List.mem_map.1 he
  exact q.lt e' he'
 ·obtain⟨fp',r1,r2⟩:=aSe ks h
  refine hK _ _ ks ?_ (s.alloc (aC8 (rZ ks h) ks) r2 r1)
  rw[aGw,←oC]at hks
  exact hks.trans (keys_perm q.perm)
def zT (E:FE) (n:Nat):Prop:=∀(h:aA) (fp:List Nat) (v:V) (l:List IdM),SlE dId h fp v l→l.length≤n →
 cl (Go.Abs.F.nO E) [v,.func (.func (E.k 10)) #[] #[]] h fun r h'=>∃l',l'.Perm l∧gH iZ l'∧SlE dId h' fp v l'∧Mod h fp h' fp
theorem aYa:zT E 1000000:=fun h fp v l s hl=>aYb s hl
theorem aK5 {n:Nat} (so:zT E n) (hl:ov.length≤n) (hn:n≤1000000) (s:Sep F h (eC p ov::L)) :
 cl (Go.Abs.F.lE E) [p] h fun r h'=>∃l',l'.Perm ov∧gH iZ l'∧Sep F h' (aC8 r l'::eC p ov::L):=by
 refine aN ?_
 obtain⟨b,m,l,rfl,hp,s0⟩:=s.aCz
 have r0:h.rd b 0=some (.map (some m)):=by rw[aH s0.get 0];rfl
 simp only[Go.Abs.F.lE,dA,aB,aG,Bool.false_eq_true,if_false,bK,bE,aS,Nat.zero_add,r0]
 refine aN ?_
 have e2:aY none (.map (some m)) h=some (ptr h.next 0,h.new (.cells [.map (some m)] 1 .rw)):=rfl
 simp only[Go.Abs.F.oL,e2,aZ]
 have s1:=s0.box [.map (some m)] 1
 generalize h.new (.cells [.map (some m)] 1 .rw)=h1 at s1 ⊢
 generalize h.next=bx at s1 ⊢
 refine aN ?_
 simp only[Go.Abs.F.oV]
 have hll:l.length≤n:=by
  have:=hp.length_eq
  simp only[bA,List.length_map]at this
  omega
 refine aUz (s1.re3 [2,0,1] rfl) (by omega) (.inr (.inl rfl)) fun r h2 ks hks s2=>?_
 obtain⟨f,q,kk⟩:=s2.head
 have q:SlE dId h2 f r ks:=q
 have hkl:ks.length≤n:=by
  have:=hks.length_eq
  simp only[bA,List.length_map]at this
  omega
 refine aK (so h2 f r ks q hkl) ?_
 rintro r2 h3 ⟨l',hl',hs,q2,m2⟩
 refine⟨l',(hl'.trans hks).trans hp,hs,?_⟩
 have s3:=kk (aC8 r l') m2 q2
 exact (Sep.xU hp (s3.re4 [3,1,0] rfl)).up1
end Go.Abs
namespace Go.Abs
open Go Go.Proofs
variable {E:FE} {F:Fr} {h:aA} {L:List Pl} {k:Nat} {p v:V} {st:dC}
theorem aBs {x:Option (V×aA)} {v:V} {g:aA} {K:V→aA→Prop} (hx:x=some (v,g)) (hk:K v g):kP x K:=by subst hx;rwa [aZ]
theorem aRc:cl (Go.Abs.F.pE E) [] h fun r h'=>r = .bool true∧h'=h:=aN ⟨rfl,rfl,rfl⟩
theorem Ro.pre {N es n k:Nat} {cs:List V} (s:Ro N h v es n cs) (he:0<es) (hk:k≤n):∃v',cK (.slice es) v none (some (i64 k)) none h=some v'∧dX v'=some k∧(k≠0→dT es v' h=some (cs.take (k*es))):=by
 obtain⟨h0,h1,⟨rfl,rfl⟩ | ⟨b,o,c,all,rfl,hb,hc,hg,ha⟩⟩:=s
 ·obtain rfl:k=0:=by omega
  exact⟨.slice none 0 0,by simp[cK,cD,dL],rfl,fun h=>absurd rfl h⟩
 ·have hk2:(0:Int)≤k∧(k:Int)≤((c / 2:Nat):Int):=by omega
  refine⟨.slice (some ⟨b,o,none⟩) k c,?_,rfl,fun hk0=>?_⟩
  ·simp only[cK,hg,if_true,cD,dL,if_pos hk2,Int.toNat_natCast]
  ·show h.rdN b o (k*es)=_
   have h2:k*es≤n*es:=Nat.mul_le_mul_right _ hk
   have h3:((all.drop o).take (n*es)).length=n*es:=by rw[ha,h0]
   rw[List.length_take,List.length_drop]at h3
   have h4:0<k*es:=Nat.mul_pos (by omega) he
   rw[kG hg,if_pos (by omega),←ha,List.take_take,Nat.min_eq_left h2]
def G.cut (n:Int):Spec:=fun args h K=>match args with
| [a0]=>
kv (bH .slice a0 h) fun v5_0=>
kv (gI false [v5_0,(.int .i64 n)]) fun v6_1=>
kv (cK (.slice 5) a0 none (some v6_1) none h) fun v7_2=>
kP (dU (some (5,64,[(.int .i64 0),(.string ⟨#[]⟩),(.string ⟨#[]⟩),(.string ⟨#[]⟩),(.int .i64 0)])) (.slice none 0 0) v7_2 h) fun v8_3 h=>
K v8_3 h
| _=>False
theorem aTm (E:FE):Go.Abs.F.qZ E=G.cut 8:=rfl
theorem aSu {N:Nat} {l:List Oq} (n:Nat) (hn:n≤1000) (hO:Oqs N h v l) (s:Sep F h L):cl (G.cut n) [v] h fun r h'=>Sep F h' (cV r (l.take n)::L):=by
 refine aN ?_
 have hO:Ro N h v 5 l.length (l.flatMap Oq.cells):=hO
 have e:min ((l.length:Nat):Int) (n:Int)=((min l.length n:Nat):Int):=by omega
 simp only[G.cut]
 rw[Ro.len hO h,aB,min2,aB,e]
 obtain⟨v',e1,e2,e3⟩:=Ro.pre hO (by decide) (k:=min l.length n) (by omega)
 rw[e1,aB]
 have ht:l.take (min l.length n)=l.take n:=by
  by_cases hl:l.length≤n
  ·rw[Nat.min_eq_left hl,List.take_length,List.take_of_length_le hl]
  ·rw[Nat.min_eq_right (by omega)]
 have hf:(l.flatMap Oq.cells).take (min l.length n*5)=dOp.flat (l.take n):=by rw[←ht];exact dOp.aGc l _
 have hlen:(l.take n).length=min l.length n:=by rw[List.length_take,Nat.min_comm]
 rw[hf]at e3
 obtain⟨w,h',fp',a1,a2,a3⟩:=Sl.append (Sl.nil (h:=h) (es:=5)) (bytes:=64) (z:=zOp) (new:=dOp.flat (l.take n)) rfl (by decide) (by decide) e2 e3 (by rw[dOp.qI,hlen];rfl) (dOp.aKr _) (by omega)
 simp only[zOp]at a1
 rw[a1,aZ]
 refine s.alloc (cV w (l.take n)) a3 ?_
 rw[Nat.zero_add,List.nil_append,←hlen]at a2
 exact a2
variable {id:IdM} {ops:List Oq} {now:Int}
theorem aXd:(fR st id ops now).2.ov=st.ov:=by
 unfold fR
 split
 ·rfl
 ·split
  ·rfl
  ·split
   ·rfl
   ·split<;>rfl
end Go.Abs
namespace Go.Abs
open Go
variable {E:FE} {F:Fr} {h:aA} {L:List Pl} {k:Nat} {p q:V}
def EqE (E:FE):Prop:=∃E1 E2:FE,E.I (E.k 14)=some (cl (Go.Abs.F.fF E1))∧aJ E1.I∧E1.I (E1.k 1)=some (cl (Go.Abs.F.kJ E2))∧E1.I (E1.k 2)=some (cl (Go.Abs.F.jD E2))
theorem aTg {x y:V} {l:List IdM} {f g:List Nat} (hx:SlE dId h f x l) (hy:SlE dId h g y l) (hsz:l.length≤1000000) :
 cl (Go.Abs.F.oU E) [x,y] h fun r h'=>h'=h∧r = .bool true:=by
 refine aN ?_
 simp only[Go.Abs.F.oU,hx.len,hy.len,aB,gK,aG,bne_self_eq_false,Bool.false_eq_true,if_false]
 refine⟨fun n vs h'=>h'=h∧∃i:Nat,vs=[i64 i]∧i≤l.length∧n=l.length - i,l.length,⟨rfl,0,rfl,by omega,by omega⟩,?_⟩
 rintro n e h1 ⟨rfl,i,he,hi,rfl⟩
 simp only[List.cons.injEq,and_true]at he
 simp only[he,cN,aB,aG,decide_eq_true_eq]
 by_cases hlt:(i:Int)<(l.length:Int)
 ·rw[if_pos hlt]
  have hx':i<l.length:=by omega
  have hg:l[i]? = some l[i]:=List.getElem?_eq_getElem hx'
  obtain⟨c1,a1,a2⟩:=hx.ld hg
  obtain⟨c2,b1,b2⟩:=hy.ld hg
  have a1:aV (.slice 2) _ _=_:=a1
  have a2:ldD (.agg 2) _ _=some (l[i]).agg:=a2
  have b1:aV (.slice 2) _ _=_:=b1
  have b2:ldD (.agg 2) _ _=some (l[i]).agg:=b2
  simp only[a1,aB,a2,b1,b2,aK3,decide_true,Bool.not_true,aG,Bool.false_eq_true,if_false]
  rw[cY _ 1 (by omega) (by omega),aB]
  exact⟨l.length - (i+1),by omega,trivial,i+1,by simp,by omega,rfl⟩
 ·rw[if_neg hlt]
  exact⟨trivial,trivial⟩
theorem Sep.aVy {A:Pl} (s:Sep F h L) (hm:A∈L):∃f,A.P h f:=by
 obtain⟨l1,l2,rfl⟩:=List.append_of_mem hm
 obtain⟨f,q,_⟩:=(s.perm List.perm_middle).head
 exact⟨f,q⟩
theorem aOz {v:V} {s:SpM} {f:List Nat} (q:(dZ k v s).P h f):∃S f',SI k S∧jI S s∧SpS h f' v S:=by
 obtain⟨S,a,r,rfl,⟨rfl,e1,e2,e3⟩,⟨a2,r2,rfl,b,_⟩,_⟩:=q
 exact⟨S,_,e1,e3,b⟩
theorem Sep.vY {κ α:Type} [DecidableEq κ] {D:KD κ} {A:κ→V→α→Pl} {m:Nat} {l:List (κ×α)} (s:Sep F h (aL D A m l::L)):bH .map (.map (some m)) h=some (i64 (l.length:Nat)):=by
 obtain⟨t,clk,q,s1⟩:=s.fA
 have g:=s1.qL
 have e:t.length=l.length:=by have:=q.perm.length_eq;simpa[cJ]using this
 simp only[bH,g,List.length_map,e]
end Go.Abs
namespace Go.Abs
open Go Go.Proofs
variable {E:FE} {F:Fr} {h:aA} {L:List Pl} {k:Nat} {p q:V}
theorem aXp {S1 S2:bR} {s:SpM} (a:jI S1 s) (b:jI S2 s):S1.kind=S2.kind∧EqP S1 S2:=by
 cases S1<;>cases S2<;>simp only[jI]at a b
 case tab.tab=>exact⟨rfl,fun k=>(a.2.1.same k).trans (b.2.1.same k).symm⟩
 case qu.qu=>
  obtain⟨_,_,a3,a4,a5,a6⟩:=a
  obtain⟨_,_,b3,b4,b5,b6⟩:=b
  exact⟨rfl,a4.symm.trans b4,a5.symm.trans b5,a6.symm.trans b6⟩
 case to.to=>
  obtain⟨_,a2,a3,a4,_,_⟩:=a
  obtain⟨_,b2,_,b4,_,_⟩:=b
  refine⟨rfl,?_,fun k=>(a2.same k).trans (b2.same k).symm⟩
  have:=congrArg (List.map (·.val)) (a4.symm.trans b4)
  rwa [aG6,aG6]at this
 all_goals
  exfalso
  have h1:=a.1
  have h2:=b.1
  omega
theorem aKb (hM:aJ E.I) (hE:EqE E) (hk:k≤1000) (n:ByteArray) (x:Option SpM) (h:aA) (v w:V) (fa fb:List Nat) (a:(vwV k n v x).P h fa) (b:(vwV k n w x).P h fb) :
 cR E.I (.func (.func (E.k 14)) #[] #[]) [v,w] h fun r h'=>r = .bool true∧Mod h [] h' []:=by
 obtain⟨E1,E2,hE14,hM1,hk1,hk2⟩:=hE
 simp only[cR,hE14]
 cases x with
 | none=>
  have a:v=nil:=a.2
  have b:w=nil:=b.2
  subst a b
  refine aN ?_
  simp only[Go.Abs.F.fF]
  refine aBs (v:=ptr h.next 0) (g:=h.new (.cells [nil] 1 .rw)) rfl ?_
  refine aBs (v:=ptr (h.next+1) 0) (g:=(h.new (.cells [nil] 1 .rw)).new (.cells [nil] 1 .rw)) rfl ?_
  have r0:((h.new (.cells [nil] 1 .rw)).new (.cells [nil] 1 .rw)).rd h.next 0=some nil:=by simp[aA.rd,aA.new]
  have r1:((h.new (.cells [nil] 1 .rw)).new (.cells [nil] 1 .rw)).rd (h.next+1) 0=some nil:=by simp[aA.rd,aA.new]
  have e:∀h:aA,aC (.ptr true) .eql true nil (.pointer none) h=some (.bool true):=fun _=>rfl
  simp only[aS,r0,r1,aB,e,aQ,Bool.true_eq_false,if_false,dO,aR,if_true,aG]
  exact⟨trivial,(Mod.lV _).trans (Mod.lV _)⟩
 | some s=>
  have a:(dZ k v s).P h fa:=a
  have b:(dZ k w s).P h fb:=b
  obtain⟨S1,f1,i1,R1,a⟩:=aOz a
  obtain⟨S2,f2,i2,R2,b⟩:=aOz b
  obtain⟨e1,e2⟩:=aXp R1 R2
  refine aK (EqG hM1 hk1 hk2 a b i1 i2 hk R1 R2 e1) ?_
  rintro r h1 ⟨⟨x,rfl,hx⟩,m⟩
  exact⟨by rw[hx.2 e2],m⟩
theorem aKd {α:Type} {A:ByteArray→V→α→Pl} (hM:aJ E.I)
 (hA:∀(n:ByteArray) (x:α) (h:aA) (v w:V) (fa fb:List Nat),(A n v x).P h fa→(A n w x).P h fb→cR E.I (.func (.func (E.k 14)) #[] #[]) [v,w] h fun r h'=>r = .bool true∧Mod h [] h' [])
 {ms mt:Nat} {s1 s2:List (ByteArray×α)} (hs:∀n,lkp n s1=lkp n s2) (hl:s1.length=s2.length)
 (s:Sep F h (aL aU A ms s1::aL aU A mt s2::L)) :
 cl (Go.Abs.F.oK E) [.map (some ms),.map (some mt),(.func (.func (E.k 14)) #[] #[])] h fun r h'=>r = .bool true∧Sep F h' (aL aU A ms s1::aL aU A mt s2::L):=by
 refine aN ?_
 have l1:=s.vY
 have l2:=s.up1.vY
 rw[hl]at l1
 simp only[Go.Abs.F.oK,l1,l2,aB,gK,bne_self_eq_false,aG,Bool.false_eq_true,if_false]
 obtain⟨t,clk,q,s10⟩:=Sep.fA s
 refine Sep.range s10 (fun it h8 s11=>?_)
 refine⟨fun n vs h'=>∃td seen,vs=[]∧n=t.length - td.length∧dW t td seen ∧
  Sep F h' (cE it ms clk seen::bO ms (t.map (Et.m aU)) clk::(t.map (Et.p A)++aL aU A mt s2::L)),t.length,⟨[],#[],rfl,rfl,dW.nil t,s11⟩,?_⟩
 rintro n e0 h9 ⟨td,seen,_,rfl,hs',s12⟩
 refine Sep.sR s12 q.lt q.bn hs' (fun e he hne h10 s13 hs5 hent hlen=>?_) (fun hperm=>?_)
 ·simp only[bU,List.getElem?_toArray,List.getElem?_cons_zero,List.getElem?_cons_succ,aB,aG,if_true]
  rw[hent,mC]
  simp only[bU,List.getElem?_toArray,List.getElem?_cons_zero,List.getElem?_cons_succ,aB]
  have hlk:lkp e.k s2=some e.x:=by
   rw[←hs]
   exact lC q.nd (q.perm.mem_iff.1 (List.mem_map.2 ⟨e,he,rfl⟩))
  have s14:Sep F h10 (aL aU A mt s2::(cE it ms clk (seen.push e.b)::bO ms (t.map (Et.m aU)) clk::t.map (Et.p A)++L)):=
   s13.perm (List.perm_middle (l₁:=cE it ms clk (seen.push e.b)::bO ms (t.map (Et.m aU)) clk::t.map (Et.p A)))
  obtain⟨w,hw,s15⟩:=s14.pH (z:=nil) hlk true
  have hw:bW (some (.string,(some (.pointer none)))) (.map (some mt)) (aU.enc e.k) true h10=some (.tuple #[w,.bool true]):=hw
  rw[hw,aB]
  simp only[bU,List.getElem?_toArray,List.getElem?_cons_zero,List.getElem?_cons_succ,aB,dE,Bool.not_true,aQ,if_true]
  obtain⟨fa,ha⟩:=s14.aVy (A:=A e.k e.v e.x) (List.mem_cons_of_mem _ (List.mem_append_left _ (List.mem_cons_of_mem _ (List.mem_cons_of_mem _ (List.mem_map.2 ⟨e,he,rfl⟩)))))
  obtain⟨fb,hb,_⟩:=s15.head
  refine cT rfl (uR hM ?_ (hA e.k e.x h10 e.v w fa fb ha hb))
  rintro r h11 ⟨rfl,m⟩
  simp only[dE,Bool.not_true,aB,aQ,if_true,aR,Bool.false_eq_true,if_false,aG]
  exact⟨t.length - (td.length+1),by omega,td++[e],_,trivial,by simp,hs5,s13.skip m⟩
 ·simp only[bU,List.getElem?_toArray,List.getElem?_cons_zero,List.getElem?_cons_succ,aB,aG,Bool.false_eq_true,if_false]
  exact⟨trivial,Sep.fJ q s12.drop⟩
theorem aWo (c:Bool) (o:Oq):aC (.struct [(0,.int),(1,.string),(2,.string),(3,.string),(4,.int)]) .neq c o.agg o.agg h=some (.bool false):=by
 show (eqD (.struct [(0,.int),(1,.string),(2,.string),(3,.string),(4,.int)]) c _ _ h).map (fun b=>Value.bool (!b))=_
 simp[eqD,fK,Oq.agg]
theorem aTh {x y:V} {l:List Oq} {f g:List Nat} (hx:SlE dOp h f x l) (hy:SlE dOp h g y l) (hsz:l.length≤1000000) :
 cl (Go.Abs.F.rL E) [x,y] h fun r h'=>h'=h∧r = .bool true:=by
 refine aN ?_
 simp only[Go.Abs.F.rL,hx.len,hy.len,aB,gK,aG,bne_self_eq_false,Bool.false_eq_true,if_false]
 refine⟨fun n vs h'=>h'=h∧∃i:Nat,vs=[i64 i]∧i≤l.length∧n=l.length - i,l.length,⟨rfl,0,rfl,by omega,by omega⟩,?_⟩
 rintro n e h1 ⟨rfl,i,he,hi,rfl⟩
 simp only[List.cons.injEq,and_true]at he
 simp only[he,cN,aB,aG,decide_eq_true_eq]
 by_cases hlt:(i:Int)<(l.length:Int)
 ·rw[if_pos hlt]
  have hx':i<l.length:=by omega
  have hg:l[i]? = some l[i]:=List.getElem?_eq_getElem hx'
  obtain⟨c1,a1,a2⟩:=hx.ld hg
  obtain⟨c2,b1,b2⟩:=hy.ld hg
  have a1:aV (.slice 5) _ _=_:=a1
  have a2:ldD (.agg 5) _ _=some (l[i]).agg:=a2
  have b1:aV (.slice 5) _ _=_:=b1
  have b2:ldD (.agg 5) _ _=some (l[i]).agg:=b2
  simp only[a1,aB,a2,b1,b2,aWo,aG,Bool.false_eq_true,if_false]
  rw[cY _ 1 (by omega) (by omega),aB]
  exact⟨l.length - (i+1),by omega,trivial,i+1,by simp,by omega,rfl⟩
 ·rw[if_neg hlt]
  exact⟨trivial,trivial⟩
def zS (E:FE):Prop:=∃E1:FE,E.I (E.k 15)=some (cl (Go.Abs.F.rO E1))∧aJ E1.I∧EqE E1
theorem aW7 (hM:aJ E.I) (hE:EqE E) (hk:k≤1000) {v w:V} {x:cF} (h1:x.ops.length≤1000000) (h2:x.bQ.length≤1000000) (s:Sep F h (oR k v x::oR k w x::L)) :
 cl (Go.Abs.F.rO E) [v,w] h fun r h'=>r = .bool true∧Sep F h' (oR k v x::oR k w x::L):=by
 refine aN ?_
 obtain⟨b,a,c,m,rfl,s0⟩:=s.wG
 obtain⟨b',a',c',m',rfl,s1⟩:=(s0.re5 [4,0,1,2,3] rfl).wG
 clear s s0
 have gb:=Sep.get (s1.re5 [4] rfl)
 have gb':=s1.get
 have r0:h.rd b 0=some a:=by rw[aH gb 0];rfl
 have r1:h.rd b 1=some c:=by rw[aH gb 1];rfl
 have r2:h.rd b 2=some (i64 x.now):=by rw[aH gb 2];rfl
 have r3:h.rd b 3=some (.map (some m)):=by rw[aH gb 3];rfl
 have t0:h.rd b' 0=some a':=by rw[aH gb' 0];rfl
 have t1:h.rd b' 1=some c':=by rw[aH gb' 1];rfl
 have t2:h.rd b' 2=some (i64 x.now):=by rw[aH gb' 2];rfl
 have t3:h.rd b' 3=some (.map (some m')):=by rw[aH gb' 3];rfl
 obtain⟨fo,qo,_⟩:=Sep.head (s1.re6 [5] rfl)
 obtain⟨fo',qo',_⟩:=Sep.head (s1.re6 [1] rfl)
 obtain⟨fv,qv,_⟩:=Sep.head (s1.re7 [6] rfl)
 obtain⟨fv',qv',_⟩:=Sep.head (s1.re7 [2] rfl)
 have qo:SlE dOp h fo a x.ops:=qo
 have qo':SlE dOp h fo' a' x.ops:=qo'
 have qv:Ts h fv c x.bQ:=qv
 have qv':Ts h fv' c' x.bQ:=qv'
 simp only[Go.Abs.F.rO,bK,aB,bE,aS,Nat.zero_add,r0,r1,r2,r3,t0,t1,t2,t3,dD,beq_self_eq_true,aQ,if_true]
 refine cT rfl (aK (aTh qo qo' h1) ?_)
 rintro r h' ⟨rfl,rfl⟩
 simp only[aR,if_true,aB,aQ,bK,bE,aS,Nat.zero_add,r0,r1,r2,r3,t0,t1,t2,t3]
 refine cT rfl (aK (aAy qv.rdt qv'.rdt h2) ?_)
 rintro r h' ⟨rfl,rfl⟩
 simp only[decide_true,aR,if_true,aB,aQ,bK,bE,aS,Nat.zero_add,r0,r1,r2,r3,t0,t1,t2,t3]
 refine cT rfl (aK (aKd hM (aKb hM hE hk) (fun _=>rfl) rfl (s1.re8 [7,3,0,1,2,4,5,6] rfl)) ?_)
 rintro r h2 ⟨rfl,s2⟩
 simp only[aR,if_true,aB]
 refine⟨trivial,?_⟩
 have s3:=Sep.vD (s2.re8 [5,6,7,0,1,2,3,4] rfl)
 have s4:=Sep.vD (s3.re5 [2,3,4,1,0] rfl)
 exact s4.up1
theorem Sep.aTq {κ α:Type} [DecidableEq κ] {D:KD κ} {A:κ→V→α→Pl} {m:Nat} {l:List (κ×α)} {n:κ} {v:V} {x:α} (s:Sep F h (A n v x::aL D (dG n v A) m l::L)) (hk:Go.Abs.lkp n l=some x) :
 Sep F h (aL D A m l::L):=by
 obtain⟨t,clk,q,s1⟩:=s.up1.fA
 obtain⟨t1,e,t2,rfl,h1,h2,h3,h4⟩:=wO ((q.lkp n).trans hk)
 have h5:∀e'∈t2,e'.k≠n:=by
  have:=q.ndt
  rw[oC,List.map_append,List.map_cons,List.nodup_append]at this
  have h6:=(List.nodup_cons.1 this.2.1).1
  intro e' he' hc
  exact h6 (List.mem_map.2 ⟨e',he',hc.trans h1.symm⟩)
 rw[List.map_append (f:=Et.p (dG n v A)),List.map_cons (f:=Et.p (dG n v A)),sL h4,sL h5,aGq h1]at s1
 have s2:Sep F h (dI (e.v=v)::(bO m ((t1++e::t2).map (Et.m D)) clk::A n v x::(t1.map (Et.p A)++t2.map (Et.p A)++L))):=by
  refine s1.perm ?_
  simp only[List.append_assoc,List.cons_append]
  refine (List.perm_middle (l₁:=bO m ((t1++e::t2).map (Et.m D)) clk::t1.map (Et.p A))).trans (List.Perm.cons _ ?_)
  exact List.Perm.cons _ ((List.Perm.append_left _ List.perm_middle).trans List.perm_middle)
 obtain⟨hv,s3⟩:=Sep.pure s2
 subst hv
 refine Sep.fJ q (s3.perm (List.Perm.cons _ ?_))
 have ep:A n e.v x=Et.p A e:=by rw[Et.p,h1,h2]
 rw[ep,List.map_append,List.map_cons]
 simp only[List.append_assoc,List.cons_append]
 exact List.perm_middle.symm
theorem aTi (hM:aJ E.I) (hS:zS E) (hk:k≤1000) {ms mt:Nat} {p1 p2:List (IdM×cF)} (hs:∀n,lkp n p1=lkp n p2) (hl:p1.length=p2.length) (hz:∀e∈p1,e.2.ops.length≤1000000∧e.2.bQ.length≤1000000)
 (s:Sep F h (aL bM (ptV k) ms p1::aL bM (ptV k) mt p2::L)) :
 cl (Go.Abs.F.pK E) [.map (some ms),.map (some mt),(.func (.func (E.k 15)) #[] #[])] h fun r h'=>r = .bool true∧Sep F h' (aL bM (ptV k) ms p1::aL bM (ptV k) mt p2::L):=by
 obtain⟨E1,hE15,hM1,hE1⟩:=hS
 refine aN ?_
 have l1:=s.vY
 have l2:=s.up1.vY
 rw[hl]at l1
 simp only[Go.Abs.F.pK,l1,l2,aB,gK,bne_self_eq_false,aG,Bool.false_eq_true,if_false]
 obtain⟨t,clk,q,s10⟩:=Sep.fA s
 refine Sep.range s10 (fun it h8 s11=>?_)
 refine⟨fun n vs h'=>∃td seen,vs=[]∧n=t.length - td.length∧dW t td seen ∧
  Sep F h' (cE it ms clk seen::bO ms (t.map (Et.m bM)) clk::(t.map (Et.p (ptV k))++aL bM (ptV k) mt p2::L)),t.length,⟨[],#[],rfl,rfl,dW.nil t,s11⟩,?_⟩
 rintro n e0 h9 ⟨td,seen,_,rfl,hs',s12⟩
 refine Sep.sR s12 q.lt q.bn hs' (fun e he hne h10 s13 hs5 hent hlen=>?_) (fun hperm=>?_)
 ·simp only[bU,List.getElem?_toArray,List.getElem?_cons_zero,List.getElem?_cons_succ,aB,aG,if_true]
  rw[hent,mC]
  simp only[bU,List.getElem?_toArray,List.getElem?_cons_zero,List.getElem?_cons_succ,aB]
  have hlk:lkp e.k p2=some e.x:=by
   rw[←hs]
   exact lC q.nd (q.perm.mem_iff.1 (List.mem_map.2 ⟨e,he,rfl⟩))
  obtain⟨z1,z2⟩:=hz (e.k,e.x) (q.perm.mem_iff.1 (List.mem_map.2 ⟨e,he,rfl⟩))
  obtain⟨t1,t2,ht⟩:=List.append_of_mem he
  rw[show bM.enc e.k=e.k.agg from rfl,aHb,aZ]
  have s14:=s13.box (cId ⟨0,0⟩) 2
  rw[st2 (Sep.get s14),bV]
  have s15:=Sep.write s14 (cs':=cId e.k)
  generalize aA.put _ _ _=h11 at s15 ⊢
  rw[ld2 (Sep.get s15),aB]
  have s16:=s15.drop
  have W1:(cE it ms clk (seen.push e.b)::bO ms (t.map (Et.m bM)) clk::(t.map (Et.p (ptV k))++aL bM (ptV k) mt p2::L)).Perm
   (aL bM (ptV k) mt p2::oR k e.v e.x::(cE it ms clk (seen.push e.b)::bO ms (t.map (Et.m bM)) clk::(t1.map (Et.p (ptV k))++t2.map (Et.p (ptV k))++L))):=by
   refine (List.perm_middle (l₁:=cE it ms clk (seen.push e.b)::bO ms (t.map (Et.m bM)) clk::t.map (Et.p (ptV k)))).trans (List.Perm.cons _ ?_)
   rw[ht,List.map_append (f:=Et.p (ptV k)),List.map_cons (f:=Et.p (ptV k))]
   simp only[List.append_assoc,List.cons_append]
   exact List.perm_middle (l₁:=cE it ms clk (seen.push e.b)::bO ms ((t1++e::t2).map (Et.m bM)) clk::t1.map (Et.p (ptV k)))
  obtain⟨w,hw,s17⟩:=(s16.perm W1).pH (z:=nil) hlk true
  have hw:bW (some ((.struct false [(0,.int),(1,.int)]),(some (.pointer none)))) (.map (some mt)) e.k.agg true h11=some (.tuple #[w,.bool true]):=hw
  rw[hw,aB]
  simp only[bU,List.getElem?_toArray,List.getElem?_cons_zero,List.getElem?_cons_succ,aB,dE,Bool.not_true,aQ,if_true]
  have s18:Sep F h11 (oR k e.v e.x::oR k w e.x::aL bM (dG e.k w (ptV k)) mt p2::(cE it ms clk (seen.push e.b)::bO ms (t.map (Et.m bM)) clk::(t1.map (Et.p (ptV k))++t2.map (Et.p (ptV k))++L))):=s17.re3 [2,0,1] rfl
  refine cT rfl (by
   unfold cR
   simp only[hE15]
   refine aK (aW7 hM1 hE1 hk z1 z2 s18) ?_
   rintro r h12 ⟨rfl,s19⟩
   simp only[dE,Bool.not_true,aB,aQ,if_true,aR,Bool.false_eq_true,if_false,aG]
   have s20:=(Sep.aTq (A:=ptV k) (s19.re3 [1,2,0] rfl) hlk).perm W1.symm
   exact⟨t.length - (td.length+1),by omega,td++[e],_,trivial,by simp,hs5,s20⟩)
 ·simp only[bU,List.getElem?_toArray,List.getElem?_cons_zero,List.getElem?_cons_succ,aB,aG,Bool.false_eq_true,if_false]
  exact⟨trivial,Sep.fJ q s12.drop⟩
theorem aV6 {ms mt:Nat} {f:V} {p1 p2:List (IdM×cF)} (hl:p1.length≠p2.length) (s:Sep F h (aL bM (ptV k) ms p1::aL bM (ptV k) mt p2::L)) :
 cl (Go.Abs.F.pK E) [.map (some ms),.map (some mt),f] h fun r h'=>r = .bool false∧h'=h:=by
 refine aN ?_
 have l1:=s.vY
 have l2:=s.up1.vY
 have hne:((p1.length:Nat):Int)≠(p2.length:Nat):=by omega
 have hb:(((p1.length:Nat):Int) != (p2.length:Nat))=true:=by simpa using hne
 simp only[Go.Abs.F.pK,l1,l2,aB,gK,hb,aG,if_true]
 exact⟨trivial,trivial⟩
theorem aV5 {x y:V} {l m:List IdM} {f g:List Nat} (hx:SlE dId h f x l) (hy:SlE dId h g y m) (hl:l.length≠m.length) :
 cl (Go.Abs.F.oU E) [x,y] h fun r h'=>h'=h∧r = .bool false:=by
 refine aN ?_
 have hne:((l.length:Nat):Int)≠(m.length:Nat):=by omega
 have hb:(((l.length:Nat):Int) != (m.length:Nat))=true:=by simpa using hne
 simp only[Go.Abs.F.oU,hx.len,hy.len,aB,gK,hb,aG,if_true]
 exact⟨trivial,trivial⟩
set_option maxHeartbeats 2000000 in
/-- **A vault's Eq**, of vaults with the same spaces: the parts are as many and the same, or not as many; what is over is the same, or not as much. -/
theorem aEm (hM:aJ E.I) {n:Nat} (so:zT E n) (hn:n≤1000000) (hE:EqE E) (hS:zS E) (hk:k≤1000) {t1 t2:dC} (hsp:∀n,lkp n t1.sp=lkp n t2.sp) (hl:t1.sp.length=t2.sp.length)
 (hp:t1.pt.length≠t2.pt.length∨(t1.pt.length=t2.pt.length∧∀n,lkp n t1.pt=lkp n t2.pt)) (hz:∀e∈t1.pt,e.2.ops.length≤1000000∧e.2.bQ.length≤1000000)
 (hov:t1.ov.length≠t2.ov.length∨t1.ov.Perm t2.ov) (ho1:t1.ov.length≤n) (ho2:t2.ov.length≤n)
 (s:Sep F h (eL k p t1::eL k q t2::L)):cl (Go.Abs.F.oY E) [p,q] h fun r h'=>r = .bool (decide (t1.pt.length=t2.pt.length)&&decide (t1.ov.length=t2.ov.length))∧Sep F h' (eL k p t1::eL k q t2::L):=by
 refine aN ?_
 obtain⟨b,ms,a,mp,c,rfl,s0⟩:=s.sV
 obtain⟨d,mt,a',mq,c',rfl,s1⟩:=Sep.sV (s0.re6 [5,0,1,2,3,4] rfl)
 clear s s0
 have b0:h.rd b 0=some (.map (some ms)):=by rw[aH (Sep.get (s1.re6 [5] rfl)) 0];rfl
 have d0:h.rd d 0=some (.map (some mt)):=by rw[aH s1.get 0];rfl
 simp only[Go.Abs.F.oY,dA,aB,aQ,if_true,aR,Bool.false_eq_true,if_false,aG,bK,bE,aS,Nat.zero_add,b0,d0]
 refine aK (aKd hM (fun n x h v w fa fb ha hb=>aKb hM hE hk n (some x) h v w fa fb ha hb) hsp hl (s1.oS [6,1,0,2,3,4,5,7,8,9] rfl)) ?_
 rintro r h2 ⟨rfl,s2⟩
 have b2:h2.rd b 2=some (.map (some mp)):=by rw[aH (Sep.get (s2.oS [6] rfl)) 2];rfl
 have d2:h2.rd d 2=some (.map (some mq)):=by rw[aH (Sep.get (s2.oS [2] rfl)) 2];rfl
 simp only[aB,aQ,if_true,bK,bE,aS,Nat.zero_add,b2,d2]
 have s2':=s2.oS [8,4,0,1,2,3,5,6,7,9] rfl
 rcases hp with hp | ⟨hp,hpe⟩
 ·refine cT rfl (aK (aV6 hp s2') ?_)
  rintro r h3 ⟨rfl,rfl⟩
  simp only[aR,if_true,aB,aQ,Bool.false_eq_true,if_false]
  refine cZ (by simp) (cZ (by simp) (cZ (by simp) ?_))
  simp only[aR,aB,Bool.false_eq_true,if_false,decide_eq_false hp,Bool.false_and]
  refine⟨trivial,?_⟩
  have s6:=Sep.kW (st:=t1) (s2.oS [6,0,7,8,9,2,1,3,4,5] rfl)
  exact (Sep.kW (st:=t2) (s6.re6 [1,2,3,4,5,0] rfl)).up1
 refine cT rfl (aK (aTi hM hS hk hpe hp hz s2') ?_)
 rintro r h3 ⟨rfl,s3⟩
 have b3:h3.rd b 3=some c:=by rw[aH (Sep.get (s3.oS [7] rfl)) 3];rfl
 have d3:h3.rd d 3=some c':=by rw[aH (Sep.get (s3.oS [4] rfl)) 3];rfl
 simp only[aB,aQ,if_true,aR,bK,bE,aS,Nat.zero_add,b3,d3]
 refine cT rfl (aK (aK5 so ho1 hn (s3.oS [9,0,1,2,3,4,5,6,7,8] rfl)) ?_)
 rintro r h4 ⟨l1,p1,o1,s4⟩
 have d3':h4.rd d 3=some c':=by rw[aH (Sep.get (s4.fS [6] rfl)) 3];rfl
 rw[d3']
 refine⟨rfl,?_⟩
 refine cT rfl (aK (aK5 so ho2 hn (s4.fS [8,0,1,2,3,4,5,6,7,9,10] rfl)) ?_)
 rintro r2 h5 ⟨l2,p2,o2,s5⟩
 obtain⟨f2,q2,_⟩:=s5.head
 obtain⟨f1,q1,_⟩:=(s5.re3 [2] rfl).head
 have q2:SlE dId h5 f2 r2 l2:=q2
 have q1:SlE dId h5 f1 r l1:=q1
 have key:cl (Go.Abs.F.oU E) [r,r2] h5 fun r h'=>h'=h5∧r = .bool (decide (t1.ov.length=t2.ov.length)):=by
  rcases hov with hov | hov
  ·rw[decide_eq_false hov]
   exact aV5 q1 q2 (by rw[p1.length_eq,p2.length_eq];exact hov)
  ·have hll:l1=l2:=gH.uniq aWz ((p1.trans hov).trans p2.symm) o1 o2
   subst hll
   rw[decide_eq_true hov.length_eq]
   exact aTg q1 q2 (by rw[p1.length_eq];omega)
 refine cT rfl (aK key ?_)
 rintro r6 h6 ⟨rfl,rfl⟩
 simp only[aR,if_true,aB,decide_eq_true hp,Bool.true_and]
 refine⟨trivial,?_⟩
 have s6:=Sep.kW (st:=t1) (s5.uF [10,6,11,4,3,8,7,9,5,1] rfl)
 exact (Sep.kW (st:=t2) (s6.re6 [1,2,3,4,5,0] rfl)).up1
end Go.Abs
namespace Go.Abs
open Go Go.RowKit
def oZ (h:aA):Prop:=∀b o,h.get b=some o→o.tR
structure eF (r:Ren) (h:aA) (r':Ren) (h':aA):Prop where
 ren:r.le r'
 next:h.next≤h'.next
 get:∀b,b<h.next→h'.get b=h.get b
theorem Ro.more {r r':Ren} {h h':aA} {v:V} {es n:Nat} {cs:List V} (m:eF r h r' h') (s:Ro h.next h v es n cs):Ro h'.next h' v es n cs:=by
 obtain⟨h0,h1,⟨rfl,rfl⟩ | ⟨b,o,c,all,rfl,hb,hc,hg,ha⟩⟩:=s
 ·exact⟨h0,Nat.le_refl _,.inl ⟨rfl,rfl⟩⟩
 ·exact⟨h0,Nat.le_refl _,.inr ⟨b,o,c,all,rfl,Nat.lt_of_lt_of_le hb m.next,hc,by rw[m.get b hb,hg],ha⟩⟩
theorem R.aQv {J:World→Prop} {W:World} {r:Ren} {h:aA} (hR:R J W.heap.size r h W) (hro:oZ h) {a:Addr} {len cap es:Nat} (hs:a.spot=none) {cc:Array V} {el:TypeId} {fr:Nat×Nat}
 (hb:W.heap[a.block]? = some (.cells cc el fr)) (hsz:a.off+cap*es≤cc.size) (hlc:len≤cap) {cs:List V} (hcs:cs.length=len*es) (hc:∀j,j<len*es→cc[a.off+j]? = cs[j]?) (hcl:∀v∈cs,bS v=true) :
 ∃r' h' v,R J W.heap.size r' h' W∧VR r' v (.slice (some a) len cap)∧Ro h'.next h' v es len cs∧eF r h r' h':=by
 obtain⟨blk,off,spot⟩:=a
 simp only at hs hb hsz hc
 subst hs
 have hlt:blk<W.heap.size:=(Array.getElem?_eq_some_iff.1 hb).1
 have hm:len*es≤cap*es:=Nat.mul_le_mul_right _ hlc
 have hle:=hR.oH ⟨blk,cc.size,es,0⟩
 have old:∀b o1,(h.new (.cells (List.replicate off bY++cs) es .ro)).get b=some o1→(b=h.next∧o1 = .cells (List.replicate off bY++cs) es .ro)∨(b≠h.next∧h.get b=some o1):=by
  intro b o1 hb
  by_cases e:b=h.next
  ·subst e;simp[aA.new]at hb;exact .inl ⟨rfl,hb.symm⟩
  ·exact .inr ⟨e,by simpa[aA.new,e]using hb⟩
 refine⟨r.upd h.next ⟨blk,cc.size,es,0⟩,h.new (.cells (List.replicate off bY++cs) es .ro),.slice (some ⟨h.next,off,none⟩) len (2*len+1),?_,?_,?_,hle,Nat.le_succ _,fun b hb=>?_⟩
 ·refine⟨Nat.le_refl _,?_,?_,?_,hR.inv⟩
  ·intro b t' hb
   by_cases e:b=h.next
   ·subst e;rw[Ren.cX]at hb;cases hb;exact⟨hlt,by simp[aA.new]⟩
   ·rw[Ren.eD _ _ e]at hb
    have:=hR.lt b t' hb
    refine⟨this.1,?_⟩
    simp[aA.new];omega
  ·intro b o1 hb1
   rcases old b o1 hb1 with ⟨rfl,rfl⟩ | ⟨e,hb'⟩
   ·refine⟨_,Ren.cX _ _ _,rfl,⟨cc,el,fr,hb,rfl,by simp;omega,fun i h1 h2=>?_,fun hk=>absurd rfl hk,fun hk=>by cases hk⟩,fun hk=>absurd rfl hk,fun _=>rfl⟩
    have h2:i<cc.size:=h2
    show VR _ _ cc[i]
    rw[List.getElem_append]
    split
    ·rw[List.getElem_replicate];exact .bY _
    ·rename_i hi
     simp only[List.length_replicate]at hi
     have hj:i - off<cs.length:=by simp at h1;omega
     have:=hc (i - off) (by omega)
     rw[show off+(i - off)=i by omega,Array.getElem?_eq_getElem h2,List.getElem?_eq_getElem hj,Option.some.injEq]at this
     simp only[List.length_replicate]
     rw[this]
     exact VR.closed (hcl _ (List.getElem_mem _))
   ·obtain⟨t',h3,h4⟩:=hR.live b o1 hb'
    exact⟨t',hle _ _ h3,h4.mono hle⟩
  ·intro b b' o1 o1' t1 t1' hb hb' g1 g1' e
   rcases old b o1 hb with ⟨rfl,rfl⟩ | ⟨e1,hb⟩<;>rcases old b' o1' hb' with ⟨rfl,rfl⟩ | ⟨e2,hb'⟩
   ·exact .inl rfl
   ·exact .inr ⟨⟨_,_,rfl⟩,hro _ _ hb'⟩
   ·exact .inr ⟨hro _ _ hb,_,_,rfl⟩
   ·rw[Ren.eD _ _ e1]at g1;rw[Ren.eD _ _ e2]at g1'
    exact hR.inj b b' o1 o1' t1 t1' hb hb' g1 g1' e
 ·exact VR.slice (b:=h.next) (o:=off) (n:=len) (c:=2*len+1) (c':=cap) (t:=⟨blk,cc.size,es,0⟩) (Ren.cX _ _ _) ⟨by omega,fun he=>by omega⟩ (by omega) hsz
 ·refine⟨hcs,Nat.le_refl _,.inr ⟨h.next,off,2*len+1,List.replicate off bY++cs,rfl,by simp[aA.new],by omega,by simp[aA.new],?_⟩⟩
  rw[List.drop_append,List.drop_of_length_le (by simp)]
  simp[←hcs]
 ·have:b≠h.next:=by omega
  simp[aA.new,this]
theorem eF.refl (r:Ren) (h:aA):eF r h r h:=⟨Ren.le_refl r,Nat.le_refl _,fun _ _=>rfl⟩
theorem aWp {H:Type} {enc:TypeId×Value→H} {P:Program} {J:World→Prop} {W:World} {held:Bool} {base:Nat} {t e:TypeId} {v:V} {d:DataW H} {p:List MemPlace}
 (ht:P.underlying t=some (.slice e)) (he:P.underlying e=some (.int .i64)) (ce:P.cellsOf e=1) {r:Ren} {h:aA} (hR:R J W.heap.size r h W) (hro:oZ h)
 (hval:Value.okWide P W .any base t v) (hd:DataW.Trod enc P W 0 (fun _=>true) held t v d p) :
 ∃(l:List Int) (r':Ren) (h':aA) (v':V),R J W.heap.size r' h' W∧VR r' v' v∧Ints h'.next h' v' l∧eF r h r' h':=by
 obtain⟨fuel,hd⟩:=hd
 obtain⟨a,len,cap,rfl⟩:=WideShapes.okWide_slice ht hval
 rcases Deep.open_slice ht hd with ⟨h1,_⟩ | ⟨a',len',cap',m,n,D,Pl,h1,_,hlc,hcap,hm,hx,hr⟩
 ·simp only[Value.cells,List.cons.injEq,Value.slice.injEq,and_true]at h1
  obtain⟨rfl,rfl,rfl⟩:=h1
  exact⟨[],r,h,.slice none 0 0,hR,.sliceNil,⟨rfl,Nat.le_refl _,.inl ⟨rfl,rfl⟩⟩,eF.refl r h⟩
 ·simp only[Value.cells,List.cons.injEq,Value.slice.injEq,and_true]at h1
  obtain⟨h11,h12,h13⟩:=h1
  subst h11
  simp only[if_true]at hm
  rw[←h12,←h13]at hlc
  rw[←h13]at hcap hm
  rw[hm]at hr
  clear h12 h13 hm hx
  obtain⟨hs,cc,el,fr,hb,ho⟩:=aM7 ht hval
  rw[ce]at hr
  have hadd:∀k,a'.add k=⟨a'.block,a'.off+k,none⟩:=by
   intro k
   obtain⟨bb,oo,ss⟩:=a'
   simp only at hs
   subst hs
   exact addr_add _ _ _
  have each:∀i,i<cap→∃x:Int,cc[a'.off+i]? = some (i64 x):=by
   intro i hi
   obtain⟨cs',h2,h3⟩:=hr i hi
   obtain⟨h5,_,h4⟩:=World.cells?_some h2
   obtain⟨c0,rfl⟩:∃c0,cs'=[c0]:=by
    match cs',h5 with
    | [c0],_=>exact⟨c0,rfl⟩
   obtain⟨x,h6,_⟩:=DataW.trod_int he h3
   simp only[List.cons.injEq,and_true]at h6
   have h7:=h4 0 (by decide)
   refine⟨x,?_⟩
   rw[hadd,addr_add,qY hb,Nat.add_zero,Nat.mul_one]at h7
   rw[h7,h6]
   rfl
  have hsz:a'.off+cap*1≤cc.size:=by
   by_cases hc0:cap=0
   ·omega
   ·obtain⟨x,h5⟩:=each (cap - 1) (by omega)
    have:=(Array.getElem?_eq_some_iff.1 h5).1
    omega
  obtain⟨X,hX⟩:=Deep.choose_lt (n:=len) (p:=fun i (x:Int)=>cc[a'.off+i]? = some (i64 x)) fun i hi=>each i (by omega)
  have hc1:(((List.range len).map X).map i64).length=len*1:=by simp
  have hc2:∀j,j<len*1→cc[a'.off+j]? = (((List.range len).map X).map i64)[j]?:=by
   intro j hj
   rw[hX j (by omega)]
   simp[show j<len by omega]
  have hc3:∀u∈((List.range len).map X).map i64,bS u=true:=by
   intro u hu
   obtain⟨s,_,rfl⟩:=List.mem_map.1 hu
   rfl
  obtain⟨r',h',v',hR',hv,hro',hm⟩:=R.aQv hR hro (es:=1) hs hb hsz hlc hc1 hc2 hc3
  refine⟨(List.range len).map X,r',h',v',hR',hv,?_,hm⟩
  unfold Ints
  rw[List.length_map,List.length_range]
  exact hro'
end Go.Abs
namespace Go.Abs
open Go Go.RowKit
theorem R.start {J:World→Prop} {W:World} (hJ:J W):∃r h,R J W.heap.size r h W:=by
 obtain⟨r,h,_,hR,_,_⟩:=R.aWl (W:=W) hJ 1
 exact⟨r,h,hR⟩
def aA.ros (h:aA):aA:=⟨fun x=>match h.get x with | some (.cells c e .ro)=>some (.cells c e .ro) | _=>none,h.next⟩
theorem aOj {h:aA} {b:Nat} {o:cH} (hb:h.ros.get b=some o):∃c e,h.get b=some (.cells c e .ro)∧o = .cells c e .ro:=by
 simp only[aA.ros]at hb
 split at hb
 ·rename_i c e he
  cases hb
  exact⟨c,e,he,rfl⟩
 ·cases hb
theorem R.aOh {J:World→Prop} {B:Nat} {r:Ren} {h:aA} {W:World} (hR:R J B r h W):R J B r h.ros W∧oZ h.ros:=
 ⟨hR.sub ⟨Nat.le_refl _,fun b o hb=>by
  obtain⟨c,e,h1,rfl⟩:=aOj hb
  exact h1⟩,fun b o hb=>by
  obtain⟨c,e,_,rfl⟩:=aOj hb
  exact⟨_,_,rfl⟩⟩
theorem Ro.ros {N:Nat} {h:aA} {v:V} {es n:Nat} {cs:List V} (s:Ro N h v es n cs):Ro N h.ros v es n cs:=by
 obtain⟨h0,h1,⟨rfl,rfl⟩ | ⟨b,o,c,all,rfl,hb,hc,hg,ha⟩⟩:=s
 ·exact⟨h0,h1,.inl ⟨rfl,rfl⟩⟩
 ·exact⟨h0,h1,.inr ⟨b,o,c,all,rfl,hb,hc,by simp only[aA.ros,hg],ha⟩⟩
theorem aWw {H:Type} {enc:TypeId×Value→H} {P:Program} {w:World} {base:Nat} {spare:Nat→Bool} {held:Bool} {fuel:Nat} {e:TypeId} {fs:Array Field} {cs:List V} {x:DataW H×List MemPlace}
 (he:P.underlying e=some (.struct fs)) (ce:P.cellsOf e=5) (hf:∀i,i<5→∃f,fs[i]? = some f∧f.offset=i∧P.cellsOf f.type=1∧P.underlying f.type=some (uE i)) (hn:fs.size=5)
 (h:DataW.trod enc P w base spare held fuel e cs=some x) {o:Oq} (ho:cs=o.cells):o.space.size≤maxLen:=by
 obtain⟨xs,n,_,hx1,hl,hxs,hr⟩:=DataW.trod_struct he h
 obtain⟨f,h1,h2,h3,h4⟩:=hf 1 (by decide)
 have h5:=hr 1 f h1
 rw[h2,h3]at h5
 have h6:(cs.drop 1).take 1=[str o.space]:=by rw[ho];rfl
 rw[h6]at h5
 rw[ce]at hl
 have hxi:1<xs.length:=by omega
 rw[List.getElem?_eq_getElem hxi]at h5
 obtain⟨m,h7,_,h8⟩:=DataW.trod_string (show P.underlying f.type=some .string from h4) h5
 simp only[List.cons.injEq,Value.string.injEq,and_true]at h7
 rw[h7]
 exact h8
theorem bAd {H:Type} {enc:TypeId×Value→H} {P:Program} {J:World→Prop} {W:World} {held:Bool} {base:Nat} {t e:TypeId} {v:V} {d:DataW H} {p:List MemPlace}
 (ht:P.underlying t=some (.slice e)) (he:P.underlying e=some (.int .i64)) (ce:P.cellsOf e=1) {r:Ren} {h:aA} (hR:R J W.heap.size r h W)
 (hval:Value.okWide P W .any base t v) (hd:DataW.Trod enc P W 0 (fun _=>true) held t v d p) :
 ∃(l:List Int) (r':Ren) (h':aA) (v':V),R J W.heap.size r' h' W∧VR r' v' v∧Ints h'.next h' v' l∧eF r h.ros r' h':=
 have h1:=hR.aOh
 aWp ht he ce h1.1 h1.2 hval hd
theorem Ro.on {r r':Ren} {h h':aA} {v:V} {es n:Nat} {cs:List V} (m:eF r h.ros r' h') (s:Ro h.next h v es n cs):Ro h'.next h' v es n cs:=Ro.more (h:=h.ros) m (Ro.ros (h:=h) s)
end Go.Abs

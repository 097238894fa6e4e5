/- Our own abstract machine, part 18: regions that draw their order. One order serves all. First: what an operation hangs on. -/
import Derived.Test.YthhegdifbnghpaaGreatDoorQae
set_option linter.unusedSimpArgs false
set_option linter.unusedVariables false
namespace Go.Abs
open Go
def aIn (s:Spec):Prop:=∀args h (K K':V→aA→Prop),(∀v h,K v h→K' v h)→s args h K→s args h K'
def aJ (I:FuncId→Option Spec):Prop:=∀f s,I f=some s→aIn s
structure Sub (h' h:aA):Prop where
 next:h.next≤h'.next
 get:∀b o,h'.get b=some o→h.get b=some o
theorem Sub.refl (h:aA):Sub h h:=⟨Nat.le_refl _,fun _ _ h=>h⟩
theorem Sub.trans {a b c:aA} (h:Sub a b) (k:Sub b c):Sub a c:=⟨Nat.le_trans k.next h.next,fun x o e=>k.get x o (h.get x o e)⟩
theorem R.sub {J:World→Prop} {B:Nat} {r:Ren} {h h':aA} {w:World} (hR:R J B r h w) (hs:Sub h' h):R J B r h' w:=
 ⟨hR.base,fun b t ht=>⟨(hR.lt b t ht).1,Nat.lt_of_lt_of_le (hR.lt b t ht).2 hs.next⟩,fun b o ho=>hR.live b o (hs.get b o ho),
  fun b b' o o' t t' ho ho'=>hR.inj b b' o o' t t' (hs.get _ _ ho) (hs.get _ _ ho'),hR.inv⟩
theorem Ext.sub {r r':Ren} {h h1 h2:aA} {w w':World} (he:Ext r h w r' h1 w') (hs:Sub h2 h1):Ext r h w r' h2 w':=
 ⟨he.ren,Nat.le_trans he.next hs.next,he.os,he.tape,he.output,he.size,he.block,fun k hk hf=>he.feet k hk (by
  obtain⟨b,t,⟨o,ho,hw⟩,ht,e⟩:=hf
  exact⟨b,t,⟨o,hs.get b o ho,hw⟩,ht,e⟩)⟩
inductive cl (s:Spec) (args:List V) (h:aA) (K:V→aA→Prop):Prop
 | intro (K0:V→aA→Prop) (h1:s args h K0∧∀v h,K0 v h→∃h',Sub h' h∧K v h')
theorem aJo (s:Spec):aIn (cl s):=fun _ _ _ _ hk ⟨K0,h1,h2⟩=>⟨K0,h1,fun v h h0=>by
 obtain⟨h',a,b⟩:=h2 v h h0
 exact⟨h',a,hk v h' b⟩⟩
theorem aN {s:Spec} {args:List V} {h:aA} {K:V→aA→Prop} (hs:s args h K):cl s args h K:=⟨K,hs,fun _ h hk=>⟨h,Sub.refl h,hk⟩⟩
theorem aK {s:Spec} {args:List V} {h:aA} {K K':V→aA→Prop} (hs:cl s args h K) (hk:∀v h,K v h→K' v h):cl s args h K':=aJo s _ _ _ _ hk hs
theorem aD.cl {P:Program} {J:World→Prop} {f:FuncId} {s:Spec} (h:aD P J f s):aD P J f (cl s):=by
 rintro B hJ r hp w args args' Q ⟨K0,hs,hk⟩ hR ha
 obtain⟨n,w',h1,h2⟩:=h B hJ r hp w args args' K0 hs hR ha
 refine⟨n,w',h1,?_⟩
 cases n<;>simp only at h2 ⊢
 case value v=>
  obtain⟨r',v',h',a,b,c,d⟩:=h2
  obtain⟨h'',e1,e2⟩:=hk _ _ a
  exact⟨r',v',h'',e2,b.sub e1,c.sub e1,d⟩
 case enter g as=>
  refine h2.mono ?_
  rintro e w'' ⟨v,rfl,r',v',h',a,b,c,d⟩
  obtain⟨h'',e1,e2⟩:=hk _ _ a
  exact⟨v,rfl,r',v',h'',e2,b.sub e1,c.sub e1,d⟩
theorem aQo {x:V} {s:Bool} {h:aA} {K K':V→aA→Prop} (hk:∀v h,K v h→K' v h) (hn:dS x s h K):dS x s h K':=by
 unfold dS at hn
 split at hn
 ·split at hn
  ·rename_i hb
   unfold dS
   simp only[hb]
   split at hn
   ·rename_i hp;rw[if_pos hp];exact hk _ _ hn
   ·rename_i hp;rw[if_neg hp];exact hk _ _ hn
  ·rename_i hb
   unfold dS
   simp only[hb]
   exact hk _ _ hn
  ·rename_i hb
   unfold dS
   simp only[hb]
   split at hn
   ·rename_i hm
    refine⟨hn.1,fun c hc=>?_⟩
    have:=hn.2 c hc
    cases c<;>exact hk _ _ this
   ·exact hn.elim
  ·exact hn.elim
 ·exact hn.elim
section
variable {P:Program} {I:FuncId→Option Spec}
theorem aBt {x:Option V} {h:aA} {K K':V→aA→Prop} (hk:∀v h,K v h→K' v h) (hn:kV x h K):kV x h K':=by
 obtain⟨v,h1,h2⟩:=hn
 exact⟨v,h1,hk _ _ h2⟩
theorem aBr {x:Option (V×aA)} {K K':V→aA→Prop} (hk:∀v h,K v h→K' v h) (hn:kP x K):kP x K':=by
 obtain⟨v,h,h1,h2⟩:=hn
 exact⟨v,h,h1,hk _ _ h2⟩
theorem aGv {x:Option aA} {K K':V→aA→Prop} (hk:∀v h,K v h→K' v h) (hn:kH x K):kH x K':=by
 obtain⟨h,h1,h2⟩:=hn
 exact⟨h,h1,hk _ _ h2⟩
theorem aRo {b:Builtin} {ts:Array TypeId} {args:List V} {h:aA} {K K':V→aA→Prop} (hk:∀v h,K v h→K' v h) (hn:lW P b ts args h K):lW P b ts args h K':=by
 unfold lW at hn ⊢
 split at hn
 ·exact aBr hk hn
 ·exact aBr hk hn
 ·exact aBt hk hn
 ·exact aGv hk hn
 ·exact aGv hk hn
 ·exact aBt hk hn
 ·exact aBt hk hn
 ·exact hn.elim
theorem lZ (hI:aJ I) {o:Op} {e:Nat→V} {h:aA} {K K':V→aA→Prop} (hk:∀v h,K v h→K' v h) (hn:doD P I o e h K):doD P I o e h K':=by
 cases o<;>simp only[doD]at hn ⊢
 case move=>exact hk _ _ hn
 case assign=>exact hk _ _ hn
 case pick c a b=>
  generalize aEv e c=cv at hn
  cases cv<;>try exact hn
  rename_i t
  cases t<;>exact hk _ _ hn
 case alloc t=>
  generalize zeroOf P t=z at hn
  cases z with
  | none=>exact hn
  | some z=>exact aBr hk hn
 case makeInterface t x=>
  generalize aGs P t=z at hn
  cases z with
  | none=>exact hn
  | some z=>exact hk _ _ hn
 case makeFunc=>exact hk _ _ hn
 case next=>exact aQo hk hn
 case call c=>
  cases hc:c.callee with
  | value f=>
   simp only[hc]at hn ⊢
   unfold cR at hn ⊢
   split
   ·rename_i g first captured hf
    simp only[hf]at hn
    cases hg:I g with
    | none=>simp only[hg]at hn
    | some s=>simp only[hg]at hn ⊢;exact hI g s hg _ _ _ _ hk hn
   ·rename_i hf
    split at hn
    ·exact absurd (by assumption) (hf _ _ _)
    ·exact hn
  | builtin b=>simp only[hc]at hn ⊢;exact aRo hk hn
  | invoke r m=>simp only[hc]at hn
 all_goals first | exact aBt hk hn | exact aBr hk hn | exact aGv hk hn | exact hn.elim
theorem aKh {e e':Nat→V} {xs:Array Operand} (h:∀x∈xs,aEv e x=aEv e' x):fM e xs=fM e' xs:=by
 unfold fM
 exact List.map_congr_left fun x hx=>h x (by simpa using hx)
theorem aNo {e e':Nat→V} {ps:Array (Nat×Operand)} (h:∀x∈(ps.toList.map (·.2)).toArray,aEv e x=aEv e' x) :
 (ps.toList.map fun p=>(p.1,aEv e p.2))=ps.toList.map fun p=>(p.1,aEv e' p.2):=
 List.map_congr_left fun p hp=>by rw[h p.2 (by simp;exact⟨p.1,by simpa using hp⟩)]
theorem aC4 {e e':Nat→V} {x:Option Operand} (h:∀y∈x.toArray,aEv e y=aEv e' y):x.map (aEv e)=x.map (aEv e'):=by
 cases x with
 | none=>rfl
 | some x=>simp only[Option.map_some];rw[h x (by simp)]
theorem aF3 {o:Op} {e e':Nat→V} (h:∀x∈o.operands,aEv e x=aEv e' x) (hp:aA) (K:V→aA→Prop):doD P I o e hp K=doD P I o e' hp K:=by
 cases o<;>simp only[doD]<;>simp only[Op.operands]at h
 case build t ps=>rw[aNo h]
 case buildSlice t n ps=>rw[aNo h]
 case makeFunc fn f c=>
  have h1:f.map (aEv e)=f.map (aEv e'):=Array.map_congr_left fun x hx=>h x (by simp[hx])
  have h2:c.map (aEv e)=c.map (aEv e'):=Array.map_congr_left fun x hx=>h x (by simp[hx])
  rw[h1,h2]
 case makeMap t r=>rw[aC4 h]
 case slice t x lo hi mx=>
  rw[h x (by simp),aC4 (x:=lo) fun y hy=>h y (by simp;simp at hy;simp[hy]),aC4 (x:=hi) fun y hy=>h y (by simp;simp at hy;simp[hy]),
   aC4 (x:=mx) fun y hy=>h y (by simp;simp at hy;simp[hy])]
 case call c=>
  cases hc:c.callee with
  | value f=>
   simp only[Call.operands,hc]at h
   simp only
   rw[h f (by simp),aKh fun x hx=>h x (by simp[hx])]
  | builtin b=>
   simp only[Call.operands,hc]at h
   simp only
   rw[aKh fun x hx=>h x (by simp[hx])]
  | invoke r m=>rfl
 all_goals first | rfl | (simp at h;simp only[h];done) | (simp at h;simp only[h.1,h.2];done) | (simp at h;simp only[h.1,h.2.1,h.2.2];done)
end
end Go.Abs

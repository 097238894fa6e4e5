/- Our own abstract machine, part 25: specs of functions of which a contract of the shelf speaks. -/
import Derived.Test.YthhegdifbnghpaaGreatDoorQal
set_option linter.unusedSimpArgs false
set_option linter.unusedVariables false
namespace Go.Abs
open Go Go.RowKit
theorem R.below {J:World→Prop} {B:Nat} (hJ:cP J B) (hD:DF J) {r:Ren} {h:aA} {w w':World} (hR:R J B r h w) (hb:Below w.heap.size w w'):R J B r h w'∧Ext r h w r h w':=by
 obtain⟨h1,h2,h3,h4,h5⟩:=hb
 refine⟨⟨Nat.le_trans hR.base h4,fun b t ht=>⟨Nat.lt_of_lt_of_le (hR.lt b t ht).1 h4,(hR.lt b t ht).2⟩,fun b o ho=>?_,hR.inj,hJ.free hD hR.inv ⟨h1,h2,h3,h4,fun k hk=>h5 k (Nat.lt_of_lt_of_le hk hR.base)⟩⟩,
  ⟨Ren.le_refl r,Nat.le_refl _,h1,h2,h3,h4,fun k hk _=>h5 k hk,fun _ _ h=>h⟩⟩
 obtain⟨t,ht,hO⟩:=hR.live b o ho
 exact⟨t,ht,hO.wF (h5 _ (hR.lt b t ht).1)⟩
theorem aD.yW {P:Program} {J:World→Prop} {f:FuncId} (hcall:∀(args:Array V) (w:World),(callFunc f args).run P w = .ok (.enter f args) w) {s:Spec}
 (h:∀B,cP J B→∀(r:Ren) (hp:aA) (w:World) (args:List V) (args':Array V) (Q:V→aA→Prop),s args hp Q→R J B r hp w→VRl r args args'.toList →
  Calls P f args' w fun e w'=>∃v',e = .returned v'∧∃r' v h',Q v h'∧R J B r' h' w'∧Ext r hp w r' h' w'∧VR r' v v'):aD P J f s:=
 fun B hJ r hp w args args' Q hs hR ha=>⟨.enter f args',w,hcall args' w,h B hJ r hp w args args' Q hs hR ha⟩
theorem VRl.closed {r:Ren} {as:List V} {as':Array V} (h:VRl r as as'.toList) (hc:∀v∈as,bS v=true):as'=as.toArray:=by
 apply Array.ext'
 refine List.ext_getElem h.1.symm fun i h1 h2=>?_
 exact VR.oE (hc _ (List.getElem_mem _)) (h.2 i h2 h1)
theorem aD.aCm {P:Program} {J:World→Prop} (hD:DF J) {f:FuncId} (hcall:∀(args:Array V) (w:World),(callFunc f args).run P w = .ok (.enter f args) w) {s:Spec}
 (h:∀(args:List V) (hp:aA) (Q:V→aA→Prop) (w:World),s args hp Q→J w→∃v,(∀v∈args,bS v=true)∧bS v=true∧Q v hp∧Calls P f args.toArray w fun e w'=>e = .returned v∧Below w.heap.size w w') :
 aD P J f s:=by
 refine aD.yW hcall fun B hJ r hp w args args' Q hs hR ha=>?_
 obtain⟨v,h1,h2,h3,h4⟩:=h args hp Q w hs hR.inv
 rw[ha.closed h1]
 refine h4.mono ?_
 rintro e w' ⟨rfl,hb⟩
 obtain⟨hR',hE⟩:=hR.below hJ hD hb
 exact⟨v,rfl,r,v,hp,h3,hR',hE,VR.closed h2⟩
end Go.Abs

/- Specs on abstract heaps, part 34: the document's topics, numbers. -/
import Derived.Test.YthhegdifbnghpaaGreatDoorQbb
set_option linter.unusedSimpArgs false
set_option linter.unusedVariables false
namespace Go.Abs
open Go Go.Proofs
variable {E:FE} {h h':aA} {fp:List Nat} {p:V} {s:SpM}
def aBo (k:ByteArray) (ps:List Pr):Int:=((cG k ps).map (·.at_)).getD 0
end Go.Abs
namespace Go.Abs
open Go Go.Proofs
variable {E:FE} {h h':aA} {fp:List Nat} {p:V} {s:SpM} {g:List En} {ps:List Pr} {k:Nat}
structure TG (f:Pr→V) (g:List En) (ps:List Pr):Prop where
 rise:oB ps
 same:∀k,bD k g=(cG k ps).map f
variable {f:Pr→V}
theorem TG.nil:TG f [] []:=⟨List.Pairwise.nil,fun _=>rfl⟩
theorem TG.put (t:TG f g ps) (q:Pr) (c:Nat):TG f (cM q.key (f q) c g) (fB q ps):=
 ⟨t.rise.put,fun k=>by
  rw[aKy,aK2]
  split
  ·rfl
  ·exact t.same k⟩
theorem TG.del (t:TG f g ps) (hn:(bT g).Nodup) (k:ByteArray):TG f (eS k g) (iP k ps):=
 ⟨t.rise.del,fun k'=>by
  rw[aKx hn,aK0 _ _ t.rise]
  split
  ·rfl
  ·exact t.same k'⟩
theorem TG.hit (t:TG f g ps) (k:ByteArray):(bD k g).isSome=(cG k ps).isSome:=by rw[t.same];simp
theorem TG.perm (t:TG f g ps) (hn:(bT g).Nodup):(bT g).Perm (ps.map (·.key)):=by
 refine (List.perm_ext_iff_of_nodup hn (aOd t.rise)).2 fun k=>?_
 have h1:k∈bT g↔bD k g≠none:=by
  rw[ne_eq,←get_none]
  simp
 rw[h1,t.same,ne_eq,Option.map_eq_none_iff]
 constructor
 ·intro h
  cases hh:cG k ps with
  | none=>exact absurd hh h
  | some p=>
   obtain⟨h2,h3⟩:=aGo hh
   exact List.mem_map.2 ⟨p,h2,h3⟩
 ·intro h e
  obtain⟨p,h2,rfl⟩:=List.mem_map.1 h
  rw[aGp t.rise h2]at e
  cases e
theorem TG.len (t:TG f g ps) (hn:(bT g).Nodup):g.length=ps.length:=by
 have:=(t.perm hn).length_eq
 simpa[bT]using this
def aEh (v:ByteArray):Msg:=⟨0,v,0,0⟩
def jI:bR→SpM→Prop
 | .tab g,s=>s.kind=1∧TG (fun q=>str q.val) g s.bX∧(bT g).Nodup∧s.items=[]∧s.lost=[]∧∀q∈s.bX,q.at_=0
 | .qu a b i l,s=>s.kind=2∧s.bX=[]∧s.most=a∧s.next=b∧s.items=i∧s.lost=l
 | .to l g,s=>s.kind=3∧TG (fun q=>i64 q.at_) g s.bX∧(bT g).Nodup∧s.items=l.map aEh∧s.lost=[]∧∀q∈s.bX,q.val=⟨#[]⟩
end Go.Abs
namespace Go.Abs
open Go Go.Proofs
variable {E:FE} {h h':aA} {fp:List Nat} {p:V} {s:SpM} {g:List En} {ps:List Pr} {k:Nat} {l:List ByteArray}
theorem aT7 (t:TG (fun q=>i64 q.at_) g ps) (key:ByteArray):aBo key ps=atN key g:=by
 unfold aBo atN
 rw[t.same]
 cases cG key ps<;>rfl
theorem aG6 (l:List ByteArray):(l.map aEh).map (·.val)=l:=by
 rw[List.map_map]
 have:((fun m:Msg=>m.val) ∘ aEh)=id:=by funext x;rfl
 rw[this,List.map_id]
end Go.Abs

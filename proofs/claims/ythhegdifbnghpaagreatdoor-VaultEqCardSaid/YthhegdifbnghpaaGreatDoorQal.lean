/- Our own abstract machine, part 24: closed code is run: an evaluator that the kernel computes, and that it speaks truly. -/
import Derived.Test.YthhegdifbnghpaaGreatDoorQak
set_option linter.unusedSimpArgs false
set_option linter.unusedVariables false
namespace Go.Abs
open Go
/-! ### Values that are seen to be the same -/
def eq0:V→V→Bool
 | .bool a,.bool b=>a==b
 | .int k a,.int k' b=>decide (k=k')&&decide (a=b)
 | .string a,.string b=>decide (a.data.toList=b.data.toList)
 | .pointer none,.pointer none=>true
 | .pointer (some ⟨b,o,none⟩),.pointer (some ⟨b',o',none⟩)=>Nat.beq b b'&&Nat.beq o o'
 | .slice none n c,.slice none n' c'=>Nat.beq n n'&&Nat.beq c c'
 | .slice (some ⟨b,o,none⟩) n c,.slice (some ⟨b',o',none⟩) n' c'=>Nat.beq b b'&&Nat.beq o o'&&Nat.beq n n'&&Nat.beq c c'
 | .map none,.map none=>true
 | .map (some b),.map (some b')=>Nat.beq b b'
 | .nilFunc,.nilFunc=>true
 | .nilIface,.nilIface=>true
 | _,_=>false
theorem yD {a b:V} (h:eq0 a b=true):a=b:=by
 unfold eq0 at h
 split at h
 case h_3 a b=>
  exact congrArg Value.string (by cases a;cases b;exact congrArg ByteArray.mk (Array.ext' (of_decide_eq_true h)))
 all_goals first
  | rfl
  | (simp[Nat.beq_eq]at h<;>simp[h];done)
  | cases h
def eqL:List V→List V→Bool
 | [],[]=>true
 | a::l,b::m=>eq0 a b&&eqL l m
 | _,_=>false
theorem yE:∀{a b:List V},eqL a b=true→a=b
 | [],[],_=>rfl
 | a::l,b::m,h=>by
  simp only[eqL,Bool.and_eq_true]at h
  rw[yD h.1,yE h.2]
 | [],_::_,h=>by simp[eqL]at h
 | _::_,[],h=>by simp[eqL]at h
def eqA:V→V→Bool
 | .agg a,.agg b=>eqL a.toList b.toList
 | a,b=>eq0 a b
theorem aJ4 {a b:V} (h:eqA a b=true):a=b:=by
 unfold eqA at h
 split at h
 ·congr 1;exact Array.ext' (yE h)
 ·exact yD h
def eqM:List V→List V→Bool
 | [],[]=>true
 | a::l,b::m=>eqA a b&&eqM l m
 | _,_=>false
theorem aJ8:∀{a b:List V},eqM a b=true→a=b
 | [],[],_=>rfl
 | a::l,b::m,h=>by
  simp only[eqM,Bool.and_eq_true]at h
  rw[aJ4 h.1,aJ8 h.2]
 | [],_::_,h=>by simp[eqM]at h
 | _::_,[],h=>by simp[eqM]at h
def eqV:V→V→Bool
 | .agg a,.agg b=>eqL a.toList b.toList
 | .tuple a,.tuple b=>eqM a.toList b.toList
 | .iface t a,.iface t' b=>decide (t=t')&&eq0 a b
 | a,b=>eq0 a b
theorem aTf {a b:V} (h:eqV a b=true):a=b:=by
 unfold eqV at h
 split at h
 ·congr 1;exact Array.ext' (yE h)
 ·congr 1;exact Array.ext' (aJ8 h)
 ·simp only[Bool.and_eq_true,decide_eq_true_eq]at h
  rw[h.1,yD h.2]
 ·exact yD h
/-! ### The evaluator -/
abbrev KB:=V→aA→Bool
abbrev CB:=FuncId→List V→aA→KB→Bool
def kB (x:Option (V×aA)) (K:KB):Bool:=
 match x with
 | some (v,h)=>K v h
 | none=>false
section
variable (P:Program) (C:CB)
def xS (ops:Array Oper) (j:Nat) (e:Nat→V) (h:aA):Bool:=
 match ops[j]? with
 | some o=>
  match eN ops o e,o.dst with
  | some true,some d=>(match gG P o.op e h with | some v=>eqV v (e d) | none=>false)
  | some false,_=>true
  | _,_=>false
 | none=>false
end
section
variable {P:Program} {C:CB}
theorem aR0 {ops:Array Oper} {j:Nat} {e:Nat→V} {h:aA} (hb:xS P ops j e h=true):chk P ops j e h:=by
 unfold xS at hb
 unfold chk
 split at hb
 ·rename_i o ho
  simp only[ho]
  split at hb
  ·rename_i d hw hd
   simp only[hw,hd]
   split at hb
   ·rename_i v hv
    rw[hv,aTf hb]
   ·cases hb
  ·rename_i hw;simp only[hw]
  ·cases hb
 ·cases hb
theorem aJm {ops:Array Oper} {e:Nat→V} {h:aA} {p:Prop} (hp:p):∀{l:List Nat},(l.all fun j=>xS P ops j e h)=true→pD P ops e h l p
 | [],_=>hp
 | j::l,hl=>by
  simp only[List.all_cons,Bool.and_eq_true]at hl
  exact⟨aR0 hl.1,aJm hp hl.2⟩
end
def aI (P:Program) (f:FuncId) (a:An):Prop:=
 ∃fn c,P.funcs[f]? = some fn∧fn.body=some c∧codeOk fn.ntmps c=true∧eA P a c=true∧∀(args:Array V) (w:World),(callFunc f args).run P w = .ok (.enter f args) w
def lkA:List (Nat×An)→FuncId→Option An
 | [],_=>none
 | (n,a)::l,f=>if Nat.beq f n then some a else lkA l f
def zN (P:Program):List (Nat×An)→Prop
 | []=>True
 | (n,a)::l=>aI P n a∧zN P l
theorem aL1 {P:Program}:∀{l:List (Nat×An)},zN P l→∀f a,lkA l f=some a→aI P f a
 | [],_,f,a,h=>by cases h
 | (n,b)::l,⟨h1,h2⟩,f,a,h=>by
  unfold lkA at h
  split at h
  ·rename_i hf;cases h;rw[Nat.eq_of_beq_eq_true hf];exact h1
  ·exact aL1 h2 f a h
def vK (g:List V→aA→Option (V×aA)):Spec:=fun args h K=>kP (g args h) K
def aA.bare (h:aA):aA:=⟨fun _=>none,h.next⟩
theorem Sub.bare (h:aA):Sub h.bare h:=⟨Nat.le_refl _,fun _ _ h=>by cases h⟩
theorem aD.alone {P:Program} {J:World→Prop} {f:FuncId} {s:Spec} (hs:aD P J f s) {as:List V} {v0:V} (hv:bS v0=true) (has:∀v∈as,bS v=true)
 (h0:s as ⟨fun _=>none,0⟩ fun v _=>v=v0):aD P J f fun args h K=>args=as∧K v0 h:=by
 rintro B hJ r hp w args args' Q ⟨rfl,hK⟩ hR ha
 have hR0:R J B (fun _=>none) ⟨fun _=>none,0⟩ w:=⟨hR.base,fun _ _ h=>(by cases h),fun _ _ h=>(by cases h),fun _ _ _ _ _ _ h=>(by cases h),hR.inv⟩
 have ha0:VRl (fun _=>none) args args'.toList:=by
  refine⟨ha.1,fun i h1 h2=>?_⟩
  rw[VR.oE (has _ (List.getElem_mem h1)) (ha.2 i h1 h2)]
  exact VR.closed (has _ (List.getElem_mem h1))
 obtain⟨n,w',h1,h2⟩:=hs B hJ _ _ w args args' _ h0 hR0 ha0
 refine⟨n,w',h1,?_⟩
 have fin:∀v' w',(∃r' v h',v=v0∧R J B r' h' w'∧Ext (fun _=>none) ⟨fun _=>none,0⟩ w r' h' w'∧VR r' v v')→∃r' v h',Q v h'∧R J B r' h' w'∧Ext r hp w r' h' w'∧VR r' v v':=by
  rintro v' w' ⟨r',v,h',rfl,hR',hE,hv'⟩
  have hb:∀k,k<w.heap.size→w'.heap[k]? = w.heap[k]?:=fun k hk=>hE.block k hk fun⟨b,t,⟨o,ho,_⟩,_⟩=>by cases ho
  refine⟨r,v,hp,hK,⟨?_,?_,?_,hR.inj,hR'.inv⟩,⟨Ren.le_refl r,Nat.le_refl _,hE.os,hE.tape,hE.output,hE.size,fun k hk _=>hb k hk,fun _ _ h=>h⟩,?_⟩
  ·exact Nat.le_trans hR.base hE.size
  ·intro b t ht;exact⟨Nat.lt_of_lt_of_le (hR.lt b t ht).1 hE.size,(hR.lt b t ht).2⟩
  ·intro b o ho
   obtain⟨t,ht,hO⟩:=hR.live b o ho
   exact⟨t,ht,hO.wF (hb _ (hR.lt b t ht).1)⟩
  ·rw[VR.oE hv hv']
   exact VR.closed hv
 cases n<;>simp only at h2 ⊢
 case value v=>exact fin _ _ h2
 case enter g as=>
  refine h2.mono ?_
  rintro e w'' ⟨v,rfl,hh⟩
  exact⟨v,rfl,fin _ _ hh⟩
end Go.Abs

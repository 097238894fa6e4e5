/- Operations: which may be. -/
import Derived.Test.YthhegdifbnghpaaGreatDoorQbd
set_option linter.unusedSimpArgs false
set_option linter.unusedVariables false
namespace Go.Abs
open Go
variable {E:FE} {h:aA} {fp:List Nat} {v:V}
def dOp:EL Oq:=⟨5,Oq.cells,fun _=>rfl,fun _=>rfl,by decide⟩
theorem jT (f:Int):cl (F.jT E) [i64 f] h fun r h'=>r=i64 (kindOf f)∧h'=h:=by
 refine aN ?_
 simp only[F.jT,fH,pY,aB,aQ,kindOf]
 by_cases h3:f≥3<;>by_cases h5:f≤5<;>by_cases h6:f≥6<;>by_cases h9:f≤9<;>by_cases h10:f≥10<;>by_cases h12:f≤12 <;>
  simp[h3,h5,h6,h9,h10,h12,aQ,aR,aG]<;>first | omega | skip
theorem jW (f:Int):cl (F.jW E) [i64 f] h fun r h'=>r = .tuple #[.bool (mP f).1,.bool (mP f).2.1,.bool (mP f).2.2]∧h'=h:=by
 refine aN ?_
 simp only[F.jW,dD,aB]
 refine⟨fun vs h'=>vs=[.bool (decide (f=1∨f=8∨f=11))]∧h'=h,?_,?_⟩
 ·by_cases q1:f=1<;>by_cases q2:f=8<;>by_cases q3:f=11<;>simp[q1,q2,q3,aG]
 rintro e1 h1 ⟨he,rfl⟩
 simp only[List.cons.injEq,and_true]at he
 simp only[he,aG,decide_eq_true_eq,mP]
 by_cases q1:f=1∨f=8∨f=11
 ·simp[q1]
 simp only[q1,if_false]
 refine⟨fun vs h'=>vs=[.bool (decide (f=3∨f=5))]∧h'=h1,?_,?_⟩
 ·by_cases q2:f=3<;>by_cases q3:f=5<;>simp[q2,q3,aG]
 rintro e2 h2 ⟨he,rfl⟩
 simp only[List.cons.injEq,and_true]at he
 simp only[he,aG,decide_eq_true_eq]
 by_cases q3:f=3∨f=5
 ·simp[q3]
 simp only[q3,if_false,beq_iff_eq]
 by_cases q4:f=4
 ·simp[q4]
 simp only[q4,if_false]
 refine⟨fun vs h'=>vs=[.bool (decide (f=6∨f=10))]∧h'=h2,?_,?_⟩
 ·by_cases q5:f=6<;>by_cases q6:f=10<;>simp[q5,q6,aG]
 rintro e3 h3 ⟨he,rfl⟩
 simp only[List.cons.injEq,and_true]at he
 simp only[he,aG,decide_eq_true_eq]
 by_cases q5:f=6∨f=10
 ·simp[q5]
 simp only[q5,if_false,beq_iff_eq]
 by_cases q6:f=7
 ·simp[q6]
 simp only[q6,if_false]
 by_cases q7:f=12<;>simp[q7]
theorem aFi {s:ByteArray}:s=⟨#[]⟩↔s.size=0:=by
 obtain⟨⟨l⟩⟩:=s
 show (⟨⟨l⟩⟩:ByteArray)=⟨⟨[]⟩⟩↔l.length=0
 cases l<;>simp
theorem aO6 (k:EqK) (c:Bool) (s:ByteArray):aC k .eql c (str s) (.string ⟨#[]⟩) h=some (.bool (decide (s.size=0))):=by
 rw[zH]
 congr 2
 exact decide_eq_decide.2 aFi
theorem aEf (k:EqK) (c:Bool) (s:ByteArray):aC k .neq c (str s) (.string ⟨#[]⟩) h=some (.bool (!decide (s.size=0))):=by
 rw[zI]
 congr 2
 rw[decide_eq_decide.2 aFi]
theorem aLa (s:ByteArray) (i:Nat) (hi:i<s.size):iQ .str (str s) (i64 i)=some (.int .u8 (s.get! i).toNat):=by
 have h1:s[i]? = some (s.get! i):=by
  rw[getElem?_pos s i hi]
  congr 1
  show s.data[i]=s.data[i]!
  rw[getElem!_pos s.data i hi]
 simp only[iQ,if_pos (show (0:Int)≤i by omega),Int.toNat_natCast,h1]
theorem aJy {s:ByteArray} (hs:s.size=1):yB s=(decide (49≤(s.get! 0).toNat)&&decide ((s.get! 0).toNat≤57)):=by
 obtain⟨⟨l⟩⟩:=s
 match l,hs with
 | [c],_=>rfl
theorem aJz {s:ByteArray} (hs:s.size≠1):yB s=false:=by
 obtain⟨⟨l⟩⟩:=s
 match l,hs with
 | [],_=>rfl
 | [c],hs=>exact absurd rfl hs
 | _::_::_,_=>rfl
theorem jV (o:Oq):cl (F.jV E) [o.agg] h fun r h'=>r = .bool (mH o)∧Mod h [] h' []:=by
 refine aN ?_
 simp only[F.jV,qM,aZ]
 generalize hh:h.new (.cells o.cells 5 .rw)=h1
 have m1:Mod h [] h1 []:=by
  rw[←hh]
  exact⟨by simp,fun x hx _=>by have:x≠h.next:=by omega
                               simp[this],by simp,by simp⟩
 have g:h1.get h.next=some (.cells o.cells 5 .rw):=by rw[←hh];simp
 have r4:h1.rd h.next 4=some (i64 o.n):=aH g 4
 have r2:h1.rd h.next 2=some (str o.key):=aH g 2
 have ln:∀(x:ByteArray) (h:aA),bH .str (str x) h=some (i64 (x.size:Nat)):=fun _ _=>rfl
 have hsn:qV .eql o.key ⟨#[]⟩=some (.bool (decide (o.key.size=0))):=aO6 (h:=h1) .bad true o.key
 by_cases n1:o.n<1
 ·have e:mH o=false:=by simp[mH,show ¬1≤o.n by omega]
  simp[r4,r2,ln,n1,e,aR,aG,m1,aQ]
 by_cases n3:o.n > 3
 ·have e:mH o=false:=by simp[mH,show ¬o.n≤3 by omega]
  simp[r4,r2,ln,n1,n3,e,aR,aG,m1,aQ,iK]
 have n3':¬3<o.n:=by omega
 by_cases k1:o.key.size=1
 ·have hb:((o.key.size:Nat):Int)=1:=by omega
  have hi:=aLa o.key 0 (by omega)
  have hi:iQ .str (str o.key) (.int .i64 0)=_:=hi
  have k0:¬o.key.size=0:=by omega
  have e:mH o=(decide (49≤(o.key.get! 0).toNat)&&decide ((o.key.get! 0).toNat≤57)):=by
   simp[mH,aJy k1,show 1≤o.n by omega,show o.n≤3 by omega,k0]
  rw[e]
  by_cases c1:49≤(o.key.get! 0).toNat
  ·have c1':(49:Int)≤(((o.key.get! 0).toNat:Nat):Int):=by omega
   by_cases c2:(o.key.get! 0).toNat≤57
   ·have c2':(((o.key.get! 0).toNat:Nat):Int)≤57:=by omega
    simp[r4,r2,ln,n1,n3',hb,hi,c1,c2,c1',c2',aQ,aR,m1]
   ·have c2':¬(((o.key.get! 0).toNat:Nat):Int)≤57:=by omega
    simp[r4,r2,ln,n1,n3',hb,hi,c1,c2,c1',c2',aQ,aR,m1,k0,hsn]
  ·have c1':¬(49:Int)≤(((o.key.get! 0).toNat:Nat):Int):=by omega
   simp[r4,r2,ln,n1,n3',hb,hi,c1,c1',aQ,aR,m1,k0,hsn]
 ·have hb:¬((o.key.size:Nat):Int)=1:=by omega
  have e:mH o=(decide (o.key.size=0)&&decide (o.n≠2)):=by
   simp[mH,aJz k1,show 1≤o.n by omega,show o.n≤3 by omega]
  rw[e]
  by_cases k0:o.key.size=0<;>by_cases n2:o.n=2<;>simp[r4,r2,ln,n1,n3',hb,aQ,aR,k0,n2,m1,gK,hsn]
end Go.Abs
namespace Go.Abs
open Go
variable {E:FE} {h:aA} {fp:List Nat} {v:V}
theorem eU (r:Int):cl (F.eU E) [.int .i32 r] h fun x h'=>x = .bool (!(decide (97≤r)&&decide (r≤122)))∧h'=h:=by
 refine aN ?_
 by_cases h1:r<97
 ·simp[F.eU,h1,show ¬97≤r by omega,aQ,aR]
 ·by_cases h2:122<r
  ·simp[F.eU,h1,h2,show ¬r≤122 by omega,aQ,aR]
  ·simp[F.eU,h1,h2,show r≤122 by omega,show 97≤r by omega,aQ,aR]
theorem aX6 {s:ByteArray} (hs:∀i,i<s.size→rM (s.get! i)=true):qT s=true:=by
 rw[aOv,List.all_eq_true]
 intro c hc
 obtain⟨i,hi,rfl⟩:=List.mem_iff_getElem.1 hc
 have hi':i<s.size:=by rw[Array.length_toList]at hi;exact hi
 have:=aGj s hi'
 rw[List.getElem?_eq_getElem hi,Option.some.injEq]at this
 rw[this]
 exact hs i hi'
theorem aX5 {s:ByteArray} {i:Nat} (hi:i<s.size) (hn:rM (s.get! i)=false):qT s=false:=by
 have h1:=aGj s hi
 cases hc:qT s with
 | false=>rfl
 | true=>
  rw[aOv,List.all_eq_true]at hc
  have:=hc _ (List.mem_of_getElem? h1)
  rw[hn]at this
  cases this
theorem aSm {E1:FE} (hM:aJ E.I) (hE:E.I (E.k 7)=some (cl (F.eU E1))) (s:ByteArray) (hsz:s.size≤maxLen) :
 cl (F.nS E) [str s,.func (.func (E.k 7)) #[] #[]] h fun r h'=>r = .bool (!qT s)∧Mod h [] h' []:=by
 refine aN ?_
 simp only[F.nS]
 suffices hi:cl (F.nT E) [str s,.func (.func (E.k 7)) #[] #[]] h fun r h'=>∃k:Int,r=i64 k∧(0≤k↔qT s=false)∧Mod h [] h' [] by
  refine aK hi ?_
  rintro r h1 ⟨k,rfl,hk,m⟩
  simp only[fH,aB]
  refine⟨?_,m⟩
  congr 1
  cases hs:qT s with
  | true=>
   have:¬0≤k:=fun hh=>by rw[hk,hs]at hh;cases hh
   simp[this]
  | false=>
   have:0≤k:=hk.2 hs
   simp[this]
 refine aN ?_
 simp only[F.nT]
 suffices hi:cl (F.nU E) [str s,.func (.func (E.k 7)) #[] #[],.bool true] h fun r h'=>∃k:Int,r=i64 k∧(0≤k↔qT s=false)∧Mod h [] h' [] by
  exact aK hi fun r h1 hh=>hh
 refine aN ?_
 have er:gS .str (str s) h=some (ptr h.next 0,h.new (.siter s 0)):=rfl
 simp only[F.nU,er,aZ]
 refine⟨fun n vs h'=>∃pos:Nat,n=s.size - pos∧pos≤s.size∧h'.get h.next=some (.siter s pos)∧(∀i,i<pos→rM (s.get! i)=true)∧Mod h [] h' []∧h.next<h'.next,s.size,
  ⟨0,by omega,by omega,by simp,by simp,Mod.eZ (by simp),by simp⟩,?_⟩
 rintro n e h1 ⟨pos,rfl,hp,hg,hs,m1,hn1⟩
 unfold dS
 simp only[hg]
 by_cases hlt:pos<s.size
 ·rw[if_pos hlt]
  generalize hd:Utf8.decode s pos=d
  have hput:Mod h [] (h1.put h.next (.siter s (pos+d.2))) []:=⟨by simpa using m1.next,fun x hx _=>by
   have:x≠h.next:=by omega
   simp[this,m1.same x hx (by simp)],by simp,by simp⟩
  simp only[bU,List.getElem?_toArray,List.getElem?_cons_zero,List.getElem?_cons_succ,aB,aG,if_true]
  unfold cR
  simp only[hE]
  refine aK (eU _) ?_
  rintro r h2 ⟨rfl,rfl⟩
  have hr:=@aXx s pos
  rw[hd]at hr
  simp only[aRg,aB,aG]
  by_cases hsm:rM (s.get! pos)=true
  ·have h3:=hr.2 hsm
   have h4:(97:Int)≤(d.1:Int)∧(d.1:Int)≤122:=by omega
   have hst:=aX7 hsm
   rw[hd]at hst
   simp only[h4.1,h4.2,decide_true,Bool.and_self,Bool.not_true,Bool.false_eq_true,beq_iff_eq,if_false]
   refine⟨s.size - (pos+1),by omega,pos+1,rfl,by omega,by simp[hst],fun i hi=>?_,hput,by simpa using hn1⟩
   by_cases hip:i=pos
   ·rw[hip];exact hsm
   ·exact hs i (by omega)
  ·have h4:(decide ((97:Int)≤(d.1:Int))&&decide ((d.1:Int)≤122))=false:=by
    cases hb:(decide ((97:Int)≤(d.1:Int))&&decide ((d.1:Int)≤122)) with
    | false=>rfl
    | true=>
     simp only[Bool.and_eq_true,decide_eq_true_eq]at hb
     exact absurd (hr.1 (by omega)) hsm
   simp only[h4,Bool.not_false,beq_self_eq_true,if_true]
   refine⟨pos,rfl,⟨fun _=>aX5 hlt (by simpa using hsm),fun _=>by omega⟩,hput⟩
 ·rw[if_neg hlt]
  simp only[bU,List.getElem?_toArray,List.getElem?_cons_zero,aB,aG,Bool.false_eq_true,if_false]
  refine⟨-1,rfl,⟨fun hh=>by omega,fun hh=>?_⟩,m1⟩
  rw[aX6 fun i hi=>hs i (by omega)]at hh
  cases hh
def lU (o:Oq):Bool:=!(decide (1≤o.fn)&&decide (o.fn≤12))||!(decide (1≤o.space.size)&&decide (o.space.size≤20)&&qT o.space)
def gJ (o:Oq):Bool:=!(decide (o.key.size≤20)&&decide (o.val.size≤100)&&decide (0≤o.n)&&decide (o.n≤1099511627776))
def vA (o:Oq):Bool:=!(((mP o.fn).1||decide (o.key.size=0))&&((mP o.fn).2.1||decide (o.val.size=0))&&((mP o.fn).2.2||decide (o.n=0)))
theorem aG8 (o:Oq):lD o=(!lU o&&!(gJ o||vA o)&&(decide (o.fn≠1)||mH o)):=by
 simp only[lD,lU,gJ,vA,Bool.not_or,Bool.not_not,Bool.and_assoc]
theorem jU {E1:FE} (hM:aJ E.I) (hE:E.I (E.k 7)=some (cl (F.eU E1))) (o:Oq) (hsz:o.space.size≤maxLen) :
 cl (F.jU E) [o.agg] h fun r h'=>r = .bool (lD o)∧Mod h [] h' []:=by
 refine aN ?_
 simp only[F.jU,qM,aZ]
 have hb0:=Mod.eZ (h:=h) (fp:=[]) (o:=.cells o.cells 5 .rw) (by simp)
 have g0:(h.new (.cells o.cells 5 .rw)).get h.next=some (.cells o.cells 5 .rw):=by simp
 have n0:h.next<(h.new (.cells o.cells 5 .rw)).next:=by simp
 generalize h.new (.cells o.cells 5 .rw)=h1 at hb0 g0 n0 ⊢
 generalize hbx:h.next=bx at g0 n0 ⊢
 have ln:∀(x:ByteArray) (h:aA),bH .str (str x) h=some (i64 (x.size:Nat)):=fun _ _=>rfl
 have rd:∀{h':aA},h'.get bx=some (.cells o.cells 5 .rw)→h'.rd bx 0=some (i64 o.fn)∧h'.rd bx 1=some (str o.space)∧h'.rd bx 2=some (str o.key)∧h'.rd bx 3=some (str o.val)∧h'.rd bx 4=some (i64 o.n):=
  fun g=>⟨aH g 0,aH g 1,aH g 2,aH g 3,aH g 4⟩
 obtain⟨r0,r1,r2,r3,r4⟩:=rd g0
 simp only[bE,aB,aS,Nat.zero_add,r0]
 refine aK (jW _) ?_
 rintro r h2 ⟨rfl,rfl⟩
 simp only[bU,List.getElem?_toArray,List.getElem?_cons_zero,List.getElem?_cons_succ,aB,r0,cN]
 have hfn:∀X:V→Prop,X (.bool (!(decide (1≤o.fn)&&decide (o.fn≤12))))→kv (gdV (.bool (decide (o.fn<1))) false (some (ptr bx 0))) fun v19=>kv (gdV (.bool (decide (o.fn<1))) false (ldD .one v19 h2)) fun v20=>
  kv (gdV (.bool (decide (o.fn<1))) false (aC .bad .gtr true v20 (.int .i64 12) h2)) fun v21=>kv (bC (.bool (decide (o.fn<1))) (.bool true) v21) X:=by
  intro X hX
  by_cases f1:o.fn<1
  ·have:¬1≤o.fn:=by omega
   simp only[this,decide_false,Bool.false_and,Bool.not_false]at hX
   simp[f1,aQ,aR,hX]
  ·have h1:1≤o.fn:=by omega
   by_cases f2:12<o.fn
   ·have:¬o.fn≤12:=by omega
    simp only[this,decide_false,Bool.and_false,Bool.not_false]at hX
    simp[f1,f2,aQ,aR,hX,r0]
   ·have:o.fn≤12:=by omega
    simp only[this,h1,decide_true,Bool.and_true,Bool.not_true]at hX
    simp[f1,f2,aQ,aR,hX,r0]
 refine hfn _ ?_
 clear hfn
 refine⟨fun vs h'=>vs=[.bool (lU o)]∧Mod h2 [] h' []∧h'.get bx=some (.cells o.cells 5 .rw),?_,?_⟩
 ·simp only[aG]
  by_cases hk:(decide (1≤o.fn)&&decide (o.fn≤12))=true
  case neg=>
   have hk':(decide (1≤o.fn)&&decide (o.fn≤12))=false:=by simpa using hk
   simp only[hk',Bool.not_false,if_true]
   refine⟨by simp[lU,hk'],Mod.refl (by simp),g0⟩
  simp only[hk,Bool.not_true,Bool.false_eq_true,if_false,r1,aB,aO6]
  have fin:∀(b:Bool) h',b=lU o→Mod h2 [] h' []→h'.get bx=some (.cells o.cells 5 .rw)→([.bool b]:List V)=[.bool (lU o)]∧Mod h2 [] h' []∧h'.get bx=some (.cells o.cells 5 .rw):=fun b h' e m g=>⟨by rw[e],m,g⟩
  by_cases s0:o.space.size=0
  ·have e:lU o=true:=by simp[lU,s0]
   simp only[s0,decide_true,aQ,Bool.true_eq_false,if_false,aB,aR,if_true,dO]
   refine cZ (by simp) ?_
   try simp only[aR,if_true,aB]
   exact fin _ _ e.symm (Mod.refl (by simp)) g0
  have s0':¬((o.space.size:Nat):Int)=0:=by omega
  simp only[s0,decide_false,aQ,if_true,aB,aS,r1,ln,iK,aR,Bool.false_eq_true,if_false]
  by_cases s20:((o.space.size:Nat):Int) > 20
  ·have e:lU o=true:=by simp[lU,show ¬o.space.size≤20 by omega]
   simp only[s20,decide_true,aQ,Bool.true_eq_false,if_false,aB,dO]
   refine cZ (by simp) ?_
   try simp only[aR,if_true,aB]
   exact fin _ _ e.symm (Mod.refl (by simp)) g0
  simp only[s20,decide_false,aQ,if_true,aB,aS,r1]
  refine cT rfl ?_
  refine aK (aSm hM hE o.space hsz) ?_
  rintro r h3 ⟨rfl,m3⟩
  try simp only[aR,Bool.false_eq_true,if_false,aB]
  refine fin _ _ ?_ m3 ?_
  ·simp[lU,hk,show 1≤o.space.size by omega,show o.space.size≤20 by omega]
  ·rw[m3.same bx (by omega) (by simp)];exact g0
 rintro e14 h3 ⟨he,m3,g3⟩
 simp only[List.cons.injEq,and_true]at he
 clear r0 r1 r2 r3 r4
 obtain⟨r0,r1,r2,r3,r4⟩:=rd g3
 have mfin:Mod h [] h3 []:=hb0.trans m3
 simp only[he,aG]
 by_cases b1:lU o=true
 ·rw[if_pos b1]
  exact⟨by rw[aG8,b1];rfl,mfin⟩
 rw[if_neg b1]
 have b1':lU o=false:=by simpa using b1
 have hlong:∀X:V→Prop,X (.bool (gJ o))→kv (gdV (.bool (decide (((o.key.size:Nat):Int) > 20))) false (some (ptr bx 3))) fun v44_33=>kv (gdV (.bool (decide (((o.key.size:Nat):Int) > 20))) false (ldD .one v44_33 h3)) fun v45_34=>
  kv (gdV (.bool (decide (((o.key.size:Nat):Int) > 20))) false (bH .str v45_34 h3)) fun v46_35=>kv (gdV (.bool (decide (((o.key.size:Nat):Int) > 20))) false (aC .bad .gtr true v46_35 (.int .i64 100) h3)) fun v47_36=>
  kv (bC (.bool (decide (((o.key.size:Nat):Int) > 20))) (.bool true) v47_36) fun v48_37=>kv (gdV v48_37 false (some (ptr bx 4))) fun v50_38=>kv (gdV v48_37 false (ldD .one v50_38 h3)) fun v51_39=>
  kv (gdV v48_37 false (aC .bad .lss true v51_39 (.int .i64 0) h3)) fun v52_40=>kv (bC v48_37 (.bool true) v52_40) fun v53_41=>kv (gdV v53_41 false (some (ptr bx 4))) fun v55_42=>kv (gdV v53_41 false (ldD .one v55_42 h3)) fun v56_43=>
  kv (gdV v53_41 false (aC .bad .gtr true v56_43 (.int .i64 1099511627776) h3)) fun v57_44=>kv (bC v53_41 (.bool true) v57_44) X:=by
  intro X hX
  by_cases k1:20<((o.key.size:Nat):Int)
  ·have e:gJ o=true:=by simp[gJ,show ¬o.key.size≤20 by omega]
   rw[e]at hX
   simp[k1,aQ,aR,hX]
  by_cases k2:100<((o.val.size:Nat):Int)
  ·have e:gJ o=true:=by simp[gJ,show ¬o.val.size≤100 by omega]
   rw[e]at hX
   simp[k1,k2,aQ,aR,hX,r3,ln]
  by_cases k3:o.n<0
  ·have e:gJ o=true:=by simp[gJ,show ¬0≤o.n by omega]
   rw[e]at hX
   simp[k1,k2,k3,aQ,aR,hX,r3,r4,ln]
  by_cases k4:1099511627776<o.n
  ·have e:gJ o=true:=by simp[gJ,show ¬o.n≤1099511627776 by omega]
   rw[e]at hX
   simp[k1,k2,k3,k4,aQ,aR,hX,r3,r4,ln]
  ·have e:gJ o=false:=by simp[gJ,show o.key.size≤20 by omega,show o.val.size≤100 by omega,show 0≤o.n by omega,show o.n≤1099511627776 by omega]
   rw[e]at hX
   simp[k1,k2,k3,k4,aQ,aR,hX,r3,r4,ln]
 simp only[r2,aB,ln,iK]
 refine hlong _ ?_
 clear hlong
 refine⟨fun vs h'=>vs=[.bool (gJ o||vA o)]∧h'=h3,?_,?_⟩
 ·simp only[aG,dE,aB,aEf]
  by_cases b2:gJ o=true
  ·simp[b2]
  have b2':gJ o=false:=by simpa using b2
  simp only[b2',Bool.false_eq_true,if_false,Bool.false_or]
  have hk:=aEf (h:=h3) .bad true o.key
  have hv:=aEf (h:=h3) .bad true o.val
  rw[tE]at hk hv
  unfold vA
  cases n1:(mP o.fn).1<;>cases n2:(mP o.fn).2.1<;>cases n3:(mP o.fn).2.2<;>by_cases k1:o.key.size=0<;>by_cases k2:o.val.size=0<;>by_cases k3:o.n=0 <;>
   simp[n1,n2,n3,k1,k2,k3,aQ,aR,aG,r2,r3,r4,hk,hv]
 rintro e46 h4 ⟨he2,rfl⟩
 simp only[List.cons.injEq,and_true]at he2
 simp only[he2,aG]
 by_cases b2:(gJ o||vA o)=true
 ·rw[if_pos b2]
  exact⟨by rw[aG8,b2];simp,mfin⟩
 rw[if_neg b2]
 have b2':(gJ o||vA o)=false:=by simpa using b2
 simp only[r0,aB,gK]
 have hmay:lD o=(decide (o.fn≠1)||mH o):=by rw[aG8,b1',b2'];simp
 by_cases f1:o.fn=1
 ·have e1:(o.fn != 1)=false:=by simp[f1]
  have hl:ldD (.agg 5) (ptr bx 0) h4=some o.agg:=by
   rw[qK,kG g3];rfl
  simp only[e1,aQ,if_true,hl,aB]
  refine cT rfl ?_
  refine aK (jV o) ?_
  rintro r h5 ⟨rfl,m5⟩
  try simp only[aR,Bool.false_eq_true,if_false,aB]
  exact⟨by rw[hmay];simp[f1],mfin.trans m5⟩
 ·have e1:(o.fn != 1)=true:=by simp[f1]
  simp only[e1,aQ,Bool.true_eq_false,if_false,aB]
  refine cZ (by simp) ?_
  try simp only[aR,if_true,aB]
  exact⟨by rw[hmay];simp[f1],mfin⟩
end Go.Abs
namespace Go.Abs
open Go
variable {E:FE} {h:aA} {fp:List Nat} {v:V}
theorem SlE.mod {α:Type} {D:EL α} {l:List α} {h':aA} {fq fq':List Nat} (s:SlE D h fp v l) (m:Mod h fq h' fq') (hd:∀x∈fp,x∉fq):SlE D h' fp v l:=s.same m.next fun x hx=>m.same x (s.lt x hx) (hd x hx)
theorem aSl {f:V} {l:List Oq} (hM:aJ E.I) (s:SlE dOp h fp v l) (hsz:l.length≤1000000) (P:Oq→Bool)
 (hf:∀h' o,o∈l→cR E.I f [o.agg] h' fun r h''=>r = .bool (P o)∧Mod h' [] h'' []) :
 cl (F.nF E) [v,f] h fun r h'=>r = .bool (l.any P)∧Mod h [] h' []:=by
 refine aN ?_
 simp only[F.nF]
 suffices hi:cl (F.nJ E) [v,f] h fun r h'=>∃k:Int,r=i64 k∧(0≤k↔l.any P=true)∧Mod h [] h' [] by
  refine aK hi ?_
  rintro r h1 ⟨k,rfl,hk,m⟩
  simp only[fH,aB]
  refine⟨?_,m⟩
  congr 1
  cases hs:l.any P with
  | true=>simp[hk.2 hs]
  | false=>
   have:¬0≤k:=fun hh=>by rw[hk,hs]at hh;cases hh
   simp[this]
 refine aN ?_
 simp only[F.nJ,s.len,aB]
 refine⟨fun n vs h'=>∃i:Nat,vs=[i64 i]∧n=l.length - i∧i≤l.length∧Mod h [] h' []∧∀j o,j<i→l[j]? = some o→P o=false,l.length,⟨0,rfl,by omega,by omega,Mod.refl (by simp),fun j o hj=>by omega⟩,?_⟩
 rintro n e h1 ⟨i,he,rfl,hi,m1,hno⟩
 simp only[List.cons.injEq,and_true]at he
 simp only[he,cN,aB,aG,decide_eq_true_eq]
 rcases Nat.lt_or_ge i l.length with hx | hx
 ·rw[if_pos (show ((i:Nat):Int)<(l.length:Nat) by omega)]
  have hg:l[i]? = some l[i]:=List.getElem?_eq_getElem hx
  obtain⟨b,i1,i2⟩:=(s.bZ m1).ld hg
  have i1:aV (.slice 5) _ _=_:=i1
  have i2:ldD (.agg 5) _ _=_:=i2
  simp only[i1,aB,i2]
  refine uR hM ?_ (hf h1 l[i] (List.getElem_mem hx))
  rintro r h2 ⟨rfl,m2⟩
  have m3:Mod h [] h2 []:=m1.trans m2
  simp only[aG]
  cases hp:P l[i]with
  | true=>
   simp only[if_true]
   exact⟨i,rfl,⟨fun _=>List.any_eq_true.2 ⟨l[i],List.getElem_mem hx,hp⟩,fun _=>by omega⟩,m3⟩
  | false=>
   simp only[Bool.false_eq_true,if_false]
   rw[cY _ 1 (by omega) (by omega),aB]
   refine⟨l.length - (i+1),by omega,i+1,by simp,rfl,by omega,m3,fun j o hj ho=>?_⟩
   by_cases hji:j=i
   ·subst hji
    rw[hg]at ho
    cases ho
    exact hp
   ·exact hno j o (by omega) ho
 ·rw[if_neg (show ¬((i:Nat):Int)<(l.length:Nat) by omega)]
  refine⟨-1,rfl,⟨fun hh=>by omega,fun hh=>?_⟩,m1⟩
  obtain⟨o,ho,hp⟩:=List.any_eq_true.1 hh
  obtain⟨j,hj,rfl⟩:=List.mem_iff_getElem.1 ho
  rw[hno j l[j] (by omega) (List.getElem?_eq_getElem hj)]at hp
  cases hp
structure OpE (E:FE):Prop where
 mono:aJ E.I
 all1:∃E1:FE,E.I (E.k 6)=some (cl (F.oQ E1))∧aJ E1.I∧∃E2:FE,E1.I (E1.k 7)=some (cl (F.eU E2))
 may1:∃E1:FE,E.I (E.k 7)=some (cl (F.eU E1))
theorem jS (oe:OpE E) {l:List Oq} (s:SlE dOp h fp v l) (hsz:l.length≤1000000) (hz:∀o∈l,o.space.size≤maxLen) :
 cl (F.jS E) [v] h fun r h'=>r = .bool (kS l)∧Mod h [] h' []:=by
 refine aN ?_
 simp only[F.jS,s.len,aB,fH,pY,aQ,s.len]
 by_cases h1:((l.length:Nat):Int)≥1
 case neg=>
  have e:kS l=false:=by simp[kS,show ¬1≤l.length by omega]
  simp only[h1,decide_false,Bool.false_eq_true,if_false,aB,aR,aQ]
  refine cZ (by simp) ?_
  try simp only[aQ,Bool.false_eq_true,if_false,aB,aR]
  exact⟨by rw[e],Mod.refl (by simp)⟩
 simp only[h1,decide_true,if_true,aB,s.len,pY,aR,aQ]
 by_cases h8:((l.length:Nat):Int)≤8
 case neg=>
  have e:kS l=false:=by simp[kS,show ¬l.length≤8 by omega]
  simp only[h8,decide_false,Bool.false_eq_true,if_false,aB,aQ]
  refine cZ (by simp) ?_
  try simp only[aQ,Bool.false_eq_true,if_false,aB,aR]
  exact⟨by rw[e],Mod.refl (by simp)⟩
 simp only[h8,decide_true,if_true,aB]
 obtain⟨E1,hE1,hM1,E2,hE2⟩:=oe.all1
 refine cT rfl (aK (aSl oe.mono s hsz (fun o=>!lD o) fun h' o ho=>?_) ?_)
 ·unfold cR
  simp only[hE1]
  refine aN ?_
  simp only[F.oQ,List.nil_append,List.append_nil,List.cons_append,qM,aZ]
  have g0:(h'.new (.cells o.cells 5 .rw)).get h'.next=some (.cells o.cells 5 .rw):=by simp
  have m0:=Mod.eZ (h:=h') (fp:=[]) (o:=.cells o.cells 5 .rw) (by simp)
  generalize h'.new (.cells o.cells 5 .rw)=h2 at g0 m0 ⊢
  have hl:ldD (.agg 5) (ptr h'.next 0) h2=some o.agg:=by rw[qK,kG g0];rfl
  try simp only[hl,aB]
  refine aK (jU hM1 hE2 o (hz o ho)) ?_
  rintro r h3 ⟨rfl,m3⟩
  simp only[dE,aB]
  exact⟨trivial,m0.trans m3⟩
 ·rintro r h2 ⟨rfl,m2⟩
  simp only[aQ,if_true,dE,aB,aR]
  refine⟨?_,m2⟩
  congr 1
  simp only[kS,show 1≤l.length by omega,show l.length≤8 by omega,decide_true,Bool.true_and]
  cases hb:(l.all lD) with
  | true=>
   rw[List.all_eq_true]at hb
   have:l.any (fun o=>!lD o)=false:=by
    rw[List.any_eq_false]
    intro o ho
    simp[hb o ho]
   rw[this];rfl
  | false=>
   rw[List.all_eq_false]at hb
   obtain⟨o,ho,hn⟩:=hb
   have:l.any (fun o=>!lD o)=true:=List.any_eq_true.2 ⟨o,ho,by simpa using hn⟩
   rw[this];rfl
theorem aUs (a b:ByteArray):cA (.struct [(.string ⟨#[]⟩),(.string ⟨#[]⟩),(.bool false)] [(0,1),(1,1),(2,1)]) [(0,str a),(1,str b)]=some (bF.agg ⟨a,b,false⟩):=rfl
theorem aUt (a:ByteArray):cA (.struct [(.string ⟨#[]⟩),(.string ⟨#[]⟩),(.bool false)] [(0,1),(1,1),(2,1)]) [(0,str a),(2,.bool true)]=some (bF.agg ⟨a,⟨#[]⟩,true⟩):=rfl
theorem aFg {l:List bF} (s:SlE bG h fp v l) (hsz:l.length≤1000000) (k:bF) :
 ∃h1,dN (some (3,[(.string ⟨#[]⟩),(.string ⟨#[]⟩),(.bool false)])) 1 [(0,k.agg)] h=some (.slice (some ⟨h.next,0,none⟩) 1 2,h1) ∧
  ∃v' h2 fp',dU (some (3,40,[(.string ⟨#[]⟩),(.string ⟨#[]⟩),(.bool false)])) v (.slice (some ⟨h.next,0,none⟩) 1 2) h1=some (v',h2)∧SlE bG h2 fp' v' (l++[k])∧Mod h fp h2 fp':=by
 refine⟨h.new (.cells (bG.enc k) 3 .rw),rfl,?_⟩
 have s1:SlE bG (h.new (.cells (bG.enc k) 3 .rw)) fp v l:=s.bZ (Mod.eZ (fp:=[]) (by simp))
 have hsrc:dT 3 (.slice (some ⟨h.next,0,none⟩) 1 2) (h.new (.cells (bG.enc k) 3 .rw))=some (bG.enc k):=by
  show (h.new (.cells (bG.enc k) 3 .rw)).rdN h.next 0 (1*3)=_
  rw[kG (h:=h.new (.cells (bG.enc k) 3 .rw)) (b:=h.next) (cs:=bG.enc k) (e:=3) (k:=.rw) (by simp)]
  rfl
 obtain⟨v',h2,fp',e1,e2,e3⟩:=Sl.append (bytes:=40) (z:=[(.string ⟨#[]⟩),(.string ⟨#[]⟩),(.bool false)]) s1 rfl (by decide) (by decide) (x:=.slice (some ⟨h.next,0,none⟩) 1 2) (k:=1) rfl (fun _=>hsrc) rfl rfl (by omega)
 refine⟨v',h2,fp',e1,?_,?_⟩
 ·have:SlE bG h2 fp' v' (l++[k])↔Sl h2 fp' v' 3 (l.length+1) (bG.flat l++bG.enc k):=by
   unfold SlE
   rw[bG.aKp,EL.sK,EL.aTt,List.append_nil,List.length_append,List.length_cons,List.length_nil]
   exact Iff.rfl
  exact this.2 e2
 ·exact (Mod.eZ (h:=h) (fp:=fp) s.lt).trans e3
end Go.Abs
namespace Go.Abs
open Go
variable {E:FE} {h:aA} {fp:List Nat} {v:V}
theorem fX {E1:FE} (hM:aJ E.I) (hE:E.I (E.k 9)=some (cl (F.fN E1))) {l:List bF} (s:SlE bG h fp v l) (hn:l.length≤12) :
 cl (F.fX E) [v] h fun r h'=>∃l',(∀x,x∈l'↔x∈l)∧l'.length≤l.length∧SlE bG h' fp r l'∧Mod h fp h' fp:=by
 refine aN ?_
 simp only[F.fX]
 refine aK (aYc hM aW0 s (aSb hE) hn) ?_
 rintro r h1 ⟨l1,p1,_,s1,m1⟩
 refine aK (aSi s1 (by rw[p1.length_eq];omega)) ?_
 rintro r2 h2 ⟨l2,p2,n2,s2,m2⟩
 exact⟨l2,fun x=>(p2 x).trans p1.mem_iff,by rw[←p1.length_eq];exact n2,s2,m1.trans m2⟩
def pG (o:Oq):bF:=if kindOf o.fn=1 then ⟨o.space,o.key,false⟩ else ⟨o.space,⟨#[]⟩,true⟩
theorem st5 {b:Nat} {c o:Oq} (hb:h.get b=some (.cells c.cells 5 .rw)):stD (some 5) (ptr b 0) o.agg h=some (h.put b (.cells o.cells 5 .rw)):=by
 show h.wr b 0 o.cells=_
 simp only[aA.wr,hb]
 rw[if_pos ⟨by simp,by simp[Oq.cells]⟩]
 rfl
theorem aCj:aY none (.agg #[(.int .i64 0),(.string ⟨#[]⟩),(.string ⟨#[]⟩),(.string ⟨#[]⟩),(.int .i64 0)]) h=some (ptr h.next 0,h.new (.cells (⟨0,⟨#[]⟩,⟨#[]⟩,⟨#[]⟩,0⟩:Oq).cells 5 .rw)):=rfl
theorem jQ {E1:FE} (hM:aJ E.I) (hE:E.I (E.k 9)=some (cl (F.fN E1))) {l:List Oq} (s:SlE dOp h fp v l) (hsz:l.length≤12) :
 cl (F.jQ E) [v] h fun r h'=>∃l' fq,(∀x,x∈l'↔x∈l.map pG)∧l'.length≤l.length∧SlE bG h' fq r l'∧Mod h [] h' fq:=by
 refine aN ?_
 simp only[F.jQ,s.len,aB]
 refine⟨fun n vs h'=>∃(i:Nat) (w:V) (fw:List Nat),vs=[w,i64 i]∧n=l.length - i∧i≤l.length∧SlE bG h' fw w ((l.take i).map pG)∧Mod h [] h' fw,l.length,
  ⟨0,_,[],rfl,by omega,by omega,by simpa using SlE.nil (D:=bG),Mod.refl (by simp)⟩,?_⟩
 rintro n e h1 ⟨i,w,fw,he,rfl,hi,sw,m1⟩
 simp only[List.cons.injEq,and_true]at he
 obtain⟨e3,e8⟩:=he
 simp only[e3,e8,cN,aB,aG,decide_eq_true_eq]
 rcases Nat.lt_or_ge i l.length with hx | hx
 case inr=>
  rw[if_neg (show ¬((i:Nat):Int)<(l.length:Nat) by omega)]
  have hil:i=l.length:=by omega
  subst hil
  rw[List.take_length]at sw
  refine aK (fX hM hE sw (by rw[List.length_map];exact hsz)) ?_
  rintro r h2 ⟨l',p,n',s',m'⟩
  exact⟨l',fw,p,by simpa using n',s',m1.trans m'⟩
 rw[if_pos (show ((i:Nat):Int)<(l.length:Nat) by omega)]
 have hg:l[i]? = some l[i]:=List.getElem?_eq_getElem hx
 obtain⟨b,i1,i2⟩:=(s.mod m1 (by simp)).ld hg
 have i1:aV (.slice 5) _ _=_:=i1
 have i2:ldD (.agg 5) _ _=some (l[i]).agg:=i2
 generalize hoo:l[i]=o at i2
 simp only[i1,aB,i2,aCj,aZ]
 rw[st5 (c:=⟨0,⟨#[]⟩,⟨#[]⟩,⟨#[]⟩,0⟩) (by simp),bV]
 have m2:Mod h1 fw ((h1.new (.cells (⟨0,⟨#[]⟩,⟨#[]⟩,⟨#[]⟩,0⟩:Oq).cells 5 .rw)).put h1.next (.cells o.cells 5 .rw)) fw:=
  (Mod.eZ (h:=h1) (fp:=fw) sw.lt).sX (Nat.le_refl _)
 have g2:((h1.new (.cells (⟨0,⟨#[]⟩,⟨#[]⟩,⟨#[]⟩,0⟩:Oq).cells 5 .rw)).put h1.next (.cells o.cells 5 .rw)).get h1.next=some (.cells o.cells 5 .rw):=by simp
 have s2:SlE bG ((h1.new (.cells (⟨0,⟨#[]⟩,⟨#[]⟩,⟨#[]⟩,0⟩:Oq).cells 5 .rw)).put h1.next (.cells o.cells 5 .rw)) fw w ((l.take i).map pG):=
  sw.mod (((Mod.eZ (h:=h1) (fp:=[]) (by simp)).sX (Nat.le_refl _))) (by simp)
 generalize ((h1.new (.cells (⟨0,⟨#[]⟩,⟨#[]⟩,⟨#[]⟩,0⟩:Oq).cells 5 .rw)).put h1.next (.cells o.cells 5 .rw))=h2 at m2 g2 s2 ⊢
 have r0:h2.rd h1.next 0=some (i64 o.fn):=aH g2 0
 have r1:h2.rd h1.next 1=some (str o.space):=aH g2 1
 have r2:h2.rd h1.next 2=some (str o.key):=aH g2 2
 simp only[bE,aB,aS,Nat.zero_add,r0]
 refine aK (jT _) ?_
 rintro r h3 ⟨rfl,rfl⟩
 have hlen:((l.take i).map pG).length=i:=by rw[List.length_map,List.length_take];omega
 have hnext:(l.take (i+1)).map pG=(l.take i).map pG++[pG o]:=by
  rw[List.take_add_one,hg,hoo];simp
 simp only[dD,aB,aG,decide_eq_true_eq,beq_iff_eq]
 by_cases hk:kindOf o.fn=1
 ·rw[if_pos hk,r1,aB,r2,aB,aUs,aB]
  obtain⟨h4,b1,w',h5,fw',b2,s5,m5⟩:=aFg s2 (by omega) ⟨o.space,o.key,false⟩
  rw[b1,aZ,b2,aZ,cY _ 1 (by omega) (by omega),aB]
  refine⟨l.length - (i+1),by omega,i+1,w',fw',by simp,rfl,by omega,?_,m1.trans (m2.trans m5)⟩
  rw[hnext,pG,if_pos hk]
  exact s5
 ·rw[if_neg hk,r1,aB,aUt,aB]
  obtain⟨h4,b1,w',h5,fw',b2,s5,m5⟩:=aFg s2 (by omega) ⟨o.space,⟨#[]⟩,true⟩
  rw[b1,aZ,b2,aZ,cY _ 1 (by omega) (by omega),aB]
  refine⟨l.length - (i+1),by omega,i+1,w',fw',by simp,rfl,by omega,?_,m1.trans (m2.trans m5)⟩
  rw[hnext,pG,if_neg hk]
  exact s5
end Go.Abs
namespace Go.Abs
open Go
variable {E:FE} {h:aA} {fp:List Nat} {v:V}
theorem aMv (k:bF):aY none k.agg h=some (ptr h.next 0,h.new (.cells (bG.enc k) 3 .rw)):=rfl
theorem ld3 {b:Nat} {k:bF} (hb:h.get b=some (.cells (bG.enc k) 3 .rw)):ldD (.agg 3) (ptr b 0) h=some k.agg:=by
 simp only[qK,kG hb]
 rfl
theorem jR (a b:bF):cl (F.jR E) [a.agg,b.agg] h fun r h'=>r = .bool (eY a b)∧Mod h [] h' []:=by
 refine aN ?_
 simp only[F.jR,aMv,aZ,rF]
 generalize hh:((h.new (.cells (bG.enc a) 3 .rw)).new (.cells (bG.enc b) 3 .rw))=h2
 have m2:Mod h [] h2 []:=by rw[←hh];exact Mod.oO
 have ga:h2.get h.next=some (.cells [str a.space,str a.key,.bool a.all] 3 .rw):=by rw[←hh];simp[bG]
 have gb:h2.get (h.next+1)=some (.cells [str b.space,str b.key,.bool b.all] 3 .rw):=by rw[←hh];simp[bG]
 have r0:h2.rd h.next 0=some (str a.space):=aH ga 0
 have r1:h2.rd h.next 1=some (str a.key):=aH ga 1
 have r2:h2.rd h.next 2=some (.bool a.all):=aH ga 2
 have r3:h2.rd (h.next+1) 0=some (str b.space):=aH gb 0
 have r4:h2.rd (h.next+1) 1=some (str b.key):=aH gb 1
 have r5:h2.rd (h.next+1) 2=some (.bool b.all):=aH gb 2
 simp only[bE,aB,aS,Nat.zero_add,r0,r3,zH]
 have eq:qV BinOp.eql a.key b.key=some (.bool (decide (a.key=b.key))):=zH (h:=h) .bad false a.key b.key
 by_cases hs:a.space=b.space<;>cases ha:a.all<;>cases hb:b.all<;>simp[aQ,aR,eY,hs,ha,hb,r1,r2,r4,r5,eq,m2]
theorem aSk {f:V} {l:List bF} (hM:aJ E.I) (s:SlE bG h fp v l) (hsz:l.length≤1000000) (P:bF→Bool)
 (hf:∀h' o,o∈l→Mod h [] h' []→cR E.I f [o.agg] h' fun r h''=>r = .bool (P o)∧Mod h' [] h'' []) :
 cl (F.lL E) [v,f] h fun r h'=>r = .bool (l.any P)∧Mod h [] h' []:=by
 refine aN ?_
 simp only[F.lL]
 suffices hi:cl (F.nK E) [v,f] h fun r h'=>∃k:Int,r=i64 k∧(0≤k↔l.any P=true)∧Mod h [] h' [] by
  refine aK hi ?_
  rintro r h1 ⟨k,rfl,hk,m⟩
  simp only[fH,aB]
  refine⟨?_,m⟩
  congr 1
  cases hs:l.any P with
  | true=>simp[hk.2 hs]
  | false=>
   have:¬0≤k:=fun hh=>by rw[hk,hs]at hh;cases hh
   simp[this]
 refine aN ?_
 simp only[F.nK,s.len,aB]
 refine⟨fun n vs h'=>∃i:Nat,vs=[i64 i]∧n=l.length - i∧i≤l.length∧Mod h [] h' []∧∀j o,j<i→l[j]? = some o→P o=false,l.length,⟨0,rfl,by omega,by omega,Mod.refl (by simp),fun j o hj=>by omega⟩,?_⟩
 rintro n e h1 ⟨i,he,rfl,hi,m1,hno⟩
 simp only[List.cons.injEq,and_true]at he
 simp only[he,cN,aB,aG,decide_eq_true_eq]
 rcases Nat.lt_or_ge i l.length with hx | hx
 ·rw[if_pos (show ((i:Nat):Int)<(l.length:Nat) by omega)]
  have hg:l[i]? = some l[i]:=List.getElem?_eq_getElem hx
  obtain⟨b,i1,i2⟩:=(s.bZ m1).ld hg
  have i1:aV (.slice 3) _ _=_:=i1
  have i2:ldD (.agg 3) _ _=_:=i2
  simp only[i1,aB,i2]
  refine uR hM ?_ (hf h1 l[i] (List.getElem_mem hx) m1)
  rintro r h2 ⟨rfl,m2⟩
  have m3:Mod h [] h2 []:=m1.trans m2
  simp only[aG]
  cases hp:P l[i]with
  | true=>
   simp only[if_true]
   exact⟨i,rfl,⟨fun _=>List.any_eq_true.2 ⟨l[i],List.getElem_mem hx,hp⟩,fun _=>by omega⟩,m3⟩
  | false=>
   simp only[Bool.false_eq_true,if_false]
   rw[cY _ 1 (by omega) (by omega),aB]
   refine⟨l.length - (i+1),by omega,i+1,by simp,rfl,by omega,m3,fun j o hj ho=>?_⟩
   by_cases hji:j=i
   ·subst hji
    rw[hg]at ho
    cases ho
    exact hp
   ·exact hno j o (by omega) ho
 ·rw[if_neg (show ¬((i:Nat):Int)<(l.length:Nat) by omega)]
  refine⟨-1,rfl,⟨fun hh=>by omega,fun hh=>?_⟩,m1⟩
  obtain⟨o,ho,hp⟩:=List.any_eq_true.1 hh
  obtain⟨j,hj,rfl⟩:=List.mem_iff_getElem.1 ho
  rw[hno j l[j] (by omega) (List.getElem?_eq_getElem hj)]at hp
  cases hp
theorem aY1 {E1 E2:FE} {b:Nat} (k:bF) (hE:E.I (E.k 8)=some (cl (F.jO E1))) (x:bF) (hb:h.get b=some (.cells (bG.enc k) 3 .rw)) (hlt:b<h.next) :
 cR E.I (.func (.func (E.k 8)) #[] #[ptr b 0]) [x.agg] h fun r h'=>r = .bool (eY x k)∧Mod h [] h' []:=by
 unfold cR
 simp only[hE]
 refine aN ?_
 simp only[F.jO,List.nil_append,List.append_nil,List.cons_append,aMv,aZ]
 have m0:=Mod.eZ (h:=h) (fp:=[]) (o:=.cells (bG.enc x) 3 .rw) (by simp)
 have g0:(h.new (.cells (bG.enc x) 3 .rw)).get h.next=some (.cells (bG.enc x) 3 .rw):=by simp
 have g1:(h.new (.cells (bG.enc x) 3 .rw)).get b=some (.cells (bG.enc k) 3 .rw):=by
  rw[m0.same b hlt (by simp)];exact hb
 generalize h.new (.cells (bG.enc x) 3 .rw)=h2 at g0 g1 m0 ⊢
 rw[ld3 g0,aB,ld3 g1,aB]
 refine aK (jR x k) ?_
 rintro r h3 ⟨rfl,m3⟩
 exact⟨rfl,m0.trans m3⟩
theorem bars {E1:FE} (hM:aJ E.I) {b:Nat} (k:bF) (hE:E.I (E.k 8)=some (cl (F.jO E1))) {l:List bF} (s:SlE bG h fp v l) (hsz:l.length≤1000000)
 (hb:h.get b=some (.cells (bG.enc k) 3 .rw)) (hlt:b<h.next) :
 cl (F.lL E) [v,.func (.func (E.k 8)) #[] #[ptr b 0]] h fun r h'=>r = .bool (l.any fun x=>eY x k)∧Mod h [] h' []:=
 aSk hM s hsz (fun x=>eY x k) fun h' o _ m=>aY1 (E2:=E1) k hE o (by rw[m.same b hlt (by simp)];exact hb) (Nat.lt_of_lt_of_le hlt m.next)
end Go.Abs
namespace Go.Abs
open Go
variable {E:FE} {F:Fr} {h:aA} {L:List Pl} {p v:V} {lk:List (bF×IdM)} {ks:List bF}
def fQ (v:V) (l:List bF):Pl:=⟨fun h f=>SlE bG h f v l,fun _ _ q=>q.lt,fun _ _ _ q hl hs=>SlE.same q hl hs⟩
def lkV (_:bF) (v:V) (x:IdM):Pl:=dI (v=x.agg)
def dR (p:V) (lk:List (bF×IdM)):Pl:=sW fun (y:Nat×Nat)=>lG [dI (p=ptr y.1 0),aP y.1 [.map (some y.2)] 1,aL eJ lkV y.2 lk]
theorem Sep.yY (s:Sep F h (dR p lk::L)):∃b m,p=ptr b 0∧Sep F h (aP b [.map (some m)] 1::aL eJ lkV m lk::L):=by
 obtain⟨⟨b,m⟩,s⟩:=s.ex
 have s1:=s.all
 obtain⟨e,s2⟩:=Sep.pure (L:=aP b [.map (some m)] 1::aL eJ lkV m lk::L) s1
 exact⟨b,m,e,s2⟩
theorem Sep.vC {b m:Nat} (s:Sep F h (aP b [.map (some m)] 1::aL eJ lkV m lk::L)):Sep F h (dR (ptr b 0) lk::L):=
 Sep.wC (A:=fun (y:Nat×Nat)=>lG [dI (ptr b 0=ptr y.1 0),aP y.1 [.map (some y.2)] 1,aL eJ lkV y.2 lk]) (b,m)
  (Sep.wB (L':=[dI (ptr b 0=ptr b 0),aP b [.map (some m)] 1,aL eJ lkV m lk]) (Sep.mkPure rfl s))
theorem Sep.aNx {t:List (Et bF IdM)}:∀{h:aA} {L:List Pl},Sep F h (t.map (Et.p lkV)++L)→∀e∈t,e.v=e.x.agg:=by
 induction t with
 | nil=>intro h L s e he;cases he
 | cons a t ih=>
  intro h L s e he
  obtain⟨q,s1⟩:=Sep.pure (φ:=a.v=a.x.agg) (L:=t.map (Et.p lkV)++L) s
  rcases List.mem_cons.1 he with rfl | he
  ·exact q
  ·exact ih s1 e he
abbrev cId (i:IdM):List V:=[i64 i.client,i64 i.seq]
theorem oO (i:IdM):aY none i.agg h=some (ptr h.next 0,h.new (.cells (cId i) 2 .rw)):=rfl
theorem yU:aY none (.agg #[(.string ⟨#[]⟩),(.string ⟨#[]⟩),(.bool false)]) h=some (ptr h.next 0,h.new (.cells (bG.enc ⟨⟨#[]⟩,⟨#[]⟩,false⟩) 3 .rw)):=rfl
theorem aHb:aY none (.agg #[(.int .i64 0),(.int .i64 0)]) h=some (ptr h.next 0,h.new (.cells (cId ⟨0,0⟩) 2 .rw)):=rfl
theorem ld2 {b:Nat} {i:IdM} (hb:h.get b=some (.cells (cId i) 2 .rw)):ldD (.agg 2) (ptr b 0) h=some i.agg:=by
 simp only[qK,kG hb]
 rfl
theorem st3 {b:Nat} {c k:bF} (hb:h.get b=some (.cells (bG.enc c) 3 .rw)):stD (some 3) (ptr b 0) k.agg h=some (h.put b (.cells (bG.enc k) 3 .rw)):=by
 show h.wr b 0 (bG.enc k)=_
 simp only[aA.wr,hb]
 rw[if_pos ⟨by simp[bG],by simp[bG]⟩]
 rfl
theorem st2 {b:Nat} {c k:IdM} (hb:h.get b=some (.cells (cId c) 2 .rw)):stD (some 2) (ptr b 0) k.agg h=some (h.put b (.cells (cId k) 2 .rw)):=by
 show h.wr b 0 (cId k)=_
 simp only[aA.wr,hb]
 rw[if_pos ⟨by simp,by simp⟩]
 rfl
theorem id_eq (c:Bool) (a b:IdM):aC (.struct [(0,.int),(1,.int)]) .eql c a.agg b.agg h=some (.bool (decide (a=b))):=by
 have:=bM.eq a b
 have e:eqD (.struct [(0,.int),(1,.int)]) c a.agg b.agg h=some (decide (a=b)):=this
 show (eqD (.struct [(0,.int),(1,.int)]) c _ _ h).map Value.bool=_
 rw[e];rfl
theorem aK3 (c:Bool) (a b:IdM):aC (.struct [(0,.int),(1,.int)]) .neq c a.agg b.agg h=some (.bool (!decide (a=b))):=by
 have:=bM.eq a b
 have e:eqD (.struct [(0,.int),(1,.int)]) c a.agg b.agg h=some (decide (a=b)):=this
 show (eqD (.struct [(0,.int),(1,.int)]) c _ _ h).map (fun b=>Value.bool (!b))=_
 rw[e];rfl
theorem aY0 (id:IdM) (ks:List bF) (k:bF):cO id (ks++[k]) lk=ins k id (cO id ks lk):=by
 simp[cO,List.foldl_append]
theorem aRk {id:IdM} {t:List (Et bF IdM)} {clk:Nat} (q:OkE t clk lk) :
 blocked id ks lk=t.any fun e=>decide (e.x≠id)&&ks.any fun k=>eY k e.k:=by
 unfold blocked
 rw[Bool.eq_iff_iff,List.any_eq_true,List.any_eq_true]
 constructor
 ·rintro⟨x,hx,hp⟩
  obtain⟨e,he,rfl⟩:=List.mem_map.1 (q.perm.mem_iff.2 hx)
  exact⟨e,he,hp⟩
 ·rintro⟨e,he,hp⟩
  exact⟨(e.k,e.x),q.perm.mem_iff.1 (List.mem_map.2 ⟨e,he,rfl⟩),hp⟩
end Go.Abs
namespace Go.Abs
open Go
variable {E:FE} {F:Fr} {h:aA} {L:List Pl} {p v:V} {lk:List (bF×IdM)} {ks:List bF}
theorem aY3 {id:IdM} {bi b m:Nat} (s:Sep F h (aL eJ lkV m lk::aP bi (cId id) 2::aP b [.map (some m)] 1::fQ v ks::L)) (hsz:ks.length≤1000000) {K:V→aA→Prop}
 (hK:∀h',Sep F h' (aL eJ lkV m (cO id ks lk)::aP bi (cId id) 2::aP b [.map (some m)] 1::fQ v ks::L)→K (.bool true) h') :
 kv (bH .slice v h) fun v22=>
∃(Inv23:Nat→List V→aA→Prop) (n23:Nat),Inv23 n23 [(.int .i64 0)] h∧∀(n23:Nat) (e23:Nat→V) (h:aA),Inv23 n23 [(e23 33)] h →
kv (aC .bad .lss false (e23 33) v22 h) fun v24=>
ifV v24 (
kv (aV (.slice 3) v (e23 33)) fun v25=>
kv (ldD (.agg 3) v25 h) fun v26=>
kP (aY none (.agg #[(.string ⟨#[]⟩),(.string ⟨#[]⟩),(.bool false)]) h) fun v27 h=>
kH (stD (some 3) v27 v26 h) fun _ h=>
kv (aM (ptr b 0)) fun v28=>
kv (aF (some 0) v28) fun v29=>
kv (ldD .one v29 h) fun v30=>
kv (ldD (.agg 3) v27 h) fun v31=>
kv (ldD (.agg 2) (ptr bi 0) h) fun v32=>
kH (cU (some ((.struct false [(0,.string),(1,.string),(2,.bool)]),(some (.agg #[(.int .i64 0),(.int .i64 0)])))) v30 v31 v32 h) fun _ h=>
kv (aC .bad .add true (e23 33) (.int .i64 1) h) fun v33=>
∃m,m<n23∧Inv23 m [v33] h) (
K (.bool true) h):=by
 obtain⟨f0,q0,_⟩:=s.up3.head
 have q0:SlE bG h f0 v ks:=q0
 rw[q0.len,aB]
 refine⟨fun n vs h'=>∃i:Nat,vs=[i64 i]∧n=ks.length - i∧i≤ks.length∧Sep F h' (aL eJ lkV m (cO id (ks.take i) lk)::aP bi (cId id) 2::aP b [.map (some m)] 1::fQ v ks::L),ks.length,⟨0,rfl,by omega,by omega,by simpa[cO]using s⟩,?_⟩
 rintro n e h1 ⟨i,he,rfl,hi,s1⟩
 simp only[List.cons.injEq,and_true]at he
 simp only[he,cN,aB,aG,decide_eq_true_eq]
 rcases Nat.lt_or_ge i ks.length with hx | hx
 case inr=>
  rw[if_neg (show ¬((i:Nat):Int)<(ks.length:Nat) by omega)]
  have hil:i=ks.length:=by omega
  subst hil
  rw[List.take_length]at s1
  exact hK _ s1
 rw[if_pos (show ((i:Nat):Int)<(ks.length:Nat) by omega)]
 obtain⟨f1,q1,_⟩:=s1.up3.head
 have q1:SlE bG h1 f1 v ks:=q1
 have hg:ks[i]? = some ks[i]:=List.getElem?_eq_getElem hx
 obtain⟨c,i1,i2⟩:=q1.ld hg
 have i1:aV (.slice 3) _ _=_:=i1
 have i2:ldD (.agg 3) _ _=some (ks[i]).agg:=i2
 have hnext:cO id (ks.take (i+1)) lk=ins ks[i] id (cO id (ks.take i) lk):=by
  rw[List.take_add_one,hg];exact aY0 _ _ _
 generalize ks[i]=k at i2 hnext
 simp only[i1,aB,i2,yU,aZ]
 have s2:=s1.box (bG.enc ⟨⟨#[]⟩,⟨#[]⟩,false⟩) 3
 rw[st3 s2.get,bV]
 have s3:=s2.write (cs':=bG.enc k)
 generalize (h1.new (.cells (bG.enc ⟨⟨#[]⟩,⟨#[]⟩,false⟩) 3 .rw)).put h1.next (.cells (bG.enc k) 3 .rw)=h3 at s3 ⊢
 have r1:h3.rd b 0=some (.map (some m)):=aH (s3.drop.drop.drop.get) 0
 simp only[bK,bE,aB,aS,Nat.zero_add,r1,ld3 s3.get,ld2 s3.drop.drop.get]
 obtain⟨h4,e4,s4⟩:=Sep.tP (D:=eJ) (A:=lkV) (k:=k) (v:=id.agg) (x:=id) (z:=.agg #[(.int .i64 0),(.int .i64 0)]) (Sep.up1 (Sep.mkPure (φ:=id.agg=id.agg) rfl s3.drop))
 have e4:cU (some ((.struct false [(0,.string),(1,.string),(2,.bool)]),(some (.agg #[(.int .i64 0),(.int .i64 0)])))) (.map (some m)) k.agg id.agg h3=some h4:=e4
 rw[e4,bV,cY _ 1 (by omega) (by omega),aB]
 exact⟨ks.length - (i+1),by omega,i+1,by simp,rfl,by omega,by rw[hnext];exact s4⟩
theorem aVl {E1:FE} (hM:aJ E.I) (hE:E.I (E.k 8)=some (cl (Go.Abs.F.jO E1))) (id:IdM) (s:Sep F h (dR p lk::fQ v ks::L)) (hsz:ks.length≤1000000) :
 cl (Go.Abs.F.mG E) [p,id.agg,v] h fun r h'=>r = .bool (!blocked id ks lk)∧Sep F h' (dR p (if blocked id ks lk then lk else cO id ks lk)::fQ v ks::L):=by
 refine aN ?_
 obtain⟨b,m,rfl,s0⟩:=s.yY
 simp only[Go.Abs.F.mG,oO,aZ,dA,aB,aG,Bool.false_eq_true,if_false,bK,bE,aS,Nat.zero_add]
 have s1:=s0.box (cId id) 2
 generalize h.new (.cells (cId id) 2 .rw)=h1 at s1 ⊢
 generalize h.next=bi at s1 ⊢
 have g1:=s1.drop.get
 have r1:h1.rd b 0=some (.map (some m)):=by rw[aH g1 0];rfl
 rw[r1,aB]
 obtain⟨t,clk,q,s2⟩:=s1.up2.fA
 have hv:=Sep.aNx s2.drop
 rw[aRk q]
 refine Sep.range s2 (fun it h2 s3=>?_)
 refine⟨fun n vs h'=>∃td seen,vs=[]∧n=t.length - td.length∧dW t td seen∧Sep F h' (cE it m clk seen::bO m (t.map (Et.m eJ)) clk::(t.map (Et.p lkV)++aP bi (cId id) 2::aP b [.map (some m)] 1::fQ v ks::L)) ∧
  (∀e∈td,(decide (e.x≠id)&&ks.any fun k=>eY k e.k)=false),t.length,⟨[],#[],rfl,rfl,dW.nil t,s3,by simp⟩,?_⟩
 rintro n e0 h3 ⟨td,seen,_,rfl,hs,s4,hno⟩
 refine Sep.sR s4 q.lt q.bn hs (fun e he hne h5 s5 hs5 hent hlen=>?_) (fun hp=>?_)
 ·simp only[bU,List.getElem?_toArray,List.getElem?_cons_zero,List.getElem?_cons_succ,aB,aG,if_true]
  rw[hent,mC]
  simp only[bU,List.getElem?_toArray,List.getElem?_cons_zero,List.getElem?_cons_succ,aB,yU,aHb,aZ]
  have s6:=s5.box (bG.enc ⟨⟨#[]⟩,⟨#[]⟩,false⟩) 3
  have s7:=s6.box (cId ⟨0,0⟩) 2
  have ek:eJ.enc e.k=e.k.agg:=rfl
  rw[ek,st3 s7.drop.get,bV]
  have s8:=s7.up1.write (cs':=bG.enc e.k)
  rw[hv e he,st2 s8.drop.get,bV]
  have s9:=s8.up1.write (cs':=cId e.x)
  generalize aA.put (aA.put _ _ _) _ _=h9 at s9 ⊢
  generalize (h5.new _).next=bx2 at s9 ⊢
  generalize h5.next=bk at s9 ⊢
  have g2:=s9.drop.drop.drop.drop.sI.get
  have g3:=s9.drop.get
  rw[ld2 s9.get,aB,ld2 g2,aB,aK3,aB]
  have more:∀h',Sep F h' (aP bx2 (cId e.x) 2::aP bk (bG.enc e.k) 3::cE it m clk (seen.push e.b)::bO m (t.map (Et.m eJ)) clk::(t.map (Et.p lkV)++aP bi (cId id) 2::aP b [.map (some m)] 1::fQ v ks::L)) →
   (decide (e.x≠id)&&ks.any fun k=>eY k e.k)=false →
   ∃m1,m1<t.length - td.length∧∃td seen,True∧m1=t.length - td.length∧dW t td seen∧Sep F h' (cE it m clk seen::bO m (t.map (Et.m eJ)) clk::(t.map (Et.p lkV)++aP bi (cId id) 2::aP b [.map (some m)] 1::fQ v ks::L)) ∧
    (∀e∈td,(decide (e.x≠id)&&ks.any fun k=>eY k e.k)=false):=fun h' sx hx=>
   ⟨t.length - (td.length+1),by omega,td++[e],_,trivial,by simp,hs5,sx.drop.drop,fun e' he'=>by
    rcases List.mem_append.1 he' with h | h
    ·exact hno e' h
    ·simp only[List.mem_singleton]at h
     subst h;exact hx⟩
  by_cases hx:e.x=id
  ·simp only[hx,decide_true,Bool.not_true,aQ,Bool.false_eq_true,if_false,aB]
   refine cZ (by simp) ?_
   simp only[aR,Bool.false_eq_true,if_false,aB,aG]
   rw[hx]at s9
   exact more _ (by rw[hx];exact s9) (by simp[hx])
  ·simp only[hx,decide_false,Bool.not_false,aQ,if_true,aB]
   obtain⟨f9,q9,_⟩:=s9.drop.drop.drop.drop.sI.up2.head
   have q9:SlE bG h9 f9 v ks:=q9
   obtain⟨_,⟨_,hlt,_⟩,_⟩:=s9.drop.head
   refine cT rfl (aK (bars hM e.k hE q9 hsz g3 hlt) ?_)
   rintro r h10 ⟨rfl,m10⟩
   have s10:=s9.skip m10
   simp only[aR,if_true,aB,aG]
   by_cases ha:(ks.any fun k=>eY k e.k)=true
   ·rw[if_pos ha]
    have hb:(t.any fun e=>decide (e.x≠id)&&ks.any fun k=>eY k e.k)=true:=List.any_eq_true.2 ⟨e,he,by simp[hx,ha]⟩
    rw[hb]
    refine⟨rfl,?_⟩
    have sc:=Sep.fJ (D:=eJ) (A:=lkV) q s10.drop.drop.drop
    exact Sep.vC sc.up1.drop.up1
   ·rw[if_neg ha]
    exact more _ s10 (by simp[ha])
 ·simp only[bU,List.getElem?_toArray,List.getElem?_cons_zero,List.getElem?_cons_succ,aB,aG,Bool.false_eq_true,if_false]
  have hb:(t.any fun e=>decide (e.x≠id)&&ks.any fun k=>eY k e.k)=false:=by
   rw[Bool.eq_false_iff,ne_eq,List.any_eq_true]
   rintro⟨e,he,hp1⟩
   rw[hno e (hp.mem_iff.1 he)]at hp1
   cases hp1
  rw[hb]
  have sc:=Sep.fJ (D:=eJ) (A:=lkV) q s4.drop
  exact aY3 (K:=fun r h'=>r = .bool (!false)∧Sep F h' (dR (ptr b 0) (if false=true then lk else cO id ks lk)::fQ v ks::L)) sc hsz fun h' s'=>⟨rfl,Sep.vC s'.up1.drop.up1⟩
end Go.Abs
namespace Go.Abs
open Go
variable {E:FE} {F:Fr} {h:aA} {L:List Pl} {p v:V} {lk:List (bF×IdM)} {ks:List bF}
theorem aL7 {E1:FE} (hM:aJ E.I) (hE:E.I (E.k 9)=some (cl (Go.Abs.F.fN E1))) (id:IdM) (s:Sep F h (dR p lk::L)) (hl:lk.length≤1000000)
 (hn:(lk.filter fun e=>decide (e.2=id)).length≤12) :
 cl (Go.Abs.F.iU E) [p,id.agg] h fun r h'=>∃l',(∀k,k∈l'↔(k,id)∈lk)∧l'.length≤12∧Sep F h' (fQ r l'::dR p lk::L):=by
 refine aN ?_
 obtain⟨b,m,rfl,s0⟩:=s.yY
 simp only[Go.Abs.F.iU,oO,aZ,dA,aB,aG,Bool.false_eq_true,if_false,bK,bE,aS,Nat.zero_add]
 have s1:=s0.box (cId id) 2
 generalize h.new (.cells (cId id) 2 .rw)=h1 at s1 ⊢
 generalize h.next=bi at s1 ⊢
 have g1:=s1.drop.get
 have r1:h1.rd b 0=some (.map (some m)):=by rw[aH g1 0];rfl
 rw[r1,aB]
 obtain⟨t,clk,q,s2⟩:=s1.up2.fA
 have hv:=Sep.aNx s2.drop
 have htl:t.length=lk.length:=by have:=q.perm.length_eq;simpa[cJ]using this
 refine Sep.range s2 (fun it h2 s3=>?_)
 have s3':Sep F h2 (fQ (.slice none 0 0) []::cE it m clk #[]::bO m (t.map (Et.m eJ)) clk::(t.map (Et.p lkV)++aP bi (cId id) 2::aP b [.map (some m)] 1::L)):=
  s3.alloc (a':=[]) (fQ (.slice none 0 0) []) (Mod.refl (by simp)) (SlE.nil (D:=bG))
 refine⟨fun n vs h'=>∃td seen w,vs=[w]∧n=t.length - td.length∧dW t td seen∧Sep F h' (fQ w ((td.filter fun e=>decide (e.x=id)).map (·.k))::cE it m clk seen::bO m (t.map (Et.m eJ)) clk::(t.map (Et.p lkV)++aP bi (cId id) 2::aP b [.map (some m)] 1::L)),
  t.length,⟨[],#[],_,rfl,rfl,dW.nil t,s3'⟩,?_⟩
 rintro n e0 h3 ⟨td,seen,w,he0,rfl,hs,s4⟩
 simp only[List.cons.injEq,and_true]at he0
 simp only[he0]
 refine Sep.sR s4.dn2 q.lt q.bn hs (fun e he hne h5 s5 hs5 hent hlen=>?_) (fun hp=>?_)
 ·simp only[bU,List.getElem?_toArray,List.getElem?_cons_zero,List.getElem?_cons_succ,aB,aG,if_true]
  rw[hent,mC]
  simp only[bU,List.getElem?_toArray,List.getElem?_cons_zero,List.getElem?_cons_succ,aB,yU,aHb,aZ]
  have s6:=s5.up2.box (bG.enc ⟨⟨#[]⟩,⟨#[]⟩,false⟩) 3
  have s7:=s6.box (cId ⟨0,0⟩) 2
  have ek:eJ.enc e.k=e.k.agg:=rfl
  rw[ek,st3 s7.drop.get,bV]
  have s8:=s7.up1.write (cs':=bG.enc e.k)
  rw[hv e he,st2 s8.drop.get,bV]
  have s9:=s8.up1.write (cs':=cId e.x)
  generalize aA.put (aA.put _ _ _) _ _=h9 at s9 ⊢
  generalize (h5.new _).next=bx2 at s9 ⊢
  generalize h5.next=bk at s9 ⊢
  have g2:=s9.drop.drop.drop.drop.drop.sI.get
  have g3:=s9.drop.get
  rw[ld2 s9.get,aB,ld2 g2,aB,id_eq,aB]
  have s10:=s9.drop.drop
  have hfl:((td.filter fun e=>decide (e.x=id)).map (·.k)).length≤1000000:=by
   rw[List.length_map]
   have:=List.length_filter_le (fun e:Et bF IdM=>decide (e.x=id)) td
   omega
  simp only[aG,decide_eq_true_eq]
  by_cases hx:e.x=id
  ·rw[if_pos hx,ld3 g3,aB]
   obtain⟨f,qs,kk⟩:=s10.head
   obtain⟨h11,b1,w',h12,fw',b2,s11,m11⟩:=aFg (v:=w) (fp:=f) (h:=h9) qs hfl e.k
   rw[b1,aZ,b2,aZ]
   refine⟨t.length - (td.length+1),by omega,td++[e],_,w',rfl,by simp,hs5,?_⟩
   rw[List.filter_append,List.filter_cons_of_pos (by simp[hx]),List.filter_nil,List.map_append]
   exact kk (fQ w' (_++[e.k])) m11 s11
  ·rw[if_neg hx]
   refine⟨t.length - (td.length+1),by omega,td++[e],_,w,rfl,by simp,hs5,?_⟩
   rw[List.filter_append,List.filter_cons_of_neg (by simp[hx]),List.filter_nil,List.append_nil]
   exact s10
 ·simp only[bU,List.getElem?_toArray,List.getElem?_cons_zero,List.getElem?_cons_succ,aB,aG,Bool.false_eq_true,if_false]
  have hlen:((td.filter fun e=>decide (e.x=id)).map (·.k)).length≤12:=by
   have h1:=((hp.filter fun e=>decide (e.x=id)).length_eq)
   have h2:=((q.perm.filter fun e=>decide (e.2=id)).length_eq)
   rw[cJ,List.filter_map,List.length_map]at h2
   rw[List.length_map,←h1]
   have h3:(t.filter fun e=>decide (e.x=id)).length=(t.filter ((fun e:bF×IdM=>decide (e.2=id)) ∘ fun e:Et bF IdM=>(e.k,e.x))).length:=rfl
   omega
  obtain⟨f,qs,kk⟩:=s4.head
  refine aK (fX hM hE (v:=w) (fp:=f) (h:=h3) qs hlen) ?_
  rintro r h6 ⟨l',hm,hle,sl,ml⟩
  refine⟨l',fun k=>?_,Nat.le_trans hle hlen,?_⟩
  ·rw[hm k,←q.perm.mem_iff]
   simp only[List.mem_map,List.mem_filter,decide_eq_true_eq,cJ,Prod.mk.injEq]
   constructor
   ·rintro⟨e,⟨he,hx⟩,hk⟩
    exact⟨e,hp.mem_iff.2 he,hk,hx⟩
   ·rintro⟨e,he,hk,hx⟩
    exact⟨e,⟨hp.mem_iff.1 he,hx⟩,hk⟩
  ·have s5:=kk (fQ r l') ml sl
   have s6:=Sep.fJ (D:=eJ) (A:=lkV) q (s5.dn2.drop.perm (List.Perm.cons _ List.perm_middle.symm))
   exact (Sep.vC s6.up2.drop.up2).up1
end Go.Abs
namespace Go.Abs
open Go
theorem aOe {κ α:Type} [DecidableEq κ] (k:κ):∀{l:List (κ×α)},(bA l).Nodup→rmv k l=l.filter fun e=>decide (e.1≠k)
 | [],_=>rfl
 | (a,u)::l,hn=>by
  have hn':a∉bA l∧(bA l).Nodup:=List.nodup_cons.1 hn
  by_cases hk:a=k
  ·rw[rmv,if_pos hk,List.filter_cons_of_neg (by simp[hk])]
   refine (List.filter_eq_self.2 fun e he=>?_).symm
   have:e.1≠k:=fun e1=>hn'.1 (by rw[hk,←e1];exact List.mem_map.2 ⟨e,he,rfl⟩)
   simpa using this
  ·rw[rmv,if_neg hk,List.filter_cons_of_pos (by simpa using hk),aOe k hn'.2]
theorem aOg {κ α:Type} [DecidableEq κ]:∀(ks:List κ) {l:List (κ×α)},(bA l).Nodup→ks.foldl (fun m k=>rmv k m) l=l.filter fun e=>decide (e.1∉ks)
 | [],l,_=>(List.filter_eq_self.2 fun _ _=>by simp).symm
 | k::ks,l,hn=>by
  rw[List.foldl_cons,aOg ks (tY hn),aOe k hn,List.filter_filter]
  refine List.filter_congr fun e _=>?_
  by_cases h1:e.1=k<;>by_cases h2:e.1∈ks<;>simp[h1,h2]
theorem aT0 {id:IdM} {lk:List (bF×IdM)} (hn:(bA lk).Nodup) {ks:List bF} (hk:∀k,k∈ks↔(k,id)∈lk):ks.foldl (fun m k=>rmv k m) lk=dY id lk:=by
 rw[aOg ks hn]
 refine List.filter_congr fun e he=>?_
 congr 1
 rw[hk]
 refine propext (not_congr ⟨fun h=>?_,fun h=>?_⟩)
 ·have h1:=lC hn (show (e.1,e.2)∈lk from he)
  have h2:=lC hn h
  rw[h1]at h2
  exact Option.some.inj h2
 ·rw[←h];exact he
theorem aVk (o:Oq):pG o=cQ o:=by
 unfold pG cQ
 by_cases h1:3≤o.fn∧o.fn≤5
 ·have hk:kindOf o.fn=1:=by unfold kindOf;rw[if_pos h1]
  rw[if_pos hk,if_pos h1]
 ·have hk:kindOf o.fn≠1:=by
   unfold kindOf
   rw[if_neg h1]
   by_cases h2:6≤o.fn∧o.fn≤9
   ·rw[if_pos h2];decide
   ·rw[if_neg h2]
    by_cases h3:10≤o.fn∧o.fn≤12
    ·rw[if_pos h3];decide
    ·rw[if_neg h3];decide
  rw[if_neg hk,if_neg h1]
variable {E:FE} {F:Fr} {h:aA} {L:List Pl} {p v:V} {lk:List (bF×IdM)} {ks:List bF}
theorem Sep.aWf {κ α:Type} [DecidableEq κ] {D:KD κ} {A:κ→V→α→Pl} {m:Nat} {l:List (κ×α)} (s:Sep F h (aL D A m l::L)):(bA l).Nodup:=by
 obtain⟨_,_,q,_⟩:=s.fA
 exact q.nd
theorem aL6 {E1:FE} (hM:aJ E.I) (hE:E.I (E.k 9)=some (cl (Go.Abs.F.fN E1))) (id:IdM) (s:Sep F h (dR p lk::L)) (hl:lk.length≤1000000)
 (hn:(lk.filter fun e=>decide (e.2=id)).length≤12) :
 cl (Go.Abs.F.iT E) [p,id.agg] h fun r h'=>(∃n:Nat,r=i64 n)∧Sep F h' (dR p (dY id lk)::L):=by
 refine aN ?_
 simp only[Go.Abs.F.iT,oO,aZ]
 have s1:=s.box (cId id) 2
 rw[ld2 s1.get,aB]
 refine aK (aL7 hM hE id s1.drop hl hn) ?_
 rintro r h1 ⟨ks,hks,hkn,s2⟩
 obtain⟨f0,q0,_⟩:=s2.head
 have q0:SlE bG h1 f0 r ks:=q0
 rw[q0.len,aB]
 obtain⟨b,m,rfl,s3⟩:=s2.up1.yY
 have hnd:=s3.drop.aWf
 refine⟨fun n vs h'=>∃i:Nat,vs=[i64 i]∧n=ks.length - i∧i≤ks.length∧Sep F h' (aL eJ lkV m ((ks.take i).foldl (fun m k=>rmv k m) lk)::aP b [.map (some m)] 1::fQ r ks::L),ks.length,⟨0,rfl,by omega,by omega,by simpa using s3.up1⟩,?_⟩
 rintro n e h2 ⟨i,he,rfl,hi,s4⟩
 simp only[List.cons.injEq,and_true]at he
 simp only[he,cN,aB,aG,decide_eq_true_eq]
 obtain⟨f1,q1,_⟩:=s4.up2.head
 have q1:SlE bG h2 f1 r ks:=q1
 have hsz:ks.length≤1000000:=by omega
 rcases Nat.lt_or_ge i ks.length with hx | hx
 case inr=>
  rw[if_neg (show ¬((i:Nat):Int)<(ks.length:Nat) by omega)]
  have hil:i=ks.length:=by omega
  subst hil
  rw[List.take_length,aT0 hnd hks]at s4
  rw[q1.len,aB]
  exact⟨⟨_,rfl⟩,Sep.vC (s4.up2.drop.up1)⟩
 rw[if_pos (show ((i:Nat):Int)<(ks.length:Nat) by omega)]
 have hg:ks[i]? = some ks[i]:=List.getElem?_eq_getElem hx
 obtain⟨c,i1,i2⟩:=q1.ld hg
 have i1:aV (.slice 3) _ _=_:=i1
 have i2:ldD (.agg 3) _ _=some (ks[i]).agg:=i2
 have hnext:(ks.take (i+1)).foldl (fun m k=>rmv k m) lk=rmv ks[i] ((ks.take i).foldl (fun m k=>rmv k m) lk):=by
  rw[List.take_add_one,hg,Option.toList_some,List.foldl_append];rfl
 generalize ks[i]=k at i2 hnext
 simp only[i1,aB,i2,yU,aZ]
 have s5:=s4.box (bG.enc ⟨⟨#[]⟩,⟨#[]⟩,false⟩) 3
 rw[st3 s5.get,bV]
 have s6:=s5.write (cs':=bG.enc k)
 generalize (h2.new (.cells (bG.enc ⟨⟨#[]⟩,⟨#[]⟩,false⟩) 3 .rw)).put h2.next (.cells (bG.enc k) 3 .rw)=h3 at s6 ⊢
 have r1:h3.rd b 0=some (.map (some m)):=by rw[aH s6.drop.drop.get 0];rfl
 simp only[bK,bE,aB,aS,Nat.zero_add,r1,ld3 s6.get]
 obtain⟨h4,e4,s7⟩:=Sep.aF0 (k:=k) (z:=.agg #[(.int .i64 0),(.int .i64 0)]) s6.drop
 have e4:gL (some ((.struct false [(0,.string),(1,.string),(2,.bool)]),(some (.agg #[(.int .i64 0),(.int .i64 0)])))) (.map (some m)) k.agg h3=some h4:=e4
 rw[e4,bV,cY _ 1 (by omega) (by omega),aB]
 exact⟨ks.length - (i+1),by omega,i+1,by simp,rfl,by omega,by rw[hnext];exact s7⟩
theorem jP (s:Sep F h L):cl (Go.Abs.F.jP E) [] h fun r h'=>Sep F h' (dR r []::L):=by
 refine aN ?_
 simp only[Go.Abs.F.jP]
 have e1:fO true none h=some (.map (some h.next),h.new (.map [] 0)):=rfl
 rw[e1,aZ]
 have s1:=s.wD (D:=eJ) (A:=lkV)
 generalize h.new (.map [] 0)=h1 at s1 ⊢
 generalize h.next=m at s1 ⊢
 have e2:cA (.struct [(.map none)] [(0,1)]) [(0,.map (some m))]=some (.agg #[.map (some m)]):=rfl
 have e3:aY none (.agg #[.map (some m)]) h1=some (ptr h1.next 0,h1.new (.cells [.map (some m)] 1 .rw)):=rfl
 rw[e2,aB,e3,aZ]
 exact Sep.vC (s1.box [.map (some m)] 1)
end Go.Abs
namespace Go.Abs
open Go
variable {E:FE} {F:Fr} {h:aA} {L:List Pl} {p v:V} {ov:List IdM}
def idV (_:IdM) (v:V) (_:Unit):Pl:=dI (v = .bool true)
def eC (p:V) (ov:List IdM):Pl:=sW fun (y:Nat×Nat×List (IdM×Unit))=>lG [dI (p=ptr y.1 0∧(bA y.2.2).Perm ov),aP y.1 [.map (some y.2.1)] 1,aL bM idV y.2.1 y.2.2]
theorem Sep.aCz (s:Sep F h (eC p ov::L)):∃b m l,p=ptr b 0∧(bA l).Perm ov∧Sep F h (aP b [.map (some m)] 1::aL bM idV m l::L):=by
 obtain⟨⟨b,m,l⟩,s⟩:=s.ex
 have s1:=s.all
 obtain⟨e,s2⟩:=Sep.pure (L:=aP b [.map (some m)] 1::aL bM idV m l::L) s1
 exact⟨b,m,l,e.1,e.2,s2⟩
theorem Sep.xU {b m:Nat} {l:List (IdM×Unit)} (hp:(bA l).Perm ov) (s:Sep F h (aP b [.map (some m)] 1::aL bM idV m l::L)):Sep F h (eC (ptr b 0) ov::L):=
 Sep.wC (A:=fun (y:Nat×Nat×List (IdM×Unit))=>lG [dI (ptr b 0=ptr y.1 0∧(bA y.2.2).Perm ov),aP y.1 [.map (some y.2.1)] 1,aL bM idV y.2.1 y.2.2]) (b,m,l)
  (Sep.wB (L':=[dI (ptr b 0=ptr b 0∧(bA l).Perm ov),aP b [.map (some m)] 1,aL bM idV m l]) (Sep.mkPure ⟨rfl,hp⟩ s))
theorem Sep.aMa {m:Nat} {l:List (IdM×Unit)} (s:Sep F h (aL bM idV m l::L)) (hp:(bA l).Perm ov) (id:IdM) :
 bW (some ((.struct false [(0,.int),(1,.int)]),(some (.bool false)))) (.map (some m)) id.agg false h=some (.bool (decide (id∈ov))):=by
 cases hk:Go.Abs.lkp id l with
 | none=>
  have h1:=s.sP (z:=.bool false) hk false
  have h1:bW (some ((.struct false [(0,.int),(1,.int)]),(some (.bool false)))) (.map (some m)) id.agg false h=some (.bool false):=h1
  rw[h1]
  have:id∉ov:=fun hm=>lA.1 hk (hp.mem_iff.2 hm)
  simp[this]
 | some x=>
  obtain⟨w,h1,s1⟩:=s.pH (z:=.bool false) hk false
  have h1:bW (some ((.struct false [(0,.int),(1,.int)]),(some (.bool false)))) (.map (some m)) id.agg false h=some w:=h1
  obtain⟨hw,_⟩:=Sep.pure (φ:=w = .bool true) s1
  rw[h1,hw]
  have:id∈ov:=hp.mem_iff.1 (List.mem_map.2 ⟨_,iS hk,rfl⟩)
  simp[this]
theorem aK6 (id:IdM) (s:Sep F h (eC p ov::L)) :
 cl (Go.Abs.F.iX E) [p,id.agg] h fun r h'=>r = .bool (decide (id∈ov))∧Sep F h' (eC p ov::L):=by
 refine aN ?_
 obtain⟨b,m,l,rfl,hp,s0⟩:=s.aCz
 simp only[Go.Abs.F.iX,oO,aZ,aC9,aB,aQ,if_true,bK,bE,aS,Nat.zero_add]
 have s1:=s0.box (cId id) 2
 generalize h.new (.cells (cId id) 2 .rw)=h1 at s1 ⊢
 generalize h.next=bi at s1 ⊢
 have r1:h1.rd b 0=some (.map (some m)):=by rw[aH s1.drop.get 0];rfl
 rw[r1,aB,ld2 s1.get,aB,(Sep.aMa s1.drop.drop hp id),aB]
 simp only[aR,if_true,aB]
 exact⟨trivial,Sep.xU hp s1.drop⟩
theorem aUc (id:IdM) (s:Sep F h (eC p ov::L)) :
 cl (Go.Abs.F.mM E) [p,id.agg] h fun r h'=>r = .bool (!decide (id∈ov))∧Sep F h' (eC p (if id∈ov then ov else id::ov)::L):=by
 refine aN ?_
 obtain⟨b,m,l,rfl,hp,s0⟩:=s.aCz
 simp only[Go.Abs.F.mM,oO,aZ,dA,aB,aQ,if_true,bK,bE,aS,Nat.zero_add]
 have s1:=s0.box (cId id) 2
 generalize h.new (.cells (cId id) 2 .rw)=h1 at s1 ⊢
 generalize h.next=bi at s1 ⊢
 have r1:h1.rd b 0=some (.map (some m)):=by rw[aH s1.drop.get 0];rfl
 rw[r1,aB,ld2 s1.get,aB,(Sep.aMa s1.drop.drop hp id),aB]
 simp only[aR,Bool.false_eq_true,if_false,aB,aG,decide_eq_true_eq]
 by_cases hm:id∈ov
 ·rw[if_pos hm,if_pos hm]
  exact⟨by simp[hm],Sep.xU hp s1.drop⟩
 ·rw[if_neg hm,if_neg hm]
  obtain⟨h4,e4,s4⟩:=Sep.tP (D:=bM) (A:=idV) (k:=id) (v:=.bool true) (x:=()) (z:=.bool false) (Sep.up1 (Sep.mkPure (φ:=(Value.bool true:V) = .bool true) rfl s1.drop.up1))
  have e4:cU (some ((.struct false [(0,.int),(1,.int)]),(some (.bool false)))) (.map (some m)) id.agg (.bool true) h1=some h4:=e4
  rw[e4,bV]
  refine⟨by simp[hm],Sep.xU ?_ s4.up1⟩
  have hk:Go.Abs.lkp id l=none:=lA.2 fun hh=>hm (hp.mem_iff.1 hh)
  rw[aBu,if_pos hk]
  exact (List.perm_append_comm.trans (List.Perm.refl _)).trans (hp.cons id)
theorem aUd (s:Sep F h L):cl (Go.Abs.F.mO E) [.slice none 0 0] h fun r h'=>Sep F h' (eC r []::L):=by
 refine aN ?_
 simp only[Go.Abs.F.mO]
 have e1:fO true none h=some (.map (some h.next),h.new (.map [] 0)):=rfl
 rw[e1,aZ]
 have s1:=s.wD (D:=bM) (A:=idV)
 generalize h.new (.map [] 0)=h1 at s1 ⊢
 generalize h.next=m at s1 ⊢
 have e2:cA (.struct [(.map none)] [(0,1)]) [(0,.map (some m))]=some (.agg #[.map (some m)]):=rfl
 have e3:aY none (.agg #[.map (some m)]) h1=some (ptr h1.next 0,h1.new (.cells [.map (some m)] 1 .rw)):=rfl
 rw[e2,aB,e3,aZ]
 have s2:=s1.box [.map (some m)] 1
 have e5:∀h:aA,bH .slice (.slice none 0 0) h=some (i64 ((0:Nat):Int)):=fun _=>rfl
 rw[e5,aB]
 refine⟨fun n vs h'=>vs=[i64 0]∧Sep F h' (aP h1.next [.map (some m)] 1::aL bM idV m []::L),0,⟨rfl,s2⟩,?_⟩
 rintro n e h2 ⟨he,s3⟩
 simp only[List.cons.injEq,and_true]at he
 simp only[he,cN,aB,aG,decide_eq_true_eq]
 rw[if_neg (by simp)]
 exact Sep.xU (by simp[bA]) s3
end Go.Abs
namespace Go.Abs
open Go
variable {E:FE} {h:aA} {fp:List Nat} {v:V}
abbrev zOp:List V:=[(.int .i64 0),(.string ⟨#[]⟩),(.string ⟨#[]⟩),(.string ⟨#[]⟩),(.int .i64 0)]
theorem aR7 {l:List Oq} (s:SlE dOp h fp v l) (hsmall:l.length≤1099511627776) :
 cl (F.mZ E) [v] h fun r h'=>∃fp',SlE dOp h' fp' r l∧Mod h [] h' fp':=by
 refine aN ?_
 obtain⟨b,hb,hnil⟩:=Sl.isNil s true
 simp only[F.mZ,hb,aB,aG]
 cases b with
 | true=>
  obtain⟨h0,rfl⟩:=hnil rfl
  have:l=[]:=List.eq_nil_of_length_eq_zero h0
  subst this
  simp only[if_true]
  exact⟨[],SlE.nil (D:=dOp),Mod.refl (by simp)⟩
 | false=>
  simp only[Bool.false_eq_true,if_false,dN]
  simp only[Nat.zero_mul,Nat.zero_le,List.length_cons,List.length_nil,and_self,and_true,true_and,if_true,eP,Option.map_some,aZ,eO,Nat.mul_zero,List.range_zero,List.map_nil,show (0:Nat)<5 from by decide]
  have s1:Sl (h.new (.cells [] 5 .rw)) [h.next] (.slice (some ⟨h.next,0,none⟩) 0 0) 5 0 []:=⟨by simp,.inr ⟨h.next,0,[],rfl,rfl,by simp,by simp,by simp,by simp,by simp⟩⟩
  have s2:Sl (h.new (.cells [] 5 .rw)) fp v 5 l.length (dOp.flat l):=s.bZ (Mod.eZ (fp:=[]) (by simp))
  obtain⟨v',h',fp',e1,e2,e3⟩:=Sl.append s1 (bytes:=64) (z:=zOp) rfl (by decide) (by decide) (Sl.src s2).1 (fun _=>(Sl.src s2).2) (by rw[dOp.qI];rfl) (dOp.aKr l) (by omega)
  simp only[zOp]at e1
  rw[e1]
  simp only[aZ]
  refine⟨fp',by rw[Nat.zero_add,List.nil_append]at e2;exact e2,by have:=e3.next;simp at this;omega,fun x hx _=>?_,fun x hx=>?_,e3.lt⟩
  ·have hne:x≠h.next:=by omega
   rw[e3.same x (by simp;omega) (by simpa using hne)]
   simp[hne]
  ·rcases e3.new x hx with h1 | h1
   ·simp at h1;right;omega
   ·simp at h1;right;omega
end Go.Abs
namespace Go.Abs
open Go
variable {E:FE} {F:Fr} {h:aA} {L:List Pl} {p v:V}
def dZ (k:Nat) (v:V) (s:SpM):Pl:=sW fun (S:bR)=>lG [dI (SI k S∧KI S∧jI S s),pN v S]
def spV (k:Nat) (_:ByteArray) (v:V) (s:SpM):Pl:=dZ k v s
def vwV (k:Nat) (n:ByteArray) (v:V) (x:Option SpM):Pl:=match x with | none=>dI (v=nil) | some s=>dZ k v s
theorem Sep.rH {k:Nat} {s:SpM} (z:Sep F h (dZ k v s::L)):∃S,SI k S∧KI S∧jI S s∧Sep F h (pN v S::L):=by
 obtain⟨S,z⟩:=z.ex
 have z1:=z.all
 obtain⟨e,z2⟩:=Sep.pure (L:=pN v S::L) z1
 exact⟨S,e.1,e.2.1,e.2.2,z2⟩
theorem Sep.tG {k:Nat} {s:SpM} {S:bR} (h1:SI k S) (h2:KI S) (h3:jI S s) (z:Sep F h (pN v S::L)):Sep F h (dZ k v s::L):=
 Sep.wC (A:=fun (S:bR)=>lG [dI (SI k S∧KI S∧jI S s),pN v S]) S (Sep.wB (L':=[dI (SI k S∧KI S∧jI S s),pN v S]) (Sep.mkPure ⟨h1,h2,h3⟩ z))
theorem aR4 {k:Nat} {s:SpM} (z:Sep F h (dZ k v s::L)):cl (Go.Abs.F.fD E) [v] h fun r h'=>Sep F h' (dZ k r s::dZ k v s::L):=by
 obtain⟨S,h1,h2,h3,z1⟩:=z.rH
 obtain⟨f,q,_⟩:=z1.head
 have q:SpS h f v S:=q
 refine aK (aR6 q h1) ?_
 rintro r h' ⟨f',q',m'⟩
 have z2:=z1.alloc (pN r S) m' q'
 exact Sep.tG h1 h2 h3 (Sep.tG h1 h2 h3 z2.up1).up1
theorem aR5:cl (Go.Abs.F.fD E) [nil] h fun r h'=>r=nil∧h'=h:=by
 refine aN ?_
 simp only[Go.Abs.F.fD,tX,aB,aG,if_true]
 exact⟨trivial,trivial⟩
end Go.Abs
namespace Go.Abs
open Go
variable {E:FE} {F:Fr} {h:aA} {L:List Pl} {p v:V}
def aU:KD ByteArray where
 kk:=.string
 enc:=str
 ok:=fun k=>by simp[oF]
 eq:=fun a b=>by
  show some (a==b)=_
  by_cases h:a=b
  ·simp[h]
  ·simp[h]
 closed:=fun a=>by simp[bS,iL]
 bits:=fun a=>by simp[Instr.sameBits]
theorem Sep.aY6 {κ α:Type} [DecidableEq κ] {D:KD κ} {A:κ→V→α→Pl} {m:Nat} {l:List (κ×α)} {k:κ} {w:V} (s:Sep F h (aL D A m l::L)) (hk:Go.Abs.lkp k l=none) :
 Sep F h (aL D (dG k w A) m l::L):=by
 obtain⟨t,clk,q,s1⟩:=s.fA
 have ht:∀e∈t,e.k≠k:=fun e he hc=>by
  have h1:k∉bA l:=lA.1 hk
  exact h1 ((keys_perm q.perm).mem_iff.1 (by rw[oC];exact List.mem_map.2 ⟨e,he,hc⟩))
 rw[←sL (v:=w) ht]at s1
 exact Sep.fJ q s1
theorem Sep.aGt {κ α:Type} [DecidableEq κ] {D:KD κ} {A:κ→V→α→Pl} {m:Nat} {l:List (κ×α)} {k:κ} {w z:V} (x:α) (s:Sep F h (aL D A m l::L)) (hk:Go.Abs.lkp k l=none) :
 ∃h',cU (some (D.kk,some z)) (.map (some m)) (D.enc k) w h=some h'∧Sep F h' (aL D (dG k w A) m (ins k x l)::L):=by
 have s1:=s.aY6 (w:=w) hk
 refine Sep.tP (z:=z) (Sep.up1 ?_)
 have e:dG k w A k w x=dI (w=w):=by simp[dG]
 rw[e]
 exact Sep.mkPure rfl s1
theorem vQ {κ α:Type} [DecidableEq κ] {k:κ} {x:α}:∀{l:List (κ×α)},Go.Abs.lkp k l=some x→ins k x l=l
 | [],h=>by simp[Go.Abs.lkp]at h
 | (a,u)::l,h=>by
  simp only[Go.Abs.lkp]at h
  by_cases hk:a=k
  ·rw[if_pos hk]at h
   cases h
   rw[ins,if_pos hk,hk]
  ·rw[if_neg hk]at h
   rw[ins,if_neg hk,vQ h]
theorem aZp {k pv pp ms mv:Nat} {a b c d e f:V} {sp:List (ByteArray×SpM)} {view:List (ByteArray×Option SpM)} (name:ByteArray)
 (s:Sep F h (aP pv [.map (some ms),a,b,c] 4::aP pp [d,e,f,.map (some mv)] 4::aL aU (spV k) ms sp::aL aU (vwV k) mv view::L)) :
 cl (Go.Abs.F.oA E) [ptr pv 0,ptr pp 0,str name] h fun r h'=>
  Sep F h' (aL aU (dG name r (vwV k)) mv (cW sp name view).2::vwV k name r (cW sp name view).1::aP pv [.map (some ms),a,b,c] 4::aP pp [d,e,f,.map (some mv)] 4::aL aU (spV k) ms sp::L):=by
 refine aN ?_
 have gp:=s.up1.get
 have r1:h.rd pp 3=some (.map (some mv)):=by rw[aH gp 3];rfl
 simp only[Go.Abs.F.oA,bK,aB,bE,aS,Nat.zero_add,r1]
 cases hk:Go.Abs.lkp name view with
 | some x=>
  obtain⟨w,h1,s1⟩:=s.up3.pH (z:=nil) hk true
  have h1:bW (some (.string,(some (.pointer none)))) (.map (some mv)) (str name) true h=some (.tuple #[w,.bool true]):=h1
  rw[h1,aB]
  simp only[bU,List.getElem?_toArray,List.getElem?_cons_zero,List.getElem?_cons_succ,aB,aG,if_true]
  simp only[cW,hk]
  exact s1.up1
 | none=>
  have h1:=s.up3.sP (z:=nil) hk true
  have h1:bW (some (.string,(some (.pointer none)))) (.map (some mv)) (str name) true h=some (.tuple #[nil,.bool false]):=h1
  rw[h1,aB]
  simp only[bU,List.getElem?_toArray,List.getElem?_cons_zero,List.getElem?_cons_succ,aB,aG,Bool.false_eq_true,if_false]
  have r2:h.rd pv 0=some (.map (some ms)):=by rw[aH s.get 0];rfl
  rw[r2,aB]
  simp only[cW,hk]
  cases hs:Go.Abs.lkp name sp with
  | none=>
   have h2:=s.up2.sP (z:=nil) hs false
   have h2:bW (some (.string,(some (.pointer none)))) (.map (some ms)) (str name) false h=some nil:=h2
   rw[h2,aB]
   refine aK aR5 ?_
   rintro r h3 ⟨rfl,rfl⟩
   rw[r1,aB]
   obtain⟨h4,e4,s4⟩:=Sep.aGt (w:=nil) (z:=nil) (none:Option SpM) s.up3 hk
   have e4:cU (some (.string,(some (.pointer none)))) (.map (some mv)) (str name) nil h3=some h4:=e4
   rw[e4,bV]
   exact (Sep.mkPure (φ:=(nil:V)=nil) rfl s4).up1
  | some x=>
   obtain⟨w,h2,s2⟩:=s.up2.pH (z:=nil) hs false
   have h2:bW (some (.string,(some (.pointer none)))) (.map (some ms)) (str name) false h=some w:=h2
   rw[h2,aB]
   refine aK (aR4 s2) ?_
   intro r h3 s3
   have s4:=Sep.uZ (A:=spV k) (k:=name) (v:=w) (x:=x) (x':=x) (D:=aU) s3.dn2 hs
   rw[vQ hs]at s4
   have r3:h3.rd pp 3=some (.map (some mv)):=by rw[aH s4.drop.drop.drop.get 3];rfl
   rw[r3,aB]
   obtain⟨h4,e4,s5⟩:=Sep.aGt (w:=r) (z:=nil) (some x:Option SpM) s4.up4 hk
   have e4:cU (some (.string,(some (.pointer none)))) (.map (some mv)) (str name) r h3=some h4:=e4
   rw[e4,bV]
   exact s5.perm (List.Perm.cons _ (((List.Perm.swap _ _ _).trans ((List.Perm.swap _ _ _).cons _)).trans (((List.Perm.swap _ _ _).cons _).cons _)))
end Go.Abs
namespace Go.Abs
open Go
variable {E:FE} {F:Fr} {h:aA} {L:List Pl} {p v:V}
def cV (v:V) (l:List Oq):Pl:=⟨fun h f=>SlE dOp h f v l,fun _ _ q=>q.lt,fun _ _ _ q hl hs=>SlE.same q hl hs⟩
def jX (v:V) (l:List ByteArray):Pl:=⟨fun h f=>Sl h f v 1 l.length (l.map str),fun _ _ q=>q.lt,fun _ _ _ q hl hs=>Sl.same q hl hs⟩
def oR (k:Nat) (p:V) (x:cF):Pl:=sW fun (y:Nat×V×V×Nat)=>
 lG [dI (p=ptr y.1 0),aP y.1 [y.2.1,y.2.2.1,i64 x.now,.map (some y.2.2.2)] 4,cV y.2.1 x.ops,jX y.2.2.1 x.bQ,aL aU (vwV k) y.2.2.2 x.view]
def ptV (k:Nat) (_:IdM) (v:V) (x:cF):Pl:=oR k v x
theorem Sep.wG {k:Nat} {x:cF} (s:Sep F h (oR k p x::L)):∃b a c m,p=ptr b 0∧Sep F h (aP b [a,c,i64 x.now,.map (some m)] 4::cV a x.ops::jX c x.bQ::aL aU (vwV k) m x.view::L):=by
 obtain⟨⟨b,a,c,m⟩,s⟩:=s.ex
 have s1:=s.all
 obtain⟨e,s2⟩:=Sep.pure (L:=aP b [a,c,i64 x.now,.map (some m)] 4::cV a x.ops::jX c x.bQ::aL aU (vwV k) m x.view::L) s1
 exact⟨b,a,c,m,e,s2⟩
theorem Sep.vD {k b m:Nat} {a c:V} {x:cF} (s:Sep F h (aP b [a,c,i64 x.now,.map (some m)] 4::cV a x.ops::jX c x.bQ::aL aU (vwV k) m x.view::L)):Sep F h (oR k (ptr b 0) x::L):=
 Sep.wC (A:=fun (y:Nat×V×V×Nat)=>lG [dI (ptr b 0=ptr y.1 0),aP y.1 [y.2.1,y.2.2.1,i64 x.now,.map (some y.2.2.2)] 4,cV y.2.1 x.ops,jX y.2.2.1 x.bQ,aL aU (vwV k) y.2.2.2 x.view]) (b,a,c,m)
  (Sep.wB (L':=[dI (ptr b 0=ptr b 0),aP b [a,c,i64 x.now,.map (some m)] 4,cV a x.ops,jX c x.bQ,aL aU (vwV k) m x.view]) (Sep.mkPure rfl s))
def eL (k:Nat) (p:V) (st:dC):Pl:=sW fun (y:Nat×Nat×V×Nat×V)=>
 lG [dI (p=ptr y.1 0),aP y.1 [.map (some y.2.1),y.2.2.1,.map (some y.2.2.2.1),y.2.2.2.2] 4,aL aU (spV k) y.2.1 st.sp,dR y.2.2.1 st.lk,aL bM (ptV k) y.2.2.2.1 st.pt,eC y.2.2.2.2 st.ov]
theorem Sep.sV {k:Nat} {st:dC} (s:Sep F h (eL k p st::L)):∃b ms a mp c,p=ptr b 0 ∧
 Sep F h (aP b [.map (some ms),a,.map (some mp),c] 4::aL aU (spV k) ms st.sp::dR a st.lk::aL bM (ptV k) mp st.pt::eC c st.ov::L):=by
 obtain⟨⟨b,ms,a,mp,c⟩,s⟩:=s.ex
 have s1:=s.all
 obtain⟨e,s2⟩:=Sep.pure (L:=aP b [.map (some ms),a,.map (some mp),c] 4::aL aU (spV k) ms st.sp::dR a st.lk::aL bM (ptV k) mp st.pt::eC c st.ov::L) s1
 exact⟨b,ms,a,mp,c,e,s2⟩
theorem Sep.kW {k b ms mp:Nat} {a c:V} {st:dC}
 (s:Sep F h (aP b [.map (some ms),a,.map (some mp),c] 4::aL aU (spV k) ms st.sp::dR a st.lk::aL bM (ptV k) mp st.pt::eC c st.ov::L)):Sep F h (eL k (ptr b 0) st::L):=
 Sep.wC (A:=fun (y:Nat×Nat×V×Nat×V)=>lG [dI (ptr b 0=ptr y.1 0),aP y.1 [.map (some y.2.1),y.2.2.1,.map (some y.2.2.2.1),y.2.2.2.2] 4,aL aU (spV k) y.2.1 st.sp,dR y.2.2.1 st.lk,aL bM (ptV k) y.2.2.2.1 st.pt,eC y.2.2.2.2 st.ov]) (b,ms,a,mp,c)
  (Sep.wB (L':=[dI (ptr b 0=ptr b 0),aP b [.map (some ms),a,.map (some mp),c] 4,aL aU (spV k) ms st.sp,dR a st.lk,aL bM (ptV k) mp st.pt,eC c st.ov]) (Sep.mkPure rfl s))
theorem iH (k:Nat) (s:Sep F h L):cl (Go.Abs.F.iH E) [] h fun r h'=>Sep F h' (eL k r ⟨[],[],[],[]⟩::L):=by
 refine aN ?_
 simp only[Go.Abs.F.iH]
 have e1:∀h:aA,fO true none h=some (.map (some h.next),h.new (.map [] 0)):=fun _=>rfl
 rw[e1,aZ]
 have s1:=s.wD (D:=aU) (A:=spV k)
 generalize h.new (.map [] 0)=h1 at s1 ⊢
 generalize h.next=ms at s1 ⊢
 refine aK (jP s1) ?_
 intro a h2 s2
 rw[e1,aZ]
 have s3:=s2.wD (D:=bM) (A:=ptV k)
 generalize h2.new (.map [] 0)=h3 at s3 ⊢
 generalize h2.next=mp at s3 ⊢
 refine aK (aUd s3) ?_
 intro c h4 s4
 have e2:cA (.struct [(.map none),(.pointer none),(.map none),(.pointer none)] [(0,1),(1,1),(2,1),(3,1)]) [(0,.map (some ms)),(1,a),(2,.map (some mp)),(3,c)]=some (.agg #[.map (some ms),a,.map (some mp),c]):=by
  obtain⟨bc,mc,lc,rfl,_,_⟩:=s4.aCz
  obtain⟨ba,ma,rfl,_⟩:=s4.drop.drop.yY
  rfl
 have e3:aY none (.agg #[.map (some ms),a,.map (some mp),c]) h4=some (ptr h4.next 0,h4.new (.cells [.map (some ms),a,.map (some mp),c] 4 .rw)):=rfl
 rw[e2,aB,e3,aZ]
 have s5:=s4.box [.map (some ms),a,.map (some mp),c] 4
 exact Sep.kW (st:=⟨[],[],[],[]⟩) s5.up1.up2.up3.up4.up4
end Go.Abs
namespace Go.Abs
open Go
variable {E:FE} {F:Fr} {h:aA} {L:List Pl} {p v:V} {k:Nat} {st:dC}
theorem aZk (id:IdM) (s:Sep F h (eL k p st::L)) :
 cl (Go.Abs.F.lR E) [p,id.agg] h fun r h'=>r = .bool (decide (id∈st.ov))∧Sep F h' (eL k p st::L):=by
 refine aN ?_
 obtain⟨b,ms,a,mp,c,rfl,s0⟩:=s.sV
 simp only[Go.Abs.F.lR,oO,aZ,aC9,aB,aQ,if_true,bK,bE,aS,Nat.zero_add]
 have s1:=s0.box (cId id) 2
 generalize h.new (.cells (cId id) 2 .rw)=h1 at s1 ⊢
 generalize h.next=bi at s1 ⊢
 have r1:h1.rd b 3=some c:=by rw[aH s1.drop.get 3];rfl
 rw[r1,aB,ld2 s1.get,aB]
 refine cT rfl (aK (aK6 id s1.drop.up4) ?_)
 rintro r h2 ⟨rfl,s3⟩
 simp only[aR,if_true,aB]
 exact⟨trivial,Sep.kW s3.dn4⟩
end Go.Abs
namespace Go.Abs
open Go
variable {E:FE} {F:Fr} {h:aA} {L:List Pl} {p v:V} {k:Nat}
theorem Sep.aHe {n:ByteArray} {w:V} {x:Option SpM} (s:Sep F h (vwV k n w x::L)) (c:Bool):aC (.ptr true) .neq c w nil h=some (.bool x.isSome):=by
 cases x with
 | none=>
  obtain⟨e,_⟩:=Sep.pure (φ:=w=nil) s
  subst e
  exact aM3 true c
 | some y=>
  obtain⟨S,_,_,_,s1⟩:=Sep.rH (k:=k) (s:=y) s
  obtain⟨f,q,_⟩:=s1.head
  have q:SpS h f w S:=q
  obtain⟨pt,q⟩:=q
  obtain⟨b,g,rfl,_⟩:=q
  exact aC9 true c b 0
end Go.Abs
namespace Go.Abs
open Go
variable {E:FE} {F:Fr} {h:aA} {L:List Pl} {p v:V} {k:Nat}
theorem aV9 (kd most:Int) (hk:kd=1∨kd=2∨kd=3) (s:Sep F h L) :
 cl (Go.Abs.F.gC E) [i64 kd,i64 most] h fun r h'=>Sep F h' (dZ k r (SpM.new kd most)::L):=by
 refine aK (aWa kd most hk) ?_
 rintro r h' ⟨S,fp,q,m,h1,h2,h3⟩
 exact Sep.tG (h1.mono (Nat.zero_le k)) h2 h3 (s.alloc (pN r S) m q)
theorem Sep.aMr {k':Nat} {s:SpM} (z:Sep F h (dZ k v s::L)) (hk:k≤k'):Sep F h (dZ k' v s::L):=by
 obtain⟨S,h1,h2,h3,z1⟩:=z.rH
 exact Sep.tG (h1.mono hk) h2 h3 z1
end Go.Abs
namespace Go.Abs
open Go
variable {E:FE} {F:Fr} {h:aA} {L:List Pl} {p v:V} {k:Nat}
theorem aS5 {E0:FE} (hM:aJ E.I) (hE:E.I (E.k 0)=some (cl (Go.Abs.F.gR E0))) {s:SpM} (o:Oq) (now:Int) (hz:o.key.size≤30∧o.val.size≤120) (hb:120≤BB) (hm:30≤maxLen) (hk:k≤1000) (z:Sep F h (dZ k v s::L)) :
 cl (Go.Abs.F.fE E) [v,o.agg,i64 now] h fun r h'=>r = .tuple #[str (s.act o now).1,i64 (s.act o now).2.1]∧Sep F h' (dZ (k+1) v (s.act o now).2.2::L):=by
 obtain⟨S,h1,h2,h3,z1⟩:=z.rH
 obtain⟨f,q,kk⟩:=z1.head
 have q:SpS h f v S:=q
 refine aK (aQt hM hE q h1 hk o now ⟨by omega,by omega⟩) ?_
 rintro r h' ⟨c,fp',rfl,q',m'⟩
 obtain⟨a1,a2,a3⟩:=aFb h3 h1 o now c
 rw[a1,a2]
 exact⟨rfl,Sep.tG (h1.step o now c ⟨by omega,by omega⟩) (h2.step o now c hz) a3 (kk (pN v _) m' q')⟩
end Go.Abs
set_option linter.unusedSectionVars false
namespace Go.Abs
open Go
variable {κ α:Type} [DecidableEq κ] {t td:List (Et κ α)} {clk:Nat} {l:List (κ×α)}
theorem OkE.count (q:OkE t clk l) (hp:t.Perm td) (P:κ×α→Bool):(td.filter fun e=>P (e.k,e.x)).length=(l.filter P).length:=by
 rw[←(hp.filter _).length_eq,←(q.perm.filter P).length_eq,cJ,List.filter_map,List.length_map]
 rfl
theorem OkE.sum (q:OkE t clk l) (hp:t.Perm td) (f:κ×α→Nat):(td.map fun e=>f (e.k,e.x)).sum=(l.map f).sum:=by
 rw[←(hp.map _).sum_nat,←(q.perm.map f).sum_nat,cJ,List.map_map]
 rfl
end Go.Abs
namespace Go.Abs
open Go
variable {F:Fr} {h:aA} {L:List Pl} {k:Nat}
theorem Sep.aVo {mv:Nat} {view:List (ByteArray×Option SpM)} (s:Sep F h (aL aU (vwV k) mv view::L)) (name:ByteArray) :
 ∃w,bW (some (.string,(some (.pointer none)))) (.map (some mv)) (str name) true h=some (.tuple #[w,.bool (lkp name view).isSome]) ∧
  ∀x,lkp name view=some x→∀c,aC (.ptr true) .neq c w nil h=some (.bool x.isSome):=by
 cases hk:Go.Abs.lkp name view with
 | none=>
  have h1:=s.sP (z:=nil) hk true
  exact⟨nil,h1,fun x hx=>by cases hx⟩
 | some x=>
  obtain⟨w,h1,s1⟩:=s.pH (z:=nil) hk true
  exact⟨w,h1,fun y hy c=>by
   cases hy
   exact Sep.aHe (k:=k) (n:=name) s1 c⟩
end Go.Abs

/- Specs on abstract heaps, part 27: numbers that are read. -/
import Derived.Test.YthhegdifbnghpaaGreatDoorQay
import Derived.Test.YthhegdifbnghpaaGreatDoorQaw
import Derived.Test.YthhegdifbnghpaaGreatDoorQau
set_option linter.unusedSimpArgs false
set_option linter.unusedVariables false
namespace Go.Abs
open Go Go.Proofs
variable {E:FE} {h:aA}
def tH:List UInt8:=[48,49,50,51,52,53,54,55,56,57]
def hF (c:UInt8):Bool:=decide (48≤c.toNat)&&decide (c.toNat≤57)
theorem aS3 (c:UInt8):tH.contains c=hF c:=by
 have:∀n:Fin 256,tH.contains (UInt8.ofNat n.val)=hF (UInt8.ofNat n.val):=by decide +kernel
 have hc:c.toNat<256:=c.toNat_lt
 have h:=this ⟨c.toNat,hc⟩
 have e:UInt8.ofNat c.toNat=c:=UInt8.ofNat_toNat
 rw[e]at h
 exact h
def wE (acc:Nat):List UInt8→Nat
 | []=>acc
 | c::l=>wE (acc*10+(c.toNat - 48)) l
theorem aM5 (c:UInt8) (l:List UInt8) (acc k:Nat) (hd:(c::l).all hF=true) (h:acc<10 ^ k):acc*10+(c.toNat - 48)<10 ^ (k+1):=by
 simp only[List.all_cons,Bool.and_eq_true]at hd
 have h1:=hd.1
 simp only[hF,Bool.and_eq_true,decide_eq_true_eq]at h1
 rw[Nat.pow_succ]
 omega
theorem aWj (l:List UInt8):∀(acc k:Nat),l.all hF=true→acc<10 ^ k→wE acc l<10 ^ (k+l.length):=by
 induction l with
 | nil=>
  intro acc k _ h
  exact h
 | cons c l ih=>
  intro acc k hd h
  have h2:=aM5 c l acc k hd h
  simp only[List.all_cons,Bool.and_eq_true]at hd
  have:=ih _ (k+1) hd.2 h2
  have e:k+(l.length+1)=k+1+l.length:=by omega
  rw[List.length_cons,e]
  exact this
theorem aNt {k:Nat} (h:k≤13):10 ^ k≤10 ^ 13:=Nat.pow_le_pow_right (by decide) h
theorem aY4:(10:Nat) ^ 13=10000000000000:=by decide
theorem aW5 (c:UInt8) (l:List UInt8) (M acc:Nat) (hc:hF c=true) (h1:acc*10+(c.toNat - 48)<10000000000000) (hM:10000000000000≤M):Lib.parseUintM M acc (c::l)=Lib.parseUintM M (acc*10+(c.toNat - 48)) l:=by
 simp only[hF,Bool.and_eq_true,decide_eq_true_eq]at hc
 rw[Lib.parseUintM,if_pos hc,if_neg (by omega),if_neg (by omega)]
theorem aW4 (M:Nat) (hM:10000000000000≤M) (l:List UInt8):∀(acc k:Nat),l.all hF=true→acc<10 ^ k→k+l.length≤13→Lib.parseUintM M acc l = .ok (wE acc l):=by
 induction l with
 | nil=>
  intro acc k _ _ _
  rfl
 | cons c l ih=>
  intro acc k hd h hk
  have h2:=aM5 c l acc k hd h
  have hk':k+1+l.length≤13:=by rw[List.length_cons]at hk;omega
  have h3:=aNt (k:=k+1) (by omega)
  rw[aY4]at h3
  simp only[List.all_cons,Bool.and_eq_true]at hd
  rw[aW5 c l M acc hd.1 (Nat.lt_of_lt_of_le h2 h3) hM]
  exact ih _ (k+1) hd.2 h2 hk'
theorem aW3 {c:UInt8} {l:List UInt8} (hd:(c::l).all hF=true) (hl:(c::l).length≤12):Lib.parseIntB 64 (c::l) = .ok (wE 0 (c::l):Nat):=by
 have h1:=hd
 simp only[List.all_cons,Bool.and_eq_true]at h1
 have h1:=h1.1
 simp only[hF,Bool.and_eq_true,decide_eq_true_eq]at h1
 have h2:=aW4 (2 ^ 64 - 1) (by decide) (c::l) 0 0 hd (by decide) (by omega)
 have h3:=aWj (c::l) 0 0 hd (by decide)
 have h4:10 ^ (0+(c::l).length)≤10 ^ 13:=aNt (by omega)
 have h5:(10:Nat) ^ 13=10000000000000:=by decide
 have n1:¬(c.toNat=43∨c.toNat=45):=by omega
 have n2:¬c.toNat=45:=by omega
 have e1:Lib.parseUintB 64 (c::l) = .ok (wE 0 (c::l)):=by
  unfold Lib.parseUintB
  rw[if_neg (by simp)]
  exact h2
 have h6:(2:Nat) ^ (64 - 1)=9223372036854775808:=by decide
 unfold Lib.parseIntB
 simp only[]
 rw[if_neg n1,e1]
 simp only[n2,not_false_eq_true,true_and,false_and,if_false]
 rw[if_neg (by omega)]
theorem dropWhile_nil {p:UInt8→Bool}:∀{l:List UInt8},l.dropWhile p=[]↔l.all p=true
 | []=>by simp
 | c::l=>by
  simp only[List.dropWhile_cons,List.all_cons]
  cases hc:p c
  ·simp
  ·simp[dropWhile_nil]
theorem aJ3 {p:UInt8→Bool}:∀{l:List UInt8},(l.dropWhile p).all p=true→l.dropWhile p=[]
 | [],_=>rfl
 | c::l,h=>by
  simp only[List.dropWhile_cons]at h ⊢
  cases hc:p c
  ·rw[hc]at h
   simp[hc]at h
  ·rw[hc]at h
   simp only[if_true]at h ⊢
   exact aJ3 h
theorem aZc (l:List UInt8):Lib.trimS l tH=[]↔l.all hF=true:=by
 have e:(fun c=>tH.contains c)=hF:=funext aS3
 unfold Lib.trimS Lib.trimLeftS Lib.trimRightS
 rw[e,dropWhile_nil,List.all_reverse]
 constructor
 ·intro h
  have h2:=dropWhile_nil.1 (aJ3 h)
  rwa [List.all_reverse]at h2
 ·intro h
  have:l.reverse.dropWhile hF=[]:=dropWhile_nil.2 (by rw[List.all_reverse];exact h)
  rw[this]
  rfl
def iY (s:ByteArray):Bool:=!s.data.toList.isEmpty&&decide (s.data.toList.length≤12)&&s.data.toList.all hF&&!(s.data.toList.head?==some 48&&decide (s.data.toList.length > 1))
def iD (s:ByteArray):Nat:=if iY s then wE 0 s.data.toList else 0
theorem gF (s:ByteArray) (hs:s.size≤9223372036854775807):cl (Go.Abs.F.gF E) [str s] h fun r h'=>h'=h∧r = .tuple #[i64 (iD s),.bool (iY s)]:=by
 refine aN ?_
 obtain⟨⟨l⟩⟩:=s
 have esz:(⟨⟨l⟩⟩:ByteArray).size=l.length:=rfl
 have ln:∀(x:ByteArray) (h:aA),bH .str (str x) h=some (i64 (x.size:Nat)):=fun _ _=>rfl
 simp only[Go.Abs.F.gF,zH,aB]
 cases l with
 | nil=>
  have e1:iY ⟨⟨[]⟩⟩=false:=rfl
  simp only[iD,e1,show decide ((⟨⟨[]⟩⟩:ByteArray)=⟨#[]⟩)=true from rfl,aQ,if_true,Bool.true_eq_false,Bool.false_eq_true,if_false,aB,dO,aR,aG]
  refine cZ (by decide) ?_
  simp only[aQ,Bool.true_eq_false,Bool.false_eq_true,if_false,aB,aR,if_true,dO,aG]
  exact ifV.yes rfl ⟨trivial,rfl⟩
 | cons c l=>
  have e0:decide ((⟨⟨c::l⟩⟩:ByteArray)=⟨#[]⟩)=false:=by
   simp
  have hlen:(⟨⟨c::l⟩⟩:ByteArray).size=l.length+1:=rfl
  simp only[e0,aQ,if_true,aB,ln,hlen,iK,aR,Bool.false_eq_true,if_false]
  by_cases h12:l.length+1≤12
  ·have hx:¬(((l.length+1:Nat):Int) > 12):=by omega
   simp only[hx,decide_false,aQ,if_true,aB]
   refine cT rfl (aN ⟨by simpa using (by omega:l.length+1≤1000000),by decide,by decide,?_⟩)
   change kv (gdV (.bool false) false (aC .bad .neq true (str ⟨(Lib.trimS (c::l) tH).toArray⟩) (str ⟨#[]⟩) h)) _
   have et:decide ((⟨(Lib.trimS (c::l) tH).toArray⟩:ByteArray)=⟨#[]⟩)=(c::l).all hF:=by
    rw[Bool.eq_iff_iff,decide_eq_true_eq,←aZc]
    constructor
    ·intro h
     have h2:(Lib.trimS (c::l) tH).toArray = #[]:=congrArg ByteArray.data h
     simpa using h2
    ·intro h
     rw[h]
   have ix:iQ .str (str ⟨⟨c::l⟩⟩) (.int .i64 0)=some (.int .u8 c.toNat):=rfl
   simp only[aQ,if_true,zI,et,aB,aR]
   have enum:iY ⟨⟨c::l⟩⟩=((c::l).all hF&&!(c==48&&decide (l.length+1 > 1))):=by
    simp[iY,h12]
   cases hd:(c::l).all hF
   ·have e1:iY ⟨⟨c::l⟩⟩=false:=by rw[enum,hd];rfl
    simp only[iD,e1,hd,Bool.not_false,aQ,dO,Bool.true_eq_false,Bool.false_eq_true,if_false,if_true,aB,aR,aG]
    exact⟨trivial,rfl⟩
   ·simp only[hd,Bool.not_true,aQ,dO,Bool.true_eq_false,Bool.false_eq_true,if_false,if_true,aB,aR,ix,dD]
    have inn:aC .iface .eql true .nilIface .nilIface h=some (.bool true):=rfl
    have hp:=aW3 hd (by simpa using h12)
    have yes:iY ⟨⟨c::l⟩⟩=true→cl (Go.Abs.F.wP E) [str ⟨⟨c::l⟩⟩,.int .i64 10,.int .i64 64] h fun v30 h1=>kv (bJ v30 0) fun v31=>kv (bJ v30 1) fun v32=>kv (aC .iface .eql true v32 .nilIface h1) fun v35=>
     h1=h∧Value.tuple #[v31,v35]=Value.tuple #[i64 (iD ⟨⟨c::l⟩⟩),.bool (iY ⟨⟨c::l⟩⟩)]:=by
     intro e1
     refine aN ⟨_,by simpa using (by omega:l.length+1≤1000000),hp,?_⟩
     simp only[bU,List.getElem?_toArray,List.getElem?_cons_zero,List.getElem?_cons_succ,aB,inn,iD,e1,if_true]
     exact⟨trivial,trivial⟩
    have hc48:(((c.toNat:Int)==48):Bool)=(c==48):=by
     rw[Bool.eq_iff_iff,beq_iff_eq,beq_iff_eq]
     constructor
     ·intro h;apply UInt8.toNat_inj.1;have:(48:UInt8).toNat=48:=rfl;omega
     ·intro h;rw[h];rfl
    rw[hc48]
    cases hc:(c==48)
    ·simp only[Bool.false_eq_true,if_false,aB,aG]
     exact yes (by rw[enum,hd,hc];rfl)
    ·simp only[if_true,aB,ln,hlen,iK,aG]
     by_cases h1:l.length+1 > 1
     ·have h1':((l.length+1:Nat):Int) > 1:=by omega
      have e1:iY ⟨⟨c::l⟩⟩=false:=by rw[enum,hd,hc];simp;omega
      simp only[h1',decide_true,if_true,iD,e1,Bool.false_eq_true,if_false]
      exact⟨trivial,rfl⟩
     ·have h1':¬((l.length+1:Nat):Int) > 1:=by omega
      simp only[h1',decide_false,Bool.false_eq_true,if_false]
      exact yes (by rw[enum,hd,hc];simpa using h1)
  ·have hx:((l.length+1:Nat):Int) > 12:=by omega
   have e1:iY ⟨⟨c::l⟩⟩=false:=by
    simp[iY];omega
   simp only[hx,decide_true,iD,e1]
   refine cZ (by decide) ?_
   simp only[aQ,Bool.true_eq_false,Bool.false_eq_true,if_false,aB,aR,if_true,dO,aG]
   exact⟨trivial,rfl⟩
end Go.Abs
namespace Go.Abs
open Go
variable {E E0:FE} {h:aA} {X:Fr} {L:List Pl} {p pw:V} {most next:Int} {items lost:List Msg}
structure WQ (most next:Int) (items lost:List Msg) (k:Nat):Prop where
 m1:1≤most∧most≤9
 n1:1≤next∧next≤k+1
 len:items.length+lost.length≤64
 its:∀m∈items,1≤m.id∧0≤m.count∧m.count≤9
theorem aN8 (most now ticks:Int):∀l:List Msg,(cL most now ticks l).1.length+(cL most now ticks l).2.1.length=l.length
 | []=>rfl
 | m::l=>by
  have ih:=aN8 most now ticks l
  simp only[cL]
  split
  ·simp;omega
  ·split
   ·simp;omega
   ·simp
theorem WQ.mono {k k':Nat} (w:WQ most next items lost k) (h:k≤k'):WQ most next items lost k':=⟨w.m1,by have:=w.n1;omega,w.len,w.its⟩
end Go.Abs

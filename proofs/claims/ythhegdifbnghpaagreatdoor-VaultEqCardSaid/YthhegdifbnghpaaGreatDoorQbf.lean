/- A vault's count: the operations of a part that make a space. -/
import Derived.Test.YthhegdifbnghpaaGreatDoorQbe
set_option linter.unusedSimpArgs false
set_option linter.unusedVariables false
namespace Go.Abs
open Go
theorem aVt (l:List Oq) (o:Oq):iB (l++[o])=iB l+if o.fn=1 then 1 else 0:=by
 unfold iB
 rw[List.filter_append,List.length_append]
 by_cases h:o.fn=1<;>simp[h]
theorem aVu (l:List Oq) (i:Nat) (hx:i<l.length):iB (l.take (i+1))=iB (l.take i)+if (l[i]).fn=1 then 1 else 0:=by
 rw[List.take_add_one,List.getElem?_eq_getElem hx]
 exact aVt _ _
theorem aMc (l:List Oq):iB l≤l.length:=List.length_filter_le _ _
end Go.Abs
namespace Go.Abs
open Go
variable {F:Fr} {h:aA} {L:List Pl}
theorem aVv {a:V} {ops:List Oq} (n0:Nat) (s:Sep F h (cV a ops::L)) (hsz:ops.length≤1000) (h0:n0≤1000000) {K:V→aA→Prop}
 (hK:∀h',Sep F h' (cV a ops::L)→K (i64 ((n0+iB ops:Nat):Int)) h') :
 kv (bH .slice a h) fun v52=>
∃(Inv53:Nat→List V→aA→Prop) (n53:Nat),Inv53 n53 [i64 n0,(.int .i64 0)] h∧∀(n53:Nat) (e53:Nat→V) (h:aA),Inv53 n53 [(e53 5),(e53 78)] h →
kv (aC .bad .lss false (e53 78) v52 h) fun v54=>
ifV v54 (
kv (aV (.slice 5) a (e53 78)) fun v55=>
kv (ldD (.agg 5) v55 h) fun v56=>
kP (aY none (.agg #[(.int .i64 0),(.string ⟨#[]⟩),(.string ⟨#[]⟩),(.string ⟨#[]⟩),(.int .i64 0)]) h) fun v57 h=>
kH (stD (some 5) v57 v56 h) fun _ h=>
kv (aF (some 0) v57) fun v58=>
kv (ldD .one v58 h) fun v59=>
kv (aC .bad .eql true v59 (.int .i64 1) h) fun v60=>
ifV v60 (
kv (aC .bad .add true (e53 5) (.int .i64 1) h) fun v61=>
kv (aC .bad .add true (e53 78) (.int .i64 1) h) fun v62=>
∃m,m<n53∧Inv53 m [v61,v62] h) (
kv (aC .bad .add true (e53 78) (.int .i64 1) h) fun v63=>
∃m,m<n53∧Inv53 m [(e53 5),v63] h)) (
K (e53 5) h):=by
 obtain⟨f0,q0,_⟩:=s.head
 have q0:SlE dOp h f0 a ops:=q0
 rw[q0.len,aB]
 refine⟨fun n vs h'=>∃i:Nat,vs=[i64 ((n0+iB (ops.take i):Nat):Int),i64 i]∧n=ops.length - i∧i≤ops.length∧Sep F h' (cV a ops::L),ops.length,⟨0,by simp[iB],by omega,by omega,s⟩,?_⟩
 rintro n e h1 ⟨i,he,rfl,hi,s1⟩
 simp only[List.cons.injEq,and_true]at he
 obtain⟨e5,e78⟩:=he
 simp only[e5,e78,cN,aB,aG,decide_eq_true_eq]
 rcases Nat.lt_or_ge i ops.length with hx | hx
 case inr=>
  rw[if_neg (show ¬((i:Nat):Int)<(ops.length:Nat) by omega)]
  have hil:i=ops.length:=by omega
  subst hil
  rw[List.take_length]
  exact hK _ s1
 rw[if_pos (show ((i:Nat):Int)<(ops.length:Nat) by omega)]
 obtain⟨f1,q1,_⟩:=s1.head
 have q1:SlE dOp h1 f1 a ops:=q1
 obtain⟨c,i1,i2⟩:=q1.ld (List.getElem?_eq_getElem hx)
 have i1:aV (.slice 5) _ _=_:=i1
 have i2:ldD (.agg 5) _ _=some (ops[i]).agg:=i2
 have hm:=aVu ops i hx
 have hle:=aMc (ops.take i)
 rw[List.length_take]at hle
 generalize ops[i]=o at i2 hm
 simp only[i1,aB,i2,aCj,aZ]
 have s2:=s1.box ((⟨0,⟨#[]⟩,⟨#[]⟩,⟨#[]⟩,0⟩:Oq).cells) 5
 rw[st5 s2.get,bV]
 have s3:=s2.write (cs':=o.cells)
 generalize aA.put _ _ _=h3 at s3 ⊢
 have r0:h3.rd h1.next 0=some (i64 o.fn):=by rw[aH s3.get 0];rfl
 simp only[bE,aB,aS,Nat.zero_add,r0,dD,aG,beq_iff_eq,decide_eq_true_eq]
 by_cases h1f:o.fn=1
 ·rw[if_pos h1f]at hm ⊢
  rw[cY _ 1 (by omega) (by omega),aB,cY _ 1 (by omega) (by omega),aB]
  exact⟨ops.length - (i+1),by omega,i+1,by rw[hm];simp;omega,rfl,by omega,s3.drop⟩
 ·rw[if_neg h1f]at hm ⊢
  rw[cY _ 1 (by omega) (by omega),aB]
  exact⟨ops.length - (i+1),by omega,i+1,by rw[hm];simp,rfl,by omega,s3.drop⟩
end Go.Abs
namespace Go.Abs
open Go
variable {E:FE} {F:Fr} {h:aA} {L:List Pl} {p v:V} {k:Nat}
theorem aNn {κ α:Type} {A:κ→V→α→Pl} {t:List (Et κ α)} {e:Et κ α} (he:e∈t):∃T,(t.map (Et.p A)).Perm (A e.k e.v e.x::T):=by
 obtain⟨t1,t2,rfl⟩:=List.append_of_mem he
 refine⟨t1.map (Et.p A)++t2.map (Et.p A),?_⟩
 rw[List.map_append,List.map_cons]
 exact List.perm_middle
theorem Sep.aVn {ms:Nat} {sp:List (ByteArray×SpM)} (s:Sep F h (aL aU (spV k) ms sp::L)) (name:ByteArray) :
 ∃w,bW (some (.string,(some (.pointer none)))) (.map (some ms)) (str name) false h=some w∧∀c,aC (.ptr true) .eql c w nil h=some (.bool (lkp name sp).isNone):=by
 cases hk:Go.Abs.lkp name sp with
 | none=>
  have h1:=s.sP (z:=nil) hk false
  exact⟨nil,h1,fun c=>tX true c⟩
 | some x=>
  obtain⟨w,h1,s1⟩:=s.pH (z:=nil) hk false
  refine⟨w,h1,fun c=>?_⟩
  obtain⟨S,_,_,_,s2⟩:=Sep.rH (k:=k) (s:=x) s1
  obtain⟨f,q,_⟩:=s2.head
  have q:SpS h f w S:=q
  obtain⟨pt,q⟩:=q
  obtain⟨b,g,rfl,_⟩:=q
  exact dA true c b 0
theorem aO9 {α:Type} (f:α→Nat):∀(l:List α),(∀e∈l,f e≤8)→(l.map f).sum≤8*l.length
 | [],_=>by simp
 | a::l,h=>by
  have h1:=aO9 f l fun e he=>h e (by simp[he])
  have h2:=h a (by simp)
  simp only[List.map_cons,List.sum_cons,List.length_cons]
  omega
theorem aSs {pv ms mp:Nat} {a c:V} {pt:List (IdM×cF)} (n0:Nat) (s:Sep F h (aL bM (ptV k) mp pt::aP pv [.map (some ms),a,.map (some mp),c] 4::L)) (hn0:n0≤500000)
 (hp:∀e∈pt,e.2.ops.length≤8) (hl:pt.length≤1000) {K:V→aA→Prop}
 (hK:∀h',Sep F h' (aL bM (ptV k) mp pt::aP pv [.map (some ms),a,.map (some mp),c] 4::L)→K (i64 ((n0+(pt.map fun e=>iB e.2.ops).sum:Nat):Int)) h') :
 kv (h.rd pv 2) fun v42=>
kP (gS .map v42 h) fun v43 h=>
∃(Inv44:Nat→List V→aA→Prop) (n44:Nat),Inv44 n44 [i64 n0] h∧∀(n44:Nat) (e44:Nat→V) (h:aA),Inv44 n44 [(e44 5)] h →
dS v43 false h fun v45 h=>
kv (bJ v45 0) fun v46=>
ifV v46 (
kV (gV v43 h) h fun v47 h=>
kv (bJ v47 1) fun v48=>
kv (aM v48) fun v49=>
kv (aF (some 0) v49) fun v50=>
kv (ldD .one v50 h) fun v51=>
kv (bH .slice v51 h) fun v52=>
∃(Inv53:Nat→List V→aA→Prop) (n53:Nat),Inv53 n53 [(e44 5),(.int .i64 0)] h∧∀(n53:Nat) (e53:Nat→V) (h:aA),Inv53 n53 [(e53 5),(e53 78)] h →
kv (aC .bad .lss false (e53 78) v52 h) fun v54=>
ifV v54 (
kv (aV (.slice 5) v51 (e53 78)) fun v55=>
kv (ldD (.agg 5) v55 h) fun v56=>
kP (aY none (.agg #[(.int .i64 0),(.string ⟨#[]⟩),(.string ⟨#[]⟩),(.string ⟨#[]⟩),(.int .i64 0)]) h) fun v57 h=>
kH (stD (some 5) v57 v56 h) fun _ h=>
kv (aF (some 0) v57) fun v58=>
kv (ldD .one v58 h) fun v59=>
kv (aC .bad .eql true v59 (.int .i64 1) h) fun v60=>
ifV v60 (
kv (aC .bad .add true (e53 5) (.int .i64 1) h) fun v61=>
kv (aC .bad .add true (e53 78) (.int .i64 1) h) fun v62=>
∃m,m<n53∧Inv53 m [v61,v62] h) (
kv (aC .bad .add true (e53 78) (.int .i64 1) h) fun v63=>
∃m,m<n53∧Inv53 m [(e53 5),v63] h)) (
∃m,m<n44∧Inv44 m [(e53 5)] h)) (
K (e44 5) h):=by
 have r2:h.rd pv 2=some (.map (some mp)):=by rw[aH s.up1.get 2];rfl
 rw[r2,aB]
 obtain⟨t,clk,q,s2⟩:=s.fA
 have htl:t.length=pt.length:=by have:=q.perm.length_eq;simpa[cJ]using this
 have hx8:∀e∈t,iB e.x.ops≤8∧e.x.ops.length≤8:=fun e he=>by
  have:=hp (e.k,e.x) (q.perm.mem_iff.1 (List.mem_map.2 ⟨e,he,rfl⟩))
  have h2:=aMc e.x.ops
  exact⟨Nat.le_trans h2 this,this⟩
 refine Sep.range s2 (fun it h2 s3=>?_)
 refine⟨fun n vs h'=>∃td seen,vs=[i64 ((n0+(td.map fun e=>iB e.x.ops).sum:Nat):Int)]∧n=t.length - td.length∧dW t td seen ∧
  Sep F h' (cE it mp clk seen::bO mp (t.map (Et.m bM)) clk::(t.map (Et.p (ptV k))++aP pv [.map (some ms),a,.map (some mp),c] 4::L)),
  t.length,⟨[],#[],by simp,rfl,dW.nil t,s3⟩,?_⟩
 rintro n e0 h3 ⟨td,seen,he0,rfl,hs,s4⟩
 simp only[List.cons.injEq,and_true]at he0
 simp only[he0]
 have hsum:=aO9 (fun e:Et IdM cF=>iB e.x.ops) td fun e he=>(hx8 e (hs.sub e he)).1
 refine Sep.sR s4 q.lt q.bn hs (fun e he hne h5 s5 hs5 hent hlen=>?_) (fun hperm=>?_)
 ·simp only[bU,List.getElem?_toArray,List.getElem?_cons_zero,List.getElem?_cons_succ,aB,aG,if_true]
  rw[hent,mC]
  simp only[bU,List.getElem?_toArray,List.getElem?_cons_zero,List.getElem?_cons_succ,aB]
  obtain⟨T,hT⟩:=aNn (A:=ptV k) he
  have s6:Sep F h5 (cE it mp clk (seen.push e.b)::bO mp (t.map (Et.m bM)) clk::ptV k e.k e.v e.x::(T++aP pv [.map (some ms),a,.map (some mp),c] 4::L)):=s5.perm (((hT.append_right _).cons _).cons _)
  obtain⟨b,ao,co,mo,ev,s7⟩:=Sep.wG (k:=k) (p:=e.v) (x:=e.x) s6.up2
  rw[ev]
  have r0:h5.rd b 0=some ao:=by rw[aH s7.get 0];rfl
  simp only[bK,aB,bE,aS,Nat.zero_add,r0]
  refine aVv (K:=fun v h=>∃m,m<t.length - td.length∧∃td seen,[v]=[i64 ((n0+(td.map fun e=>iB e.x.ops).sum:Nat):Int)]∧m=t.length - td.length∧dW t td seen ∧
   Sep F h (cE it mp clk seen::bO mp (t.map (Et.m bM)) clk::(t.map (Et.p (ptV k))++aP pv [.map (some ms),a,.map (some mp),c] 4::L)))
   (n0+(td.map fun e=>iB e.x.ops).sum) s7.up1 (by have:=(hx8 e he).2;omega) (by omega) fun h6 s8=>?_
  refine⟨t.length - (td.length+1),by omega,td++[e],_,?_,by simp,hs5,?_⟩
  ·simp only[List.map_append,List.map_cons,List.map_nil,List.sum_append,List.sum_cons,List.sum_nil,Nat.add_zero,Nat.add_assoc]
  ·have s9:=(Sep.vD (k:=k) (x:=e.x) s8.up1)
   rw[←ev]at s9
   have s10:Sep F h6 (cE it mp clk (seen.push e.b)::bO mp (t.map (Et.m bM)) clk::ptV k e.k e.v e.x::(T++aP pv [.map (some ms),a,.map (some mp),c] 4::L)):=s9.dn2
   exact s10.perm (((hT.symm.append_right _).cons _).cons _)
 ·simp only[bU,List.getElem?_toArray,List.getElem?_cons_zero,List.getElem?_cons_succ,aB,aG,Bool.false_eq_true,if_false]
  rw[OkE.sum q hperm fun e=>iB e.2.ops]
  exact hK _ (Sep.fJ q s4.drop)
end Go.Abs
namespace Go.Abs
open Go
variable {E:FE} {F:Fr} {h:aA} {L:List Pl} {p v:V} {k:Nat}
theorem aZm {pv pp ms mp mv:Nat} {a c d e f:V} {sp:List (ByteArray×SpM)} {view:List (ByteArray×Option SpM)} {pt:List (IdM×cF)}
 (s:Sep F h (aL aU (spV k) ms sp::aL aU (vwV k) mv view::aL bM (ptV k) mp pt::aP pv [.map (some ms),a,.map (some mp),c] 4::aP pp [d,e,f,.map (some mv)] 4::L))
 (h1:sp.length≤100000) (h2:view.length≤100000) (h3:pt.length≤1000) (h4:∀e∈pt,e.2.ops.length≤8) :
 cl (Go.Abs.F.nX E) [ptr pv 0,ptr pp 0] h fun r h'=>r=i64 ((sF sp pt view:Nat):Int) ∧
  Sep F h' (aL aU (spV k) ms sp::aL aU (vwV k) mv view::aL bM (ptV k) mp pt::aP pv [.map (some ms),a,.map (some mp),c] 4::aP pp [d,e,f,.map (some mv)] 4::L):=by
 refine aN ?_
 have r0:h.rd pv 0=some (.map (some ms)):=by rw[aH s.up3.get 0];rfl
 simp only[Go.Abs.F.nX,bK,aB,bE,aS,Nat.zero_add,r0]
 obtain⟨t,clk,q,s2⟩:=s.fA
 have htl:t.length=sp.length:=by have:=q.perm.length_eq;simpa[cJ]using this
 refine Sep.range s2 (fun it h2 s3=>?_)
 let P1:ByteArray×SpM→Bool:=fun e=>match lkp e.1 view with | none=>true | some x=>x.isSome
 refine⟨fun n vs h'=>∃td seen,vs=[i64 (((td.filter fun e=>P1 (e.k,e.x)).length:Nat):Int)]∧n=t.length - td.length∧dW t td seen ∧
  Sep F h' (cE it ms clk seen::bO ms (t.map (Et.m aU)) clk::(t.map (Et.p (spV k))++aL aU (vwV k) mv view::aL bM (ptV k) mp pt::aP pv [.map (some ms),a,.map (some mp),c] 4::aP pp [d,e,f,.map (some mv)] 4::L)),
  t.length,⟨[],#[],by simp,rfl,dW.nil t,s3⟩,?_⟩
 rintro n e0 h3 ⟨td,seen,he0,rfl,hs,s4⟩
 simp only[List.cons.injEq,and_true]at he0
 simp only[he0]
 have hfl:=List.length_filter_le (fun e:Et ByteArray SpM=>P1 (e.k,e.x)) td
 refine Sep.sR s4 q.lt q.bn hs (fun x hx hne h5 s5 hs5 hent hlen=>?_) (fun hperm=>?_)
 ·simp only[bU,List.getElem?_toArray,List.getElem?_cons_zero,List.getElem?_cons_succ,aB,aG,if_true]
  rw[hent,mC]
  simp only[bU,List.getElem?_toArray,List.getElem?_cons_zero,List.getElem?_cons_succ,aB,bK,bE,aS,Nat.zero_add]
  have r3:h5.rd pp 3=some (.map (some mv)):=by rw[aH s5.drop.drop.sI.up3.get 3];rfl
  rw[r3,aB]
  obtain⟨w,w1,w2⟩:=s5.drop.drop.sI.aVo x.k
  have ek:aU.enc x.k=str x.k:=rfl
  rw[ek,w1,aB]
  simp only[bU,List.getElem?_toArray,List.getElem?_cons_zero,List.getElem?_cons_succ,aB,dE,aQ]
  have hp1:P1 (x.k,x.x)=match lkp x.k view with | none=>true | some x=>x.isSome:=rfl
  have fin:∀b:Bool,P1 (x.k,x.x)=b→(ifV (.bool b) (
   kv (aC .bad .add true (i64 (((td.filter fun e=>P1 (e.k,e.x)).length:Nat):Int)) (.int .i64 1) h5) fun v19=>
   ∃m,m<t.length - td.length∧∃td seen,[v19]=[i64 (((td.filter fun e=>P1 (e.k,e.x)).length:Nat):Int)]∧m=t.length - td.length∧dW t td seen ∧
  Sep F h5 (cE it ms clk seen::bO ms (t.map (Et.m aU)) clk::(t.map (Et.p (spV k))++aL aU (vwV k) mv view::aL bM (ptV k) mp pt::aP pv [.map (some ms),a,.map (some mp),c] 4::aP pp [d,e,f,.map (some mv)] 4::L))) (
   ∃m,m<t.length - td.length∧∃td' seen,[i64 (((td.filter fun e=>P1 (e.k,e.x)).length:Nat):Int)]=[i64 (((td'.filter fun e=>P1 (e.k,e.x)).length:Nat):Int)]∧m=t.length - td'.length∧dW t td' seen ∧
  Sep F h5 (cE it ms clk seen::bO ms (t.map (Et.m aU)) clk::(t.map (Et.p (spV k))++aL aU (vwV k) mv view::aL bM (ptV k) mp pt::aP pv [.map (some ms),a,.map (some mp),c] 4::aP pp [d,e,f,.map (some mv)] 4::L)))):=by
   intro b hb
   cases b with
   | true=>
    simp only[aG,if_true]
    rw[cY _ 1 (by omega) (by omega),aB]
    refine⟨t.length - (td.length+1),by omega,td++[x],_,?_,by simp,hs5,s5⟩
    rw[List.filter_append,List.filter_cons_of_pos (by exact hb),List.filter_nil,List.length_append]
    rfl
   | false=>
    simp only[aG,Bool.false_eq_true,if_false]
    refine⟨t.length - (td.length+1),by omega,td++[x],_,?_,by simp,hs5,s5⟩
    rw[List.filter_append,List.filter_cons_of_neg (by simp[hb]),List.filter_nil,List.append_nil]
  cases hk:Go.Abs.lkp x.k view with
  | none=>
   simp only[Option.isSome_none,Bool.not_false,Bool.true_eq_false,if_false,aB,aQ,aR,if_true]
   exact fin true (by rw[hp1,hk])
  | some y=>
   simp only[Option.isSome_some,Bool.not_true,if_true,aB,w2 y hk true,aR,Bool.false_eq_true,if_false]
   exact fin y.isSome (by rw[hp1,hk])
 simp only[bU,List.getElem?_toArray,List.getElem?_cons_zero,List.getElem?_cons_succ,aB,aG,Bool.false_eq_true,if_false,bK,bE,aS,Nat.zero_add]
 have hc1:(td.filter fun e=>P1 (e.k,e.x)).length=(sp.filter P1).length:=OkE.count q hperm P1
 rw[hc1]at hfl ⊢
 have htd:td.length=t.length:=hperm.length_eq.symm
 have s6:=Sep.fJ q s4.drop
 clear s4 s3 s2 s
 have r3:h3.rd pp 3=some (.map (some mv)):=by rw[aH s6.up4.get 3];rfl
 rw[r3,aB]
 obtain⟨t2,clk2,q2,s7⟩:=s6.up1.fA
 have htl2:t2.length=view.length:=by have:=q2.perm.length_eq;simpa[cJ]using this
 generalize hn1:(sp.filter P1).length=n1 at hfl ⊢
 refine Sep.range s7 (fun it2 h6 s8=>?_)
 let P2:ByteArray×Option SpM→Bool:=fun e=>e.2.isSome&&(lkp e.1 sp).isNone
 refine⟨fun n vs h'=>∃td seen,vs=[i64 ((n1+(td.filter fun e=>P2 (e.k,e.x)).length:Nat):Int)]∧n=t2.length - td.length∧dW t2 td seen ∧
  Sep F h' (cE it2 mv clk2 seen::bO mv (t2.map (Et.m aU)) clk2::(t2.map (Et.p (vwV k))++aL aU (spV k) ms sp::aL bM (ptV k) mp pt::aP pv [.map (some ms),a,.map (some mp),c] 4::aP pp [d,e,f,.map (some mv)] 4::L)),
  t2.length,⟨[],#[],by simp,rfl,dW.nil t2,s8⟩,?_⟩
 rintro n e0 h7 ⟨td2,seen2,he0,rfl,hs2,s9⟩
 simp only[List.cons.injEq,and_true]at he0
 simp only[he0]
 have hfl2:=List.length_filter_le (fun e:Et ByteArray (Option SpM)=>P2 (e.k,e.x)) td2
 refine Sep.sR s9 q2.lt q2.bn hs2 (fun x hx hne h8 s10 hs5 hent hlen=>?_) (fun hperm2=>?_)
 ·simp only[bU,List.getElem?_toArray,List.getElem?_cons_zero,List.getElem?_cons_succ,aB,aG,if_true]
  rw[hent,mC]
  simp only[bU,List.getElem?_toArray,List.getElem?_cons_zero,List.getElem?_cons_succ,aB]
  obtain⟨T,hT⟩:=aNn (A:=vwV k) hx
  have s11:Sep F h8 (vwV k x.k x.v x.x::(T++aL aU (spV k) ms sp::aL bM (ptV k) mp pt::aP pv [.map (some ms),a,.map (some mp),c] 4::aP pp [d,e,f,.map (some mv)] 4::L)):=s10.drop.drop.perm (hT.append_right _)
  rw[Sep.aHe s11 true,aB]
  have fin:∀b:Bool,P2 (x.k,x.x)=b→(ifV (.bool b) (
   kv (aC .bad .add true (i64 ((n1+(td2.filter fun e=>P2 (e.k,e.x)).length:Nat):Int)) (.int .i64 1) h8) fun v19=>
   ∃m,m<t2.length - td2.length∧∃td seen,[v19]=[i64 ((n1+(td.filter fun e=>P2 (e.k,e.x)).length:Nat):Int)]∧m=t2.length - td.length∧dW t2 td seen ∧
  Sep F h8 (cE it2 mv clk2 seen::bO mv (t2.map (Et.m aU)) clk2::(t2.map (Et.p (vwV k))++aL aU (spV k) ms sp::aL bM (ptV k) mp pt::aP pv [.map (some ms),a,.map (some mp),c] 4::aP pp [d,e,f,.map (some mv)] 4::L))) (
   ∃m,m<t2.length - td2.length∧∃td seen,[i64 ((n1+(td2.filter fun e=>P2 (e.k,e.x)).length:Nat):Int)]=[i64 ((n1+(td.filter fun e=>P2 (e.k,e.x)).length:Nat):Int)]∧m=t2.length - td.length∧dW t2 td seen ∧
  Sep F h8 (cE it2 mv clk2 seen::bO mv (t2.map (Et.m aU)) clk2::(t2.map (Et.p (vwV k))++aL aU (spV k) ms sp::aL bM (ptV k) mp pt::aP pv [.map (some ms),a,.map (some mp),c] 4::aP pp [d,e,f,.map (some mv)] 4::L)))):=by
   intro b hb
   cases b with
   | true=>
    simp only[aG,if_true]
    rw[cY _ 1 (by omega) (by omega),aB]
    refine⟨t2.length - (td2.length+1),by omega,td2++[x],_,?_,by simp,hs5,s10⟩
    rw[List.filter_append,List.filter_cons_of_pos (by exact hb),List.filter_nil,List.length_append]
    rfl
   | false=>
    simp only[aG,Bool.false_eq_true,if_false]
    refine⟨t2.length - (td2.length+1),by omega,td2++[x],_,?_,by simp,hs5,s10⟩
    rw[List.filter_append,List.filter_cons_of_neg (by simp[hb]),List.filter_nil,List.append_nil]
  have r5:h8.rd pv 0=some (.map (some ms)):=by rw[aH s11.drop.sI.up2.get 0];rfl
  obtain⟨w,w1,w2⟩:=s11.drop.sI.aVn x.k
  have ek:aU.enc x.k=str x.k:=rfl
  rw[ek]
  cases hxx:x.x with
  | none=>
   simp only[Option.isSome_none,aQ,Bool.false_eq_true,if_false,aB,dO,aR]
   exact fin false (by simp[P2,hxx])
  | some y=>
   simp only[Option.isSome_some,aQ,if_true,aB,bK,bE,aS,Nat.zero_add,r5,w1,w2 true,aR]
   exact fin _ (by simp[P2,hxx])
 simp only[bU,List.getElem?_toArray,List.getElem?_cons_zero,List.getElem?_cons_succ,aB,aG,Bool.false_eq_true,if_false]
 have hc2:(td2.filter fun e=>P2 (e.k,e.x)).length=(view.filter P2).length:=OkE.count q2 hperm2 P2
 rw[hc2]at hfl2 ⊢
 have htd2:td2.length=t2.length:=hperm2.length_eq.symm
 have s12:=Sep.fJ q2 s9.drop
 refine aSs (K:=fun r h'=>r=i64 ((sF sp pt view:Nat):Int) ∧
  Sep F h' (aL aU (spV k) ms sp::aL aU (vwV k) mv view::aL bM (ptV k) mp pt::aP pv [.map (some ms),a,.map (some mp),c] 4::aP pp [d,e,f,.map (some mv)] 4::L)) (n1+(view.filter P2).length) (s12.up3.up3) (by omega) h4 (by assumption) fun h9 s13=>?_
 refine⟨?_,?_⟩
 ·rw[←hn1];rfl
 ·exact (s13.dn3.dn3).up1
end Go.Abs
set_option linter.unusedSectionVars false
namespace Go.Abs
open Go
section
variable {F:Fr} {h:aA} {A B C D X Y Z W:Pl} {L:List Pl}
theorem Sep.up5 (s:Sep F h (A::B::C::D::X::Y::L)):Sep F h (Y::A::B::C::D::X::L):=s.perm (List.perm_middle (l₁:=[A,B,C,D,X]) (l₂:=L) (a:=Y))
theorem Sep.up6 (s:Sep F h (A::B::C::D::X::Y::Z::L)):Sep F h (Z::A::B::C::D::X::Y::L):=s.perm (List.perm_middle (l₁:=[A,B,C,D,X,Y]) (l₂:=L) (a:=Z))
theorem Sep.dn5 (s:Sep F h (Y::A::B::C::D::X::L)):Sep F h (A::B::C::D::X::Y::L):=s.perm (List.perm_middle (l₁:=[A,B,C,D,X]) (l₂:=L) (a:=Y)).symm
end
section
variable {κ α:Type} [DecidableEq κ] {D:KD κ} {A A':κ→V→α→Pl} {F:Fr} {h:aA} {m:Nat} {l:List (κ×α)}
theorem Sep.aMq (hA:∀(F:Fr) (h:aA) (L:List Pl) (k:κ) (v:V) (x:α),Sep F h (A k v x::L)→Sep F h (A' k v x::L)):∀{t:List (Et κ α)} {L:List Pl},Sep F h (t.map (Et.p A)++L)→Sep F h (t.map (Et.p A')++L)
 | [],L,s=>s
 | e::t,L,s=>by
  have s1:Sep F h (A e.k e.v e.x::(t.map (Et.p A)++L)):=s
  have s2:=hA _ _ _ _ _ _ s1
  have s3:Sep F h (t.map (Et.p A)++A' e.k e.v e.x::L):=s2.perm List.perm_middle.symm
  have s4:=Sep.aMq hA s3
  exact s4.perm List.perm_middle
theorem Sep.iW (hA:∀(F:Fr) (h:aA) (L:List Pl) (k:κ) (v:V) (x:α),Sep F h (A k v x::L)→Sep F h (A' k v x::L)) {L:List Pl} (s:Sep F h (aL D A m l::L)):Sep F h (aL D A' m l::L):=by
 obtain⟨t,clk,q,s1⟩:=s.fA
 have s2:=Sep.aMq hA (s1.perm List.perm_middle.symm)
 exact Sep.fJ q (s2.perm List.perm_middle)
theorem vO (k:κ) (v:α):∀l:List (κ×α),(ins k v l).length≤l.length+1
 | []=>by simp[ins]
 | (a,u)::l=>by
  have:=vO k v l
  simp only[ins]
  split<;>simp
  omega
theorem aHr (k:κ):∀l:List (κ×α),(rmv k l).length≤l.length
 | []=>by simp[rmv]
 | (a,u)::l=>by
  have:=aHr k l
  simp only[rmv]
  split<;>simp
  omega
end
variable {F:Fr} {h:aA} {L:List Pl} {k k':Nat}
theorem rE (hk:k≤k'):∀(F:Fr) (h:aA) (L:List Pl) (n:ByteArray) (v:V) (x:SpM),Sep F h (spV k n v x::L)→Sep F h (spV k' n v x::L):=fun _ _ _ _ _ _ s=>Sep.aMr s hk
theorem aCc (hk:k≤k'):∀(F:Fr) (h:aA) (L:List Pl) (n:ByteArray) (v:V) (x:Option SpM),Sep F h (vwV k n v x::L)→Sep F h (vwV k' n v x::L):=fun _ _ _ _ _ x s=>by
 cases x with
 | none=>exact s
 | some y=>exact Sep.aMr s hk
theorem aVz (hk:k≤k') (n0:ByteArray) (v0:V):∀(F:Fr) (h:aA) (L:List Pl) (n:ByteArray) (v:V) (x:Option SpM),Sep F h (dG n0 v0 (vwV k) n v x::L)→Sep F h (dG n0 v0 (vwV k') n v x::L):=fun F h L n v x s=>by
 by_cases e:n=n0
 ·simp only[dG,if_pos e]at s ⊢;exact s
 ·simp only[dG,if_neg e]at s ⊢;exact aCc hk _ _ _ _ _ _ s
theorem aV1 (hk:k≤k') {p:V} {x:cF} (s:Sep F h (oR k p x::L)):Sep F h (oR k' p x::L):=by
 obtain⟨b,a,c,m,rfl,s1⟩:=s.wG
 exact Sep.vD (Sep.iW (aCc hk) s1.up3).dn3
theorem aCb (hk:k≤k'):∀(F:Fr) (h:aA) (L:List Pl) (n:IdM) (v:V) (x:cF),Sep F h (ptV k n v x::L)→Sep F h (ptV k' n v x::L):=fun _ _ _ _ _ _ s=>aV1 hk s
theorem Sep.aJ9 {n:ByteArray} {w:V} {x:Option SpM} (s:Sep F h (vwV k n w x::L)) (c:Bool):aC (.ptr true) .eql c w nil h=some (.bool x.isNone):=by
 cases x with
 | none=>
  obtain⟨e,_⟩:=Sep.pure (φ:=w=nil) s
  subst e
  exact tX true c
 | some y=>
  obtain⟨S,_,_,_,s1⟩:=Sep.rH (k:=k) (s:=y) s
  obtain⟨f,q,_⟩:=s1.head
  have q:SpS h f w S:=q
  obtain⟨pt,q⟩:=q
  obtain⟨b,g,rfl,_⟩:=q
  exact dA true c b 0
theorem aOq (sp:List (ByteArray×SpM)) (n:ByteArray) (view:List (ByteArray×Option SpM)):lkp n (cW sp n view).2=some (cW sp n view).1:=by
 unfold cW
 cases hk:Go.Abs.lkp n view with
 | none=>simp
 | some x=>simpa using hk
theorem aOo (sp:List (ByteArray×SpM)) (n:ByteArray) (view:List (ByteArray×Option SpM)):(cW sp n view).2.length≤view.length+1:=by
 unfold cW
 cases hk:Go.Abs.lkp n view with
 | none=>exact vO _ _ _
 | some x=>simp
def tV (s:ByteArray):Int:=match s.data.toList with | c::_=>(c.toNat:Int) - 48 | []=>1
structure aP4 (o:Oq):Prop where
 fn:1≤o.fn∧o.fn≤12
 sp:1≤o.space.size∧o.space.size≤20
 key:o.key.size≤20
 val:o.val.size≤100
 n:0≤o.n∧o.n≤1099511627776
 make:o.fn=1→(1≤o.n∧o.n≤3)∧(yB o.key=true∨o.key.size=0)
theorem aG7 {o:Oq} (h:lD o=true):aP4 o:=by
 simp only[lD,mH,Bool.and_eq_true,Bool.or_eq_true,decide_eq_true_eq]at h
 obtain⟨⟨⟨⟨⟨⟨⟨⟨⟨⟨⟨⟨a,b⟩,c⟩,d⟩,_⟩,e⟩,f⟩,g⟩,i⟩,_⟩,_⟩,_⟩,j⟩:=h
 refine⟨⟨a,b⟩,⟨c,d⟩,e,f,⟨g,i⟩,fun h1=>?_⟩
 rcases j with j | ⟨⟨j1,j2⟩,j3⟩
 ·exact absurd h1 j
 ·exact⟨⟨j1,j2⟩,j3.imp id fun x=>x.1⟩
end Go.Abs
namespace Go.Abs
open Go
theorem aCl {α:Type} [DecidableEq α]:∀{l m:List α},l.Nodup→(∀x∈l,x∈m)→l.length≤m.length
 | [],m,_,_=>by simp
 | a::l,m,hn,hs=>by
  obtain⟨h1,h2⟩:=List.nodup_cons.1 hn
  have ha:a∈m:=hs a (by simp)
  have hl:l.length≤(m.erase a).length:=aCl h2 fun x hx=>by
   have hne:x≠a:=fun e=>h1 (e▸hx)
   exact (List.mem_erase_of_ne hne).2 (hs x (by simp[hx]))
  rw[List.length_erase_of_mem ha]at hl
  have:=List.length_pos_of_mem ha
  simp only[List.length_cons]
  omega
theorem aRj {id:IdM} {lk:List (bF×IdM)} {ks ks':List bF} (h:∀x,x∈ks↔x∈ks'):blocked id ks lk=blocked id ks' lk:=by
 unfold blocked
 congr 1
 funext e
 congr 1
 rw[Bool.eq_iff_iff,List.any_eq_true,List.any_eq_true]
 exact⟨fun⟨k,a,b⟩=>⟨k,(h k).1 a,b⟩,fun⟨k,a,b⟩=>⟨k,(h k).2 a,b⟩⟩
theorem uM (id:IdM):∀(ks:List bF) (lk:List (bF×IdM)) (k:bF),lkp k (cO id ks lk)=if k∈ks then some id else lkp k lk
 | [],lk,k=>by simp[cO]
 | a::ks,lk,k=>by
  have e:cO id (a::ks) lk=cO id ks (ins a id lk):=rfl
  rw[e,uM id ks,mF]
  by_cases h1:k∈ks
  ·simp[h1]
  ·by_cases h2:a=k
   ·simp[h2]
   ·have h3:¬k=a:=fun e=>h2 e.symm
    simp[h1,h2,h3]
theorem wQ (id:IdM):∀(ks:List bF) {lk:List (bF×IdM)},(bA lk).Nodup→(bA (cO id ks lk)).Nodup
 | [],lk,h=>h
 | a::ks,lk,h=>wQ id ks (qO h)
theorem aH2 (id:IdM):∀(ks:List bF) (lk:List (bF×IdM)),(cO id ks lk).length≤lk.length+ks.length
 | [],lk=>by simp[cO]
 | a::ks,lk=>by
  have h1:=aH2 id ks (ins a id lk)
  have h2:=vO a id lk
  have e:cO id (a::ks) lk=cO id ks (ins a id lk):=rfl
  rw[e,List.length_cons]
  omega
theorem aYz {id:IdM} {ks ks':List bF} {lk:List (bF×IdM)} (hn:(bA lk).Nodup) (h:∀x,x∈ks↔x∈ks'):(cO id ks lk).Perm (cO id ks' lk):=
 aC6 (wQ id ks hn) (wQ id ks' hn) fun k=>by
  rw[uM,uM]
  by_cases h1:k∈ks
  ·rw[if_pos h1,if_pos ((h k).1 h1)]
  ·rw[if_neg h1,if_neg fun h2=>h1 ((h k).2 h2)]
theorem keys_filter {κ α:Type} (P:κ×α→Bool) (l:List (κ×α)):(bA (l.filter P)).Sublist (bA l):=(List.filter_sublist (p:=P) (l:=l)).map _
theorem aKt {id:IdM} {lk:List (bF×IdM)} (h:(bA lk).Nodup):(bA (dY id lk)).Nodup:=h.sublist (keys_filter _ _)
theorem aL3 {κ α:Type} [DecidableEq κ] {P:κ×α→Bool}:∀{l:List (κ×α)},(bA l).Nodup→∀k,lkp k (l.filter P)=match lkp k l with | some v=>if P (k,v) then some v else none | none=>none
 | [],_,k=>rfl
 | (a,u)::l,h,k=>by
  have h':a∉bA l∧(bA l).Nodup:=List.nodup_cons.1 h
  have ih:=aL3 (P:=P) h'.2 k
  by_cases hk:a=k
  ·subst hk
   have hn:lkp a l=none:=lA.2 h'.1
   rw[hn]at ih
   simp only[lkp,if_true]
   by_cases hp:P (a,u)=true
   ·rw[List.filter_cons_of_pos hp,if_pos hp]
    simp only[lkp,if_true]
   ·rw[List.filter_cons_of_neg hp,if_neg hp]
    exact ih
  ·simp only[lkp,if_neg hk]
   rw[←ih]
   by_cases hp:P (a,u)=true
   ·rw[List.filter_cons_of_pos hp]
    simp only[lkp,if_neg hk]
   ·rw[List.filter_cons_of_neg hp]
theorem aL4 {id:IdM} {lk:List (bF×IdM)} (h:(bA lk).Nodup) (k:bF):lkp k (dY id lk)=match lkp k lk with | some i=>if i=id then none else some i | none=>none:=by
 unfold dY
 rw[aL3 h]
 cases lkp k lk with
 | none=>rfl
 | some i=>by_cases e:i=id<;>simp[e]
/-! ### What an operation does to a space's kind -/
theorem aWm (s:SpM) (q:bR):(s.ofQ q).kind=s.kind:=by cases q<;>rfl
theorem aI8 (s:SpM) (o:Oq) (now:Int):(s.act o now).2.2.kind=s.kind:=by
 unfold SpM.act
 repeat (first | rfl | exact aWm _ _ | split)
theorem aQu {s:SpM} {o:Oq} {now:Int} (ho:3≤o.fn∧o.fn≤5) (he:(s.act o now).2.1=0):s.kind=1:=by
 by_cases h1:s.kind=1
 ·exact h1
 ·exfalso
  have e6:¬(6≤o.fn∧o.fn≤9):=by omega
  have e10:¬(10≤o.fn∧o.fn≤12):=by omega
  unfold SpM.act at he
  rw[if_neg h1]at he
  by_cases h2:s.kind=2
  ·rw[if_pos h2,if_neg e6]at he
   cases he
  ·rw[if_neg h2,if_neg e10]at he
   cases he
/-! ### What holds of a vault -/
structure dK (k:Nat) (st:dC):Prop where
 nsp:st.sp.length≤k
 npt:st.pt.length≤k
 nlk:st.lk.length≤k
 dsp:(bA st.sp).Nodup
 dpt:(bA st.pt).Nodup
 dlk:(bA st.lk).Nodup
 may:∀e∈st.pt,kS e.2.ops=true
 own:∀e∈st.lk,∃p,lkp e.2 st.pt=some p∧e.1∈p.ops.map cQ
 has:∀e∈st.pt,∀o∈e.2.ops,lkp (cQ o) st.lk=some e.1
 apart:∀e∈st.lk,∀e'∈st.lk,eY e.1 e'.1=true→e.2=e'.2
 dvw:∀e∈st.pt,(bA e.2.view).Nodup
 val8:∀e∈st.pt,e.2.bQ.length≤8
 vw:∀e∈st.pt,∀x∈e.2.view,∃o∈e.2.ops,o.space=x.1
 tab:∀e∈st.pt,∀x∈e.2.view,(∀o∈e.2.ops,o.space=x.1→3≤o.fn∧o.fn≤5)→∃s t,x.2=some s∧s.kind=1∧lkp x.1 st.sp=some t∧t.kind=1
 zsp:∀n∈bA st.sp,n.size≤20
theorem dK.nil:dK 0 ⟨[],[],[],[]⟩:=⟨by simp,by simp,by simp,by simp[bA],by simp[bA],by simp[bA],by simp,by simp,by simp,by simp,by simp,by simp,by simp,by simp,by simp[bA]⟩
variable {k:Nat} {st:dC} {id:IdM}
theorem dK.mono {k':Nat} (i:dK k st) (h:k≤k'):dK k' st:={ i with nsp:=Nat.le_trans i.nsp h,npt:=Nat.le_trans i.npt h,nlk:=Nat.le_trans i.nlk h }
theorem uX {l:List Oq} (h:kS l=true):1≤l.length∧l.length≤8∧∀o∈l,lD o=true:=by
 simp only[kS,Bool.and_eq_true,decide_eq_true_eq,List.all_eq_true]at h
 exact⟨h.1.1,h.1.2,h.2⟩
theorem dK.aC0 (i:dK k st):∀e∈st.pt,e.2.ops.length≤8:=fun e he=>(uX (i.may e he)).2.1
theorem dK.few (i:dK k st) (id:IdM):(st.lk.filter fun e=>decide (e.2=id)).length≤8:=by
 cases hp:lkp id st.pt with
 | none=>
  have:(st.lk.filter fun e=>decide (e.2=id))=[]:=by
   rw[List.filter_eq_nil_iff]
   intro e he hh
   obtain⟨p,h1,_⟩:=i.own e he
   rw[of_decide_eq_true hh,hp]at h1
   cases h1
  rw[this];simp
 | some p=>
  have h8:=i.aC0 _ (iS hp)
  have hn:(bA (st.lk.filter fun e=>decide (e.2=id))).Nodup:=i.dlk.sublist (keys_filter _ _)
  have:=aCl hn (m:=p.ops.map cQ) fun x hx=>by
   obtain⟨e,he,rfl⟩:=List.mem_map.1 hx
   obtain⟨h1,h2⟩:=List.mem_filter.1 he
   obtain⟨p',h3,h4⟩:=i.own e h1
   rw[of_decide_eq_true h2,hp]at h3
   cases h3
   exact h4
  rw[List.length_map]at this
  have e1:(bA (st.lk.filter fun e=>decide (e.2=id))).length=(st.lk.filter fun e=>decide (e.2=id)).length:=by simp[bA]
  have h8:p.ops.length≤8:=h8
  omega
theorem dK.aTn (i:dK k st) (hp:lkp id st.pt=none) (ks:List bF):((cO id ks st.lk).filter fun e=>decide (e.2=id)).length≤ks.length:=by
 have hn:(bA ((cO id ks st.lk).filter fun e=>decide (e.2=id))).Nodup:=(wQ id ks i.dlk).sublist (keys_filter _ _)
 have:=aCl hn (m:=ks) fun x hx=>by
  obtain⟨e,he,rfl⟩:=List.mem_map.1 hx
  obtain⟨h1,h2⟩:=List.mem_filter.1 he
  have h3:=lC (wQ id ks i.dlk) (show (e.1,e.2)∈cO id ks st.lk from h1)
  rw[uM]at h3
  by_cases hk:e.1∈ks
  ·exact hk
  ·rw[if_neg hk,of_decide_eq_true h2]at h3
   obtain⟨p,h4,_⟩:=i.own _ (iS h3)
   rw[show ((e.1,id):bF×IdM).2=id from rfl,hp]at h4
   cases h4
 have e1:(bA ((cO id ks st.lk).filter fun e=>decide (e.2=id))).length=((cO id ks st.lk).filter fun e=>decide (e.2=id)).length:=by simp[bA]
 omega
end Go.Abs
namespace Go.Abs
open Go
def mR:Pl:=dI True
def pO (is:List Nat) (n:Nat):Bool:=decide is.Nodup&&is.all fun i=>decide (i<n)
section
variable {F:Fr} {h:aA} {L:List Pl}
theorem Sep.re (pre:List Pl) (is:List Nat) (s:Sep F h (pre++L)) (hp:pO is pre.length=true):Sep F h (is.map (fun i=>pre.getD i mR)++L):=by
 simp only[pO,Bool.and_eq_true,decide_eq_true_eq,List.all_eq_true]at hp
 obtain⟨hn,hl⟩:=hp
 let js:=(List.range pre.length).filter fun i=>decide (i∉is)
 have e1:pre=(List.range pre.length).map fun i=>pre.getD i mR:=by
  refine List.ext_getElem (by simp) fun i h1 h2=>?_
  simp[h1]
 have hperm:(List.range pre.length).Perm (js++is):=by
  refine (List.perm_ext_iff_of_nodup List.nodup_range ?_).2 fun x=>?_
  ·rw[List.nodup_append]
   refine⟨List.nodup_range.sublist List.filter_sublist,hn,?_⟩
   intro a ha b hb e
   have:=(List.mem_filter.1 ha).2
   rw[decide_eq_true_eq]at this
   exact this (e▸hb)
  ·rw[List.mem_append,List.mem_filter,List.mem_range]
   constructor
   ·intro hx
    by_cases hi:x∈is
    ·exact .inr hi
    ·exact .inl ⟨hx,by simpa using hi⟩
   ·rintro (hx | hx)
    ·exact hx.1
    ·exact hl x hx
 have s1:Sep F h ((js.map fun i=>pre.getD i mR)++((is.map fun i=>pre.getD i mR)++L)):=by
  refine s.perm ?_
  rw[←List.append_assoc,←List.map_append]
  refine List.Perm.append_right L ?_
  conv=>lhs;rw[e1]
  exact hperm.map _
 exact s1.sI
theorem Sep.re3 {A0 A1 A2:Pl} (s:Sep F h (A0::A1::A2::L)) (is:List Nat) (hp:pO is 3=true):Sep F h (is.map (fun i=>[A0,A1,A2].getD i mR)++L):=Sep.re [A0,A1,A2] is s hp
theorem Sep.re4 {A0 A1 A2 A3:Pl} (s:Sep F h (A0::A1::A2::A3::L)) (is:List Nat) (hp:pO is 4=true):Sep F h (is.map (fun i=>[A0,A1,A2,A3].getD i mR)++L):=Sep.re [A0,A1,A2,A3] is s hp
theorem Sep.re5 {A0 A1 A2 A3 A4:Pl} (s:Sep F h (A0::A1::A2::A3::A4::L)) (is:List Nat) (hp:pO is 5=true):Sep F h (is.map (fun i=>[A0,A1,A2,A3,A4].getD i mR)++L):=Sep.re [A0,A1,A2,A3,A4] is s hp
theorem Sep.re6 {A0 A1 A2 A3 A4 A5:Pl} (s:Sep F h (A0::A1::A2::A3::A4::A5::L)) (is:List Nat) (hp:pO is 6=true):Sep F h (is.map (fun i=>[A0,A1,A2,A3,A4,A5].getD i mR)++L):=Sep.re [A0,A1,A2,A3,A4,A5] is s hp
theorem Sep.re7 {A0 A1 A2 A3 A4 A5 A6:Pl} (s:Sep F h (A0::A1::A2::A3::A4::A5::A6::L)) (is:List Nat) (hp:pO is 7=true):Sep F h (is.map (fun i=>[A0,A1,A2,A3,A4,A5,A6].getD i mR)++L):=Sep.re [A0,A1,A2,A3,A4,A5,A6] is s hp
theorem Sep.re8 {A0 A1 A2 A3 A4 A5 A6 A7:Pl} (s:Sep F h (A0::A1::A2::A3::A4::A5::A6::A7::L)) (is:List Nat) (hp:pO is 8=true):Sep F h (is.map (fun i=>[A0,A1,A2,A3,A4,A5,A6,A7].getD i mR)++L):=Sep.re [A0,A1,A2,A3,A4,A5,A6,A7] is s hp
theorem Sep.oS {A0 A1 A2 A3 A4 A5 A6 A7 A8 A9:Pl} (s:Sep F h (A0::A1::A2::A3::A4::A5::A6::A7::A8::A9::L)) (is:List Nat) (hp:pO is 10=true):Sep F h (is.map (fun i=>[A0,A1,A2,A3,A4,A5,A6,A7,A8,A9].getD i mR)++L):=Sep.re [A0,A1,A2,A3,A4,A5,A6,A7,A8,A9] is s hp
theorem Sep.fS {A0 A1 A2 A3 A4 A5 A6 A7 A8 A9 A10:Pl} (s:Sep F h (A0::A1::A2::A3::A4::A5::A6::A7::A8::A9::A10::L)) (is:List Nat) (hp:pO is 11=true):Sep F h (is.map (fun i=>[A0,A1,A2,A3,A4,A5,A6,A7,A8,A9,A10].getD i mR)++L):=Sep.re [A0,A1,A2,A3,A4,A5,A6,A7,A8,A9,A10] is s hp
theorem Sep.uF {A0 A1 A2 A3 A4 A5 A6 A7 A8 A9 A10 A11:Pl} (s:Sep F h (A0::A1::A2::A3::A4::A5::A6::A7::A8::A9::A10::A11::L)) (is:List Nat) (hp:pO is 12=true):Sep F h (is.map (fun i=>[A0,A1,A2,A3,A4,A5,A6,A7,A8,A9,A10,A11].getD i mR)++L):=Sep.re [A0,A1,A2,A3,A4,A5,A6,A7,A8,A9,A10,A11] is s hp
end
variable {F:Fr} {h:aA} {L:List Pl} {k k':Nat} {p:V} {st:dC}
theorem sQ (hk:k≤k') (s:Sep F h (eL k p st::L)):Sep F h (eL k' p st::L):=by
 obtain⟨b,ms,a,mp,c,rfl,s1⟩:=s.sV
 have s2:=(Sep.iW (rE hk) s1.up1).up1
 have s3:=(Sep.iW (aCb hk) s2.up3).dn3
 exact Sep.kW s3
theorem Sep.aNs {κ α:Type} [DecidableEq κ] {D:KD κ} {A:κ→V→α→Pl} {m:Nat} {l l':List (κ×α)} (hp:l.Perm l') (s:Sep F h (aL D A m l::L)):Sep F h (aL D A m l'::L):=by
 obtain⟨t,clk,q,s1⟩:=s.fA
 exact Sep.fJ ⟨q.perm.trans hp,(keys_perm hp).nodup_iff.1 q.nd,q.bn,q.lt⟩ s1
theorem Sep.aXa {lk lk':List (bF×IdM)} (hp:lk.Perm lk') (s:Sep F h (dR p lk::L)):Sep F h (dR p lk'::L):=by
 obtain⟨b,m,rfl,s1⟩:=s.yY
 exact Sep.vC (Sep.aNs hp s1.up1).up1
theorem Sep.aHd (s:Sep F h L):Sep F h (jX (.slice none 0 0) []::L):=s.alloc (a':=[]) (jX (.slice none 0 0) []) (Mod.refl (by simp)) Sl.nil
structure VlE (E:FE):Prop where
 op:OpE E
 ack:∃E0:FE,E.I (E.k 0)=some (cl (Go.Abs.F.gR E0))
 take:∃E1:FE,E.I (E.k 8)=some (cl (Go.Abs.F.jO E1))
 ord:∃E1:FE,E.I (E.k 9)=some (cl (Go.Abs.F.fN E1))
 nord:∃E1:FE,E.I (E.k 10)=some (cl (Go.Abs.F.gQ E1))
theorem aQ2 {v:V} {fp:List Nat} {l:List ByteArray} (s:Ts h fp v l) (hsz:l.length≤1000000) (x:ByteArray) :
 ∃h1,dN (some (1,[(.string ⟨#[]⟩)])) 1 [(0,str x)] h=some (.slice (some ⟨h.next,0,none⟩) 1 2,h1) ∧
  ∃v' h2 fp',dU (some (1,16,[(.string ⟨#[]⟩)])) v (.slice (some ⟨h.next,0,none⟩) 1 2) h1=some (v',h2)∧Ts h2 fp' v' (l++[x])∧Mod h fp h2 fp':=by
 refine⟨h.new (.cells [str x] 1 .rw),rfl,?_⟩
 have s1:Ts (h.new (.cells [str x] 1 .rw)) fp v l:=s.same (by simp) fun y hy=>by
  have:=s.lt y hy
  have:y≠h.next:=by omega
  simp[this]
 obtain⟨v',h',fl',a1,a2,a3⟩:=Sl.append s1 (x:=.slice (some ⟨h.next,0,none⟩) 1 2) (k:=1) (bytes:=16) (z:=[.string ⟨#[]⟩]) (new:=[str x]) rfl (by decide) (by decide) rfl
  (fun _=>by simp[dT,jB,aA.rdN]) rfl rfl (by omega)
 refine⟨v',h',fl',a1,by simpa[Ts]using a2,(Mod.eZ (h:=h) (fp:=fp) s.lt).trans a3⟩
theorem aW6 {fp:List Nat} {v:V} {l:List Oq} (s:SlE dOp h fp v l) (n:Int) (m:Nat) (h':aA) :
 cA (.struct [(.slice none 0 0),(.slice none 0 0),(.int .i64 0),(.map none)] [(0,1),(1,1),(2,1),(3,1)]) [(0,v),(2,i64 n),(3,.map (some m))]=some (.agg #[v,.slice none 0 0,i64 n,.map (some m)]) ∧
 aY none (.agg #[v,.slice none 0 0,i64 n,.map (some m)]) h'=some (ptr h'.next 0,h'.new (.cells [v,.slice none 0 0,i64 n,.map (some m)] 4 .rw)):=by
 obtain⟨_,⟨rfl,_,_⟩ | ⟨b,c,all,rfl,_⟩⟩:=s
 ·exact⟨rfl,rfl⟩
 ·exact⟨rfl,rfl⟩
end Go.Abs
namespace Go.Abs
open Go
variable {E:FE} {F:Fr} {h:aA} {L:List Pl} {k:Nat}
theorem aZn {E0:FE} (hM:aJ E.I) (hE:E.I (E.k 0)=some (cl (Go.Abs.F.gR E0))) {pv pp ms mv mp:Nat} {a c oa va:V} {now:Int} {sp:List (ByteArray×SpM)} {view:List (ByteArray×Option SpM)} {pt:List (IdM×cF)}
 (o:Oq) (ho:lD o=true) (hk:k≤1000)
 (s:Sep F h (aP pv [.map (some ms),a,.map (some mp),c] 4::aP pp [oa,va,i64 now,.map (some mv)] 4::aL aU (spV k) ms sp::aL aU (vwV k) mv view::aL bM (ptV k) mp pt::L))
 (b1:sp.length≤100000) (b2:view.length≤90000) (b3:pt.length≤1000) (b4:∀e∈pt,e.2.ops.length≤8) :
 cl (Go.Abs.F.nY E) [ptr pv 0,ptr pp 0,o.agg] h fun r h'=>r = .tuple #[str (gY sp pt now view o).1,i64 (gY sp pt now view o).2.1] ∧
  Sep F h' (aP pv [.map (some ms),a,.map (some mp),c] 4::aP pp [oa,va,i64 now,.map (some mv)] 4::aL aU (spV (k+1)) ms sp::aL aU (vwV (k+1)) mv (gY sp pt now view o).2.2::aL bM (ptV (k+1)) mp pt::L):=by
 have mf:=aG7 ho
 refine aN ?_
 simp only[Go.Abs.F.nY,qM,aZ]
 have s1:=s.box o.cells 5
 clear s
 generalize h.new (.cells o.cells 5 .rw)=h1 at s1 ⊢
 generalize h.next=bo at s1 ⊢
 have r1:h1.rd bo 1=some (str o.space):=by rw[aH s1.get 1];rfl
 simp only[bE,aB,aS,Nat.zero_add,r1]
 refine aK (aZp o.space s1.dn4) ?_
 intro r h2 s3
 clear s1 r1
 have hl:=aOq sp o.space view
 have hvl:=aOo sp o.space view
 have hd:gY sp pt now view o=(if o.fn=1 then
  if (cW sp o.space view).1.isSome then (⟨#[]⟩,3,(cW sp o.space view).2)
  else if 16≤sF sp pt (cW sp o.space view).2 then (⟨#[]⟩,6,(cW sp o.space view).2)
  else (⟨#[]⟩,0,ins o.space (some (SpM.new o.n (tV o.key))) (cW sp o.space view).2)
  else match (cW sp o.space view).1 with
   | none=>(⟨#[]⟩,3,(cW sp o.space view).2)
   | some s=>
    if o.fn=2 then (⟨#[]⟩,0,ins o.space none (cW sp o.space view).2)
    else ((s.act o now).1,(s.act o now).2.1,ins o.space (some (s.act o now).2.2) (cW sp o.space view).2)):=rfl
 rw[hd]
 clear hd
 generalize (cW sp o.space view).1=X at s3 hl ⊢
 generalize (cW sp o.space view).2=V' at s3 hl hvl ⊢
 have fin:∀{h':aA} {view':List (ByteArray×Option SpM)},Sep F h' (aL aU (vwV k) mv view'::aP pv [.map (some ms),a,.map (some mp),c] 4::aP pp [oa,va,i64 now,.map (some mv)] 4::aL aU (spV k) ms sp::aP bo o.cells 5::aL bM (ptV k) mp pt::L) →
  Sep F h' (aP pv [.map (some ms),a,.map (some mp),c] 4::aP pp [oa,va,i64 now,.map (some mv)] 4::aL aU (spV (k+1)) ms sp::aL aU (vwV (k+1)) mv view'::aL bM (ptV (k+1)) mp pt::L):=by
  intro h' view' s
  have s1:=(Sep.iW (aCc (Nat.le_succ k)) s).dn3.up4.drop
  have s2:=(Sep.iW (rE (Nat.le_succ k)) s1.up2).dn2
  exact (Sep.iW (aCb (Nat.le_succ k)) s2.up4).dn4
 have g:h2.get bo=some (.cells o.cells 5 .rw):=s3.drop.drop.drop.drop.drop.get
 have r0:h2.rd bo 0=some (i64 o.fn):=by rw[aH g 0];rfl
 have nn:=fun c=>Sep.aHe (k:=k) (n:=o.space) s3.up1 c
 have ne:=fun c=>Sep.aJ9 (k:=k) (n:=o.space) s3.up1 c
 have shut:Sep F h2 (aL aU (vwV k) mv V'::aP pv [.map (some ms),a,.map (some mp),c] 4::aP pp [oa,va,i64 now,.map (some mv)] 4::aL aU (spV k) ms sp::aP bo o.cells 5::aL bM (ptV k) mp pt::L):=by
  have:=Sep.uZ (A:=vwV k) (x':=X) s3.up1 hl
  rwa [vQ hl]at this
 simp only[bE,aB,aS,Nat.zero_add,r0,dD,gK]
 by_cases h1f:o.fn=1
 ·have hb:(o.fn==1)=true:=by simp[h1f]
  have hb':(o.fn != 1)=false:=by simp[h1f]
  simp only[hb,hb',aQ,if_true,aB,nn,aR]
  refine⟨fun vs h'=>vs=[.bool X.isSome]∧h'=h2,?_,?_⟩
  ·cases X<;>simp[aG,aQ,dO,aR]
  rintro e10 h3 ⟨he,rfl⟩
  simp only[List.cons.injEq,and_true]at he
  simp only[he,r0,aB,dD,hb]
  rw[if_pos h1f]
  cases X with
  | some x=>
   simp only[Option.isSome_some,aG,if_true]
   exact⟨trivial,fin shut⟩
  | none=>
   simp only[Option.isSome_none,aG,Bool.false_eq_true,if_false,aQ,if_true,aB]
   have s4:=shut.up3.up5.dn2
   refine cT rfl (aK (aZm s4 b1 (by omega) b3 b4) ?_)
   rintro r4 h4 ⟨rfl,s5⟩
   have s6:Sep F h4 (aL aU (vwV k) mv V'::aP pv [.map (some ms),a,.map (some mp),c] 4::aP pp [oa,va,i64 now,.map (some mv)] 4::aL aU (spV k) ms sp::aP bo o.cells 5::aL bM (ptV k) mp pt::L):=s5.up2.dn5.dn3
   clear s4 s5 shut nn ne s3
   simp only[fH,aB,aR,if_true,aG,decide_eq_true_eq,ge_iff_le]
   by_cases h16:16≤sF sp pt V'
   ·rw[if_pos (show (16:Int)≤((sF sp pt V':Nat):Int) by omega),if_pos h16]
    exact⟨rfl,fin s6⟩
   rw[if_neg (show ¬(16:Int)≤((sF sp pt V':Nat):Int) by omega),if_neg h16]
   have g4:h4.get bo=some (.cells o.cells 5 .rw):=s6.drop.drop.drop.drop.get
   have q0:h4.rd bo 0=some (i64 o.fn):=by rw[aH g4 0];rfl
   have q2:h4.rd bo 2=some (str o.key):=by rw[aH g4 2];rfl
   have q1:h4.rd bo 1=some (str o.space):=by rw[aH g4 1];rfl
   have q4:h4.rd bo 4=some (i64 o.n):=by rw[aH g4 4];rfl
   have q3:h4.rd pp 3=some (.map (some mv)):=by rw[aH s6.drop.drop.get 3];rfl
   simp only[q0,aB,dD,hb,aG,if_true,q2,aEf,Bool.not_eq_true',decide_eq_false_iff_not]
   obtain⟨⟨n1,n2⟩,hkey⟩:=mf.make h1f
   refine⟨fun vs h'=>vs=[i64 (tV o.key)]∧h'=h4,?_,?_⟩
   ·by_cases hz:o.key.size=0
    ·rw[if_neg (by simp[hz])]
     have:tV o.key=1:=by
      have:o.key=⟨#[]⟩:=aFi.2 hz
      rw[this];rfl
     exact⟨by rw[this],rfl⟩
    ·rw[if_pos hz]
     have hdk:yB o.key=true:=hkey.resolve_right hz
     have hs1:o.key.size=1:=by
      by_cases h:o.key.size=1
      ·exact h
      ·rw[aJz h]at hdk;cases hdk
     rw[aJy hs1]at hdk
     simp only[Bool.and_eq_true,decide_eq_true_eq]at hdk
     have hi:=aLa o.key 0 (by omega)
     have hi:iQ .str (str o.key) (.int .i64 0)=some (.int .u8 (o.key.get! 0).toNat):=hi
     have hm:tV o.key=((o.key.get! 0).toNat:Int) - 48:=by
      have h1:=aGj o.key (i:=0) (by omega)
      unfold tV
      cases hl2:o.key.data.toList with
      | nil=>rw[hl2]at h1;simp at h1
      | cons x l2=>rw[hl2]at h1;simp at h1;rw[h1]
     generalize (o.key.get! 0).toNat=z at hi hm hdk
     have hw:IntKind.u8.wrap ((z:Int) - 48)=(z:Int) - 48:=by
      simp[IntKind.wrap,IntKind.signed,IntKind.bits]
      omega
     have hw2:IntKind.i64.wrap ((z:Int) - 48)=(z:Int) - 48:=by
      simp[IntKind.wrap,IntKind.signed,IntKind.bits]
      omega
     rw[hi,aB,xP,hw,aB]
     simp only[eQ,Option.map_some,aB,hw2]
     exact⟨by rw[hm],trivial⟩
   rintro e32 h5 ⟨he,rfl⟩
   simp only[List.cons.injEq,and_true]at he
   simp only[he,bK,aB,bE,aS,Nat.zero_add,q3,q1,q4]
   refine aK (aV9 (k:=k) o.n (tV o.key) (by omega) s6) ?_
   intro r6 h6 s7
   have t3:h6.rd pp 3=some (.map (some mv)):=by rw[aH s7.drop.drop.drop.get 3];rfl
   have t1:h6.rd bo 1=some (str o.space):=by rw[aH s7.drop.drop.drop.drop.drop.get 1];rfl
   refine⟨t3,t1,?_⟩
   obtain⟨h7,e7,s8⟩:=Sep.tP (D:=aU) (A:=vwV k) (k:=o.space) (v:=r6) (x:=some (SpM.new o.n (tV o.key))) (z:=nil) s7.up1
   have e7:cU (some (.string,(some (.pointer none)))) (.map (some mv)) (str o.space) r6 h6=some h7:=e7
   rw[e7,bV]
   exact⟨trivial,fin s8⟩
 ·have hb:(o.fn==1)=false:=by simp[h1f]
  have hb':(o.fn != 1)=true:=by simp[h1f]
  simp only[hb,hb',aQ,Bool.false_eq_true,if_false,aB,dO,aR,if_true,aG,ne]
  refine⟨fun vs h'=>vs=[.bool X.isNone]∧h'=h2,⟨rfl,rfl⟩,?_⟩
  rintro e10 h3 ⟨he,rfl⟩
  simp only[List.cons.injEq,and_true]at he
  simp only[he,r0,aB,dD,hb,aQ,Bool.false_eq_true,if_false]
  rw[if_neg h1f]
  cases X with
  | none=>
   simp only[Option.isNone_none,aG,if_true]
   exact⟨trivial,fin shut⟩
  | some x=>
   simp only[Option.isNone_some,aG,Bool.false_eq_true,if_false]
   refine cZ (by simp) ?_
   simp only[aQ,Bool.false_eq_true,if_false,aB,aR,aG,r0,dD,hb]
   by_cases h2f:o.fn=2
   ·have hb2:(o.fn==2)=true:=by simp[h2f]
    have r1:h3.rd bo 1=some (str o.space):=by rw[aH g 1];rfl
    have r3:h3.rd pp 3=some (.map (some mv)):=by rw[aH shut.drop.drop.get 3];rfl
    simp only[hb2,if_true,bK,aB,bE,aS,Nat.zero_add,r3,r1]
    obtain⟨h7,e7,s8⟩:=Sep.tP (D:=aU) (A:=vwV k) (k:=o.space) (v:=nil) (x:=none) (z:=nil) (Sep.up1 (Sep.mkPure (φ:=(nil:V)=nil) rfl shut))
    have e7:cU (some (.string,(some (.pointer none)))) (.map (some mv)) (str o.space) nil h3=some h7:=e7
    rw[e7,bV,if_pos h2f]
    exact⟨rfl,fin s8⟩
   ·have hb2:(o.fn==2)=false:=by simp[h2f]
    have r2:h3.rd pp 2=some (i64 now):=by rw[aH shut.drop.drop.get 2];rfl
    simp only[hb2,Bool.false_eq_true,if_false,ld5 g,bK,aB,bE,aS,Nat.zero_add,r2]
    have hBB:BB=1152921504606846976:=rfl
    refine aK (aS5 hM hE (s:=x) o now ⟨by have:=mf.key;omega,by have:=mf.val;omega⟩ (by omega) (by simp only[maxLen];omega) hk s3.up1) ?_
    rintro r6 h6 ⟨rfl,s7⟩
    simp only[bU,List.getElem?_toArray,List.getElem?_cons_zero,List.getElem?_cons_succ,aB]
    rw[if_neg h2f]
    refine⟨rfl,?_⟩
    have s8:=(Sep.iW (aVz (Nat.le_succ k) o.space r) s7.up1).up1
    have s9:=Sep.uZ (A:=vwV (k+1)) (k:=o.space) (v:=r) (x:=some x) (x':=some (x.act o now).2.2) s8 hl
    have s10:=s9.dn3.up4.drop
    have s11:=(Sep.iW (rE (Nat.le_succ k)) s10.up2).dn2
    exact (Sep.iW (aCb (Nat.le_succ k)) s11.up4).dn4
end Go.Abs
namespace Go.Abs
open Go
variable {E:FE} {F:Fr} {h:aA} {L:List Pl} {k:Nat} {p:V} {st:dC}
theorem aNp (sp:List (ByteArray×SpM)) (pt:List (IdM×cF)) (now:Int) (o:Oq) (l:List Oq) (view:List (ByteArray×Option SpM)) (bQ:List ByteArray) :
 qQ sp pt now (o::l) view bQ=if (gY sp pt now view o).2.1=0 then qQ sp pt now l (gY sp pt now view o).2.2 (bQ++[(gY sp pt now view o).1]) else none:=rfl
theorem aS6 (sp:List (ByteArray×SpM)) (pt:List (IdM×cF)) (now:Int) (o:Oq) (view:List (ByteArray×Option SpM)):(gY sp pt now view o).2.2.length≤view.length+1:=by
 have hvl:=aOo sp o.space view
 have hl:=aOq sp o.space view
 have hins:∀x,(ins o.space x (cW sp o.space view).2).length≤view.length+1:=fun x=>by
  have:(bA (ins o.space x (cW sp o.space view).2)).length=(bA (cW sp o.space view).2).length:=by
   rw[aBu,if_neg (by rw[hl];simp)]
  simp only[bA,List.length_map]at this
  omega
 unfold gY
 simp only
 split
 ·split
  ·exact hvl
  ·split
   ·exact hvl
   ·exact hins _
 ·split
  ·exact hvl
  ·split
   ·exact hins _
   ·exact hins _
set_option maxHeartbeats 1000000 in
theorem aZl (ve:VlE E) (id:IdM) {ops:List Oq} (now:Int) {a2:V} (hi:dK k st) (hk:k≤900) (hn:ops.length≤1000000) (hz:∀o∈ops,o.space.size≤maxLen)
 (s:Sep F h (eL k p st::cV a2 ops::L)) :
 cl (Go.Abs.F.lS E) [p,id.agg,a2,i64 now] h fun r h'=>∃w,r = .tuple #[w,.bool (fR st id ops now).1.2] ∧
  Sep F h' (jX w (fR st id ops now).1.1::eL (k+8) p (fR st id ops now).2::cV a2 ops::L):=by
 obtain⟨E0,hE0⟩:=ve.ack
 obtain⟨E8,hE8⟩:=ve.take
 obtain⟨E9,hE9⟩:=ve.ord
 have hM:=ve.op.mono
 refine aN ?_
 obtain⟨b,ms,a,mp,c,rfl,s0⟩:=s.sV
 clear s
 simp only[Go.Abs.F.lS,oO,aZ,dA,aB,aQ,if_true,bK,bE,aS,Nat.zero_add]
 have s1:=s0.box (cId id) 2
 clear s0
 generalize h.new (.cells (cId id) 2 .rw)=h1 at s1 ⊢
 generalize h.next=bi at s1 ⊢
 have r3:h1.rd b 3=some c:=by rw[aH s1.drop.get 3];rfl
 rw[r3,aB,ld2 s1.get,aB]
 refine cT rfl (aK (aK6 id s1.up5) ?_)
 rintro r h2 ⟨rfl,s2⟩
 clear s1 r3
 have vlt:∀{h':aA},Sep F h' (eC c st.ov::aP bi (cId id) 2::aP b [.map (some ms),a,.map (some mp),c] 4::aL aU (spV k) ms st.sp::dR a st.lk::aL bM (ptV k) mp st.pt::cV a2 ops::L) →
  Sep F h' (jX (.slice none 0 0) []::eL (k+8) (ptr b 0) st::cV a2 ops::L):=fun s=>
  (sQ (Nat.le_add_right k 8) (Sep.kW (s.re7 [2,3,4,5,0,6] rfl))).aHd
 simp only[aR,Bool.false_eq_true,if_false,aB,aQ]
 by_cases hov:id∈st.ov
 ·have hp:fR st id ops now=(([],false),st):=by unfold fR;rw[if_pos (.inl hov)]
  rw[hp]
  simp only[hov,decide_true,Bool.true_eq_false,if_false,aB]
  refine cZ (by simp) ?_
  simp only[aB,aR,if_true,aG]
  exact⟨_,rfl,vlt s2⟩
 simp only[hov,decide_false,if_true,aB]
 obtain⟨f2,q2,_⟩:=s2.up6.head
 have q2:SlE dOp h2 f2 a2 ops:=q2
 refine cT rfl (aK (jS ve.op q2 hn hz) ?_)
 rintro r h3 ⟨rfl,m3⟩
 have s3:=s2.skip m3
 clear s2 q2
 simp only[dE,aB,aR,Bool.false_eq_true,if_false,aG]
 cases ha:kS ops with
 | false=>
  have hp:fR st id ops now=(([],false),st):=by unfold fR;rw[if_pos (.inr ha)]
  rw[hp]
  simp only[Bool.not_false,if_true]
  exact⟨_,rfl,vlt s3⟩
 | true=>
 simp only[Bool.not_true,Bool.false_eq_true,if_false]
 have hall:=uX ha
 have r2:h3.rd b 2=some (.map (some mp)):=by rw[aH s3.drop.drop.get 2];rfl
 rw[r2,aB,ld2 s3.drop.get,aB]
 cases hk1:Go.Abs.lkp id st.pt with
 | some x=>
  have hp:fR st id ops now=((x.bQ,true),st):=by
   unfold fR
   rw[if_neg (by simp[hov,ha])]
   simp only[hk1]
  rw[hp]
  obtain⟨w,e1,s4⟩:=s3.up5.pH (z:=nil) hk1 false
  have e1:bW (some ((.struct false [(0,.int),(1,.int)]),(some (.pointer none)))) (.map (some mp)) id.agg false h3=some w:=e1
  obtain⟨b2,c1,c2,m2,rfl,s5⟩:=Sep.wG (k:=k) (x:=x) s4
  have q1:h3.rd b2 1=some c2:=by rw[aH s5.get 1];rfl
  rw[e1,aB]
  simp only[aC9,aB,aG,if_true,bK,bE,aS,Nat.zero_add,q1]
  obtain⟨f5,q5,_⟩:=s5.up2.head
  have q5:Ts h3 f5 c2 x.bQ:=q5
  have hv8:=hi.val8 _ (iS hk1)
  refine aK (aFs q5 (Nat.le_trans hv8 (by decide))) ?_
  rintro r6 h6 ⟨fp',q6,m6⟩
  have s6:=s5.alloc (jX r6 x.bQ) m6 q6
  have s7:=Sep.vD (k:=k) (x:=x) (s6.re6 [1,2,3,4,5,0] rfl)
  have s8:=Sep.uZ (A:=ptV k) (x':=x) s7 hk1
  rw[vQ hk1]at s8
  refine⟨_,rfl,?_⟩
  have s9:=Sep.kW (st:=st) (s8.re8 [4,5,6,0,2,1,7] rfl)
  exact (sQ (Nat.le_add_right k 8) s9).up1
 | none=>
 have e1:=s3.up5.sP (z:=nil) hk1 false
 have e1:bW (some ((.struct false [(0,.int),(1,.int)]),(some (.pointer none)))) (.map (some mp)) id.agg false h3=some nil:=e1
 have r1:h3.rd b 1=some a:=by rw[aH s3.drop.drop.get 1];rfl
 rw[e1,aB]
 simp only[aM3,aB,aG,Bool.false_eq_true,if_false,r1,ld2 s3.drop.get]
 obtain⟨f3,q3,_⟩:=s3.up6.head
 have q3:SlE dOp h3 f3 a2 ops:=q3
 refine aK (jQ hM hE9 q3 (by omega)) ?_
 rintro ksv h4 ⟨ks,fq,hks,hkl,q4,m4⟩
 have s4:=s3.alloc (fQ ksv ks) m4 q4
 clear s3 q3 e1 r1 r2
 have hks:∀x,x∈ks↔x∈ops.map cQ:=fun x=>by
  rw[hks x,List.map_congr_left fun o _=>aVk o]
 refine⟨by rw[aH s4.drop.drop.drop.get 1];rfl,ld2 s4.drop.drop.get,?_⟩
 refine aK (aVl hM hE8 id (s4.re8 [5,0,1,2,3,4,6,7] rfl) (by omega)) ?_
 rintro r h5 ⟨rfl,s5⟩
 clear s4
 rw[aRj hks]at s5 ⊢
 simp only[dE,aB,aG]
 cases hbl:blocked id (ops.map cQ) st.lk with
 | true=>
  have hp:fR st id ops now=(([],false),st):=by
   unfold fR
   rw[if_neg (by simp[hov,ha])]
   simp only[hk1,hbl,if_true]
  rw[hp]
  rw[hbl,if_pos rfl]at s5
  simp only[Bool.not_true,Bool.not_false,if_true]
  exact⟨_,rfl,vlt (s5.re8 [2,3,4,5,0,6,7] rfl)⟩
 | false=>
 rw[hbl,if_neg (by simp)]at s5
 have s5:=Sep.aXa (aYz hi.dlk hks) s5
 generalize hlk1:cO id (ops.map cQ) st.lk=lk1 at s5
 simp only[Bool.not_false,Bool.not_true,Bool.false_eq_true,if_false]
 obtain⟨f5,q5,_⟩:=Sep.head (s5.re8 [7] rfl)
 have q5:SlE dOp h5 f5 a2 ops:=q5
 refine aK (aR7 q5 (by omega)) ?_
 rintro oa h6 ⟨f6,q6,m6⟩
 have s6:=s5.alloc (cV oa ops) m6 q6
 clear s5 q5
 have em:∀h:aA,fO true none h=some (.map (some h.next),h.new (.map [] 0)):=fun _=>rfl
 rw[em,aZ]
 have s7:=s6.wD (D:=aU) (A:=vwV k)
 generalize h6.next=mv at s7 ⊢
 obtain⟨pb1,pb2⟩:=aW6 q6 now mv (h6.new (.map [] 0))
 generalize h6.new (.map [] 0)=h7 at s7 pb2 ⊢
 rw[pb1,aB,pb2,aZ]
 have s8:=(s7.box [oa,.slice none 0 0,i64 now,.map (some mv)] 4).aHd
 clear s6 s7 pb1 pb2 q6 m6
 generalize h7.next=bp at s8 ⊢
 generalize h7.new _=h8 at s8 ⊢
 have s9:=s8.uF [8,1,9,2,10,0,3,4,6,7,11] rfl
 clear s8
 have plen:∀{h:aA} {i:Nat} {va:V} {bQ:List ByteArray} {view:List (ByteArray×Option SpM)},Sep F h (aP b [.map (some ms),a,.map (some mp),c] 4::aP bp [oa,va,i64 now,.map (some mv)] 4::aL aU (spV (k+i)) ms st.sp::aL aU (vwV (k+i)) mv view::aL bM (ptV (k+i)) mp st.pt ::
  jX va bQ::cV oa ops::dR a lk1::eC c st.ov::aP bi (cId id) 2::cV a2 ops::L)→bH .slice a2 h=some (i64 ops.length):=fun s=>by
  obtain⟨f,q,_⟩:=Sep.head (s.fS [10] rfl)
  have q:SlE dOp _ f a2 ops:=q
  exact q.len
 rw[plen (i:=0) s9,aB]
 refine⟨fun n vs h'=>∃(i:Nat) (va:V) (bQ:List ByteArray) (view:List (ByteArray×Option SpM)),vs=[i64 i]∧n=ops.length - i∧i≤ops.length∧qQ st.sp st.pt now (ops.drop i) view bQ=qQ st.sp st.pt now ops [] []∧view.length≤i∧bQ.length=i ∧
  Sep F h' (aP b [.map (some ms),a,.map (some mp),c] 4::aP bp [oa,va,i64 now,.map (some mv)] 4::aL aU (spV (k+i)) ms st.sp::aL aU (vwV (k+i)) mv view::aL bM (ptV (k+i)) mp st.pt ::
  jX va bQ::cV oa ops::dR a lk1::eC c st.ov::aP bi (cId id) 2::cV a2 ops::L),
  ops.length,⟨0,_,[],[],rfl,by omega,by omega,rfl,by simp,rfl,s9⟩,?_⟩
 clear s9
 rintro n e h9 ⟨i,va,bQ,view,he,rfl,hi2,hpart,hvw,hvl,s9⟩
 simp only[List.cons.injEq,and_true]at he
 simp only[he,cN,aB,aG,decide_eq_true_eq]
 rcases Nat.lt_or_ge i ops.length with hx | hx
 case inr=>
  rw[if_neg (show ¬((i:Nat):Int)<(ops.length:Nat) by omega)]
  have hil:i=ops.length:=by omega
  rw[hil,List.drop_length]at hpart
  have hp:fR st id ops now=((bQ,true),{ st with lk:=lk1,pt:=ins id ⟨ops,bQ,now,view⟩ st.pt }):=by
   unfold fR
   rw[if_neg (by simp[hov,ha])]
   simp only[hk1,hbl,←hpart,qQ,Bool.false_eq_true,if_false,hlk1]
  rw[hp]
  have t2:h9.rd b 2=some (.map (some mp)):=by rw[aH s9.get 2];rfl
  have hbi:=Sep.get (s9.fS [9] rfl)
  simp only[t2,aB,ld2 hbi]
  obtain⟨h10,e10,s11⟩:=Sep.aGt (D:=bM) (A:=ptV (k+i)) (k:=id) (w:=ptr bp 0) (z:=nil) (⟨ops,bQ,now,view⟩:cF) (s9.fS [4,0,1,2,3,5,6,7,8,9,10] rfl) hk1
  have e10:cU (some ((.struct false [(0,.int),(1,.int)]),(some (.pointer none)))) (.map (some mp)) id.agg (ptr bp 0) h9=some h10:=e10
  have t1:h10.rd bp 1=some va:=by rw[aH (Sep.get (s11.fS [2] rfl)) 1];rfl
  rw[e10,bV]
  simp only[bK,bE,aS,Nat.zero_add,t1,aB]
  obtain⟨f11,q11,_⟩:=Sep.head (s11.fS [5] rfl)
  have q11:Ts h10 f11 va bQ:=q11
  refine aK (aFs q11 (by omega)) ?_
  rintro r12 h12 ⟨fp',q12,m12⟩
  have s12:=s11.alloc (jX r12 bQ) m12 q12
  have s13:=Sep.vD (k:=k+i) (x:=(⟨ops,bQ,now,view⟩:cF)) (s12.uF [3,7,6,5,1,0,2,4,8,9,11] rfl)
  have hl:Go.Abs.lkp id (ins id (⟨ops,bQ,now,view⟩:cF) st.pt)=some ⟨ops,bQ,now,view⟩:=by rw[mF,if_pos rfl]
  have s14:=Sep.uZ (A:=ptV (k+i)) (k:=id) (v:=ptr bp 0) (x':=(⟨ops,bQ,now,view⟩:cF)) s13 hl
  rw[vQ hl]at s14
  refine⟨_,rfl,?_⟩
  have s15:=Sep.kW (k:=k+i) (st:=({ st with lk:=lk1,pt:=ins id ⟨ops,bQ,now,view⟩ st.pt }:dC)) (s14.re7 [2,3,4,0,5,1,6] rfl)
  exact (sQ (by omega) s15).up1
 rw[if_pos (show ((i:Nat):Int)<(ops.length:Nat) by omega)]
 obtain⟨f9,q9,_⟩:=Sep.head (s9.fS [10] rfl)
 have q9:SlE dOp h9 f9 a2 ops:=q9
 obtain⟨cb,i1,i2⟩:=q9.ld (List.getElem?_eq_getElem hx)
 have i1:aV (.slice 5) a2 (i64 i)=_:=i1
 have i2:ldD (.agg 5) _ h9=some (ops[i]).agg:=i2
 have hdrop:ops.drop i=ops[i]::ops.drop (i+1):=List.drop_eq_getElem_cons hx
 have hmo:lD ops[i]=true:=hall.2.2 _ (List.getElem_mem hx)
 rw[hdrop,aNp]at hpart
 clear hdrop q9
 generalize ops[i]=o at i2 hpart hmo
 simp only[i1,aB,i2,aCj,aZ]
 have t1:=s9.box ((⟨0,⟨#[]⟩,⟨#[]⟩,⟨#[]⟩,0⟩:Oq).cells) 5
 clear s9
 rw[st5 t1.get,bV]
 have t2:=t1.write (cs':=o.cells)
 clear t1
 generalize aA.put _ _ _=h10 at t2 ⊢
 rw[ld5 t2.get,aB]
 refine aK (aZn hM hE0 o hmo (by omega) t2.drop (Nat.le_trans hi.nsp (by omega)) (by omega) (Nat.le_trans hi.npt (by omega)) hi.aC0) ?_
 rintro r h11 ⟨rfl,t3⟩
 clear t2
 have hdl:=aS6 st.sp st.pt now o view
 generalize gY st.sp st.pt now view o=D at t3 hpart hdl ⊢
 obtain⟨val,err,view'⟩:=D
 simp only at t3 hpart hdl
 simp only[bU,List.getElem?_toArray,List.getElem?_cons_zero,List.getElem?_cons_succ,aB,gK,aG]
 by_cases herr:err=0
 ·have hb:(err != 0)=false:=by simp[herr]
  rw[if_pos herr]at hpart
  have u1:h11.rd bp 1=some va:=by rw[aH t3.drop.get 1];rfl
  simp only[hb,Bool.false_eq_true,if_false,bK,bE,aS,Nat.zero_add,u1,aB]
  have t4:=t3.fS [5,0,1,2,3,4,6,7,8,9,10] rfl
  clear t3 u1
  obtain⟨f,q,kk⟩:=Sep.head t4
  have q:Ts h11 f va bQ:=q
  obtain⟨h12,a1,va',h13,fw,a2',q13,m13⟩:=aQ2 q (by omega) val
  have t5:=kk (jX va' (bQ++[val])) m13 q13
  rw[a1,aZ,a2',aZ]
  have u2:h13.get bp=some (.cells [oa,va,i64 now,.map (some mv)] 4 .rw):=t5.drop.drop.get
  obtain⟨c1,c2⟩:=Sl.cell q13
  rw[nR u2 (by simp) c1 c2 (by simp),bV]
  have t6:=(t5.up2).write (cs':=[oa,va',i64 now,.map (some mv)])
  rw[cY _ 1 (by omega) (by omega),aB]
  exact⟨ops.length - (i+1),by omega,i+1,va',bQ++[val],view',by simp,rfl,by omega,hpart,by omega,by simp;omega,t6.fS [2,0,3,4,5,1,6,7,8,9,10] rfl⟩
 ·have hb:(err != 0)=true:=by simp[herr]
  rw[if_neg herr]at hpart
  have hp:fR st id ops now=(([],false),{ st with lk:=dY id lk1 }):=by
   unfold fR
   rw[if_neg (by simp[hov,ha])]
   simp only[hk1,hbl,←hpart,Bool.false_eq_true,if_false,hlk1]
  rw[hp]
  have u1:h11.rd b 1=some a:=by rw[aH t3.get 1];rfl
  simp only[hb,if_true,u1,aB,ld2 (Sep.get (t3.fS [9] rfl))]
  have hfew:=hi.aTn hk1 (ops.map cQ)
  have hlen:=aH2 id (ops.map cQ) st.lk
  rw[hlk1]at hfew hlen
  rw[List.length_map]at hfew hlen
  have hnlk:=hi.nlk
  refine aK (aL6 hM hE9 id (t3.fS [7,0,1,2,3,4,5,6,8,9,10] rfl) (by omega) (by omega)) ?_
  rintro r h12 ⟨_,t4⟩
  refine⟨_,rfl,?_⟩
  exact (sQ (by omega) (Sep.kW (k:=k+i+1) (st:=({ st with lk:=dY id lk1 }:dC)) (t4.fS [1,3,0,5,8,10] rfl))).aHd
end Go.Abs
namespace Go.Abs
open Go
variable {sp:List (ByteArray×SpM)} {pt:List (IdM×cF)} {now:Int} {view:List (ByteArray×Option SpM)} {k:Nat} {st:dC} {id:IdM}
theorem aOr {n m:ByteArray} (h:n≠m):lkp m (cW sp n view).2=lkp m view:=by
 unfold cW
 cases hk:Go.Abs.lkp n view with
 | none=>simp[h]
 | some x=>rfl
theorem aX0 {n:ByteArray} (h:(bA view).Nodup):(bA (cW sp n view).2).Nodup:=by
 unfold cW
 cases hk:Go.Abs.lkp n view with
 | none=>exact qO h
 | some x=>exact h
theorem aS7 {o:Oq} (he:(gY sp pt now view o).2.1=0):∃Y,(gY sp pt now view o).2.2=ins o.space Y (cW sp o.space view).2 ∧
 (3≤o.fn∧o.fn≤5→∃s,(cW sp o.space view).1=some s∧Y=some (s.act o now).2.2∧(s.act o now).2.1=0):=by
 unfold gY at he ⊢
 simp only at he ⊢
 by_cases h1:o.fn=1
 ·simp only[if_pos h1]at he ⊢
  by_cases h2:(cW sp o.space view).1.isSome=true
  ·rw[if_pos h2]at he;cases he
  ·rw[if_neg h2]at he ⊢
   by_cases h3:16≤sF sp pt (cW sp o.space view).2
   ·rw[if_pos h3]at he;cases he
   ·rw[if_neg h3]
    exact⟨_,rfl,fun h=>by omega⟩
 ·simp only[if_neg h1]at he ⊢
  cases hX:(cW sp o.space view).1 with
  | none=>rw[hX]at he;cases he
  | some s=>
   rw[hX]at he
   simp only at he ⊢
   by_cases h2:o.fn=2
   ·rw[if_pos h2]
    exact⟨_,rfl,fun h=>by omega⟩
   ·rw[if_neg h2]at he ⊢
    exact⟨_,rfl,fun _=>⟨s,rfl,rfl,he⟩⟩
structure rS (sp:List (ByteArray×SpM)) (done:List Oq) (view:List (ByteArray×Option SpM)):Prop where
 nd:(bA view).Nodup
 of:∀n x,lkp n view=some x→∃o∈done,o.space=n
 tab:∀n x,lkp n view=some x→(∀o∈done,o.space=n→3≤o.fn∧o.fn≤5)→∃s t,x=some s∧s.kind=1∧lkp n sp=some t∧t.kind=1
theorem rS.nil:rS sp [] []:=⟨by simp[bA],by simp[lkp],by simp[lkp]⟩
theorem rS.step {done:List Oq} {o:Oq} (w:rS sp done view) (he:(gY sp pt now view o).2.1=0):rS sp (done++[o]) (gY sp pt now view o).2.2:=by
 obtain⟨Y,e,hY⟩:=aS7 he
 rw[e]
 refine⟨qO (aX0 w.nd),fun n x hx=>?_,fun n x hx ht=>?_⟩
 ·rw[mF]at hx
  by_cases h:o.space=n
  ·exact⟨o,by simp,h⟩
  ·rw[if_neg h,aOr h]at hx
   obtain⟨o',h1,h2⟩:=w.of n x hx
   exact⟨o',by simp[h1],h2⟩
 ·rw[mF]at hx
  by_cases h:o.space=n
  ·rw[if_pos h]at hx
   cases hx
   obtain⟨s,h1,h2,h3⟩:=hY (ht o (by simp) h)
   have h4:=aQu (ht o (by simp) h) h3
   unfold cW at h1
   subst h
   cases hk:Go.Abs.lkp o.space view with
   | none=>
    rw[hk]at h1
    simp only at h1
    exact⟨_,s,h2,by rw[aI8];exact h4,h1,h4⟩
   | some x0=>
    rw[hk]at h1
    simp only at h1
    obtain⟨s',t,h5,h6,h7,h8⟩:=w.tab _ _ hk fun o' ho'=>ht o' (by simp[ho'])
    exact⟨_,t,h2,by rw[aI8];exact h4,h7,h8⟩
  ·rw[if_neg h,aOr h]at hx
   exact w.tab n x hx fun o' ho'=>ht o' (by simp[ho'])
theorem aNq:∀{l done:List Oq} {view:List (ByteArray×Option SpM)} {bQ vals':List ByteArray} {view':List (ByteArray×Option SpM)},qQ sp pt now l view bQ=some (vals',view')→rS sp done view →
 rS sp (done++l) view'∧vals'.length=bQ.length+l.length
 | [],done,view,bQ,vals',view',h,w=>by
  simp only[qQ,Option.some.injEq,Prod.mk.injEq]at h
  obtain⟨rfl,rfl⟩:=h
  simpa using w
 | o::l,done,view,bQ,vals',view',h,w=>by
  rw[aNp]at h
  by_cases he:(gY sp pt now view o).2.1=0
  ·rw[if_pos he]at h
   obtain⟨h1,h2⟩:=aNq h (w.step he)
   rw[List.append_assoc]at h1
   refine⟨h1,?_⟩
   simp only[List.length_append,List.length_cons,List.length_nil]at h2 ⊢
   omega
  ·rw[if_neg he]at h
   cases h
theorem meet_self (a:bF):eY a a=true:=by simp[eY]
theorem meet_comm (a b:bF):eY a b=eY b a:=by
 have e1:(decide (a.space=b.space))=decide (b.space=a.space):=decide_eq_decide.2 ⟨Eq.symm,Eq.symm⟩
 have e2:(decide (a.key=b.key))=decide (b.key=a.key):=decide_eq_decide.2 ⟨Eq.symm,Eq.symm⟩
 unfold eY
 rw[e1,e2,Bool.or_comm a.all b.all]
theorem aHf {ks:List bF} {lk:List (bF×IdM)} (h:blocked id ks lk=false) {e:bF×IdM} (he:e∈lk) {a:bF} (ha:a∈ks) (hm:eY a e.1=true):e.2=id:=by
 by_cases hx:e.2=id
 ·exact hx
 ·exfalso
  have:blocked id ks lk=true:=List.any_eq_true.2 ⟨e,he,by
   simp only[ne_eq,hx,not_false_eq_true,decide_true,Bool.true_and]
   exact List.any_eq_true.2 ⟨a,ha,hm⟩⟩
  rw[h]at this
  cases this
theorem aNv (i:dK k st) (hp:lkp id st.pt=none) {e:IdM×cF} (he:e∈st.pt):e.1≠id:=fun h=>by
 have:=lC i.dpt (show (e.1,e.2)∈st.pt from he)
 rw[h,hp]at this
 cases this
theorem aLq (i:dK k st) (hp:lkp id st.pt=none) {ks:List bF} (hb:blocked id ks st.lk=false) {e:IdM×cF} (he:e∈st.pt) {o:Oq} (ho:o∈e.2.ops):cQ o∉ks:=fun hm=>
 aNv i hp he (aHf hb (iS (i.has e he o ho)) hm (meet_self _))
theorem aUo (i:dK k st) (id:IdM) (ops:List Oq) (now:Int):dK (k+8) (fR st id ops now).2:=by
 have i8:=i.mono (Nat.le_add_right k 8)
 unfold fR
 by_cases h0:id∈st.ov∨kS ops=false
 ·rw[if_pos h0];exact i8
 rw[if_neg h0]
 have ha:kS ops=true:=by
  cases h:kS ops with
  | true=>rfl
  | false=>exact absurd (.inr h) h0
 have hall:=uX ha
 cases hp:lkp id st.pt with
 | some x=>exact i8
 | none=>
 simp only
 cases hb:blocked id (ops.map cQ) st.lk with
 | true=>simp only[if_true];exact i8
 | false=>
 simp only[Bool.false_eq_true,if_false]
 have hnl:=aH2 id (ops.map cQ) st.lk
 rw[List.length_map]at hnl
 have hnlk:=i.nlk
 have dtk:=wQ id (ops.map cQ) i.dlk
 have old:∀{e:bF×IdM},e∈cO id (ops.map cQ) st.lk→(e.1∈ops.map cQ∧e.2=id)∨(e.1∉ops.map cQ∧e∈st.lk):=fun {e} he=>by
  have h1:=lC dtk (show (e.1,e.2)∈_ from he)
  rw[uM]at h1
  by_cases hk:e.1∈ops.map cQ
  ·rw[if_pos hk]at h1
   exact .inl ⟨hk,(Option.some.inj h1).symm⟩
  ·rw[if_neg hk]at h1
   exact .inr ⟨hk,iS h1⟩
 cases hv:qQ st.sp st.pt now ops [] []with
 | none=>
  simp only
  have sub:∀e∈dY id (cO id (ops.map cQ) st.lk),e∈st.lk:=fun e he=>by
   obtain⟨h1,h2⟩:=List.mem_filter.1 he
   rcases old h1 with ⟨_,h3⟩ | ⟨_,h3⟩
   ·exact absurd h3 (of_decide_eq_true h2)
   ·exact h3
  refine { i8 with nlk:=?_,dlk:=aKt dtk,own:=fun e he=>i.own e (sub e he),has:=fun e he o ho=>?_,apart:=fun e he e' he'=>i.apart e (sub e he) e' (sub e' he') }
  ·have:=List.length_filter_le (fun e:bF×IdM=>decide (e.2≠id)) (cO id (ops.map cQ) st.lk)
   have h2:(dY id (cO id (ops.map cQ) st.lk)).length≤(cO id (ops.map cQ) st.lk).length:=this
   show (dY id (cO id (ops.map cQ) st.lk)).length≤k+8
   omega
  ·show lkp (cQ o) (dY id (cO id (ops.map cQ) st.lk))=some e.1
   rw[aL4 dtk,uM,if_neg (aLq i hp hb he ho),i.has e he o ho]
   simp only
   rw[if_neg (aNv i hp he)]
 | some r=>
  obtain⟨bQ,vw⟩:=r
  simp only
  obtain⟨w,hvl⟩:=aNq (done:=[]) hv rS.nil
  rw[List.nil_append]at w
  have hmem:∀e∈ins id (⟨ops,bQ,now,vw⟩:cF) st.pt,e∈st.pt∨e=(id,⟨ops,bQ,now,vw⟩):=fun e he=>by
   rw[aGu hp]at he
   rcases List.mem_append.1 he with he | he
   ·exact .inl he
   ·exact .inr (List.mem_singleton.1 he)
  refine⟨i8.nsp,?_,?_,i.dsp,qO i.dpt,dtk,fun e he=>?_,fun e he=>?_,fun e he o ho=>?_,fun e he e' he' hm=>?_,fun e he=>?_,fun e he=>?_,fun e he x hx=>?_,fun e he x hx ht=>?_,i.zsp⟩
  ·have:=vO id (⟨ops,bQ,now,vw⟩:cF) st.pt
   have h2:=i.npt
   show (ins id (⟨ops,bQ,now,vw⟩:cF) st.pt).length≤k+8
   omega
  ·show (cO id (ops.map cQ) st.lk).length≤k+8
   omega
  ·rcases hmem e he with he | rfl
   ·exact i.may e he
   ·exact ha
  ·show ∃p,lkp e.2 (ins id (⟨ops,bQ,now,vw⟩:cF) st.pt)=some p∧_
   rcases old he with ⟨h1,h2⟩ | ⟨h1,h2⟩
   ·exact⟨⟨ops,bQ,now,vw⟩,by rw[mF,if_pos h2.symm],h1⟩
   ·obtain⟨p,h3,h4⟩:=i.own e h2
    refine⟨p,?_,h4⟩
    rw[mF,if_neg,h3]
    intro hc
    rw[←hc,hp]at h3
    cases h3
  ·show lkp (cQ o) (cO id (ops.map cQ) st.lk)=some e.1
   rw[uM]
   rcases hmem e he with he | rfl
   ·rw[if_neg (aLq i hp hb he ho)]
    exact i.has e he o ho
   ·rw[if_pos (List.mem_map.2 ⟨o,ho,rfl⟩)]
  ·rcases old he with ⟨h1,h2⟩ | ⟨h1,h2⟩<;>rcases old he' with ⟨h3,h4⟩ | ⟨h3,h4⟩
   ·rw[h2,h4]
   ·rw[h2,aHf hb h4 h1 hm]
   ·rw[meet_comm]at hm
    rw[h4,aHf hb h2 h3 hm]
   ·exact i.apart e h2 e' h4 hm
  ·rcases hmem e he with he | rfl
   ·exact i.dvw e he
   ·exact w.nd
  ·rcases hmem e he with he | rfl
   ·exact i.val8 e he
   ·show bQ.length≤8
    rw[hvl]
    simp only[List.length_nil]
    omega
  ·rcases hmem e he with he | rfl
   ·exact i.vw e he x hx
   ·exact w.of x.1 x.2 (lC w.nd hx)
  ·rcases hmem e he with he | rfl
   ·exact i.tab e he x hx ht
   ·exact w.tab x.1 x.2 (lC w.nd hx) ht
end Go.Abs
namespace Go.Abs
open Go
variable {sp:List (ByteArray×SpM)} {now:Int} {view:List (ByteArray×Option SpM)} {k:Nat} {st:dC} {id:IdM}
theorem aE0 (n:ByteArray) (v:SpM):∀(l:List Oq) (s:SpM),(fG n v l s).kind=s.kind
 | [],s=>rfl
 | o::l,s=>by
  simp only[fG]
  split
  ·rw[aE0 n v l]
   split<;>rfl
  ·exact aE0 n v l s
def aG0 (p:cF) (all:Bool) (name:ByteArray) (x:Option SpM) (t:Option SpM):Option SpM:=
 match all,x with
 | true,none=>none
 | true,some s=>some s
 | false,some s=>t.map (fG name s p.ops)
 | false,none=>t
theorem aLz (p:cF) (all:Bool) (name:ByteArray) (x:Option SpM) (h:(bA sp).Nodup):(bA (iR p all name x sp)).Nodup:=by
 cases all<;>cases x<;>simp only[iR]
 ·exact h
 ·split
  ·exact qO h
  ·exact h
 ·exact tY h
 ·exact qO h
theorem aVg (p:cF) (all:Bool) (name:ByteArray) (x:Option SpM):(iR p all name x sp).length≤sp.length+1:=by
 cases all<;>cases x<;>simp only[iR]
 ·omega
 ·split
  ·exact vO _ _ _
  ·omega
 ·have:=aHr name sp;omega
 ·exact vO _ _ _
theorem aVh (p:cF) (all:Bool) (name:ByteArray) (x:Option SpM) (h:(bA sp).Nodup) (n:ByteArray):lkp n (iR p all name x sp)=if name=n then aG0 p all name x (lkp name sp) else lkp n sp:=by
 cases all<;>cases x<;>simp only[iR,aG0]
 ·by_cases e:name=n
  ·rw[if_pos e,e]
  ·rw[if_neg e]
 ·cases hk:Go.Abs.lkp name sp with
  | none=>
   simp only[Option.map_none]
   by_cases e:name=n
   ·rw[if_pos e,←e,hk]
   ·rw[if_neg e]
  | some t=>
   simp only[Option.map_some]
   rw[mF]
 ·rw[tT h]
 ·rw[mF]
def dP (p:cF) (al:ByteArray→Bool) (l:List (ByteArray×Option SpM)) (sp:List (ByteArray×SpM)):List (ByteArray×SpM):=l.foldl (fun sp e=>iR p (al e.1) e.1 e.2 sp) sp
theorem aBv (p:cF) (al:ByteArray→Bool):∀(l:List (ByteArray×Option SpM)) {sp:List (ByteArray×SpM)},(bA sp).Nodup→(bA (dP p al l sp)).Nodup
 | [],_,h=>h
 | e::l,_,h=>aBv p al l (aLz _ _ _ _ h)
theorem aLx (p:cF) (al:ByteArray→Bool):∀(l:List (ByteArray×Option SpM)) (sp:List (ByteArray×SpM)),(dP p al l sp).length≤sp.length+l.length
 | [],_=>by simp[dP]
 | e::l,sp=>by
  have h1:=aLx p al l (iR p (al e.1) e.1 e.2 sp)
  have h2:=aVg (sp:=sp) p (al e.1) e.1 e.2
  have h3:dP p al (e::l) sp=dP p al l (iR p (al e.1) e.1 e.2 sp):=rfl
  rw[h3,List.length_cons]
  omega
theorem vV (p:cF) (al:ByteArray→Bool):∀(l:List (ByteArray×Option SpM)) {sp:List (ByteArray×SpM)},(bA sp).Nodup→(bA l).Nodup→∀n,lkp n (dP p al l sp)=match lkp n l with | none=>lkp n sp | some x=>aG0 p (al n) n x (lkp n sp)
 | [],_,_,_,n=>rfl
 | (a,x)::l,sp,h,hl,n=>by
  have hl':a∉bA l∧(bA l).Nodup:=List.nodup_cons.1 hl
  have h3:dP p al ((a,x)::l) sp=dP p al l (iR p (al a) a x sp):=rfl
  rw[h3,vV p al l (aLz _ _ _ _ h) hl'.2,aVh _ _ _ _ h]
  simp only[lkp]
  by_cases e:a=n
  ·subst e
   rw[lA.2 hl'.1]
   simp only[if_true]
  ·simp only[if_neg e]
theorem aVe (p:cF) (al:ByteArray→Bool) {l l':List (ByteArray×Option SpM)} (hs:(bA sp).Nodup) (hl:(bA l).Nodup) (hp:l.Perm l'):(dP p al l sp).Perm (dP p al l' sp):=by
 have hl':=(keys_perm hp).nodup_iff.1 hl
 exact aC6 (aBv p al l hs) (aBv p al l' hs) fun n=>by rw[vV p al l hs hl,vV p al l' hs hl',aBw hp hl]
def dM (lk:List (bF×IdM)) (id:IdM) (n:ByteArray):Bool:=lk.any fun x=>decide (x.2=id)&&decide (x.1.space=n)&&x.1.all
theorem xX (st:dC) (id:IdM) (yes:Bool):qF st id yes=if id∈st.ov then (false,st)
 else match lkp id st.pt with
 | none=>(true,{ st with ov:=id::st.ov })
 | some p=>(true,⟨if yes then dP p (dM st.lk id) p.view st.sp else st.sp,dY id st.lk,rmv id st.pt,id::st.ov⟩):=rfl
theorem aZq (i:dK k st) {e:IdM×cF} (he:e∈st.pt):e.2.view.length≤8:=by
 have h1:=aCl (i.dvw e he) (m:=e.2.ops.map (·.space)) fun n hn=>by
  obtain⟨x,hx,rfl⟩:=List.mem_map.1 hn
  obtain⟨o,h1,h2⟩:=i.vw e he x hx
  exact List.mem_map.2 ⟨o,h1,h2⟩
 have h2:=i.aC0 e he
 rw[List.length_map]at h1
 have:(bA e.2.view).length=e.2.view.length:=by simp[bA]
 omega
theorem wA {κ α:Type} [DecidableEq κ] {k:κ} {e:κ×α}:∀{l:List (κ×α)},(bA l).Nodup→e∈rmv k l→e∈l∧e.1≠k:=fun {l} hn he=>by
 have h1:=lC (tY hn) (show (e.1,e.2)∈rmv k l from he)
 rw[tT hn]at h1
 by_cases h:k=e.1
 ·rw[if_pos h]at h1;cases h1
 ·rw[if_neg h]at h1
  exact⟨iS h1,fun hc=>h hc.symm⟩
theorem aL8 (o:Oq):(cQ o).space=o.space:=by unfold cQ;split<;>rfl
theorem aVm {o:Oq} (h:(cQ o).all=false):3≤o.fn∧o.fn≤5:=by
 unfold cQ at h
 by_cases h1:3≤o.fn∧o.fn≤5
 ·exact h1
 ·rw[if_neg h1]at h;cases h
theorem aQx (i:dK k st) {n:ByteArray} (ha:dM st.lk id n=true) {e:IdM×cF} (he:e∈st.pt) {o:Oq} (ho:o∈e.2.ops) (hs:o.space=n):e.1=id:=by
 obtain⟨x,hx,hp⟩:=List.any_eq_true.1 ha
 simp only[Bool.and_eq_true,decide_eq_true_eq]at hp
 obtain⟨⟨h1,h2⟩,h3⟩:=hp
 have:=i.apart _ (iS (i.has e he o ho)) x hx (by
  simp only[eY,h3,Bool.or_true,Bool.true_or,Bool.and_true,decide_eq_true_eq]
  rw[aL8,hs,h2])
 rw[h1]at this
 exact this
theorem aWh (i:dK k st) {e:IdM×cF} (he:e∈st.pt) {n:ByteArray} (ha:dM st.lk e.1 n=false):∀o∈e.2.ops,o.space=n→3≤o.fn∧o.fn≤5:=fun o ho hs=>by
 refine aVm ?_
 cases hal:(cQ o).all with
 | false=>rfl
 | true=>
  exfalso
  have:dM st.lk e.1 n=true:=List.any_eq_true.2 ⟨_,iS (i.has e he o ho),by
   simp only[decide_true,Bool.true_and,hal,Bool.and_true,decide_eq_true_eq]
   rw[aL8,hs]⟩
  rw[ha]at this
  cases this
theorem aUm (i:dK k st) (id:IdM) (yes:Bool):dK (k+8) (qF st id yes).2:=by
 have i8:=i.mono (Nat.le_add_right k 8)
 rw[xX]
 by_cases h0:id∈st.ov
 ·rw[if_pos h0];exact i8
 rw[if_neg h0]
 cases hp:lkp id st.pt with
 | none=>exact { i8 with }
 | some p=>
  simp only
  have hpm:=iS hp
  have sub:∀e∈dY id st.lk,e∈st.lk∧e.2≠id:=fun e he=>by
   obtain⟨h1,h2⟩:=List.mem_filter.1 he
   exact⟨h1,of_decide_eq_true h2⟩
  have hnd:(bA (if yes=true then dP p (dM st.lk id) p.view st.sp else st.sp)).Nodup:=by
   split
   ·exact aBv _ _ _ i.dsp
   ·exact i.dsp
  refine⟨?_,?_,?_,hnd,tY i.dpt,aKt i.dlk,fun e he=>i.may e (wA i.dpt he).1,fun e he=>?_,fun e he o ho=>?_,fun e he e' he'=>i.apart e (sub e he).1 e' (sub e' he').1,
   fun e he=>i.dvw e (wA i.dpt he).1,fun e he=>i.val8 e (wA i.dpt he).1,fun e he=>i.vw e (wA i.dpt he).1,fun e he x hx ht=>?_,fun n hn=>?_⟩
  ·have h1:=aLx p (dM st.lk id) p.view st.sp
   have h2:=aZq i hpm
   have h3:=i.nsp
   have h2:p.view.length≤8:=h2
   show (if yes=true then dP p (dM st.lk id) p.view st.sp else st.sp).length≤k+8
   split<;>omega
  ·have h1:=aHr id st.pt
   have h2:=i.npt
   show (rmv id st.pt).length≤k+8
   omega
  ·have h1:(dY id st.lk).length≤st.lk.length:=List.length_filter_le _ _
   have h2:=i.nlk
   show (dY id st.lk).length≤k+8
   omega
  ·obtain⟨h1,h2⟩:=sub e he
   obtain⟨q,h3,h4⟩:=i.own e h1
   refine⟨q,?_,h4⟩
   show lkp e.2 (rmv id st.pt)=some q
   rw[tT i.dpt,if_neg fun hc=>h2 hc.symm,h3]
  ·obtain⟨h1,h2⟩:=wA i.dpt he
   show lkp (cQ o) (dY id st.lk)=some e.1
   rw[aL4 i.dlk,i.has e h1 o ho]
   simp only
   rw[if_neg h2]
  ·obtain⟨h1,h2⟩:=wA i.dpt he
   obtain⟨s,t,h3,h4,h5,h6⟩:=i.tab e h1 x hx ht
   show ∃s t,x.2=some s∧s.kind=1∧lkp x.1 (if yes=true then dP p (dM st.lk id) p.view st.sp else st.sp)=some t∧t.kind=1
   cases yes with
   | false=>exact⟨s,t,h3,h4,h5,h6⟩
   | true=>
    simp only[if_true]
    rw[vV p _ _ i.dsp (i.dvw _ hpm)]
    cases hv:lkp x.1 p.view with
    | none=>exact⟨s,t,h3,h4,h5,h6⟩
    | some y=>
     simp only
     obtain⟨o,ho,hs⟩:=i.vw e h1 x hx
     have hal:dM st.lk id x.1=false:=by
      cases ha:dM st.lk id x.1 with
      | false=>rfl
      | true=>exact absurd (aQx i ha h1 ho hs) h2
     rw[hal,h5]
     cases y with
     | none=>exact⟨s,t,h3,h4,rfl,h6⟩
     | some z=>exact⟨s,_,h3,h4,rfl,by rw[aE0];exact h6⟩
  ·have hn:n∈bA (if yes=true then dP p (dM st.lk id) p.view st.sp else st.sp):=hn
   cases yes with
   | false=>exact i.zsp n hn
   | true=>
    simp only[if_true]at hn
    have h1:lkp n (dP p (dM st.lk id) p.view st.sp)≠none:=fun h=>lA.1 h hn
    rw[vV p _ _ i.dsp (i.dvw _ hpm)]at h1
    cases hv:lkp n p.view with
    | none=>
     rw[hv]at h1
     by_cases hm:n∈bA st.sp
     ·exact i.zsp n hm
     ·exact absurd (lA.2 hm) h1
    | some y=>
     obtain⟨o,ho,hs⟩:=i.vw _ hpm _ (iS hv)
     have hs:o.space=n:=hs
     rw[←hs]
     exact (aG7 ((uX (i.may _ hpm)).2.2 o ho)).sp.2
end Go.Abs

/- VaultEq, on abstract heaps. -/
import Derived.Test.YthhegdifbnghpaaGreatDoorQbg
import Derived.Test.YthhegdifbnghpaaGreatDoorQbh
import Derived.Test.YthhegdifbnghpaaGreatDoorQat
set_option maxRecDepth 20000
set_option linter.unusedVariables false
set_option linter.unusedSimpArgs false
namespace Go.Abs
open Go
def F.tJ (E:FE):Spec:=fun args h K=>match args with
| [a0,a1]=>
kP (aY none a1 h) fun v3_0 h=>
cl (F.pE E) [] h fun v12_1 h=>
kv (aUn .not v12_1) fun v14_2=>
ifV v14_2 (
K (.bool false) h) (
cl (F.iH E) [] h fun v15_3 h=>
cl (F.iH E) [] h fun v16_4 h=>
∃(Inv5:Nat→List V→aA→Prop) (n5:Nat),Inv5 n5 [(.int .i64 0)] h∧∀(n5:Nat) (e5:Nat→V) (h:aA),Inv5 n5 [(e5 8)] h →
kv (bH .slice a0 h) fun v19_6=>
kv (aC .bad .lss false (e5 8) v19_6 h) fun v20_7=>
kv (gdV v20_7 true (some (e5 8))) fun v22_8=>
kv (gdV v20_7 true (aC .bad .lss true v22_8 (.int .i64 25) h)) fun v23_9=>
kv (bC v20_7 v23_9 (.bool false)) fun v24_10=>
ifV v24_10 (
kP (dN (some (1,[(.pointer none)])) 2 [(0,v15_3),(1,v16_4)] h) fun v29_11 h=>
kv (bH .slice v29_11 h) fun v30_12=>
∃(Inv13:Nat→List V→aA→Prop) (n13:Nat),Inv13 n13 [(.int .i64 0)] h∧∀(n13:Nat) (e13:Nat→V) (h:aA),Inv13 n13 [(e13 31)] h →
kv (aC .bad .lss false (e13 31) v30_12 h) fun v32_14=>
ifV v32_14 (
kv (aV (.slice 1) v29_11 (e13 31)) fun v33_15=>
kv (ldD .one v33_15 h) fun v34_16=>
kv (aV (.slice 6) a0 (e5 8)) fun v37_17=>
kv (aF (some 0) v37_17) fun v38_18=>
kv (ldD .one v38_18 h) fun v39_19=>
kv (aC .bad .eql true v39_19 (.int .i64 1) h) fun v40_20=>
ifV v40_20 (
kv (aV (.slice 6) a0 (e5 8)) fun v44_21=>
kv (aF (some 1) v44_21) fun v45_22=>
kv (ldD (.agg 2) v45_22 h) fun v46_23=>
kv (aV (.slice 6) a0 (e5 8)) fun v49_24=>
kv (aF (some 5) v49_24) fun v50_25=>
kv (ldD .one v50_25 h) fun v51_26=>
cl (F.jG E) [v34_16,v46_23,v51_26] h fun v52_27 h=>
kv (aC .bad .add true (e13 31) (.int .i64 1) h) fun v85_28=>
∃m,m<n13∧Inv13 m [v85_28] h) (
kv (aV (.slice 6) a0 (e5 8)) fun v55_29=>
kv (aF (some 4) v55_29) fun v56_30=>
kv (ldD .one v56_30 h) fun v57_31=>
kv (aC .bad .geq true v57_31 (.int .i64 0) h) fun v58_32=>
kv (gdV v58_32 true (some a0)) fun v60_33=>
kv (gdV v58_32 true (some (e5 8))) fun v61_34=>
kv (gdV v58_32 true (aV (.slice 6) v60_33 v61_34)) fun v62_35=>
kv (gdV v58_32 true (aF (some 4) v62_35)) fun v63_36=>
kv (gdV v58_32 true (ldD .one v63_36 h)) fun v64_37=>
kv (gdV v58_32 true (aC .bad .leq true v64_37 (.int .i64 1099511627776) h)) fun v65_38=>
kv (bC v58_32 v65_38 (.bool false)) fun v66_39=>
ifV v66_39 (
kv (aV (.slice 6) a0 (e5 8)) fun v70_40=>
kv (aF (some 1) v70_40) fun v71_41=>
kv (ldD (.agg 2) v71_41 h) fun v72_42=>
kv (aV (.slice 6) a0 (e5 8)) fun v75_43=>
kv (aF (some 3) v75_43) fun v76_44=>
kv (ldD .one v76_44 h) fun v77_45=>
kv (aV (.slice 6) a0 (e5 8)) fun v81_46=>
kv (aF (some 4) v81_46) fun v82_47=>
kv (ldD .one v82_47 h) fun v83_48=>
cl (F.qZ E) [v77_45] h fun v78_49 h=>
ldD (.agg 2) v71_41 h=some v72_42 ∧
ldD .one v82_47 h=some v83_48 ∧
cl (F.lS E) [v34_16,v72_42,v78_49,v83_48] h fun v84_50 h=>
kv (aC .bad .add true (e13 31) (.int .i64 1) h) fun v85_51=>
∃m,m<n13∧Inv13 m [v85_51] h) (
kv (aC .bad .add true (e13 31) (.int .i64 1) h) fun v85_52=>
∃m,m<n13∧Inv13 m [v85_52] h))) (
cl (F.oY E) [v15_3,v16_4] h fun v88_53 h=>
kv (aUn .not v88_53) fun v89_54=>
kv (gdV v89_54 false (some v16_4)) fun v91_55=>
kv (gdV v89_54 false (some v15_3)) fun v92_56=>
gdC v89_54 false h (fun K57=>cl (F.oY E) [v91_55,v92_56] h fun v h=>K57 v h) fun v93_58 h=>
kv (gdV v89_54 false (aUn .not v93_58)) fun v94_59=>
kv (bC v89_54 (.bool true) v94_59) fun v95_60=>
ifV v95_60 (
K (.bool false) h) (
kv (aC .bad .add true (e5 8) (.int .i64 1) h) fun v26_61=>
∃m,m<n5∧Inv5 m [v26_61] h))) (
kv (ldD (.agg 2) v3_0 h) fun v97_62=>
cl (F.lR E) [v15_3,v97_62] h fun v98_63 h=>
kv (ldD (.agg 2) v3_0 h) fun v100_64=>
cl (F.jG E) [v16_4,v100_64,(.bool false)] h fun v101_65 h=>
cl (F.oY E) [v15_3,v16_4] h fun v104_66 h=>
kv (aC .bool .eql false v104_66 v98_63 h) fun v106_67=>
K v106_67 h))
| _=>False
end Go.Abs
set_option linter.unusedSimpArgs false
set_option linter.unusedVariables false
namespace Go.Abs
open Go Go.Proofs
variable {E:FE} {F:Fr} {h:aA} {L:List Pl} {k:Nat}
theorem Ri.mod {N:Nat} {h h':aA} {fp fp':List Nat} {v:V} {l:List Oq} (s:Ri N h v l) (m:Mod h fp h' fp') (hf:∀x∈fp,N≤x):Ri N h' v l:=by
 rcases s with s | s
 ·exact .inl (Ro.mod s m hf)
 ·exact .inr s
theorem jJ.mod {N:Nat} {h h':aA} {fp fp':List Nat} {v:V} {l:List eG} (s:jJ N h v l) (m:Mod h fp h' fp') (hf:∀x∈fp,N≤x):jJ N h' v l:=by
 obtain⟨vs,a,b,c⟩:=s
 exact⟨vs,a,Ro.mod b m hf,fun i u o hu ho=>(c i u o hu ho).mod m hf⟩
theorem jJ.on {r r':Ren} {h h':aA} {v:V} {l:List eG} (m:eF r h.ros r' h') (s:jJ h.next h v l):jJ h'.next h' v l:=by
 obtain⟨vs,a,b,c⟩:=s
 exact⟨vs,a,Ro.on m b,fun i u o hu ho=>by
  rcases c i u o hu ho with x | x
  ·exact .inl (Ro.on m x)
  ·exact .inr x⟩
def frV (N:Nat) (v:V) (l:List eG):Fr:=⟨N,fun h=>jJ N h v l,fun _ _ _ _ s m hf=>s.mod m hf⟩
theorem jJ.len {N:Nat} {v:V} {l:List eG} (s:jJ N h v l) (g:aA):bH .slice v g=some (i64 l.length):=by
 obtain⟨_,_,b,_⟩:=s
 exact Ro.len b g
theorem aXo {b o:Nat} {x y:V} (h0:h.rd b o=some x) (h1:h.rd b (o+1)=some y):ldD (.agg 2) (ptr b o) h=some (.agg #[x,y]):=by
 have e:h.rdN b o 2=some [x,y]:=by
  unfold aA.rd at h0 h1
  unfold aA.rdN
  cases hg:h.get b with
  | none=>rw[hg]at h0;cases h0
  | some ob=>
   rw[hg]at h0 h1
   cases ob with
   | cells c e kk=>
    have h0:c[o]? = some x:=h0
    have h1:c[o+1]? = some y:=h1
    obtain⟨a1,a2⟩:=List.getElem?_eq_some_iff.1 h0
    obtain⟨b1,b2⟩:=List.getElem?_eq_some_iff.1 h1
    show (if o+2≤c.length then some ((c.drop o).take 2) else none)=_
    rw[if_pos (by omega),List.drop_eq_getElem_cons a1,List.drop_eq_getElem_cons b1,a2,b2]
    rfl
   | _=>cases h0
 rw[qK,e]
 rfl
theorem jJ.row {N:Nat} {v:V} {l:List eG} (s:jJ N h v l) {i:Nat} {o:eG} (hi:l[i]? = some o):∃b off u,aV (.slice 6) v (i64 i)=some (ptr b off)∧Ri N h u o.ops ∧
 h.rd b off=some (i64 o.kind)∧ldD (.agg 2) (ptr b (off+1)) h=some o.id.agg∧h.rd b (off+3)=some u∧h.rd b (off+4)=some (i64 o.now)∧h.rd b (off+5)=some (.bool o.yes):=by
 obtain⟨vs,a,b,c⟩:=s
 have hlt:i<l.length:=(List.getElem?_eq_some_iff.1 hi).1
 obtain⟨bb,off,e,hr⟩:=Ro.at b hlt
 have hu:vs[i]? = some vs[i]:=List.getElem?_eq_getElem (by omega)
 have hz:(l.zip vs)[i]? = some (o,vs[i]):=by
  rw[List.getElem?_eq_getElem (by rw[List.length_zip];omega),List.getElem_zip,(List.getElem?_eq_some_iff.1 hi).2]
 have g:∀j,j<6→h.rd bb (off+j)=(o.cells vs[i])[j]?:=fun j hj=>by
  rw[hr j hj]
  exact aGd (fun e:eG×V=>e.1.cells e.2) 6 (fun _=>rfl) (l.zip vs) i _ hz j hj
 exact⟨bb,off,vs[i],e,c i _ o hu hi,g 0 (by decide),aXo (g 1 (by decide)) (g 2 (by decide)),g 3 (by decide),g 4 (by decide),g 5 (by decide)⟩
def pT (st:dC) (o:eG):dC:=
 if o.kind=1 then (qF st o.id o.yes).2 else if 0≤o.now∧o.now≤1099511627776 then (fR st o.id (o.ops.take 8) o.now).2 else st
set_option maxHeartbeats 2000000 in
theorem aPi (ve:VlE E) {N:Nat} {a0 x:V} {l:List eG} {i:Nat} {o:eG} (hi:l[i]? = some o) (hz:∀q∈o.ops,q.space.size≤maxLen) {st:dC} (vi:dK k st) (hk:k≤900)
 (s:Sep (frV N a0 l) h (eL k x st::L)) {K:aA→Prop} (hK:∀g,Sep (frV N a0 l) g (eL (k+8) x (pT st o)::L)→K g) :
kv (aV (.slice 6) a0 (i64 i)) fun v37_17=>
kv (aF (some 0) v37_17) fun v38_18=>
kv (ldD .one v38_18 h) fun v39_19=>
kv (aC .bad .eql true v39_19 (.int .i64 1) h) fun v40_20=>
ifV v40_20 (
kv (aV (.slice 6) a0 (i64 i)) fun v44_21=>
kv (aF (some 1) v44_21) fun v45_22=>
kv (ldD (.agg 2) v45_22 h) fun v46_23=>
kv (aV (.slice 6) a0 (i64 i)) fun v49_24=>
kv (aF (some 5) v49_24) fun v50_25=>
kv (ldD .one v50_25 h) fun v51_26=>
cl (Go.Abs.F.jG E) [x,v46_23,v51_26] h fun v52_27 h=>
K h) (
kv (aV (.slice 6) a0 (i64 i)) fun v55_29=>
kv (aF (some 4) v55_29) fun v56_30=>
kv (ldD .one v56_30 h) fun v57_31=>
kv (aC .bad .geq true v57_31 (.int .i64 0) h) fun v58_32=>
kv (gdV v58_32 true (some a0)) fun v60_33=>
kv (gdV v58_32 true (some (i64 i))) fun v61_34=>
kv (gdV v58_32 true (aV (.slice 6) v60_33 v61_34)) fun v62_35=>
kv (gdV v58_32 true (aF (some 4) v62_35)) fun v63_36=>
kv (gdV v58_32 true (ldD .one v63_36 h)) fun v64_37=>
kv (gdV v58_32 true (aC .bad .leq true v64_37 (.int .i64 1099511627776) h)) fun v65_38=>
kv (bC v58_32 v65_38 (.bool false)) fun v66_39=>
ifV v66_39 (
kv (aV (.slice 6) a0 (i64 i)) fun v70_40=>
kv (aF (some 1) v70_40) fun v71_41=>
kv (ldD (.agg 2) v71_41 h) fun v72_42=>
kv (aV (.slice 6) a0 (i64 i)) fun v75_43=>
kv (aF (some 3) v75_43) fun v76_44=>
kv (ldD .one v76_44 h) fun v77_45=>
kv (aV (.slice 6) a0 (i64 i)) fun v81_46=>
kv (aF (some 4) v81_46) fun v82_47=>
kv (ldD .one v82_47 h) fun v83_48=>
cl (Go.Abs.F.qZ E) [v77_45] h fun v78_49 h=>
ldD (.agg 2) v71_41 h=some v72_42 ∧
ldD .one v82_47 h=some v83_48 ∧
cl (Go.Abs.F.lS E) [x,v72_42,v78_49,v83_48] h fun v84_50 h=>
K h) (
K h)):=by
 obtain⟨b,off,u,e,hri,r0,r1,r3,r4,r5⟩:=jJ.row s.2.1 hi
 simp only[e,aB,bE,Nat.add_zero,aS,r0,r1,r4,r5,dD,aG,beq_iff_eq]
 unfold pT at hK
 by_cases hkd:o.kind=1
 ·rw[if_pos hkd]at hK ⊢
  refine aK (aPh ve o.id o.yes vi hk s) ?_
  rintro r g ⟨-,s1⟩
  exact hK _ s1
 rw[if_neg hkd]at hK ⊢
 simp only[fH,aB]
 have hno:¬(0≤o.now∧o.now≤1099511627776)→K h:=fun hn=>by
  rw[if_neg hn]at hK
  exact hK _ (sQ (by omega) s)
 by_cases h0:0≤o.now
 case neg=>
  have e0:decide (o.now≥0)=false:=decide_eq_false (by omega)
  simp only[e0,aQ,Bool.false_eq_true,if_false,aB,dO,aR,aG]
  exact hno fun hn=>h0 hn.1
 have e0:decide (o.now≥0)=true:=decide_eq_true (by omega)
 simp only[e0,aQ,if_true,aB,e,bE,aS,r4,pY,aR,aG,decide_eq_true_eq]
 by_cases h1:o.now≤1099511627776
 case neg=>
  rw[if_neg h1]
  exact hno fun hn=>h1 hn.2
 rw[if_pos h1]
 rw[if_pos ⟨h0,h1⟩]at hK
 simp only[r3,aB]
 rw[aTm]
 refine aK (aSt 8 (by omega) hri s) ?_
 intro lo g s1
 obtain⟨b',off',u',e',_,_,r1',_,r4',_⟩:=jJ.row s1.2.1 hi
 rw[e]at e'
 cases e'
 refine⟨r1',r4',?_⟩
 have hl8:(o.ops.take 8).length≤8:=by rw[List.length_take];omega
 refine aK (aZl ve o.id o.now vi hk (by omega) (fun q hq=>hz q (List.mem_of_mem_take hq)) s1.up1) ?_
 rintro r g2 ⟨w,-,s2⟩
 exact hK _ (s2.re3 [1] rfl)
theorem aZr {st:dC} {o:eG} (vi:dK k st):dK (k+8) (pT st o):=by
 unfold pT
 split
 ·exact aUm vi _ _
 ·split
  ·exact aUo vi _ _ _
  ·exact vi.mono (by omega)
theorem aZs {st:dC} {o:eG}:(pT st o).ov.length≤st.ov.length+1:=by
 unfold pT
 split
 ·rw[xX]
  split
  ·exact Nat.le_succ _
  ·split<;>exact Nat.le_refl _
 ·split
  ·rw[aXd];exact Nat.le_succ _
  ·exact Nat.le_succ _
theorem aOf {κ α:Type} [DecidableEq κ] {n:κ} {x:α}:∀{l:List (κ×α)},Go.Abs.lkp n l=some x→(rmv n l).length+1=l.length
 | [],h=>by simp[Go.Abs.lkp]at h
 | (a,u)::l,h=>by
  simp only[Go.Abs.lkp]at h
  simp only[rmv]
  by_cases ha:a=n
  ·rw[if_pos ha];rfl
  ·rw[if_neg ha]at h
   rw[if_neg ha,List.length_cons,List.length_cons,aOf h]
theorem aWe {st:dC} {id:IdM} (ho:id∉st.ov):(qF st id false).2.sp=st.sp∧(qF st id false).2.ov=id::st.ov ∧
 (st.pt.length≠(qF st id false).2.pt.length∨(qF st id false).2.pt=st.pt):=by
 rw[xX,if_neg ho]
 split
 ·exact⟨rfl,rfl,.inr rfl⟩
 ·rename_i p hp
  refine⟨rfl,rfl,.inl ?_⟩
  have:=aOf hp
  show st.pt.length≠(rmv id st.pt).length
  omega
theorem aD6 {st:dC} (vi:dK k st):∀e∈st.pt,e.2.ops.length≤1000000∧e.2.bQ.length≤1000000:=fun e he=>by
 have h1:=(uX (vi.may e he)).2.1
 have h2:=vi.val8 e he
 omega
set_option maxHeartbeats 4000000 in
theorem aVb (ve:VlE E) (hE:EqE E) (hS:zS E) (so:zT E 1000000) {a0:V} {l:List eG} (w0:jJ h.next h a0 l) (hz:∀o∈l,∀q∈o.ops,q.space.size≤maxLen) (id:IdM) :
 cl (Go.Abs.F.tJ E) [a0,id.agg] h fun r _=>r = .bool true:=by
 have hM:=ve.op.mono
 refine aN ?_
 simp only[Go.Abs.F.tJ]
 obtain⟨N,hN⟩:∃N,h.next=N:=⟨_,rfl⟩
 rw[hN]at w0
 have s0:Sep (frV N a0 l) h []:=⟨by show N≤h.next;omega,w0,[],rfl⟩
 refine aBs (v:=ptr h.next 0) (g:=h.new (.cells (cId id) 2 .rw)) rfl ?_
 have s1:=s0.box (cId id) 2
 generalize h.new (.cells (cId id) 2 .rw)=h1 at s1 ⊢
 generalize h.next=bi at s1 ⊢
 clear s0 w0 hN
 refine aK aRc ?_
 rintro r h2 ⟨rfl,rfl⟩
 simp only[dE,Bool.not_true,aB,aG,Bool.false_eq_true,if_false]
 refine aK (iH 0 s1) ?_
 intro p h3 s2
 refine aK (iH 0 s2) ?_
 intro q h4 s3
 clear s1 s2
 obtain⟨bp,rfl⟩:∃bp,p=ptr bp 0:=by
  obtain⟨b,_,_,_,_,rfl,_⟩:=s3.up1.sV
  exact⟨b,rfl⟩
 obtain⟨bq,rfl⟩:∃bq,q=ptr bq 0:=by
  obtain⟨b,_,_,_,_,rfl,_⟩:=s3.sV
  exact⟨b,rfl⟩
 refine⟨fun m vs g=>∃(i:Nat) (st:dC),vs=[i64 i]∧m=25 - i∧i≤25∧dK (8*i) st∧st.ov.length≤i∧Sep (frV N a0 l) g (eL (8*i) (ptr bp 0) st::eL (8*i) (ptr bq 0) st::aP bi (cId id) 2::[]),25,
  ⟨0,⟨[],[],[],[]⟩,rfl,rfl,by omega,dK.nil,by simp,s3.up1⟩,?_⟩
 clear s3
 rintro m e g ⟨i,st,he,rfl,hi,vi,hov,z⟩
 simp only[List.cons.injEq,and_true]at he
 simp only[he,z.2.1.len g,aB,cN]
 have hend:kv (ldD (.agg 2) (ptr bi 0) g) fun v97_62=>
  cl (Go.Abs.F.lR E) [ptr bp 0,v97_62] g fun v98_63 h=>
  kv (ldD (.agg 2) (ptr bi 0) h) fun v100_64=>
  cl (Go.Abs.F.jG E) [ptr bq 0,v100_64,(.bool false)] h fun v101_65 h=>
  cl (Go.Abs.F.oY E) [ptr bp 0,ptr bq 0] h fun v104_66 h=>
  kv (aC .bool .eql false v104_66 v98_63 h) fun v106_67=>
  v106_67 = .bool true:=by
  rw[ld2 (Sep.get (z.re3 [2,0,1] rfl)),aB]
  refine aK (aZk id z) ?_
  rintro r g1 ⟨rfl,z1⟩
  rw[ld2 (Sep.get (z1.re3 [2,0,1] rfl)),aB]
  refine aK (aPh ve id false vi (by omega) (z1.re3 [1,0,2] rfl)) ?_
  rintro r g2 ⟨-,z2⟩
  have z3:=sQ (k':=8*i+8) (by omega) (z2.re3 [1,0,2] rfl)
  by_cases ho:id∈st.ov
  ·have hd:(qF st id false).2=st:=by rw[xX,if_pos ho]
   rw[hd]at z3
   refine aK (aEm hM so (by omega) hE hS (by omega) (fun _=>rfl) rfl (.inr ⟨rfl,fun _=>rfl⟩) (aD6 vi) (.inr (List.Perm.refl _)) (by omega) (by omega) z3) ?_
   rintro r g3 ⟨rfl,-⟩
   simp[ho]
  ·obtain⟨d1,d2,d3⟩:=aWe (id:=id) ho
   refine aK (aEm hM so (by omega) hE hS (by omega) (fun _=>by rw[d1]) (by rw[d1]) (by
    rcases d3 with d3 | d3
    ·exact .inl d3
    ·exact .inr ⟨by rw[d3],fun _=>by rw[d3]⟩) (aD6 vi) (.inl (by rw[d2];simp)) (by omega) (by rw[d2];simp;omega) z3) ?_
   rintro r g3 ⟨rfl,-⟩
   rw[d2]
   simp[ho]
 by_cases hx1:i<l.length
 case neg=>
  have e1:decide (((i:Nat):Int)<(l.length:Nat))=false:=decide_eq_false (by omega)
  simp only[e1,aQ,Bool.false_eq_true,if_false,aB,aR,aG,dO]
  exact hend
 have e1:decide (((i:Nat):Int)<(l.length:Nat))=true:=decide_eq_true (by omega)
 simp only[e1,aQ,if_true,aB,aR,aG,cN,decide_eq_true_eq]
 clear e1
 by_cases hx2:i<25
 case neg=>
  rw[if_neg (show ¬((i:Nat):Int)<25 by omega)]
  exact hend
 clear hend
 rw[if_pos (show ((i:Nat):Int)<25 by omega)]
 have hg:l[i]? = some l[i]:=List.getElem?_eq_getElem hx1
 have hzo:=hz _ (List.getElem_mem hx1)
 generalize l[i]=o at hg hzo
 refine aBs (v:=.slice (some ⟨g.next,0,none⟩) 2 4) (g:=g.new (.cells [ptr bp 0,ptr bq 0] 1 .rw)) rfl ?_
 have z1:=z.box [ptr bp 0,ptr bq 0] 1
 generalize g.new (.cells [ptr bp 0,ptr bq 0] 1 .rw)=g1 at z1 ⊢
 generalize g.next=bs at z1 ⊢
 clear z
 rw[show bH .slice (.slice (some ⟨bs,0,none⟩) 2 4) g1=some (i64 2) from rfl,aB]
 have vi2:=aZr (o:=o) vi
 refine⟨fun m vs g=>∃j:Nat,vs=[i64 j]∧m=2 - j∧j≤2∧Sep (frV N a0 l) g (eL (if 1≤j then 8*i+8 else 8*i) (ptr bp 0) (if 1≤j then pT st o else st)::eL (if 2≤j then 8*i+8 else 8*i) (ptr bq 0) (if 2≤j then pT st o else st)::aP bs [ptr bp 0,ptr bq 0] 1::aP bi (cId id) 2::[]),2,
  ⟨0,rfl,rfl,by omega,z1.re3 [1,2,0] rfl⟩,?_⟩
 clear z1
 rintro m e13 g2 ⟨j,he,rfl,hj,z2⟩
 simp only[List.cons.injEq,and_true]at he
 simp only[he,cN,aB,aG,decide_eq_true_eq]
 have rj:∀j:Nat,j<2→g2.rd bs j=[ptr bp 0,ptr bq 0][j]?:=fun j hj=>by
  rw[aH (Sep.get (z2.re3 [2,0,1] rfl)) j]
 have hj3:j=0∨j=1∨j=2:=by omega
 rcases hj3 with rfl | rfl | rfl
 ·rw[if_pos (by decide)]
  rw[show aV (.slice 1) (.slice (some ⟨bs,0,none⟩) 2 4) (i64 ((0:Nat):Int))=some (ptr bs 0) from rfl,aB,aS,rj 0 (by decide)]
  simp only[List.getElem?_cons_zero,aB]
  refine aPi ve hg hzo vi (by omega) z2 fun g3 z3=>?_
  rw[cY _ 1 (by omega) (by omega),aB]
  exact⟨1,by omega,1,rfl,rfl,by omega,z3⟩
 ·rw[if_pos (by decide)]
  rw[show aV (.slice 1) (.slice (some ⟨bs,0,none⟩) 2 4) (i64 ((1:Nat):Int))=some (ptr bs 1) from rfl,aB,aS,rj 1 (by decide)]
  simp only[List.getElem?_cons_succ,List.getElem?_cons_zero,aB]
  refine aPi ve hg hzo vi (by omega) z2.up1 fun g3 z3=>?_
  rw[cY _ 1 (by omega) (by omega),aB]
  exact⟨0,by omega,2,rfl,rfl,by omega,z3.up1⟩
 ·rw[if_neg (by decide)]
  have z3:Sep (frV N a0 l) g2 (eL (8*i+8) (ptr bp 0) (pT st o)::eL (8*i+8) (ptr bq 0) (pT st o)::aP bs [ptr bp 0,ptr bq 0] 1::aP bi (cId id) 2::[]):=z2
  have hov2:=aZs (st:=st) (o:=o)
  clear z2 rj
  generalize pT st o=st2 at z3 vi2 hov2
  refine aK (aEm hM so (by omega) hE hS (by omega) (fun _=>rfl) rfl (.inr ⟨rfl,fun _=>rfl⟩) (aD6 vi2) (.inr (List.Perm.refl _)) (by omega) (by omega) z3) ?_
  rintro r g3 ⟨rfl,z4⟩
  simp only[decide_true,Bool.and_self,dE,Bool.not_true,aB,aQ,if_true]
  refine cT rfl (aK (aEm hM so (by omega) hE hS (by omega) (fun _=>rfl) rfl (.inr ⟨rfl,fun _=>rfl⟩) (aD6 vi2) (.inr (List.Perm.refl _)) (by omega) (by omega) z4.up1) ?_)
  rintro r g4 ⟨rfl,z5⟩
  simp only[decide_true,Bool.and_self,dE,Bool.not_true,aB,aQ,if_true,aR,Bool.false_eq_true,if_false,aG]
  rw[cY _ 1 (by omega) (by omega),aB]
  exact⟨25 - (i+1),by omega,i+1,st2,rfl,rfl,by omega,vi2,by omega,z5.re4 [1,0,3] rfl⟩
end Go.Abs

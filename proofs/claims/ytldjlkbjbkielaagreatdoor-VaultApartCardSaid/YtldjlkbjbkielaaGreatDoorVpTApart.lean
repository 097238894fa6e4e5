/- VaultApart, on abstract heaps. -/
import Derived.Test.YtldjlkbjbkielaaGreatDoorVpbe
import Derived.Test.YtldjlkbjbkielaaGreatDoorVpbf
import Derived.Test.YtldjlkbjbkielaaGreatDoorVpar
set_option maxRecDepth 20000
set_option linter.unusedVariables false
set_option linter.unusedSimpArgs false
namespace Go.Abs
open Go
def F.tB (E : FE) : Spec := fun args h K => match args with
| [a0, a1, a2, a3, a4, a5] =>
cl (F.oT E) [] h fun v30_0 h =>
kv (aUn .not v30_0) fun v32_1 =>
ifV v32_1 (
K (.bool false) h) (
kv (bI .str a0 h) fun v35_2 =>
kv (eW false [v35_2, (.int .i64 20)]) fun v36_3 =>
kv (cI .str a0 none (some v36_3) none h) fun v37_4 =>
kv (bI .str a1 h) fun v40_5 =>
kv (eW false [v40_5, (.int .i64 20)]) fun v41_6 =>
kv (cI .str a1 none (some v41_6) none h) fun v42_7 =>
kv (bI .str a2 h) fun v45_8 =>
kv (eW false [v45_8, (.int .i64 50)]) fun v46_9 =>
kv (cI .str a2 none (some v46_9) none h) fun v47_10 =>
kv (bI .str a3 h) fun v50_11 =>
kv (eW false [v50_11, (.int .i64 50)]) fun v51_12 =>
kv (cI .str a3 none (some v51_12) none h) fun v52_13 =>
kv (bP (.struct [(.int .i64 0), (.int .i64 0)] [(0, 1), (1, 1)]) [(0, (.int .i64 1)), (1, (.int .i64 1))]) fun v53_14 =>
kv (bP (.struct [(.int .i64 0), (.int .i64 0)] [(0, 1), (1, 1)]) [(0, (.int .i64 2)), (1, (.int .i64 1))]) fun v54_15 =>
kv (bP (.struct [(.int .i64 0), (.int .i64 0)] [(0, 1), (1, 1)]) [(0, (.int .i64 3)), (1, (.int .i64 1))]) fun v55_16 =>
kP (aQ none (.agg #[(.int .i64 0), (.int .i64 0)]) h) fun v14_17 h =>
kP (aQ none (.agg #[(.int .i64 0), (.int .i64 0)]) h) fun v15_18 h =>
kP (aQ none (.agg #[(.int .i64 0), (.int .i64 0)]) h) fun v16_19 h =>
kH (stD (some 2) v14_17 v53_14 h) fun _ h =>
kH (stD (some 2) v15_18 v54_15 h) fun _ h =>
kH (stD (some 2) v16_19 v55_16 h) fun _ h =>
cl (F.iF E) [] h fun v56_20 h =>
cl (F.iF E) [] h fun v57_21 h =>
kP (cR (some (1, [(.pointer none)])) 2 [(0, v56_20), (1, v57_21)] h) fun v60_22 h =>
kv (bI .slice v60_22 h) fun v61_23 =>
∃ (Inv24 : Nat → List V → aA → Prop) (n24 : Nat), Inv24 n24 [(.int .i64 0)] h ∧ ∀ (n24 : Nat) (e24 : Nat → V) (h : aA), Inv24 n24 [(e24 62)] h →
kv (aC .bad .lss false (e24 62) v61_23 h) fun v63_25 =>
ifV v63_25 (
kv (bG (.slice 1) v60_22 (e24 62)) fun v64_26 =>
kv (ldD .one v64_26 h) fun v65_27 =>
kv (ldD (.agg 2) v16_19 h) fun v67_28 =>
kv (bP (.struct [(.int .i64 0), (.string ⟨#[]⟩), (.string ⟨#[]⟩), (.string ⟨#[]⟩), (.int .i64 0)] [(0, 1), (1, 1), (2, 1), (3, 1), (4, 1)]) [(0, (.int .i64 1)), (1, (.string ⟨#[116]⟩)), (4, (.int .i64 1))]) fun v68_29 =>
kP (cR (some (5, [(.int .i64 0), (.string ⟨#[]⟩), (.string ⟨#[]⟩), (.string ⟨#[]⟩), (.int .i64 0)])) 1 [(0, v68_29)] h) fun v69_30 h =>
cl (F.gM E) [v65_27, v67_28, v69_30, (.int .i64 0)] h fun v70_31 h =>
kv (ldD (.agg 2) v16_19 h) fun v72_32 =>
cl (F.gL E) [v65_27, v72_32, (.bool true)] h fun v73_33 h =>
kv (ldD (.agg 2) v14_17 h) fun v76_34 =>
kv (bP (.struct [(.int .i64 0), (.string ⟨#[]⟩), (.string ⟨#[]⟩), (.string ⟨#[]⟩), (.int .i64 0)] [(0, 1), (1, 1), (2, 1), (3, 1), (4, 1)]) [(0, (.int .i64 4)), (1, (.string ⟨#[116]⟩)), (2, v37_4), (3, v47_10)]) fun v79_35 =>
kP (cR (some (5, [(.int .i64 0), (.string ⟨#[]⟩), (.string ⟨#[]⟩), (.string ⟨#[]⟩), (.int .i64 0)])) 1 [(0, v79_35)] h) fun v80_36 h =>
cl (F.gM E) [v65_27, v76_34, v80_36, (.int .i64 1)] h fun v81_37 h =>
kv (bD v81_37 0) fun v82_38 =>
kv (bD v81_37 1) fun v83_39 =>
kv (ldD (.agg 2) v15_18 h) fun v86_40 =>
kv (bP (.struct [(.int .i64 0), (.string ⟨#[]⟩), (.string ⟨#[]⟩), (.string ⟨#[]⟩), (.int .i64 0)] [(0, 1), (1, 1), (2, 1), (3, 1), (4, 1)]) [(0, (.int .i64 4)), (1, (.string ⟨#[116]⟩)), (2, v42_7), (3, v52_13)]) fun v89_41 =>
kP (cR (some (5, [(.int .i64 0), (.string ⟨#[]⟩), (.string ⟨#[]⟩), (.string ⟨#[]⟩), (.int .i64 0)])) 1 [(0, v89_41)] h) fun v90_42 h =>
cl (F.gM E) [v65_27, v86_40, v90_42, (.int .i64 2)] h fun v91_43 h =>
kv (bD v91_43 0) fun v92_44 =>
kv (bD v91_43 1) fun v93_45 =>
kv (aUn .not v83_39) fun v95_46 =>
kv (gdV v95_46 false (some v93_45)) fun v97_47 =>
kv (gdV v95_46 false (some v37_4)) fun v98_48 =>
kv (gdV v95_46 false (some v42_7)) fun v99_49 =>
kv (gdV v95_46 false (aC .bad .neq false v98_48 v99_49 h)) fun v100_50 =>
kv (gdV v95_46 false (aC .bool .neq false v97_47 v100_50 h)) fun v101_51 =>
kv (aW v95_46 (.bool true) v101_51) fun v102_52 =>
ifV v102_52 (
K (.bool false) h) (
kv (aC .bad .add true (e24 62) (.int .i64 1) h) fun v103_53 =>
∃ m, m < n24 ∧ Inv24 m [v103_53] h)) (
kv (ldD (.agg 2) v14_17 h) fun v105_54 =>
cl (F.gL E) [v56_20, v105_54, a4] h fun v107_55 h =>
kv (ldD (.agg 2) v15_18 h) fun v109_56 =>
cl (F.gL E) [v56_20, v109_56, a5] h fun v111_57 h =>
kv (ldD (.agg 2) v15_18 h) fun v113_58 =>
cl (F.gL E) [v57_21, v113_58, a5] h fun v115_59 h =>
kv (ldD (.agg 2) v14_17 h) fun v117_60 =>
cl (F.gL E) [v57_21, v117_60, a4] h fun v119_61 h =>
cl (F.nL E) [v56_20, (.string ⟨#[116]⟩)] h fun v121_62 h =>
kv (aC (.ptr true) .eql true v121_62 (.pointer none) h) fun v123_63 =>
kv (gdV v123_63 false (some v56_20)) fun v125_64 =>
kv (gdV v123_63 false (some v57_21)) fun v126_65 =>
gdC v123_63 false h (fun K66 => cl (F.rI E) [v125_64, v126_65] h fun v h => K66 v h) fun v127_67 h =>
kv (gdV v123_63 false (aUn .not v127_67)) fun v128_68 =>
kv (aW v123_63 (.bool true) v128_68) fun v129_69 =>
ifV v129_69 (
K (.bool false) h) (
kv (aM v121_62) fun v132_70 =>
kv (aE (some 1) v132_70) fun v133_71 =>
kv (ldD .one v133_71 h) fun v134_72 =>
cl (F.dK E) [v134_72, v37_4] h fun v136_73 h =>
kv (bD v136_73 0) fun v137_74 =>
kv (bD v136_73 1) fun v138_75 =>
kv (aM v121_62) fun v141_76 =>
kv (aE (some 1) v141_76) fun v142_77 =>
kv (ldD .one v142_77 h) fun v143_78 =>
cl (F.dK E) [v143_78, v42_7] h fun v145_79 h =>
kv (bD v145_79 0) fun v146_80 =>
kv (bD v145_79 1) fun v147_81 =>
kv (aC .bad .eql false v37_4 v42_7 h) fun v150_82 =>
ifV v150_82 (
kv (aC .bool .eql false v138_75 a4 h) fun v153_83 =>
kv (gdV v153_83 true (some a4)) fun v155_84 =>
kv (gdV v153_83 true (aUn .not v155_84)) fun v156_85 =>
kv (gdV v153_83 true (some v156_85)) fun v157_86 =>
kv (gdV v157_86 false (some v137_74)) fun v158_87 =>
kv (gdV v157_86 false (some v47_10)) fun v159_88 =>
kv (gdV v157_86 false (aC .bad .eql false v158_87 v159_88 h)) fun v160_89 =>
kv (gdV v153_83 true (aW v157_86 (.bool true) v160_89)) fun v161_90 =>
kv (aW v153_83 v161_90 (.bool false)) fun v162_91 =>
K v162_91 h) (
kv (aC .bool .eql false v138_75 a4 h) fun v165_92 =>
kv (gdV v165_92 true (some v147_81)) fun v167_93 =>
kv (gdV v165_92 true (some a5)) fun v168_94 =>
kv (gdV v165_92 true (aC .bool .eql false v167_93 v168_94 h)) fun v169_95 =>
kv (aW v165_92 v169_95 (.bool false)) fun v170_96 =>
kv (gdV v170_96 true (some a4)) fun v172_97 =>
kv (gdV v170_96 true (aUn .not v172_97)) fun v173_98 =>
kv (gdV v170_96 true (some v173_98)) fun v174_99 =>
kv (gdV v174_99 false (some v137_74)) fun v175_100 =>
kv (gdV v174_99 false (some v47_10)) fun v176_101 =>
kv (gdV v174_99 false (aC .bad .eql false v175_100 v176_101 h)) fun v177_102 =>
kv (gdV v170_96 true (aW v174_99 (.bool true) v177_102)) fun v178_103 =>
kv (aW v170_96 v178_103 (.bool false)) fun v179_104 =>
kv (gdV v179_104 true (some a5)) fun v181_105 =>
kv (gdV v179_104 true (aUn .not v181_105)) fun v182_106 =>
kv (gdV v179_104 true (some v182_106)) fun v183_107 =>
kv (gdV v183_107 false (some v146_80)) fun v184_108 =>
kv (gdV v183_107 false (some v52_13)) fun v185_109 =>
kv (gdV v183_107 false (aC .bad .eql false v184_108 v185_109 h)) fun v186_110 =>
kv (gdV v179_104 true (aW v183_107 (.bool true) v186_110)) fun v187_111 =>
kv (aW v179_104 v187_111 (.bool false)) fun v188_112 =>
K v188_112 h))))
| _ => False
end Go.Abs
set_option linter.unusedSimpArgs false
set_option linter.unusedVariables false
namespace Go.Abs
open Go Go.Proofs
variable {E : FE} {h : aA} {v : V}
abbrev st0 : dL := ⟨[], [], [], []⟩
end Go.Abs
namespace Go.Abs
open Go Go.Proofs
variable {E : FE} {h : aA} {v : V} {F : Fr} {L : List Pl}
theorem zW (s : ByteArray) (n : Nat) (h : aA) {X : V → Prop} (hX : X (str (s.extract 0 (min s.size n)))) :
 kv (bI .str (str s) h) fun v20 => kv (eW false [v20, i64 n]) fun v21 => kv (cI .str (str s) none (some v21) none h) X := by
 have e1 : bI .str (str s) h = some (i64 s.size) := rfl
 have e2 : min ((s.size : Nat) : Int) (n : Int) = ((min s.size n : Nat) : Int) := by omega
 rw [e1, aB, min2, aB, e2]
 have e3 : cI .str (str s) none (some (i64 ((min s.size n : Nat) : Int))) none h = some (str (s.extract 0 (min s.size n))) := by
  have h1 : (0 : Int) ≤ ((min s.size n : Nat) : Int) ∧ ((min s.size n : Nat) : Int) ≤ ((s.size : Nat) : Int) := by omega
  simp only [cI, cL, dQ, if_pos h1, Int.toNat_natCast, Option.map_some]
 rw [e3, aB]
 exact hX
theorem zV (s : ByteArray) (n : Nat) : (s.extract 0 (min s.size n)).size ≤ n := by
 rw [ByteArray.size_extract]
 omega
/-! ### Texts in a list, one by one -/
theorem aU8 {st : dL} {id : IdM} {ops : List Oq} {now : Int} {bN : List ByteArray} {view : List (ByteArray × Option SpM)} (ho : id ∉ st.ov) (ha : gQ ops = true) (hp : lkp id st.pt = none) (hl : st.lk = []) (hv : oA st.sp st.pt now ops [] [] = some (bN, view)) :
 cV st id ops now = ((bN, true), { st with lk := cF id (ops.map cA) st.lk, pt := ins id ⟨ops, bN, now, view⟩ st.pt }) := by
 unfold cV
 rw [if_neg (by simp [ho, ha])]
 have hb : blocked id (ops.map cA) st.lk = false := by rw [hl]; rfl
 simp only [hp, hb, Bool.false_eq_true, if_false, hv]
abbrev tN : ByteArray := ⟨#[116]⟩
end Go.Abs
namespace Go.Abs
open Go Go.Proofs
variable {E : FE} {h : aA} {F : Fr} {L : List Pl}
/-! ### Plain -/
abbrev idA : IdM := ⟨1, 1⟩
abbrev idB : IdM := ⟨2, 1⟩
abbrev idC : IdM := ⟨3, 1⟩
abbrev vW : List Oq := [⟨1, tN, ⟨#[]⟩, ⟨#[]⟩, 1⟩]
abbrev dU (k v : ByteArray) : List Oq := [⟨4, tN, k, v, 0⟩]
abbrev eP (ps : List Pr) : SpM := ⟨⟨#[]⟩, 1, ps, 1, [], [], 1⟩
abbrev eI (k : ByteArray) : aZ := ⟨tN, k, false⟩
abbrev eX (k v : ByteArray) (now : Int) : bZ := ⟨dU k v, [⟨#[]⟩], now, [(tN, some (eP [⟨k, v, 0⟩]))]⟩
def apM : dL := (jG (cV st0 idC vW 0).2 idC true).2
theorem aPa : apM = ⟨[(tN, eP [])], [], [], [idC]⟩ := by rfl
theorem aMg {k v : ByteArray} (hk : k.size ≤ 20) (hv : v.size ≤ 50) : gQ (dU k v) = true := by
 have h1 : pK tN = true := by decide
 have h2 : (tN).size = 1 := rfl
 simp [gQ, jM, kW, kS, h1, h2, hk, show v.size ≤ 100 by omega]
theorem aMi (k v : ByteArray) (pt : List (IdM × bZ)) (now : Int) : oA [(tN, eP [])] pt now (dU k v) [] [] = some ([⟨#[]⟩], [(tN, some (eP [⟨k, v, 0⟩]))]) := by
 have d1 : fM [(tN, eP [])] pt now [] ⟨4, tN, k, v, 0⟩ = (⟨#[]⟩, 0, [(tN, some (eP [⟨k, v, 0⟩]))]) := by
  simp [fM, cN, lkp, ins, SpM.act, cG]
 rw [aFy, d1, if_pos rfl]
 rfl
theorem aHt {k v : ByteArray} (hk : k.size ≤ 20) (hv : v.size ≤ 50) : cV apM idA (dU k v) 1 = (([⟨#[]⟩], true), ⟨[(tN, eP [])], [(eI k, idA)], [(idA, eX k v 1)], [idC]⟩) := by
 rw [aPa, aU8 (by decide) (aMg hk hv) rfl rfl (aMi k v [] 1)]
 rfl
theorem aHv {k1 v1 k2 v2 : ByteArray} (hk : k2.size ≤ 20) (hv : v2.size ≤ 50) (hne : k1 ≠ k2) : cV ⟨[(tN, eP [])], [(eI k1, idA)], [(idA, eX k1 v1 1)], [idC]⟩ idB (dU k2 v2) 2 =
 (([⟨#[]⟩], true), ⟨[(tN, eP [])], [(eI k1, idA), (eI k2, idB)], [(idA, eX k1 v1 1), (idB, eX k2 v2 2)], [idC]⟩) := by
 unfold cV
 rw [if_neg (by rw [aMg hk hv]; simp)]
 have e1 : lkp idB [(idA, eX k1 v1 1)] = none := rfl
 have e2 : blocked idB ((dU k2 v2).map cA) [(eI k1, idA)] = false := by
  have h1 : k2 ≠ k1 := fun e => hne e.symm
  simp [blocked, cA, eJ, h1]
 have e3 : cF idB ((dU k2 v2).map cA) [(eI k1, idA)] = [(eI k1, idA), (eI k2, idB)] := by
  simp [cF, cA, ins, hne]
 simp only [e1, e2, Bool.false_eq_true, if_false, aMi, e3]
 rfl
theorem aHu {k1 v1 v2 : ByteArray} : cV ⟨[(tN, eP [])], [(eI k1, idA)], [(idA, eX k1 v1 1)], [idC]⟩ idB (dU k1 v2) 2 =
 (([], false), ⟨[(tN, eP [])], [(eI k1, idA)], [(idA, eX k1 v1 1)], [idC]⟩) := by
 unfold cV
 split
 · rfl
 have e1 : lkp idB [(idA, eX k1 v1 1)] = none := rfl
 have e2 : blocked idB ((dU k1 v2).map cA) [(eI k1, idA)] = true := by simp [blocked, cA, eJ]
 simp only [e1, e2, if_true]
theorem uU {ps : List Pr} {lk : List (aZ × IdM)} {pt : List (IdM × bZ)} {ov : List IdM} {id : IdM} {k v : ByteArray} {now : Int} (yes : Bool) (ho : id ∉ ov) (hp : lkp id pt = some (eX k v now)) (ha : cO lk id tN = false) :
 (jG ⟨[(tN, eP ps)], lk, pt, ov⟩ id yes).2 = ⟨[(tN, eP (if yes then cG ⟨k, v, 0⟩ ps else ps))], cX id lk, rmv id pt, id :: ov⟩ := by
 rw [zX, if_neg ho]
 simp only [hp]
 cases yes with
 | false => rfl
 | true => simp [dD, ha, gX, lkp, ins, eU, bU, fQ]
theorem aIi {sp : List (ByteArray × SpM)} {lk : List (aZ × IdM)} {pt : List (IdM × bZ)} {ov : List IdM} {id : IdM} (yes : Bool) (ho : id ∉ ov) (hp : lkp id pt = none) : (jG ⟨sp, lk, pt, ov⟩ id yes).2 = ⟨sp, lk, pt, id :: ov⟩ := by
 rw [zX, if_neg ho]
 simp only [hp]
theorem put_comm {a b : Pr} (hne : a.key ≠ b.key) : cG b (cG a []) = cG a (cG b []) := by
 simp only [cG]
 have hn : ¬ b.key = a.key := fun e => hne e.symm
 have hk : kl a.key ≠ kl b.key := fun e => hne (qS e)
 by_cases h1 : kl a.key < kl b.key
 · have h2 : ¬ kl b.key < kl a.key := fun h2 => fQ _ (List.lt_trans h1 h2)
   simp [h1, h2, hn, hne, cG]
 · have h2 := qC h1 hk
   simp [h1, h2, hn, hne, cG]
def apS (k1 v1 k2 v2 : ByteArray) : (List ByteArray × Bool) × dL := cV (cV apM idA (dU k1 v1) 1).2 idB (dU k2 v2) 2
theorem aPc {k1 v1 k2 v2 : ByteArray} (hk1 : k1.size ≤ 20) (hv1 : v1.size ≤ 50) (hk2 : k2.size ≤ 20) (hv2 : v2.size ≤ 50) (y1 y2 : Bool) {S1 S2 : dL}
 (h1 : S1 = (jG (jG (apS k1 v1 k2 v2).2 idA y1).2 idB y2).2) (h2 : S2 = (jG (jG (apS k1 v1 k2 v2).2 idB y2).2 idA y1).2) :
 ∃ P, S1.sp = [(tN, eP P)] ∧ S1.pt = [] ∧ S1.ov = [idB, idA, idC] ∧ S2.sp = [(tN, eP P)] ∧ S2.pt = [] ∧ S2.ov = [idA, idB, idC] ∧
  bU k1 P = (if y1 then some ⟨k1, v1, 0⟩ else none) ∧ (k1 ≠ k2 → bU k2 P = (if y2 then some ⟨k2, v2, 0⟩ else none)) := by
 unfold apS at h1 h2
 rw [aHt hk1 hv1] at h1 h2
 by_cases hk : k1 = k2
 · subst hk
   rw [aHu] at h1 h2
   have e1 := uU (ps := []) (lk := [(eI k1, idA)]) (pt := [(idA, eX k1 v1 1)]) (ov := [idC]) (id := idA) (k := k1) (v := v1) (now := 1) y1 (by decide) rfl (by simp [cO])
   have e2 := aIi (sp := [(tN, eP (if y1 = true then cG ⟨k1, v1, 0⟩ [] else []))]) (lk := cX idA [(eI k1, idA)]) (pt := rmv idA [(idA, eX k1 v1 1)]) (ov := [idA, idC]) (id := idB) y2 (by decide) rfl
   have e3 := aIi (sp := [(tN, eP [])]) (lk := [(eI k1, idA)]) (pt := [(idA, eX k1 v1 1)]) (ov := [idC]) (id := idB) y2 (by decide) rfl
   have e4 := uU (ps := []) (lk := [(eI k1, idA)]) (pt := [(idA, eX k1 v1 1)]) (ov := [idB, idC]) (id := idA) (k := k1) (v := v1) (now := 1) y1 (by decide) rfl (by simp [cO])
   rw [e1, e2] at h1
   rw [e3, e4] at h2
   subst h1 h2
   refine ⟨_, rfl, rfl, rfl, rfl, rfl, rfl, ?_, fun h => absurd rfl h⟩
   cases y1 <;> simp [bU, cG, fQ]
 · rw [aHv hk2 hv2 hk] at h1 h2
   have hk' : ¬ k2 = k1 := fun e => hk e.symm
   have e1 := uU (ps := []) (lk := [(eI k1, idA), (eI k2, idB)]) (pt := [(idA, eX k1 v1 1), (idB, eX k2 v2 2)]) (ov := [idC]) (id := idA) (k := k1) (v := v1) (now := 1) y1 (by decide) rfl (by simp [cO])
   have e2 := uU (ps := if y1 = true then cG ⟨k1, v1, 0⟩ [] else []) (lk := cX idA [(eI k1, idA), (eI k2, idB)]) (pt := rmv idA [(idA, eX k1 v1 1), (idB, eX k2 v2 2)]) (ov := [idA, idC]) (id := idB) (k := k2) (v := v2) (now := 2) y2 (by decide) rfl (by simp [cO, cX])
   have e3 := uU (ps := []) (lk := [(eI k1, idA), (eI k2, idB)]) (pt := [(idA, eX k1 v1 1), (idB, eX k2 v2 2)]) (ov := [idC]) (id := idB) (k := k2) (v := v2) (now := 2) y2 (by decide) rfl (by simp [cO])
   have e4 := uU (ps := if y2 = true then cG ⟨k2, v2, 0⟩ [] else []) (lk := cX idB [(eI k1, idA), (eI k2, idB)]) (pt := rmv idB [(idA, eX k1 v1 1), (idB, eX k2 v2 2)]) (ov := [idB, idC]) (id := idA) (k := k1) (v := v1) (now := 1) y1 (by decide) rfl (by simp [cO, cX])
   have hc : (if y1 = true then cG ⟨k1, v1, 0⟩ (if y2 = true then cG ⟨k2, v2, 0⟩ [] else []) else (if y2 = true then cG ⟨k2, v2, 0⟩ [] else [])) = (if y2 = true then cG ⟨k2, v2, 0⟩ (if y1 = true then cG ⟨k1, v1, 0⟩ [] else []) else (if y1 = true then cG ⟨k1, v1, 0⟩ [] else [])) := by
    cases y1 <;> cases y2 <;> first | rfl | exact put_comm (a := ⟨k2, v2, 0⟩) (b := ⟨k1, v1, 0⟩) (fun e => hk e.symm)
   rw [e1, e2] at h1
   rw [e3, e4, hc] at h2
   subst h1 h2
   refine ⟨_, rfl, rfl, rfl, rfl, rfl, rfl, ?_, fun _ => ?_⟩
   · cases y1 <;> cases y2 <;> simp [aAt, hk, hk', bU]
   · cases y1 <;> cases y2 <;> simp [aAt, hk, hk', bU]
theorem aPb {k1 v1 k2 v2 : ByteArray} (hk1 : k1.size ≤ 20) (hv1 : v1.size ≤ 50) (hk2 : k2.size ≤ 20) (hv2 : v2.size ≤ 50) : (cV apM idA (dU k1 v1) 1).1.2 = true ∧ (apS k1 v1 k2 v2).1.2 = !decide (k1 = k2) := by
 unfold apS
 rw [aHt hk1 hv1]
 refine ⟨rfl, ?_⟩
 by_cases hk : k1 = k2
 · subst hk
   rw [aHu]
   simp
 · rw [aHv hk2 hv2 hk]
   simp [hk]
/-! ### The call -/
theorem aJn {l : List Oq} (h : ∀ o ∈ l, o.space = tN) : ∀ o ∈ l, o.space.size ≤ maxLen := fun o ho => by rw [h o ho]; decide
set_option maxHeartbeats 1000000 in
/-- What is done to each of the two vaults. -/
theorem aHw {p : V} {ba bb bc : Nat} {k1 k2 v1 v2 : ByteArray} (ve : VlE E) (hk1 : k1.size ≤ 20) (hv1 : v1.size ≤ 50) (hk2 : k2.size ≤ 20) (hv2 : v2.size ≤ 50)
 (s : Sep F h (cT 0 p st0 :: aI ba (cId idA) 2 :: aI bb (cId idB) 2 :: aI bc (cId idC) 2 :: L)) {A : Prop} {X : aA → Prop}
 (hX : ∀ h', Sep F h' (cT 32 p (apS k1 v1 k2 v2).2 :: aI ba (cId idA) 2 :: aI bb (cId idB) 2 :: aI bc (cId idC) 2 :: L) → X h') :
kv (ldD (.agg 2) (ptr bc 0) h) fun v28 =>
kv (bP (.struct [(.int .i64 0), (.string ⟨#[]⟩), (.string ⟨#[]⟩), (.string ⟨#[]⟩), (.int .i64 0)] [(0, 1), (1, 1), (2, 1), (3, 1), (4, 1)]) [(0, (.int .i64 1)), (1, (.string ⟨#[116]⟩)), (4, (.int .i64 1))]) fun v29 =>
kP (cR (some (5, [(.int .i64 0), (.string ⟨#[]⟩), (.string ⟨#[]⟩), (.string ⟨#[]⟩), (.int .i64 0)])) 1 [(0, v29)] h) fun v30 h =>
cl (Go.Abs.F.gM E) [p, v28, v30, (.int .i64 0)] h fun v31 h =>
kv (ldD (.agg 2) (ptr bc 0) h) fun v32 =>
cl (Go.Abs.F.gL E) [p, v32, (.bool true)] h fun v33 h =>
kv (ldD (.agg 2) (ptr ba 0) h) fun v34 =>
kv (bP (.struct [(.int .i64 0), (.string ⟨#[]⟩), (.string ⟨#[]⟩), (.string ⟨#[]⟩), (.int .i64 0)] [(0, 1), (1, 1), (2, 1), (3, 1), (4, 1)]) [(0, (.int .i64 4)), (1, (.string ⟨#[116]⟩)), (2, (str k1)), (3, (str v1))]) fun v35 =>
kP (cR (some (5, [(.int .i64 0), (.string ⟨#[]⟩), (.string ⟨#[]⟩), (.string ⟨#[]⟩), (.int .i64 0)])) 1 [(0, v35)] h) fun v36 h =>
cl (Go.Abs.F.gM E) [p, v34, v36, (.int .i64 1)] h fun v37 h =>
kv (bD v37 0) fun v38 =>
kv (bD v37 1) fun v39 =>
kv (ldD (.agg 2) (ptr bb 0) h) fun v40 =>
kv (bP (.struct [(.int .i64 0), (.string ⟨#[]⟩), (.string ⟨#[]⟩), (.string ⟨#[]⟩), (.int .i64 0)] [(0, 1), (1, 1), (2, 1), (3, 1), (4, 1)]) [(0, (.int .i64 4)), (1, (.string ⟨#[116]⟩)), (2, (str k2)), (3, (str v2))]) fun v41 =>
kP (cR (some (5, [(.int .i64 0), (.string ⟨#[]⟩), (.string ⟨#[]⟩), (.string ⟨#[]⟩), (.int .i64 0)])) 1 [(0, v41)] h) fun v42 h =>
cl (Go.Abs.F.gM E) [p, v40, v42, (.int .i64 2)] h fun v43 h =>
kv (bD v43 0) fun v44 =>
kv (bD v43 1) fun v45 =>
kv (aUn .not v39) fun v46 =>
kv (gdV v46 false (some v45)) fun v47 =>
kv (gdV v46 false (some (str k1))) fun v48 =>
kv (gdV v46 false (some (str k2))) fun v49 =>
kv (gdV v46 false (aC .bad .neq false v48 v49 h)) fun v50 =>
kv (gdV v46 false (aC .bool .neq false v47 v50 h)) fun v51 =>
kv (aW v46 (.bool true) v51) fun v52 =>
ifV v52 A (X h) := by
 have i0 : dH 0 st0 := dH.nil
 have hok := aPb hk1 hv1 hk2 hv2
 rw [ld2 (Sep.get (s.re4 [3] rfl)), aB]
 refine kQ (v := Oq.agg ⟨1, tN, ⟨#[]⟩, ⟨#[]⟩, 1⟩) rfl ?_
 refine aAy (v := .slice (some ⟨h.next, 0, none⟩) 1 2) (g := h.new (.cells (dOp.flat vW) 5 .rw)) rfl ?_
 have s1 := s.aFj vW (by simp)
 refine aL (aGr (k := 0) (st := st0) (ops := vW) ve idC 0 i0 (by omega) (by decide) (by decide) s1.up1) ?_
 rintro r h2 ⟨w, rfl, s2⟩
 have i1 := xZ i0 idC vW 0
 rw [ld2 (Sep.get (s2.re6 [5] rfl)), aB]
 refine aL (zA ve idC true i1 (by omega) (s2.re6 [1, 3, 4, 5] rfl)) ?_
 rintro r h3 ⟨rfl, s3⟩
 have i2 : dH 16 apM := aAw i1 idC true
 have s3 : Sep F h3 (cT 16 p apM :: aI ba (cId idA) 2 :: aI bb (cId idB) 2 :: aI bc (cId idC) 2 :: L) := s3
 clear s2 s1 s
 rw [ld2 (Sep.get (s3.re4 [1] rfl)), aB]
 refine kQ (v := Oq.agg ⟨4, tN, k1, v1, 0⟩) rfl ?_
 refine aAy (v := .slice (some ⟨h3.next, 0, none⟩) 1 2) (g := h3.new (.cells (dOp.flat (dU k1 v1)) 5 .rw)) rfl ?_
 have s4 := s3.aFj (dU k1 v1) (by simp)
 refine aL (aGr (k := 16) (st := apM) (ops := dU k1 v1) ve idA 1 i2 (by omega) (by simp) (aJn (by simp)) s4.up1) ?_
 rintro r h5 ⟨w5, rfl, s5⟩
 have i3 : dH 24 (cV apM idA (dU k1 v1) 1).2 := xZ i2 idA (dU k1 v1) 1
 have s5 : Sep F h5 (iU w5 _ :: cT 24 p (cV apM idA (dU k1 v1) 1).2 :: cS _ _ :: aI ba (cId idA) 2 :: aI bb (cId idB) 2 :: aI bc (cId idC) 2 :: L) := s5
 rw [hok.1]
 simp only [bQ, List.getElem?_toArray, List.getElem?_cons_zero, List.getElem?_cons_succ, aB]
 have s6 := s5.re6 [1, 3, 4, 5] rfl
 rw [ld2 (Sep.get (s6.re4 [2] rfl)), aB]
 refine kQ (v := Oq.agg ⟨4, tN, k2, v2, 0⟩) rfl ?_
 refine aAy (v := .slice (some ⟨h5.next, 0, none⟩) 1 2) (g := h5.new (.cells (dOp.flat (dU k2 v2)) 5 .rw)) rfl ?_
 have s7 := s6.aFj (dU k2 v2) (by simp)
 refine aL (aGr (k := 24) (st := (cV apM idA (dU k1 v1) 1).2) (ops := dU k2 v2) ve idB 2 i3 (by omega) (by simp) (aJn (by simp)) s7.up1) ?_
 rintro r h8 ⟨w8, rfl, s8⟩
 have e8 : (cV (cV apM idA (dU k1 v1) 1).2 idB (dU k2 v2) 2).1.2 = !decide (k1 = k2) := hok.2
 rw [e8]
 simp only [bQ, List.getElem?_toArray, List.getElem?_cons_zero, List.getElem?_cons_succ, aB, dB, Bool.not_true, aT, if_true, wG, aPs, beq_self_eq_true, aY, Bool.false_eq_true, if_false, aF]
 exact hX _ (s8.re6 [1, 3, 4, 5] rfl)
set_option maxHeartbeats 2000000 in
theorem aTg (ve : VlE E) (hE : EqE E) (k1 k2 v1 v2 : ByteArray) (y1 y2 : Bool) : cl (Go.Abs.F.tB E) [str k1, str k2, str v1, str v2, .bool y1, .bool y2] h fun r _ => r = .bool true := by
 refine aO ?_
 simp only [Go.Abs.F.tB]
 refine aL aPn ?_
 rintro r h1 ⟨rfl, rfl⟩
 simp only [dB, Bool.not_true, aB, aF, Bool.false_eq_true, if_false]
 refine zW k1 20 h1 (zW k2 20 h1 (zW v1 50 h1 (zW v2 50 h1 ?_)))
 have hk1 := zV k1 20
 have hk2 := zV k2 20
 have hv1 := zV v1 50
 have hv2 := zV v2 50
 generalize k1.extract 0 (min k1.size 20) = k1 at hk1 ⊢
 generalize k2.extract 0 (min k2.size 20) = k2 at hk2 ⊢
 generalize v1.extract 0 (min v1.size 50) = v1 at hv1 ⊢
 generalize v2.extract 0 (min v2.size 50) = v2 at hv2 ⊢
 have s0 : Sep (⟨h1.next, fun _ => True, fun _ _ _ _ _ _ _ => trivial⟩ : Fr) h1 [] := ⟨Nat.le_refl _, trivial, [], rfl⟩
 generalize (⟨h1.next, fun _ => True, fun _ _ _ _ _ _ _ => trivial⟩ : Fr) = Fq at s0
 refine kQ (v := idA.agg) rfl (kQ (v := idB.agg) rfl (kQ (v := idC.agg) rfl ?_))
 rw [yH, bA]
 have s1 := s0.box (cId ⟨0, 0⟩) 2
 generalize h1.new (.cells (cId ⟨0, 0⟩) 2 .rw) = h2 at s1 ⊢
 generalize h1.next = ba at s1 ⊢
 rw [yH, bA]
 have s2 := s1.box (cId ⟨0, 0⟩) 2
 generalize h2.new (.cells (cId ⟨0, 0⟩) 2 .rw) = h3 at s2 ⊢
 generalize h2.next = bb at s2 ⊢
 rw [yH, bA]
 have s3 := s2.box (cId ⟨0, 0⟩) 2
 generalize h3.new (.cells (cId ⟨0, 0⟩) 2 .rw) = h4 at s3 ⊢
 generalize h3.next = bc at s3 ⊢
 rw [st2 (Sep.get (s3.re3 [2] rfl)), bR]
 have s4 := Sep.write (cs' := cId idA) (s3.re3 [2, 1, 0] rfl)
 generalize aA.put _ _ _ = h5 at s4 ⊢
 rw [st2 (Sep.get (s4.re3 [1] rfl)), bR]
 have s5 := Sep.write (cs' := cId idB) (s4.re3 [1, 0, 2] rfl)
 generalize aA.put _ _ _ = h6 at s5 ⊢
 rw [st2 (Sep.get (s5.re3 [2] rfl)), bR]
 have s6 := Sep.write (cs' := cId idC) (s5.re3 [2, 1, 0] rfl)
 generalize aA.put _ _ _ = h7 at s6 ⊢
 refine aL (iF 0 s6) ?_
 intro pv h8 s8
 refine aL (iF 0 s8) ?_
 intro pw h9 s9
 obtain ⟨bw, _, _, _, _, ew, _⟩ := Sep.sK s9
 obtain ⟨bv, _, _, _, _, ev, _⟩ := Sep.sK s9.up1
 have s10 : Sep Fq (h9.new (.cells [pv, pw] 1 .rw)) (aI h9.next [pv, pw] 1 :: cT 0 pw st0 :: cT 0 pv st0 :: aI bc (cId idC) 2 :: aI ba (cId idA) 2 :: aI bb (cId idB) 2 :: []) := s9.box [pv, pw] 1
 refine aAy (v := .slice (some ⟨h9.next, 0, none⟩) 2 4) (g := h9.new (.cells [pv, pw] 1 .rw)) (by rw [ev, ew]; rfl) ?_
 clear s0 s1 s2 s3 s4 s5 s6 s8 s9
 generalize h9.new (.cells [pv, pw] 1 .rw) = h10 at s10 ⊢
 generalize h9.next = bs at s10 ⊢
 refine kQ (v := i64 2) rfl ?_
 refine ⟨fun n vs h' => ∃ i : Nat, vs = [i64 i] ∧ n = 2 - i ∧ i ≤ 2 ∧ Sep Fq h' (cT (if 0 < i then 32 else 0) pv (if 0 < i then (apS k1 v1 k2 v2).2 else st0) :: cT (if 1 < i then 32 else 0) pw (if 1 < i then (apS k1 v1 k2 v2).2 else st0) ::
  aI bs [pv, pw] 1 :: aI ba (cId idA) 2 :: aI bb (cId idB) 2 :: aI bc (cId idC) 2 :: []), 2, ⟨0, rfl, rfl, by omega, s10.re6 [2, 1, 0, 4, 5, 3] rfl⟩, ?_⟩
 clear s10
 rintro n e h11 ⟨i, he, rfl, hi, s11⟩
 simp only [List.cons.injEq, and_true] at he
 rw [he]
 have hi3 : i = 0 ∨ i = 1 ∨ i = 2 := by omega
 rcases hi3 with rfl | rfl | rfl
 · have s11 : Sep Fq h11 (cT 0 pv st0 :: cT 0 pw st0 :: aI bs [pv, pw] 1 :: aI ba (cId idA) 2 :: aI bb (cId idB) 2 :: aI bc (cId idC) 2 :: []) := s11
   have rb : h11.rd bs 0 = some pv := by rw [aG (Sep.get (s11.re6 [2] rfl)) 0]; rfl
   refine kQ (v := .bool true) rfl ?_
   rw [aF, if_pos rfl]
   refine kQ (v := ptr bs 0) rfl ?_
   rw [bC, rb, aB]
   refine aHw ve hk1 hv1 hk2 hv2 (s11.re6 [0, 3, 4, 5, 1, 2] rfl) fun h12 s12 => ?_
   refine kQ (v := i64 1) rfl ⟨1, by omega, 1, rfl, rfl, by omega, s12.re6 [0, 4, 5, 1, 2, 3] rfl⟩
 · have s11 : Sep Fq h11 (cT 32 pv (apS k1 v1 k2 v2).2 :: cT 0 pw st0 :: aI bs [pv, pw] 1 :: aI ba (cId idA) 2 :: aI bb (cId idB) 2 :: aI bc (cId idC) 2 :: []) := s11
   have rb : h11.rd bs 1 = some pw := by rw [aG (Sep.get (s11.re6 [2] rfl)) 1]; rfl
   refine kQ (v := .bool true) rfl ?_
   rw [aF, if_pos rfl]
   refine kQ (v := ptr bs 1) rfl ?_
   rw [bC, rb, aB]
   refine aHw ve hk1 hv1 hk2 hv2 (s11.re6 [1, 3, 4, 5, 0, 2] rfl) fun h12 s12 => ?_
   refine kQ (v := i64 2) rfl ⟨0, by omega, 2, rfl, rfl, by omega, s12.re6 [4, 0, 5, 1, 2, 3] rfl⟩
 have s12 : Sep Fq h11 (cT 32 pv (apS k1 v1 k2 v2).2 :: cT 32 pw (apS k1 v1 k2 v2).2 :: aI bs [pv, pw] 1 :: aI ba (cId idA) 2 :: aI bb (cId idB) 2 :: aI bc (cId idC) 2 :: []) := s11
 clear s11
 refine kQ (v := .bool false) rfl ?_
 simp only [aF, Bool.false_eq_true, if_false]
 have hpl := fun S1 S2 => aPc hk1 hv1 hk2 hv2 y1 y2 (S1 := S1) (S2 := S2)
 have iS : dH 32 (apS k1 v1 k2 v2).2 := xZ (xZ (aAw (xZ dH.nil idC vW 0) idC true) idA (dU k1 v1) 1) idB (dU k2 v2) 2
 generalize (apS k1 v1 k2 v2).2 = S at s12 hpl iS
 rw [ld2 (Sep.get (s12.re6 [3] rfl)), aB]
 refine aL (zA ve idA y1 iS (by omega) s12) ?_
 rintro r h13 ⟨_, s13⟩
 have iA := aAw iS idA y1
 rw [ld2 (Sep.get (s13.re6 [4] rfl)), aB]
 refine aL (zA ve idB y2 iA (by omega) s13) ?_
 rintro r h14 ⟨_, s14⟩
 rw [ld2 (Sep.get (s14.re6 [4] rfl)), aB]
 refine aL (zA ve idB y2 iS (by omega) s14.up1) ?_
 rintro r h15 ⟨_, s15⟩
 have iB := aAw iS idB y2
 rw [ld2 (Sep.get (s15.re6 [3] rfl)), aB]
 refine aL (zA ve idA y1 iB (by omega) s15) ?_
 rintro r h16 ⟨_, s16⟩
 obtain ⟨P, a1, a2, a3, b1, b2, b3, c1, c2⟩ := hpl _ _ rfl rfl
 generalize (jG (jG S idA y1).2 idB y2).2 = S1 at s16 a1 a2 a3
 generalize (jG (jG S idB y2).2 idA y1).2 = S2 at s16 b1 b2 b3
 have s16 : Sep Fq h16 (cT 48 pw S2 :: cT 48 pv S1 :: aI bs [pv, pw] 1 :: aI ba (cId idA) 2 :: aI bb (cId idB) 2 :: aI bc (cId idC) 2 :: []) := s16
 refine aL (aXd tN s16.up1) ?_
 intro x h17 s17
 have hlx : lkp tN S1.sp = some (eP P) := by rw [a1]; rfl
 rw [hlx] at s17
 have hne : aC (.ptr true) .eql true x (.pointer none) h17 = some (.bool false) := Sep.aEo s17 true
 rw [hne]
 simp only [aB, aT, if_true]
 have s17 : Sep Fq h17 (dP 48 x (eP P) :: cT 48 pv S1 :: cT 48 pw S2 :: _) := s17
 refine gF rfl (aL (aXc ve (by rw [a1]; intro e he; rw [List.mem_singleton.1 he]; exact aRr hE (by omega) rfl) (by rw [a1, b1]; exact fun _ => rfl) (by rw [a1, b1]) a2 b2 (by rw [a3, b3]; exact List.Perm.swap _ _ _) (by rw [a3]; decide) (s17.re3 [1, 2, 0] rfl)) ?_)
 rintro r h18 ⟨rfl, s18⟩
 simp only [dB, Bool.not_true, aB, aT, if_true, aY, Bool.false_eq_true, if_false, aF]
 obtain ⟨bx, tp, rfl, rx, _, get⟩ := aNm E (s := eP P) rfl s18.up2
 simp only [bK, aB, bH, bC, Nat.zero_add, rx]
 refine aL (get k1) ?_
 rintro r h19 ⟨rfl, rfl⟩
 simp only [bQ, List.getElem?_toArray, List.getElem?_cons_zero, List.getElem?_cons_succ, aB, bK, bH, bC, Nat.zero_add, rx]
 refine aL (get k2) ?_
 rintro r h20 ⟨rfl, rfl⟩
 simp only [bQ, List.getElem?_toArray, List.getElem?_cons_zero, List.getElem?_cons_succ, aB, wF, aF, decide_eq_true_eq]
 have c1 : bU k1 (eP P).bV = _ := c1
 rw [c1]
 have aS : ∀ a : ByteArray, pQ .eql a a = some (.bool true) := fun a => (wF (h := h20) .bad false a a).trans (by simp)
 by_cases hk : k1 = k2
 · rw [if_pos hk]
   cases y1 <;> simp [aY, aT, dB, aS]
 · rw [if_neg hk]
   have c2 : bU k2 (eP P).bV = _ := c2 hk
   rw [c2]
   cases y1 <;> cases y2 <;> simp [aY, aT, dB, aS]
end Go.Abs

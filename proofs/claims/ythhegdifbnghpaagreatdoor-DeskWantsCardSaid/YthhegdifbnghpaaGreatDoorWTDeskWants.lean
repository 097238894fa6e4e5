/- DeskWants, on abstract heaps. -/
import Derived.Test.YthhegdifbnghpaaGreatDoorWbh
import Derived.Test.YthhegdifbnghpaaGreatDoorWas
set_option maxRecDepth 20000
set_option linter.unusedVariables false
set_option linter.unusedSimpArgs false
namespace Go.Abs
open Go
def F.estafettelaw15_DeskWants (E : FE) : Spec := fun args h K => match args with
| [a0, a1] =>
cl (F.estafettelaw15_begun E) [] h fun v20_0 h =>
kv (aUn .not v20_0) fun v22_1 =>
ifV v22_1 (
K (.bool false) h) (
kv (binD .bad .rem true a0 (.int .i64 3) h) fun v24_2 =>
kv (binD .bad .add true v24_2 (.int .i64 3) h) fun v25_3 =>
kv (binD .bad .rem true v25_3 (.int .i64 3) h) fun v26_4 =>
kv (binD .bad .add true (.int .i64 1) v26_4 h) fun v27_5 =>
cl (F.estafettelaw12_Ops E) [a1] h fun v29_6 h =>
cl (F.estafetteref12_All E) [v29_6] h fun v31_7 h =>
kv (aUn .not v31_7) fun v32_8 =>
ifV v32_8 (
K (.bool true) h) (
cl (F.desk_New E) [v27_5] h fun v34_9 h =>
kv (buildD (.struct [(.int .i64 0), (.int .i64 0)] [(0, 1), (1, 1)]) [(0, (.int .i64 2)), (1, (.int .i64 1))]) fun v35_10 =>
kP (newD none (.agg #[(.int .i64 0), (.int .i64 0)]) h) fun v7_11 h =>
kH (stD (some 2) v7_11 v35_10 h) fun _ h =>
kv (ldD (.agg 2) v7_11 h) fun v37_12 =>
cl (F.desk_Desk_Begin E) [v34_9, v37_12, v29_6] h fun v39_13 h =>
cl (F.estafetteref12_Parts E) [v29_6, v27_5] h fun v42_14 h =>
∃ (Inv15 : Nat → List V → AHeap → Prop) (n15 : Nat), Inv15 n15 [(.int .i64 0)] h ∧ ∀ (n15 : Nat) (e15 : Nat → V) (h : AHeap), Inv15 n15 [(e15 9)] h →
kv (binD .bad .lss false (e15 9) v27_5 h) fun v45_16 =>
ifV v45_16 (
kv (indexAddrD (.slice 1) v42_14 (e15 9)) fun v50_17 =>
kv (ldD .one v50_17 h) fun v51_18 =>
kv (lenD .slice v51_18 h) fun v52_19 =>
kv (binD .bad .eql true v52_19 (.int .i64 0) h) fun v53_20 =>
ifV v53_20 (
kv (binD .bad .add true (e15 9) (.int .i64 1) h) fun v47_21 =>
∃ m, m < n15 ∧ Inv15 m [v47_21] h) (
cl (F.desk_Desk_Wants E) [v34_9] h fun v55_22 h =>
kv (lenD .slice v55_22 h) fun v57_23 =>
kv (binD .bad .eql true v57_23 (.int .i64 0) h) fun v58_24 =>
kv (gdV v58_24 false (some v55_22)) fun v60_25 =>
kv (gdV v58_24 false (indexAddrD (.slice 4) v60_25 (.int .i64 0))) fun v61_26 =>
kv (gdV v58_24 false (fieldAddrD (some 0) v61_26)) fun v62_27 =>
kv (gdV v58_24 false (ldD .one v62_27 h)) fun v63_28 =>
kv (gdV v58_24 false (some (e15 9))) fun v64_29 =>
kv (gdV v58_24 false (binD .bad .neq false v63_28 v64_29 h)) fun v65_30 =>
kv (pickV v58_24 (.bool true) v65_30) fun v66_31 =>
kv (gdV v66_31 false (some v55_22)) fun v68_32 =>
kv (gdV v66_31 false (indexAddrD (.slice 4) v68_32 (.int .i64 0))) fun v69_33 =>
kv (gdV v66_31 false (fieldAddrD (some 1) v69_33)) fun v70_34 =>
kv (gdV v66_31 false (fieldAddrD (some 0) v70_34)) fun v71_35 =>
kv (gdV v66_31 false (ldD .one v71_35 h)) fun v72_36 =>
kv (gdV v66_31 false (binD .bad .neq true v72_36 (.int .i64 4) h)) fun v73_37 =>
kv (pickV v66_31 (.bool true) v73_37) fun v74_38 =>
ifV v74_38 (
K (.bool false) h) (
kv (indexAddrD (.slice 4) v55_22 (.int .i64 0)) fun v77_39 =>
kv (fieldAddrD (some 1) v77_39) fun v78_40 =>
kv (ldD (.agg 3) v78_40 h) fun v79_41 =>
cl (F.estafetteref12_Get E) [v79_41] h fun v80_42 h =>
kv (aExtract v80_42 0) fun v81_43 =>
kv (aExtract v80_42 1) fun v82_44 =>
kv (aExtract v80_42 2) fun v83_45 =>
kP (newD none (.agg #[(.int .i64 0), (.int .i64 0)]) h) fun v11_46 h =>
kH (stD (some 2) v11_46 v81_43 h) fun _ h =>
kv (aUn .not v83_45) fun v85_47 =>
kv (gdV v85_47 false (some v82_44)) fun v87_48 =>
kv (gdV v85_47 false (some v29_6)) fun v88_49 =>
kv (gdV v85_47 false (some (e15 9))) fun v89_50 =>
kv (gdV v85_47 false (some v27_5)) fun v90_51 =>
gdC v85_47 false h (fun K52 => cl (F.estafetteref12_Of E) [v88_49, v89_50, v90_51] h fun v h => K52 v h) fun v91_53 h =>
gdC v85_47 false h (fun K54 => cl (F.estafettelaw12_Eq E) [v87_48, v91_53] h fun v h => K54 v h) fun v92_55 h =>
kv (gdV v85_47 false (aUn .not v92_55)) fun v93_56 =>
kv (pickV v85_47 (.bool true) v93_56) fun v94_57 =>
ifV v94_57 (
K (.bool false) h) (
kv (ldD (.agg 2) v7_11 h) fun v96_58 =>
kv (indexAddrD (.slice 1) v42_14 (e15 9)) fun v100_59 =>
kv (ldD .one v100_59 h) fun v101_60 =>
kv (lenD .slice v101_60 h) fun v102_61 =>
kP (makeSliceD (some (1, 16, [(.string ⟨#[]⟩)])) v102_61 v102_61 h) fun v103_62 h =>
ldD (.agg 2) v7_11 h = some v96_58 ∧
kv (buildD (.struct [(.int .i64 0), (.int .i64 0), (.int .i64 0), (.bool false), (.int .i64 0), (.slice none 0 0)] [(0, 2), (2, 1), (3, 1), (4, 1), (5, 1)]) [(0, v96_58), (1, (e15 9)), (2, (.bool true)), (4, v103_62)]) fun v104_63 =>
cl (F.desk_Desk_Vote E) [v34_9, v104_63] h fun v105_64 h =>
kv (binD .bad .add true (e15 9) (.int .i64 1) h) fun v47_65 =>
∃ m, m < n15 ∧ Inv15 m [v47_65] h)))) (
∃ (Inv66 : Nat → List V → AHeap → Prop) (n66 : Nat), Inv66 n66 [(.int .i64 0)] h ∧ ∀ (n66 : Nat) (e66 : Nat → V) (h : AHeap), Inv66 n66 [(e66 14)] h →
kv (binD .bad .lss false (e66 14) v27_5 h) fun v108_67 =>
ifV v108_67 (
kv (indexAddrD (.slice 1) v42_14 (e66 14)) fun v113_68 =>
kv (ldD .one v113_68 h) fun v114_69 =>
kv (lenD .slice v114_69 h) fun v115_70 =>
kv (binD .bad .eql true v115_70 (.int .i64 0) h) fun v116_71 =>
ifV v116_71 (
kv (binD .bad .add true (e66 14) (.int .i64 1) h) fun v110_72 =>
∃ m, m < n66 ∧ Inv66 m [v110_72] h) (
cl (F.desk_Desk_Wants E) [v34_9] h fun v118_73 h =>
kv (lenD .slice v118_73 h) fun v120_74 =>
kv (binD .bad .eql true v120_74 (.int .i64 0) h) fun v121_75 =>
kv (gdV v121_75 false (some v118_73)) fun v123_76 =>
kv (gdV v121_75 false (indexAddrD (.slice 4) v123_76 (.int .i64 0))) fun v124_77 =>
kv (gdV v121_75 false (fieldAddrD (some 0) v124_77)) fun v125_78 =>
kv (gdV v121_75 false (ldD .one v125_78 h)) fun v126_79 =>
kv (gdV v121_75 false (some (e66 14))) fun v127_80 =>
kv (gdV v121_75 false (binD .bad .neq false v126_79 v127_80 h)) fun v128_81 =>
kv (pickV v121_75 (.bool true) v128_81) fun v129_82 =>
kv (gdV v129_82 false (some v118_73)) fun v131_83 =>
kv (gdV v129_82 false (indexAddrD (.slice 4) v131_83 (.int .i64 0))) fun v132_84 =>
kv (gdV v129_82 false (fieldAddrD (some 1) v132_84)) fun v133_85 =>
kv (gdV v129_82 false (fieldAddrD (some 0) v133_85)) fun v134_86 =>
kv (gdV v129_82 false (ldD .one v134_86 h)) fun v135_87 =>
kv (gdV v129_82 false (binD .bad .neq true v135_87 (.int .i64 6) h)) fun v136_88 =>
kv (pickV v129_82 (.bool true) v136_88) fun v137_89 =>
ifV v137_89 (
K (.bool false) h) (
kv (indexAddrD (.slice 4) v118_73 (.int .i64 0)) fun v140_90 =>
kv (fieldAddrD (some 1) v140_90) fun v141_91 =>
kv (ldD (.agg 3) v141_91 h) fun v142_92 =>
cl (F.estafetteref12_GetWord E) [v142_92] h fun v143_93 h =>
kv (aExtract v143_93 0) fun v144_94 =>
kv (aExtract v143_93 1) fun v145_95 =>
kv (aExtract v143_93 2) fun v146_96 =>
kv (aExtract v143_93 3) fun v147_97 =>
kP (newD none (.agg #[(.int .i64 0), (.int .i64 0)]) h) fun v16_98 h =>
kH (stD (some 2) v16_98 v144_94 h) fun _ h =>
kv (aUn .not v147_97) fun v149_99 =>
kv (gdV v149_99 false (ldD (.agg 2) v16_98 h)) fun v151_100 =>
kv (gdV v149_99 false (ldD (.agg 2) v7_11 h)) fun v152_101 =>
kv (gdV v149_99 false (binD (.struct [(0, .int), (1, .int)]) .neq false v151_100 v152_101 h)) fun v153_102 =>
kv (pickV v149_99 (.bool true) v153_102) fun v154_103 =>
kv (gdV v154_103 false (some v145_95)) fun v156_104 =>
kv (gdV v154_103 false (some (e66 14))) fun v157_105 =>
kv (gdV v154_103 false (binD .bad .neq false v156_104 v157_105 h)) fun v158_106 =>
kv (pickV v154_103 (.bool true) v158_106) fun v159_107 =>
kv (gdV v159_107 false (some v146_96)) fun v161_108 =>
kv (gdV v159_107 false (aUn .not v161_108)) fun v162_109 =>
kv (pickV v159_107 (.bool true) v162_109) fun v163_110 =>
kv (gdV v163_110 false (some v34_9)) fun v165_111 =>
kv (gdV v163_110 false (ldD (.agg 2) v7_11 h)) fun v166_112 =>
kv (gdV v163_110 false (some (e66 14))) fun v167_113 =>
gdC v163_110 false h (fun K114 => cl (F.desk_Desk_Done E) [v165_111, v166_112, v167_113] h fun v h => K114 v h) fun v168_115 h =>
kv (gdV v163_110 false (aUn .not v168_115)) fun v169_116 =>
kv (pickV v163_110 (.bool true) v169_116) fun v170_117 =>
kv (gdV v170_117 false (some v34_9)) fun v172_118 =>
kv (gdV v170_117 false (ldD (.agg 2) v7_11 h)) fun v173_119 =>
kv (gdV v170_117 false (some (e66 14))) fun v174_120 =>
gdC v170_117 false h (fun K121 => cl (F.desk_Desk_Done E) [v172_118, v173_119, v174_120] h fun v h => K121 v h) fun v175_122 h =>
kv (pickV v170_117 (.bool true) v175_122) fun v176_123 =>
ifV v176_123 (
K (.bool false) h) (
kv (binD .bad .add true (e66 14) (.int .i64 1) h) fun v110_124 =>
∃ m, m < n66 ∧ Inv66 m [v110_124] h)))) (
cl (F.desk_Desk_Wants E) [v34_9] h fun v178_125 h =>
kv (lenD .slice v178_125 h) fun v179_126 =>
kv (binD .bad .eql true v179_126 (.int .i64 0) h) fun v180_127 =>
kv (gdV v180_127 true (some v34_9)) fun v182_128 =>
gdC v180_127 true h (fun K129 => cl (F.desk_Desk_Open E) [v182_128] h fun v h => K129 v h) fun v183_130 h =>
kv (gdV v180_127 true (lenD .slice v183_130 h)) fun v184_131 =>
kv (gdV v180_127 true (binD .bad .eql true v184_131 (.int .i64 0) h)) fun v185_132 =>
kv (pickV v180_127 v185_132 (.bool false)) fun v186_133 =>
K v186_133 h))))
| _ => False
end Go.Abs
set_option linter.unusedSimpArgs false
set_option linter.unusedVariables false
namespace Go.Abs
open Go Go.Proofs
variable {E : FE} {F : Fr} {h : AHeap} {L : List Pl} {nn : Nat} {ops : List Oq}
def frT (N : Nat) : Fr := ⟨N, fun _ => True, fun _ _ _ _ _ _ _ => trivial⟩
theorem di_W (hn : 1 ≤ nn ∧ nn ≤ 3) (ho : allO ops = true) (s : Nat) : DInv nn (dW nn ops s) := by
 unfold dW
 split
 · refine ⟨rfl, hn, fun id t ht => ?_⟩
   simp only [lkp] at ht
   split at ht
   · cases ht; exact ⟨ho, rfl⟩
   · cases ht
 · refine ⟨rfl, hn, fun id t ht => ?_⟩
   simp only [lkp] at ht
   split at ht
   · cases ht; exact ⟨ho, rfl⟩
   · cases ht
theorem dv_W (s : Nat) : DV (dW nn ops s) := by
 unfold dW
 split
 · refine ⟨fun id t ht hd => ?_, fun c => by simp [lkp]⟩
   simp only [lkp] at ht
   split at ht
   · cases ht; exact votesW_vu s
   · cases ht
 · refine ⟨fun id t ht hd => ?_, fun c => ?_⟩
   · simp only [lkp] at ht
     split at ht
     · cases ht; cases hd
     · cases ht
   · simp only [lkp]
     split <;> simp
theorem di_F (hn : 1 ≤ nn ∧ nn ≤ 3) (ho : allO ops = true) (s : Nat) : DInv nn (dF nn ops s) := by
 unfold dF
 split
 · refine ⟨rfl, hn, fun id t ht => ?_⟩
   simp only [lkp] at ht
   split at ht
   · cases ht; exact ⟨ho, rfl⟩
   · cases ht
 · exact ⟨rfl, hn, fun id t ht => by cases ht⟩
theorem keys_W (s : Nat) : keysL (dW nn ops s).opn = [idW] := by
 unfold dW
 split <;> rfl
theorem keys_F {s : Nat} (hs : s < nn) (hh : hasF (partsF ops nn) (s : Int) = true) : keysL (dF nn ops s).opn = [idW] := by
 have hlt : (shW nn ops s).length < (shW nn ops nn).length := by
  have := shW_le (nn := nn) (ops := ops) (show s + 1 ≤ nn by omega)
  rw [shW_yes hh, List.length_append] at this
  simp at this
  omega
 unfold dF
 rw [if_pos hlt]
 rfl
theorem opn_len {d : DeskM} {ids : List IdM} (hk : keysL d.opn = ids) : d.opn.length = ids.length := by
 rw [← hk]
 unfold keysL
 rw [List.length_map]
theorem hcW : clientB idW = true := by decide
set_option maxHeartbeats 4000000 in
theorem law_DeskWants (de : DkE E) {v : V} {l : List Oq} (sl : Oqs h.next h v l) (hz : ∀ o ∈ l, o.space.size ≤ maxLen) (n : Int) :
 cl (Go.Abs.F.estafettelaw15_DeskWants E) [i64 n, v] h fun r _ => r = .bool true := by
 have oe := de.op
 refine cl_of ?_
 simp only [Go.Abs.F.estafettelaw15_DeskWants]
 refine cl_then begun15_spec ?_
 rintro r h1 ⟨rfl, rfl⟩
 simp only [not_bool, Bool.not_true, kv_some, ifV_bool, Bool.false_eq_true, if_false]
 obtain ⟨N, hN⟩ : ∃ N, h1.next = N := ⟨_, rfl⟩
 rw [hN] at sl
 have s0 : Sep (frT N) h1 [] := ⟨by show N ≤ h1.next; omega, trivial, [], rfl⟩
 obtain ⟨nt, hnt, hgo⟩ := mod_upc true n (d := 3) (by decide)
 refine hgo ?_
 obtain ⟨k, rfl⟩ : ∃ k : Nat, nt = (k : Int) := ⟨nt.toNat, by omega⟩
 rw [add_i64 1 _ (by omega) (by omega), kv_some, show (1 : Int) + (k : Int) = ((k + 1 : Nat) : Int) by omega]
 have hnn : 1 ≤ k + 1 ∧ k + 1 ≤ 3 := by omega
 generalize k + 1 = nn at hnn ⊢
 clear hnt hgo
 rw [Ops_cut]
 refine cl_then (cut_ops 10 (by decide) sl s0) ?_
 intro vo h2 s1
 have hz10 : ∀ o ∈ l.take 10, o.space.size ≤ maxLen := fun o ho => hz o (List.mem_of_mem_take ho)
 have hl10 : (l.take 10).length ≤ 10 := by simp; omega
 generalize l.take 10 = ops at s1 hz10 hl10
 obtain ⟨f1, q1, k1⟩ := s1.head
 have q1 : SlE dOp h2 f1 vo ops := q1
 refine cl_then (ref12_All q1 (by omega) hz10) ?_
 rintro r h3 ⟨rfl, m3⟩
 have s2 := s1.skip m3
 clear s1 q1 k1 m3
 rw [not_bool, kv_some, ifV_bool]
 cases hA : allO ops with
 | false => simp
 | true =>
 simp only [Bool.not_true, Bool.false_eq_true, if_false]
 have h8 : 1 ≤ ops.length ∧ ops.length ≤ 8 ∧ ∀ o ∈ ops, mayO o = true := allF hA
 have hsp : ∀ o ∈ ops, o.space.size ≤ 1000000000 := fun o ho => by
  have h9 := h8.2.2 o ho
  unfold mayO at h9
  simp only [Bool.and_eq_true, decide_eq_true_eq] at h9
  omega
 refine cl_then (desk_New (nn : Nat) (by omega) s2) ?_
 intro p h4 s3
 refine kv_of (v := idW.agg) rfl ?_
 rw [newI0, kP_some]
 have s4 := s3.box (cId ⟨0, 0⟩) 2
 rw [st2 s4.get, kH_some]
 have s5 := s4.write (cs' := cId idW)
 clear s4 s3 s2
 generalize AHeap.put _ _ _ = h5 at s5 ⊢
 generalize h4.next = bi at s5 ⊢
 rw [ld2 s5.get, kv_some]
 refine cl_then (desk_Begin (nn := nn) oe rfl hnn idW (ops := ops) (by omega) hz10 (s5.re3 [1, 2, 0] rfl)) ?_
 rintro r h6 ⟨-, s6⟩
 have hs0 : 0 < (shW nn ops nn).length := by rw [← shardsW]; exact shards_some (by omega) (by omega)
 have hbg : (beginV ⟨(nn : Nat), [], [], []⟩ idW ops).2 = dW nn ops 0 := by
  unfold beginV dW
  rw [hcW, hA, if_pos (show (shW nn ops 0).length < (shW nn ops nn).length by simpa [shW] using hs0)]
  rfl
 rw [hbg] at s6
 refine cl_then (ref12_Parts hnn (by omega) hsp s6.up1) ?_
 intro vp h7 s7
 clear s5 s6 hbg
 refine ⟨fun m vs g => ∃ s : Nat, vs = [i64 s] ∧ m = nn - s ∧ s ≤ nn ∧ Sep (frT N) g (plDsk p (dW nn ops s) :: plPts vp (partsF ops nn) :: plOps vo ops :: plBox bi (cId idW) 2 :: []), nn, ⟨0, rfl, rfl, by omega, s7.re4 [2, 0, 1, 3] rfl⟩, ?_⟩
 clear s7
 rintro m e g ⟨s, he, rfl, hs, z⟩
 simp only [List.cons.injEq, and_true] at he
 simp only [he, bin_lss, kv_some, ifV_bool, decide_eq_true_eq]
 by_cases hx : s < nn
 · rw [if_pos (show ((s : Nat) : Int) < (nn : Nat) by omega)]
   obtain ⟨pp, hgp⟩ : ∃ pp, (partsF ops nn)[s]? = some pp := ⟨_, List.getElem?_eq_getElem (by rw [parts_len]; exact hx)⟩
   have hgd : (partsF ops nn).getD s [] = pp := by rw [List.getD_eq_getElem?_getD, hgp]; rfl
   obtain ⟨a, t, a1, a2, a3, _⟩ := (Sep.ptsR z.up1).row s _ hgp
   rw [a1, kv_some, a2, kv_some, a3, kv_some, bin_eql, kv_some, ifV_bool]
   by_cases hp : pp.length = 0
   · have hh : hasF (partsF ops nn) (s : Int) = false := by rw [hasF_nat, hgd, hp]; rfl
     rw [if_pos (show (((pp.length : Nat) : Int) == 0) = true by rw [hp]; rfl)]
     rw [add_i64 _ 1 (by omega) (by omega), kv_some]
     refine ⟨nn - (s + 1), by omega, s + 1, by simp, rfl, by omega, ?_⟩
     rw [dW_no hh]
     exact z
   have hh : hasF (partsF ops nn) (s : Int) = true := by rw [hasF_nat, hgd]; exact decide_eq_true (by omega)
   rw [if_neg (show ¬ ((((pp.length : Nat) : Int) == 0) = true) by rw [beq_iff_eq]; omega)]
   clear a2 a3
   refine cl_then (desk_Wants oe (di_W hnn hA s) de.sort (by rw [opn_len (keys_W s)]; decide) (by decide) z) ?_
   rintro r1 g1 ⟨ids, pid, _, z1⟩
   rw [keys_W] at pid
   obtain rfl : ids = [idW] := List.perm_singleton.1 pid
   obtain ⟨rest, hw⟩ := wants_W hnn hA hx hh
   rw [hw] at z1
   obtain ⟨b, o, t1, u1, nw, hnw, l1, i1, r0, r1', rn, z2⟩ := wd_first z1
   have r0 : g1.rd b o = some (i64 (s : Nat)) := r0
   have r1' : g1.rd b (o + 1) = some (i64 4) := r1'
   have rn : g1.rdN b (o + 1) 3 = some [i64 4, mkS t1, mkS u1] := rn
   have hoa := allO_of hA hx hh
   have z2 : Sep (frT N) g1 (plI64s (mkS t1) (idW.client :: idW.seq :: (ofF ops ((partsF ops nn).getD s [])).flatMap fun o => [o.fn, o.n]) :: plStrs (mkS u1) ((ofF ops ((partsF ops nn).getD s [])).flatMap fun o => [o.space, o.key, o.val]) :: plDsk p (dW nn ops s) :: plPts vp (partsF ops nn) :: plOps vo ops :: plBox bi (cId idW) 2 :: []) := z2
   clear z z1
   have en : (((nw : Nat) : Int) == 0) = false := by
    cases hc : (((nw : Nat) : Int) == 0) with
    | false => rfl
    | true => rw [beq_iff_eq] at hc; omega
   simp only [l1, kv_some, bin_eql, en, gdV_bool, if_true, i1, fieldAddr_ptr, Nat.add_zero, ld_one, r0, r1', bin_neq, bne_self_eq_false, pickV_bool, Bool.false_eq_true, if_false, ifV_bool, ld_agg 3 b (o + 1), rn, Option.map_some]
   refine cl_then (ref12_GetOk (.inr rfl) idW hcW hoa z2) ?_
   rintro r g2 ⟨vq, rfl, z3⟩
   have hofl : (ofF ops ((partsF ops nn).getD s [])).length ≤ 1000000 := by
    have := ofF_len ops ((partsF ops nn).getD s [])
    have h9 : 1 ≤ (ofF ops ((partsF ops nn).getD s [])).length ∧ (ofF ops ((partsF ops nn).getD s [])).length ≤ 8 ∧ _ := allF hoa
    omega
   simp only [extract_tuple, List.getElem?_toArray, List.getElem?_cons_zero, List.getElem?_cons_succ, kv_some]
   rw [newI0, kP_some]
   have z4 := z3.box (cId ⟨0, 0⟩) 2
   rw [st2 z4.get, kH_some]
   have z5 := (z4.write (cs' := cId idW)).drop
   generalize AHeap.put _ _ _ = g5 at z5 ⊢
   simp only [not_bool, Bool.not_true, gdV_bool, if_true, kv_some]
   refine gdC_yes rfl (cl_then (ref12_Of hnn hx (by omega) hsp (z5.re7 [5, 0, 3, 4, 6] rfl)) ?_)
   intro r6 g6 z6
   refine gdC_yes rfl (cl_then (law12_EqOk hofl (z6.re6 [2, 0, 1, 3, 4, 5] rfl)) ?_)
   rintro r7 g7 ⟨rfl, rfl⟩
   have z7 := z6.re6 [3, 4, 1, 5] rfl
   have z7 : Sep (frT N) g7 (plDsk p (dW nn ops s) :: plPts vp (partsF ops nn) :: plOps vo ops :: plBox bi (cId idW) 2 :: []) := z7
   clear z2 z3 z4 z5 z6
   simp only [not_bool, Bool.not_true, kv_some, pickV_bool, Bool.false_eq_true, if_false, ifV_bool]
   obtain ⟨a', t, a1', a2, a3, _⟩ := (Sep.ptsR z7.up1).row s _ hgp
   rw [a1] at a1'
   cases a1'
   rw [ld2 (Sep.get (z7.re4 [3] rfl)), kv_some, a2, kv_some, a3, kv_some]
   have hpl : pp.length ≤ 8 := by
    have := parts_short (show pp ∈ partsF ops nn from List.mem_of_getElem? hgp)
    omega
   refine mk_strs hpl z7 fun tv g8 z8 => ?_
   refine ⟨ld2 (Sep.get (z8.re5 [4] rfl)), ?_⟩
   refine kv_of (v := .agg #[i64 (voteW nn ops s).id.client, i64 (voteW nn ops s).id.seq, i64 (voteW nn ops s).shard, .bool (voteW nn ops s).yes, i64 (voteW nn ops s).now, mkS tv]) rfl ?_
   have hval : (voteW nn ops s).vals = List.replicate pp.length ⟨#[]⟩ := by unfold voteW; rw [hgd]
   rw [← hval] at z8
   refine cl_then (desk_Vote (di_W hnn hA s) (dv_W s) (voteW nn ops s) (by rw [hval]; simp; omega) z8.up1) ?_
   rintro r9 g9 ⟨-, z9⟩
   rw [voteV_W hnn hx hh] at z9
   rw [add_i64 _ 1 (by omega) (by omega), kv_some]
   exact ⟨nn - (s + 1), by omega, s + 1, by simp, rfl, by omega, z9.re5 [0, 2, 3, 4] rfl⟩
 rw [if_neg (show ¬ ((s : Nat) : Int) < (nn : Nat) by omega)]
 obtain rfl : s = nn := by omega
 rw [dW_dF hs0] at z
 clear he hx hs
 refine ⟨fun m vs g => ∃ k : Nat, vs = [i64 k] ∧ m = s - k ∧ k ≤ s ∧ Sep (frT N) g (plDsk p (dF s ops k) :: plPts vp (partsF ops s) :: plOps vo ops :: plBox bi (cId idW) 2 :: []), s, ⟨0, rfl, rfl, by omega, z⟩, ?_⟩
 clear z
 rintro m e g ⟨k, he, rfl, hk, z⟩
 simp only [List.cons.injEq, and_true] at he
 simp only [he, bin_lss, kv_some, ifV_bool, decide_eq_true_eq]
 by_cases hx : k < s
 · rw [if_pos (show ((k : Nat) : Int) < (s : Nat) by omega)]
   obtain ⟨pp, hgp⟩ : ∃ pp, (partsF ops s)[k]? = some pp := ⟨_, List.getElem?_eq_getElem (by rw [parts_len]; exact hx)⟩
   have hgd : (partsF ops s).getD k [] = pp := by rw [List.getD_eq_getElem?_getD, hgp]; rfl
   obtain ⟨a, t, a1, a2, a3, _⟩ := (Sep.ptsR z.up1).row k _ hgp
   rw [a1, kv_some, a2, kv_some, a3, kv_some, bin_eql, kv_some, ifV_bool]
   by_cases hp : pp.length = 0
   · have hh : hasF (partsF ops s) (k : Int) = false := by rw [hasF_nat, hgd, hp]; rfl
     rw [if_pos (show (((pp.length : Nat) : Int) == 0) = true by rw [hp]; rfl)]
     rw [add_i64 _ 1 (by omega) (by omega), kv_some]
     refine ⟨s - (k + 1), by omega, k + 1, by simp, rfl, by omega, ?_⟩
     rw [dF_no hh]
     exact z
   have hh : hasF (partsF ops s) (k : Int) = true := by rw [hasF_nat, hgd]; exact decide_eq_true (by omega)
   rw [if_neg (show ¬ ((((pp.length : Nat) : Int) == 0) = true) by rw [beq_iff_eq]; omega)]
   clear a1 a2 a3
   refine cl_then (desk_Wants oe (di_F hnn hA k) de.sort (by rw [opn_len (keys_F hx hh)]; decide) (by decide) z) ?_
   rintro r1 g1 ⟨ids, pid, _, z1⟩
   rw [keys_F hx hh] at pid
   obtain rfl : ids = [idW] := List.perm_singleton.1 pid
   obtain ⟨rest, hw⟩ := wants_F hnn hx hh
   rw [hw] at z1
   obtain ⟨b, o, t1, u1, nw, hnw, l1, i1, r0, r1', rn, z2⟩ := wd_first z1
   have r0 : g1.rd b o = some (i64 (k : Nat)) := r0
   have r1' : g1.rd b (o + 1) = some (i64 6) := r1'
   have rn : g1.rdN b (o + 1) 3 = some [i64 6, mkS t1, mkS u1] := rn
   have z2 : Sep (frT N) g1 (plI64s (mkS t1) [idW.client, idW.seq, (k : Int), bitF true] :: plStrs (mkS u1) [] :: plDsk p (dF s ops k) :: plPts vp (partsF ops s) :: plOps vo ops :: plBox bi (cId idW) 2 :: []) := z2
   clear z z1
   have en : (((nw : Nat) : Int) == 0) = false := by
    cases hc : (((nw : Nat) : Int) == 0) with
    | false => rfl
    | true => rw [beq_iff_eq] at hc; omega
   simp only [l1, kv_some, bin_eql, en, gdV_bool, if_true, i1, fieldAddr_ptr, Nat.add_zero, ld_one, r0, r1', bin_neq, bne_self_eq_false, pickV_bool, Bool.false_eq_true, if_false, ifV_bool, ld_agg 3 b (o + 1), rn, Option.map_some]
   refine cl_then (ref12_GetWordOk idW hcW (sh := (k : Int)) (by omega) true z2) ?_
   rintro r g2 ⟨rfl, z3⟩
   simp only [extract_tuple, List.getElem?_toArray, List.getElem?_cons_zero, List.getElem?_cons_succ, kv_some]
   rw [newI0, kP_some]
   have z4 := z3.box (cId ⟨0, 0⟩) 2
   rw [st2 z4.get, kH_some]
   have z5 := (z4.write (cs' := cId idW)).re7 [3, 4, 5, 6, 0] rfl
   generalize AHeap.put _ _ _ = g5 at z5 ⊢
   generalize g2.next = b16 at z5 ⊢
   have z5 : Sep (frT N) g5 (plDsk p (dF s ops k) :: plPts vp (partsF ops s) :: plOps vo ops :: plBox bi (cId idW) 2 :: plBox b16 (cId idW) 2 :: []) := z5
   have lb : ldD (.agg 2) (ptr bi 0) g5 = some idW.agg := ld2 (Sep.get (z5.re4 [3] rfl))
   have l16 : ldD (.agg 2) (ptr b16 0) g5 = some idW.agg := ld2 (Sep.get (z5.re5 [4] rfl))
   have eid : ∀ g : AHeap, binD (.struct [(0, .int), (1, .int)]) .neq false idW.agg idW.agg g = some (.bool false) := fun _ => rfl
   simp only [not_bool, Bool.not_true, gdV_bool, if_true, kv_some, lb, l16, eid, pickV_bool, Bool.false_eq_true, if_false, bin_neq, bne_self_eq_false]
   obtain ⟨d1, d2⟩ := doneV_F hnn hx hh
   refine gdC_yes rfl (cl_then (desk_Done (di_F hnn hA k) idW (k : Int) z5) ?_)
   rintro r6 g6 ⟨rfl, z6⟩
   rw [d1] at z6 ⊢
   have lb : ldD (.agg 2) (ptr bi 0) g6 = some idW.agg := ld2 (Sep.get (z6.re4 [3] rfl))
   simp only [not_bool, Bool.not_true, gdV_bool, if_true, kv_some, lb, pickV_bool, Bool.false_eq_true, if_false]
   refine gdC_yes rfl (cl_then (desk_Done (di_F hnn hA (k + 1)) idW (k : Int) z6) ?_)
   rintro r7 g7 ⟨rfl, z7⟩
   rw [d2] at z7 ⊢
   simp only [kv_some, pickV_bool, Bool.false_eq_true, if_false, ifV_bool]
   rw [add_i64 _ 1 (by omega) (by omega), kv_some]
   exact ⟨s - (k + 1), by omega, k + 1, by simp, rfl, by omega, z7.re5 [0, 1, 2, 3] rfl⟩
 rw [if_neg (show ¬ ((k : Nat) : Int) < (s : Nat) by omega)]
 obtain rfl : k = s := by omega
 have ho : (dF k ops k).opn = [] := by unfold dF; rw [if_neg (Nat.lt_irrefl _)]
 refine cl_then (desk_Wants oe (di_F hnn hA k) de.sort (by rw [ho]; exact Nat.zero_le _) (by decide) z) ?_
 rintro r1 g1 ⟨ids, pid, _, z1⟩
 rw [ho] at pid
 obtain rfl : ids = [] := List.Perm.eq_nil pid
 rw [Sep.lenWds z1]
 simp only [kv_some, show (wantsA k (dF k ops k) []).length = 0 from rfl, bin_eql, show (((0 : Nat) : Int) == 0) = true from rfl, gdV_bool, if_true]
 refine gdC_yes rfl (cl_then (desk_Open de.sort (by rw [ho]; exact Nat.zero_le _) (by decide) z1.drop) ?_)
 rintro r8 g8 ⟨l', p8, _, z8⟩
 rw [ho] at p8
 obtain rfl : l' = [] := List.Perm.eq_nil p8
 obtain ⟨f8, q8, _⟩ := z8.head
 have q8 : SlE dId g8 f8 r8 [] := q8
 rw [q8.len]
 simp only [kv_some, List.length_nil, bin_eql, pickV_bool, if_true, show (((0 : Nat) : Int) == 0) = true from rfl]
end Go.Abs

/- DeskVotes, on abstract heaps. -/
import Derived.Test.YthhegdifbnghpaaGreatDoorVbe
import Derived.Test.YthhegdifbnghpaaGreatDoorVas
set_option maxRecDepth 20000
set_option linter.unusedVariables false
set_option linter.unusedSimpArgs false
namespace Go.Abs
open Go
def F.estafettelaw15_DeskVotes (E : FE) : Spec := fun args h K => match args with
| [a0, a1, a2, a3] =>
cl (F.estafettelaw15_begun E) [] h fun v25_0 h =>
kv (aUn .not v25_0) fun v27_1 =>
ifV v27_1 (
K (.bool false) h) (
kv (binD .bad .rem true a0 (.int .i64 3) h) fun v29_2 =>
kv (binD .bad .add true v29_2 (.int .i64 3) h) fun v30_3 =>
kv (binD .bad .rem true v30_3 (.int .i64 3) h) fun v31_4 =>
kv (binD .bad .add true (.int .i64 1) v31_4 h) fun v32_5 =>
cl (F.estafettelaw12_Ops E) [a1] h fun v34_6 h =>
cl (F.estafetteref12_All E) [v34_6] h fun v36_7 h =>
kv (aUn .not v36_7) fun v37_8 =>
ifV v37_8 (
K (.bool true) h) (
cl (F.desk_New E) [v32_5] h fun v39_9 h =>
kv (buildD (.struct [(.int .i64 0), (.int .i64 0)] [(0, 1), (1, 1)]) [(0, (.int .i64 1)), (1, (.int .i64 5))]) fun v40_10 =>
kP (newD none (.agg #[(.int .i64 0), (.int .i64 0)]) h) fun v11_11 h =>
kH (stD (some 2) v11_11 v40_10 h) fun _ h =>
kv (ldD (.agg 2) v11_11 h) fun v42_12 =>
cl (F.desk_Desk_Begin E) [v39_9, v42_12, v34_6] h fun v44_13 h =>
kv (aUn .not v44_13) fun v45_14 =>
ifV v45_14 (
K (.bool false) h) (
cl (F.estafetteref12_Parts E) [v34_6, v32_5] h fun v48_15 h =>
kP (makeSliceD (some (1, 1, [(.bool false)])) v32_5 v32_5 h) fun v50_16 h =>
∃ (Inv17 : Nat → List V → AHeap → Prop) (n17 : Nat), Inv17 n17 [(.int .i64 0), (.int .i64 0)] h ∧ ∀ (n17 : Nat) (e17 : Nat → V) (h : AHeap), Inv17 n17 [(e17 13), (e17 17)] h →
kv (binD .bad .lss false (e17 17) v32_5 h) fun v53_18 =>
ifV v53_18 (
kv (indexAddrD (.slice 1) v48_15 (e17 17)) fun v58_19 =>
kv (ldD .one v58_19 h) fun v59_20 =>
kv (lenD .slice v59_20 h) fun v60_21 =>
kv (binD .bad .gtr true v60_21 (.int .i64 0) h) fun v61_22 =>
ifV v61_22 (
kv (binD .bad .add true (e17 13) (.int .i64 1) h) fun v63_23 =>
kv (binD .bad .add true (e17 17) (.int .i64 1) h) fun v55_24 =>
∃ m, m < n17 ∧ Inv17 m [v63_23, v55_24] h) (
kv (binD .bad .add true (e17 17) (.int .i64 1) h) fun v55_25 =>
∃ m, m < n17 ∧ Inv17 m [(e17 13), v55_25] h)) (
∃ (Inv26 : Nat → List V → AHeap → Prop) (n26 : Nat), Inv26 n26 [(e17 13), (.bool false), (.bool false), (.int .i64 0)] h ∧ ∀ (n26 : Nat) (e26 : Nat → V) (h : AHeap), Inv26 n26 [(e26 13), (e26 14), (e26 15), (e26 18)] h →
kv (lenD .slice a3 h) fun v66_27 =>
kv (binD .bad .lss false (e26 18) v66_27 h) fun v67_28 =>
kv (gdV v67_28 true (some (e26 18))) fun v69_29 =>
kv (gdV v67_28 true (binD .bad .lss true v69_29 (.int .i64 20) h)) fun v70_30 =>
kv (pickV v67_28 v70_30 (.bool false)) fun v71_31 =>
ifV v71_31 (
kv (indexAddrD (.slice 1) a3 (e26 18)) fun v76_32 =>
kv (ldD .one v76_32 h) fun v77_33 =>
kv (binD .bad .rem false v77_33 v32_5 h) fun v79_34 =>
kv (binD .bad .add false v79_34 v32_5 h) fun v81_35 =>
kv (binD .bad .rem false v81_35 v32_5 h) fun v83_36 =>
kv (ldD (.agg 2) v11_11 h) fun v84_37 =>
kv (lenD .slice a2 h) fun v87_38 =>
kv (binD .bad .leq false v87_38 v83_36 h) fun v89_39 =>
kv (gdV v89_39 false (some a2)) fun v91_40 =>
kv (gdV v89_39 false (some v83_36)) fun v92_41 =>
kv (gdV v89_39 false (indexAddrD (.slice 1) v91_40 v92_41)) fun v93_42 =>
kv (gdV v89_39 false (ldD .one v93_42 h)) fun v94_43 =>
kv (gdV v89_39 false (binD .bad .rem true v94_43 (.int .i64 4) h)) fun v95_44 =>
kv (gdV v89_39 false (binD .bad .neq true v95_44 (.int .i64 0) h)) fun v96_45 =>
kv (pickV v89_39 (.bool true) v96_45) fun v97_46 =>
kv (buildD (.struct [(.int .i64 0), (.int .i64 0), (.int .i64 0), (.bool false), (.int .i64 0), (.slice none 0 0)] [(0, 2), (2, 1), (3, 1), (4, 1), (5, 1)]) [(0, v84_37), (1, v83_36), (2, v97_46), (3, (e26 18))]) fun v99_47 =>
kP (newD none (.agg #[(.int .i64 0), (.int .i64 0), (.int .i64 0), (.bool false), (.int .i64 0), (.slice none 0 0)]) h) fun v20_48 h =>
ldD (.agg 2) v11_11 h = some v84_37 ∧
gdV v89_39 false (ldD .one v93_42 h) = some v94_43 ∧
kH (stD (some 6) v20_48 v99_47 h) fun _ h =>
kv (fieldAddrD (some 3) v20_48) fun v100_49 =>
kv (ldD .one v100_49 h) fun v101_50 =>
∃ K51 : List V → AHeap → Prop, (
ifV v101_50 (
kv (indexAddrD (.slice 1) v48_15 v83_36) fun v104_52 =>
kv (ldD .one v104_52 h) fun v105_53 =>
kv (lenD .slice v105_53 h) fun v106_54 =>
kP (makeSliceD (some (1, 16, [(.string ⟨#[]⟩)])) v106_54 v106_54 h) fun v107_55 h =>
kv (fieldAddrD (some 5) v20_48) fun v108_56 =>
kH (stD (some 1) v108_56 v107_55 h) fun _ h =>
K51 [] h) (
K51 [] h)) ∧ ∀ (e51 : Nat → V) (h : AHeap), K51 [] h →
kv (aUn .not (e26 14)) fun v110_57 =>
kv (gdV v110_57 true (some v48_15)) fun v112_58 =>
kv (gdV v110_57 true (some v83_36)) fun v113_59 =>
kv (gdV v110_57 true (indexAddrD (.slice 1) v112_58 v113_59)) fun v114_60 =>
kv (gdV v110_57 true (ldD .one v114_60 h)) fun v115_61 =>
kv (gdV v110_57 true (lenD .slice v115_61 h)) fun v116_62 =>
kv (gdV v110_57 true (binD .bad .gtr true v116_62 (.int .i64 0) h)) fun v117_63 =>
kv (pickV v110_57 v117_63 (.bool false)) fun v118_64 =>
kv (gdV v118_64 true (some v50_16)) fun v120_65 =>
kv (gdV v118_64 true (some v83_36)) fun v121_66 =>
kv (gdV v118_64 true (indexAddrD (.slice 1) v120_65 v121_66)) fun v122_67 =>
kv (gdV v118_64 true (ldD .one v122_67 h)) fun v123_68 =>
kv (gdV v118_64 true (aUn .not v123_68)) fun v124_69 =>
kv (pickV v118_64 v124_69 (.bool false)) fun v125_70 =>
∃ K71 : List V → AHeap → Prop, (
ifV v125_70 (
kv (indexAddrD (.slice 1) v50_16 v83_36) fun v129_72 =>
kH (stD (some 1) v129_72 (.bool true) h) fun _ h =>
kv (binD .bad .sub true (e26 13) (.int .i64 1) h) fun v131_73 =>
kv (gdV (e26 15) false (fieldAddrD (some 3) v20_48)) fun v134_74 =>
kv (gdV (e26 15) false (ldD .one v134_74 h)) fun v135_75 =>
kv (gdV (e26 15) false (aUn .not v135_75)) fun v136_76 =>
kv (pickV (e26 15) (.bool true) v136_76) fun v137_77 =>
K71 [v131_73, v137_77] h) (
K71 [(e26 13), (e26 15)] h)) ∧ ∀ (e71 : Nat → V) (h : AHeap), K71 [(e71 13), (e71 15)] h →
kv (gdV v125_70 true (some (e71 15))) fun v140_78 =>
kv (gdV v125_70 true (some v140_78)) fun v141_79 =>
kv (gdV v141_79 false (some (e71 13))) fun v142_80 =>
kv (gdV v141_79 false (binD .bad .eql true v142_80 (.int .i64 0) h)) fun v143_81 =>
kv (gdV v125_70 true (pickV v141_79 (.bool true) v143_81)) fun v144_82 =>
kv (pickV v125_70 v144_82 (.bool false)) fun v145_83 =>
kv (ldD (.agg 6) v20_48 h) fun v147_84 =>
cl (F.desk_Desk_Vote E) [v39_9, v147_84] h fun v148_85 h =>
kv (binD .bool .neq false v148_85 v145_83 h) fun v150_86 =>
ifV v150_86 (
K (.bool false) h) (
kv (gdV (e26 14) false (some v145_83)) fun v153_87 =>
kv (pickV (e26 14) (.bool true) v153_87) fun v154_88 =>
kv (binD .bad .add true (e26 18) (.int .i64 1) h) fun v73_89 =>
∃ m, m < n26 ∧ Inv26 m [(e71 13), v154_88, (e71 15), v73_89] h)) (
kv (ldD (.agg 2) v11_11 h) fun v157_90 =>
cl (F.desk_Desk_Answer E) [v39_9, v157_90] h fun v158_91 h =>
kv (aExtract v158_91 0) fun v159_92 =>
kv (aExtract v158_91 1) fun v160_93 =>
kP (newD none (.agg #[(.int .i64 0), (.int .i64 0), (.int .i64 0), (.slice none 0 0)]) h) fun v23_94 h =>
kH (stD (some 4) v23_94 v159_92 h) fun _ h =>
kv (binD .bool .eql false v160_93 (e26 14) h) fun v163_95 =>
kv (gdV v163_95 true (some v160_93)) fun v165_96 =>
kv (gdV v163_95 true (aUn .not v165_96)) fun v166_97 =>
kv (gdV v163_95 true (some v166_97)) fun v167_98 =>
kv (gdV v167_98 false (fieldAddrD (some 2) v23_94)) fun v168_99 =>
kv (gdV v167_98 false (ldD .one v168_99 h)) fun v169_100 =>
kv (gdV v167_98 false (binD .bad .eql true v169_100 (.int .i64 0) h)) fun v170_101 =>
kv (gdV v167_98 false (some (e26 15))) fun v171_102 =>
kv (gdV v167_98 false (aUn .not v171_102)) fun v172_103 =>
kv (gdV v167_98 false (binD .bool .eql false v170_101 v172_103 h)) fun v173_104 =>
kv (gdV v167_98 false (some v173_104)) fun v174_105 =>
kv (gdV v174_105 true (fieldAddrD (some 2) v23_94)) fun v175_106 =>
kv (gdV v174_105 true (ldD .one v175_106 h)) fun v176_107 =>
kv (gdV v174_105 true (binD .bad .eql true v176_107 (.int .i64 4) h)) fun v177_108 =>
kv (gdV v174_105 true (some (e26 15))) fun v178_109 =>
kv (gdV v174_105 true (binD .bool .eql false v177_108 v178_109 h)) fun v179_110 =>
kv (gdV v167_98 false (pickV v174_105 v179_110 (.bool false))) fun v180_111 =>
kv (gdV v167_98 false (some v180_111)) fun v181_112 =>
kv (gdV v181_112 true (some (e26 15))) fun v182_113 =>
kv (gdV v181_112 true (some v182_113)) fun v183_114 =>
kv (gdV v183_114 false (fieldAddrD (some 3) v23_94)) fun v184_115 =>
kv (gdV v183_114 false (ldD .one v184_115 h)) fun v185_116 =>
kv (gdV v183_114 false (lenD .slice v185_116 h)) fun v186_117 =>
kv (gdV v183_114 false (some v34_6)) fun v187_118 =>
kv (gdV v183_114 false (lenD .slice v187_118 h)) fun v188_119 =>
kv (gdV v183_114 false (binD .bad .eql false v186_117 v188_119 h)) fun v189_120 =>
kv (gdV v181_112 true (pickV v183_114 (.bool true) v189_120)) fun v190_121 =>
kv (gdV v167_98 false (pickV v181_112 v190_121 (.bool false))) fun v191_122 =>
kv (gdV v163_95 true (pickV v167_98 (.bool true) v191_122)) fun v192_123 =>
kv (pickV v163_95 v192_123 (.bool false)) fun v193_124 =>
K v193_124 h)))))
| _ => False
end Go.Abs
set_option linter.unusedSimpArgs false
set_option linter.unusedVariables false
namespace Go.Abs
open Go Go.Proofs
variable {E : FE} {F : Fr} {h : AHeap} {L : List Pl}
def frII (N : Nat) (v w : V) (l m : List Int) : Fr := ⟨N, fun h => Ints N h v l ∧ Ints N h w m, fun _ _ _ _ s m hf => ⟨Ro.mod s.1 m hf, Ro.mod s.2 m hf⟩⟩
theorem mod_upc (c : Bool) (x : Int) {d : Int} (hd : 0 < d ∧ d < 1000000) : ∃ n : Int, (0 ≤ n ∧ n < d) ∧ ∀ {h : AHeap} {X : V → Prop}, X (i64 n) →
 kv (binD .bad .rem c (i64 x) (.int .i64 d) h) fun v17 => kv (binD .bad .add c v17 (.int .i64 d) h) fun v18 => kv (binD .bad .rem c v18 (.int .i64 d) h) X := by
 have h1 := Int.tmod_lt_of_pos x hd.1
 have h2 : -d < x.tmod d := Int.lt_tmod_of_pos x hd.1
 have h3 : 0 ≤ (x.tmod d + d).tmod d := Int.tmod_nonneg _ (by omega)
 have h4 := Int.tmod_lt_of_pos (x.tmod d + d) hd.1
 refine ⟨(x.tmod d + d).tmod d, ⟨h3, h4⟩, fun {h X} hX => ?_⟩
 rw [bin_rem, if_neg (by omega), kv_some, add_i64 _ _ (by omega) (by omega), kv_some, bin_rem, if_neg (by omega), kv_some]
 exact hX
theorem no_at {l : List Int} {N : Nat} {h : AHeap} {u : V} (hb : Ints N h u l) (s : Nat) : ∃ (w3 w4 w5 w6 w7 w8 : V) (y : Bool),
 gdV (.bool (decide (((l.length : Nat) : Int) ≤ (s : Int)))) false (some u) = some w3 ∧ gdV (.bool (decide (((l.length : Nat) : Int) ≤ (s : Int)))) false (some (i64 s)) = some w4 ∧
 gdV (.bool (decide (((l.length : Nat) : Int) ≤ (s : Int)))) false (indexAddrD (.slice 1) w3 w4) = some w5 ∧ (∀ h', Ints N h' u l → gdV (.bool (decide (((l.length : Nat) : Int) ≤ (s : Int)))) false (ldD .one w5 h') = some w6) ∧
 (∀ h', gdV (.bool (decide (((l.length : Nat) : Int) ≤ (s : Int)))) false (binD .bad .rem true w6 (.int .i64 4) h') = some w7) ∧ (∀ h', gdV (.bool (decide (((l.length : Nat) : Int) ≤ (s : Int)))) false (binD .bad .neq true w7 (.int .i64 0) h') = some w8) ∧
 pickV (.bool (decide (((l.length : Nat) : Int) ≤ (s : Int)))) (.bool true) w8 = some (.bool y) := by
 by_cases hx : l.length ≤ s
 · have e : decide (((l.length : Nat) : Int) ≤ (s : Int)) = true := decide_eq_true (by omega)
   rw [e]
   exact ⟨gone, gone, gone, gone, gone, gone, true, rfl, rfl, rfl, fun _ _ => rfl, fun _ => rfl, fun _ => rfl, by simp [pickV_bool]⟩
 · have e : decide (((l.length : Nat) : Int) ≤ (s : Int)) = false := decide_eq_false (by omega)
   rw [e]
   have hg : l[s]? = some l[s] := List.getElem?_eq_getElem (by omega)
   obtain ⟨b, o, a1, a2⟩ := Ints.row hb hg
   refine ⟨u, i64 s, ptr b o, i64 l[s], i64 ((l[s]).tmod 4), .bool ((l[s]).tmod 4 != 0), (l[s]).tmod 4 != 0, rfl, rfl, by simp only [gdV_bool, if_true, a1], fun h' hb' => ?_, fun h' => ?_, fun h' => ?_, ?_⟩
   · obtain ⟨b', o', a3, a4⟩ := Ints.row hb' hg
     rw [a1] at a3
     cases a3
     simp only [gdV_bool, if_true, ld_one, a4]
   · simp only [gdV_bool, if_true, bin_rem]
     rw [if_neg (by decide)]
   · simp only [gdV_bool, if_true, bin_neq]
   · simp [pickV_bool]
def dBl : EL Bool := ⟨1, fun b => [.bool b], fun _ => rfl, fun _ => rfl, by decide⟩
def plBl (v : V) (l : List Bool) : Pl := ⟨fun h f => SlE dBl h f v l, fun _ _ q => q.lt, fun _ _ _ q hl hs => SlE.same q hl hs⟩
theorem mk_bools {n : Nat} (hn : 1 ≤ n ∧ n ≤ 3) (s : Sep F h L) {K : V → AHeap → Prop} (hK : ∀ r h', Sep F h' (plBl r (List.replicate n false) :: L) → K r h') :
 kP (makeSliceD (some (1, 1, [(.bool false)])) (i64 n) (i64 n) h) K := by
 have e1 : makeSliceD (some (1, 1, [(.bool false)])) (i64 (n : Nat)) (i64 (n : Nat)) h = some (.slice (some ⟨h.next, 0, none⟩) (List.replicate n false).length (2 * (List.replicate n false).length), h.new (.cells (dBl.flat (List.replicate n false)) 1 .rw)) := by
  have : n = 1 ∨ n = 2 ∨ n = 3 := by omega
  rcases this with rfl | rfl | rfl <;> rfl
 rw [e1, kP_some]
 refine hK _ _ (s.alloc (a' := [h.next]) (plBl (.slice (some ⟨h.next, 0, none⟩) (List.replicate n false).length (2 * (List.replicate n false).length)) (List.replicate n false)) ⟨by simp, fun x hx _ => by
  have : x ≠ h.next := by omega
  simp [this], by simp, by simp⟩ (SlE.lit dBl h (List.replicate n false) (by intro e; have := congrArg List.length e; simp at this; omega)))
theorem mk_strs {n : Nat} (hn : n ≤ 8) (s : Sep F h L) {K : V → AHeap → Prop} (hK : ∀ t h', Sep F h' (plStrs (mkS t) (List.replicate n ⟨#[]⟩) :: L) → K (mkS t) h') :
 kP (makeSliceD (some (1, 16, [(.string ⟨#[]⟩)])) (i64 n) (i64 n) h) K := by
 by_cases h0 : n = 0
 · subst h0
   have e1 : makeSliceD (some (1, 16, [(.string ⟨#[]⟩)])) (i64 (0 : Nat)) (i64 (0 : Nat)) h = some (.slice (some ⟨h.next, 0, none⟩) 0 0, h.new (.cells [] 1 .rw)) := rfl
   rw [e1, kP_some]
   refine hK (some ⟨h.next, 0, none⟩, 0, 0) _ (s.alloc (a' := [h.next]) (plStrs (mkS (some ⟨h.next, 0, none⟩, 0, 0)) []) ⟨by simp, fun x hx _ => by
    have : x ≠ h.next := by omega
    simp [this], by simp, by simp⟩ (ts_sle.2 ⟨rfl, .inr ⟨h.next, 0, [], rfl, rfl, by simp, by simp, by simp; rfl, by simp, rfl⟩⟩))
 · have e1 : makeSliceD (some (1, 16, [(.string ⟨#[]⟩)])) (i64 (n : Nat)) (i64 (n : Nat)) h = some (.slice (some ⟨h.next, 0, none⟩) (List.replicate n (⟨#[]⟩ : ByteArray)).length (2 * (List.replicate n (⟨#[]⟩ : ByteArray)).length), h.new (.cells (dStr.flat (List.replicate n ⟨#[]⟩)) 1 .rw)) := by
    have : n = 1 ∨ n = 2 ∨ n = 3 ∨ n = 4 ∨ n = 5 ∨ n = 6 ∨ n = 7 ∨ n = 8 := by omega
    rcases this with rfl | rfl | rfl | rfl | rfl | rfl | rfl | rfl <;> rfl
   rw [e1, kP_some]
   exact hK (some ⟨h.next, 0, none⟩, (List.replicate n (⟨#[]⟩ : ByteArray)).length, 2 * (List.replicate n (⟨#[]⟩ : ByteArray)).length) _ (s.litStrs (List.replicate n ⟨#[]⟩) (by intro e; have := congrArg List.length e; simp at this; omega))
theorem counts_mid {dec hf vt : Bool} {h : AHeap} {p w : V} {a t b : V} {s : Nat} {n : Nat} (hn : hf = decide (0 < n)) (a1 : indexAddrD (.slice 1) p (i64 s) = some a) (a2 : ldD .one a h = some t) (a3 : lenD .slice t h = some (i64 n))
 (b1 : indexAddrD (.slice 1) w (i64 s) = some b) (b2 : ldD .one b h = some (.bool vt)) {X : V → Prop} (hX : X (.bool (!dec && hf && !vt))) :
 kv (aUn .not (.bool dec)) fun v110 => kv (gdV v110 true (some p)) fun v112 => kv (gdV v110 true (some (i64 s))) fun v113 => kv (gdV v110 true (indexAddrD (.slice 1) v112 v113)) fun v114 => kv (gdV v110 true (ldD .one v114 h)) fun v115 =>
 kv (gdV v110 true (lenD .slice v115 h)) fun v116 => kv (gdV v110 true (binD .bad .gtr true v116 (.int .i64 0) h)) fun v117 => kv (pickV v110 v117 (.bool false)) fun v118 => kv (gdV v118 true (some w)) fun v120 => kv (gdV v118 true (some (i64 s))) fun v121 =>
 kv (gdV v118 true (indexAddrD (.slice 1) v120 v121)) fun v122 => kv (gdV v118 true (ldD .one v122 h)) fun v123 => kv (gdV v118 true (aUn .not v123)) fun v124 => kv (pickV v118 v124 (.bool false)) X := by
 have e : decide (((n : Nat) : Int) > 0) = hf := by
  rw [hn]
  by_cases hz : 0 < n
  · rw [decide_eq_true hz]; exact decide_eq_true (by omega)
  · rw [decide_eq_false hz]; exact decide_eq_false (by omega)
 cases dec with
 | true =>
  simp only [not_bool, Bool.not_true, kv_some, gdV_bool, Bool.false_eq_true, if_false, pickV_bool, Bool.false_and] at hX ⊢
  exact hX
 | false =>
  simp only [not_bool, Bool.not_false, kv_some, gdV_bool, if_true, a1, a2, a3, bin_gtr, e, pickV_bool, Bool.true_and] at hX ⊢
  cases hf with
  | false =>
   simp only [Bool.false_eq_true, if_false, kv_some, pickV_bool, Bool.false_and] at hX ⊢
   exact hX
  | true =>
   simp only [if_true, kv_some, b1, b2, not_bool, pickV_bool, Bool.true_and] at hX ⊢
   exact hX
theorem now_mid {c no : Bool} {h : AHeap} {left : Int} {X : V → Prop} (hX : X (.bool (c && (no || left == 0)))) :
 kv (gdV (.bool c) true (some (.bool no))) fun v140 => kv (gdV (.bool c) true (some v140)) fun v141 => kv (gdV v141 false (some (i64 left))) fun v142 => kv (gdV v141 false (binD .bad .eql true v142 (.int .i64 0) h)) fun v143 =>
 kv (gdV (.bool c) true (pickV v141 (.bool true) v143)) fun v144 => kv (pickV (.bool c) v144 (.bool false)) X := by
 cases c with
 | false =>
  simp only [kv_some, gdV_bool, gdV_gone, Bool.false_eq_true, if_false, pickV_bool, Bool.false_and] at hX ⊢
  exact hX
 | true =>
  cases no with
  | true =>
   simp only [kv_some, gdV_bool, Bool.true_eq_false, if_false, if_true, pickV_bool, Bool.true_and, Bool.true_or] at hX ⊢
   exact hX
  | false =>
   simp only [kv_some, gdV_bool, Bool.false_eq_true, if_false, if_true, pickV_bool, Bool.true_and, Bool.false_or, bin_eql] at hX ⊢
   exact hX
theorem shards_some {l : List Oq} {n : Nat} (hn : 0 < n) (hl : 0 < l.length) : 0 < (shardsF (partsF l n)).length := by
 have := hasF_mem (has_sh (l := l) hn hl)
 exact List.length_pos_of_mem this
theorem hasF_nat (ps : List (List Int)) (s : Nat) : hasF ps (s : Int) = decide (0 < (ps.getD s []).length) := by
 unfold hasF
 have : (0 : Int) ≤ (s : Int) := by omega
 simp [this]
set_option maxHeartbeats 4000000 in
theorem law_DeskVotes (oe : OpE E) {v u w : V} {l : List Oq} {ns os : List Int} (sl : Oqs h.next h v l) (su : Ints h.next h u ns) (sw : Ints h.next h w os) (hz : ∀ o ∈ l, o.space.size ≤ maxLen) (n : Int) :
 cl (Go.Abs.F.estafettelaw15_DeskVotes E) [i64 n, v, u, w] h fun r _ => r = .bool true := by
 refine cl_of ?_
 simp only [Go.Abs.F.estafettelaw15_DeskVotes]
 refine cl_then begun15_spec ?_
 rintro r h1 ⟨rfl, rfl⟩
 simp only [not_bool, Bool.not_true, kv_some, ifV_bool, Bool.false_eq_true, if_false]
 obtain ⟨N, hN⟩ : ∃ N, h1.next = N := ⟨_, rfl⟩
 rw [hN] at su sw sl
 have s0 : Sep (frII N u w ns os) h1 [] := ⟨by show N ≤ h1.next; omega, ⟨su, sw⟩, [], rfl⟩
 obtain ⟨nt, hnt, hgo⟩ := mod_upc true n (d := 3) (by decide)
 refine hgo ?_
 obtain ⟨k, rfl⟩ : ∃ k : Nat, nt = (k : Int) := ⟨nt.toNat, by omega⟩
 rw [add_i64 1 _ (by omega) (by omega), kv_some, show (1 : Int) + (k : Int) = ((k + 1 : Nat) : Int) by omega]
 obtain ⟨nn, rfl⟩ : ∃ nn, k + 1 = nn := ⟨_, rfl⟩
 have hnn : 1 ≤ k + 1 ∧ k + 1 ≤ 3 := by omega
 generalize k + 1 = nn at hnn ⊢
 clear hnt hgo
 rw [Ops_cut]
 refine cl_then (cut_ops 10 (by decide) sl s0) ?_
 intro vo h2 s1
 have hz10 : ∀ o ∈ l.take 10, o.space.size ≤ maxLen := fun o ho => hz o (List.mem_of_mem_take ho)
 have hl10 : (l.take 10).length ≤ 10 := by simp; omega
 generalize l.take 10 = ops at s1 hz10 hl10
 obtain ⟨f1, q1, k1⟩ := s1.head
 have q1 : SlE dOp h2 f1 vo ops := q1
 refine cl_then (ref12_All q1 (by omega) hz10) ?_
 rintro r h3 ⟨rfl, m3⟩
 have s2 := s1.skip m3
 clear s1 q1 k1 m3
 rw [not_bool, kv_some, ifV_bool]
 cases hA : allO ops with
 | false => simp
 | true =>
 simp only [Bool.not_true, Bool.false_eq_true, if_false]
 have h8 : 1 ≤ ops.length ∧ ops.length ≤ 8 ∧ ∀ o ∈ ops, mayO o = true := by
  have h9 := hA
  unfold allO at h9
  simp only [Bool.and_eq_true, decide_eq_true_eq, List.all_eq_true] at h9
  exact ⟨h9.1.1, h9.1.2, h9.2⟩
 have hsp : ∀ o ∈ ops, o.space.size ≤ 1000000000 := fun o ho => by
  have h9 := h8.2.2 o ho
  unfold mayO at h9
  simp only [Bool.and_eq_true, decide_eq_true_eq] at h9
  omega
 refine cl_then (desk_New (nn : Nat) (by omega) s2) ?_
 intro p h4 s3
 refine kv_of (v := (⟨1, 5⟩ : IdM).agg) rfl ?_
 rw [newI0, kP_some]
 have s4 := s3.box (cId ⟨0, 0⟩) 2
 rw [st2 s4.get, kH_some]
 have s5 := s4.write (cs' := cId ⟨1, 5⟩)
 clear s4 s3 s2
 generalize AHeap.put _ _ _ = h5 at s5 ⊢
 generalize h4.next = bi at s5 ⊢
 rw [ld2 s5.get, kv_some]
 refine cl_then (desk_Begin (nn := nn) oe rfl hnn ⟨1, 5⟩ (ops := ops) (by omega) hz10 (s5.re3 [1, 2, 0] rfl)) ?_
 rintro r h6 ⟨rfl, s6⟩
 have hbg : beginV ⟨(nn : Nat), [], [], []⟩ ⟨1, 5⟩ ops = (true, ⟨(nn : Nat), [(1, 5)], [(⟨1, 5⟩, newTr ops nn)], []⟩) := by
  unfold beginV
  have h1 : clientB ⟨1, 5⟩ = true := by decide
  rw [h1, hA]
  rfl
 rw [hbg] at s6 ⊢
 simp only [not_bool, Bool.not_true, kv_some, ifV_bool, Bool.false_eq_true, if_false]
 refine cl_then (ref12_Parts hnn (by omega) hsp s6.up1) ?_
 intro vp h7 s7
 refine mk_bools hnn s7 fun vb h9 s9 => ?_
 clear s5 s6 s7 hbg
 refine ⟨fun m vs g => ∃ s : Nat, vs = [i64 (((((List.range s).map fun i : Nat => (i : Int)).filter (hasF (partsF ops nn))).length : Nat) : Int), i64 s] ∧ m = nn - s ∧ s ≤ nn ∧ Sep (frII N u w ns os) g (plBl vb (List.replicate nn false) :: plPts vp (partsF ops nn) :: plOps vo ops :: plDsk p ⟨(nn : Nat), [(1, 5)], [(⟨1, 5⟩, newTr ops nn)], []⟩ :: plBox bi (cId ⟨1, 5⟩) 2 :: []), nn, ⟨0, rfl, rfl, by omega, s9⟩, ?_⟩
 clear s9
 rintro m e g ⟨s, he, rfl, hs, z⟩
 simp only [List.cons.injEq, and_true] at he
 simp only [he.1, he.2, bin_lss, kv_some, ifV_bool, decide_eq_true_eq]
 have hfl : (((List.range s).map fun i : Nat => (i : Int)).filter (hasF (partsF ops nn))).length ≤ s := by
  refine Nat.le_trans (List.length_filter_le _ _) ?_
  simp
 by_cases hx : s < nn
 · rw [if_pos (show ((s : Nat) : Int) < (nn : Nat) by omega)]
   have pr := Sep.ptsR z.up1
   obtain ⟨pp, hgp⟩ : ∃ pp, (partsF ops nn)[s]? = some pp := ⟨_, List.getElem?_eq_getElem (by rw [parts_len]; exact hx)⟩
   obtain ⟨a, t, a1, a2, a3, _⟩ := pr.row s _ hgp
   have hst := shards_step (partsF ops nn) s
   have e1 : hasF (partsF ops nn) (s : Int) = decide (0 < pp.length) := by
    rw [hasF_nat, List.getD_eq_getElem?_getD, hgp]; rfl
   rw [a1, kv_some, a2, kv_some, a3, kv_some, bin_gtr, kv_some, ifV_bool]
   by_cases hp : 0 < pp.length
   · rw [if_pos (decide_eq_true (show (pp.length : Int) > 0 by omega))]
     rw [add_i64 _ 1 (by omega) (by omega), kv_some, add_i64 _ 1 (by omega) (by omega), kv_some]
     refine ⟨nn - (s + 1), by omega, s + 1, ?_, rfl, by omega, z⟩
     rw [hst, e1, decide_eq_true hp]
     simp
   · rw [if_neg (show ¬ (decide (((pp.length : Nat) : Int) > 0) = true) by simp only [decide_eq_true_eq]; omega)]
     rw [add_i64 _ 1 (by omega) (by omega), kv_some]
     refine ⟨nn - (s + 1), by omega, s + 1, ?_, rfl, by omega, z⟩
     rw [hst, e1, decide_eq_false hp]
     simp
 rw [if_neg (show ¬ ((s : Nat) : Int) < (nn : Nat) by omega)]
 obtain rfl : s = nn := by omega
 have hsh : (((List.range s).map fun i : Nat => (i : Int)).filter (hasF (partsF ops s))) = shardsF (partsF ops s) := by unfold shardsF; rw [parts_len]
 rw [hsh] at hfl ⊢
 clear he hx hs hsh
 have hs0 := shards_some (l := ops) (n := s) (by omega) (by omega)
 have z0 : VSt ⟨1, 5⟩ s ops (((shardsF (partsF ops s)).length : Nat) : Int) false false (List.replicate s false) ⟨(s : Nat), [(1, 5)], [(⟨1, 5⟩, newTr ops s)], []⟩ := by
  refine ⟨by simp, ⟨rfl, hnn, fun id t ht => ?_⟩, ⟨fun id t ht _ => ?_, fun c => by simp [lkp]⟩, rfl, fun _ => ⟨rfl, [], rfl, rfl, fun k hk => ?_, by simp, hs0, fun k x hx => by cases hx⟩, fun h => by cases h⟩
  · simp only [lkp] at ht
    split at ht
    · cases ht; exact ⟨hA, rfl⟩
    · cases ht
  · simp only [lkp] at ht
    split at ht
    · cases ht; exact ⟨List.nodup_nil, fun _ _ hk => by cases hk⟩
    · cases ht
  · simp [lkp, List.getD_eq_getElem?_getD, List.getElem?_replicate, hk]
 refine ⟨fun m vs g' => ∃ (i : Nat) (left : Int) (dec no : Bool) (voted : List Bool) (d : DeskM), vs = [i64 left, .bool dec, .bool no, i64 i] ∧ m = 20 - i ∧ VSt ⟨1, 5⟩ s ops left dec no voted d ∧
  Sep (frII N u w ns os) g' (plBl vb voted :: plPts vp (partsF ops s) :: plOps vo ops :: plDsk p d :: plBox bi (cId ⟨1, 5⟩) 2 :: []), 20, ⟨0, _, false, false, _, _, rfl, rfl, z0, z⟩, ?_⟩
 clear z z0 hfl
 rintro m e2 g2 ⟨i, left, dec, no, voted, d, he, rfl, vz, z⟩
 simp only [List.cons.injEq, and_true] at he
 obtain ⟨he1, he2, he3, he4⟩ := he
 have hW : Ints N g2 w os := z.2.1.2
 have hU : Ints N g2 u ns := z.2.1.1
 have hlw : lenD .slice w g2 = some (i64 os.length) := Ro.len hW g2
 simp only [he1, he2, he3, he4, hlw, kv_some, bin_lss]
 refine guard2 _ ?_
 rw [ifV_bool]
 by_cases hx : (i : Int) < (os.length : Nat) ∧ (i : Int) < 20
 case neg =>
  have : (decide ((i : Int) < (os.length : Nat)) && decide ((i : Int) < 20)) = false := by
   simp only [Bool.and_eq_false_iff, decide_eq_false_iff_not]
   omega
  rw [this]
  simp only [Bool.false_eq_true, if_false]
  rw [ld2 (Sep.get (z.re5 [4] rfl)), kv_some]
  have hk8 : ((lkp (⟨1, 5⟩ : IdM).client d.kept).getD []).length ≤ 1000000 := Nat.le_trans (vz.dv.kept 1) (by decide)
  have hkv : ∀ a ∈ (lkp (⟨1, 5⟩ : IdM).client d.kept).getD [], a.vals.length ≤ 1000000 := by
   intro a ha
   cases hd : dec with
   | true =>
    obtain ⟨t, a', _, _, e3, _, _, _, e7⟩ := vz.decd hd
    rw [e3, List.mem_singleton] at ha
    rw [ha]; omega
   | false =>
    obtain ⟨_, votes, _, e2, _⟩ := vz.und hd
    rw [e2] at ha
    simp [lkp] at ha
  obtain ⟨a1, a2⟩ := vz.answer
  refine cl_then (desk_Answer ⟨1, 5⟩ hk8 hkv (z.re5 [3, 2] rfl)) ?_
  rintro r4 g4 ⟨v4, rfl, z4⟩
  rw [a1]
  generalize (answerV d ⟨1, 5⟩).1 = an at a2 z4
  obtain ⟨t, rfl, z5⟩ := z4.openAn1
  simp only [extract_tuple, List.getElem?_toArray, List.getElem?_cons_zero, List.getElem?_cons_succ, kv_some]
  refine kP_of (v := ptr g4.next 0) (g := g4.new (.cells [i64 0, i64 0, i64 0, .slice none 0 0] 4 .rw)) rfl ?_
  have z6 := z5.box [i64 0, i64 0, i64 0, .slice none 0 0] 4
  generalize g4.new (.cells [i64 0, i64 0, i64 0, .slice none 0 0] 4 .rw) = g5 at z6 ⊢
  generalize g4.next = ba at z6 ⊢
  rw [st_of (n := 4) (vs := [i64 an.id.client, i64 an.id.seq, i64 an.err, mkS t]) z6.get (by simp) rfl rfl rfl (by simp), kH_some]
  have z7 := z6.write (cs' := [i64 an.id.client, i64 an.id.seq, i64 an.err, mkS t])
  rw [show setList [i64 0, i64 0, i64 0, .slice none 0 0] 0 [i64 an.id.client, i64 an.id.seq, i64 an.err, mkS t] = [i64 an.id.client, i64 an.id.seq, i64 an.err, mkS t] from rfl]
  clear z z4 z5 z6
  generalize AHeap.put _ _ _ = g7 at z7 ⊢
  have r2 : g7.rd ba 2 = some (i64 an.err) := by rw [rd_of z7.get 2]; rfl
  have r3 : g7.rd ba 3 = some (mkS t) := by rw [rd_of z7.get 3]; rfl
  obtain ⟨fa, qa, _⟩ := z7.up1.head
  have qa : Ts g7 fa (mkS t) an.vals := qa
  have l1 : lenD .slice (mkS t) g7 = some (i64 an.vals.length) := Sl.len qa
  obtain ⟨fo, qo, _⟩ := Sep.head (z7.re4 [3] rfl)
  have qo : SlE dOp g7 fo vo ops := qo
  have l2 := qo.len
  rw [bin_bool_eq, kv_some]
  cases hd : dec with
  | false =>
   simp only [beq_self_eq_true, gdV_bool, if_true, kv_some, not_bool, Bool.not_false, Bool.true_eq_false, if_false, gdV_gone, pickV_bool]
  | true =>
   obtain ⟨b1, b2⟩ := a2 hd
   cases no with
   | false =>
    have b1 : an.err = 0 := b1
    have b2 := b2 rfl
    simp only [beq_self_eq_true, gdV_bool, if_true, kv_some, not_bool, Bool.not_true, Bool.not_false, Bool.false_eq_true, Bool.true_eq_false, if_false, fieldAddr_ptr, Nat.zero_add, ld_one, r2, r3, b1, b2, bin_eql, bin_bool_eq, pickV_bool, l1, l2, show ((0 : Int) == 4) = false from rfl]
   | true =>
    have b1 : an.err = 4 := b1
    simp only [beq_self_eq_true, gdV_bool, if_true, kv_some, not_bool, Bool.not_true, Bool.not_false, Bool.false_eq_true, Bool.true_eq_false, if_false, fieldAddr_ptr, Nat.zero_add, ld_one, r2, r3, b1, bin_eql, bin_bool_eq, pickV_bool, gdV_gone, l1, l2, show ((4 : Int) == 0) = false from rfl]
 rw [decide_eq_true hx.1, decide_eq_true hx.2]
 simp only [Bool.and_self, if_true]
 have hil : i < os.length := by omega
 have hg : os[i]? = some os[i] := List.getElem?_eq_getElem hil
 obtain ⟨b1, o1, a1, a2⟩ := Ints.row hW hg
 generalize os[i] = x at a2
 rw [a1, kv_some, ld_one, a2, kv_some]
 obtain ⟨st, hst, hgo⟩ := mod_upc false x (d := (s : Nat)) (by omega)
 refine hgo ?_
 obtain ⟨q, rfl⟩ : ∃ q : Nat, st = (q : Int) := ⟨st.toNat, by omega⟩
 have hq : q < s := by omega
 clear hgo hst
 rw [ld2 (Sep.get (z.re5 [4] rfl)), kv_some]
 rw [show lenD .slice u g2 = some (i64 ns.length) from Ro.len hU g2, kv_some, bin_leq, kv_some]
 obtain ⟨w3, w4, w5, w6, w7, w8, y, q3, q4, q5, q6, q7, q8, q9⟩ := no_at hU q
 rw [q3, kv_some, q4, kv_some, q5, kv_some, q6 g2 hU, kv_some, q7, kv_some, q8, kv_some, q9, kv_some]
 refine kv_of (v := .agg #[i64 1, i64 5, i64 (q : Nat), .bool y, i64 i, .slice none 0 0]) rfl ?_
 refine kP_of (v := ptr g2.next 0) (g := g2.new (.cells [i64 0, i64 0, i64 0, .bool false, i64 0, .slice none 0 0] 6 .rw)) rfl ?_
 have z1 := z.box [i64 0, i64 0, i64 0, .bool false, i64 0, .slice none 0 0] 6
 generalize g2.new (.cells [i64 0, i64 0, i64 0, .bool false, i64 0, .slice none 0 0] 6 .rw) = g3 at z1 ⊢
 generalize g2.next = bx at z1 ⊢
 refine ⟨ld2 (Sep.get (z1.re6 [5] rfl)), q6 g3 z1.2.1.1, ?_⟩
 rw [st_of (n := 6) (vs := [i64 1, i64 5, i64 (q : Nat), .bool y, i64 i, .slice none 0 0]) z1.get (by simp) rfl rfl rfl (by simp), kH_some]
 have z2 := z1.write (cs' := [i64 1, i64 5, i64 (q : Nat), .bool y, i64 i, .slice none 0 0])
 rw [show setList [i64 0, i64 0, i64 0, .bool false, i64 0, .slice none 0 0] 0 [i64 1, i64 5, i64 (q : Nat), .bool y, i64 i, .slice none 0 0] = [i64 1, i64 5, i64 (q : Nat), .bool y, i64 i, .slice none 0 0] from rfl]
 clear z z1 q3 q4 q5 q6 q7 q8 q9 hW hU hlw a1 a2
 generalize AHeap.put _ _ _ = g4 at z2 ⊢
 have v3 : g4.rd bx 3 = some (.bool y) := by rw [rd_of z2.get 3]; rfl
 simp only [fieldAddr_ptr, Nat.zero_add, kv_some, ld_one, v3]
 obtain ⟨pp, hgp⟩ : ∃ pp, (partsF ops s)[q]? = some pp := ⟨_, List.getElem?_eq_getElem (by rw [parts_len]; exact hq)⟩
 have hgd : (partsF ops s).getD q [] = pp := by rw [List.getD_eq_getElem?_getD, hgp]; rfl
 have hpl : ((partsF ops s).getD q []).length ≤ 8 := by
  have := parts_short (show (partsF ops s).getD q [] ∈ partsF ops s by rw [hgd]; exact List.mem_of_getElem? hgp)
  omega
 obtain ⟨vo', hvo⟩ : ∃ vv : VoteM, vv = ⟨⟨1, 5⟩, (q : Nat), y, i, if y then List.replicate ((partsF ops s).getD q []).length ⟨#[]⟩ else []⟩ := ⟨_, rfl⟩
 refine ⟨fun vs g => vs = [] ∧ ∃ tv, Sep (frII N u w ns os) g (plBox bx [i64 1, i64 5, i64 (q : Nat), .bool y, i64 i, mkS tv] 6 :: plStrs (mkS tv) vo'.vals :: plBl vb voted :: plPts vp (partsF ops s) :: plOps vo ops :: plDsk p d :: plBox bi (cId ⟨1, 5⟩) 2 :: []), ?_, ?_⟩
 · rw [ifV_bool]
   have ev : vo'.vals = if y then List.replicate ((partsF ops s).getD q []).length ⟨#[]⟩ else [] := by rw [hvo]
   rw [ev]
   cases y with
   | false => exact ⟨by first | rfl | trivial, (none, 0, 0), (Sep.noStrs z2).re7 [1, 0, 2, 3, 4, 5, 6] rfl⟩
   | true =>
    simp only [if_true]
    obtain ⟨a, t, a1, a2, a3, _⟩ := (Sep.ptsR z2.up2).row q _ hgp
    rw [← hgd] at a3
    rw [a1, kv_some]
    have a2' : ldD .one a g4 = some t := a2
    rw [a2', kv_some, a3, kv_some]
    refine mk_strs hpl z2 fun tv g5 z3 => ?_
    rw [st_one (Sep.get z3.up1) (by simp) rfl rfl (by simp), kH_some]
    exact ⟨by first | rfl | trivial, tv, (Sep.write z3.up1).re7 [0, 1, 2, 3, 4, 5, 6] rfl⟩
 rintro e5 g5 ⟨-, tv, z3⟩
 clear z2 v3
 obtain ⟨a, t, a1, a2, a3, _⟩ := (Sep.ptsR (z3.re4 [3] rfl)).row q _ hgp
 rw [← hgd] at a3
 obtain ⟨fb, qb, kb⟩ := Sep.head (z3.re7 [2, 0, 1, 3, 4, 5, 6] rfl)
 have qb : SlE dBl g5 fb vb voted := qb
 have hgv : voted[q]? = some (voted.getD q false) := by
  rw [List.getD_eq_getElem?_getD, List.getElem?_eq_getElem (by rw [vz.vl]; exact hq)]; rfl
 obtain ⟨bb, _, c1, _, c3⟩ := qb.at hgv
 have c1 : indexAddrD (.slice 1) vb (i64 (q : Nat)) = some (ptr bb (q * 1)) := c1
 have c3 : ldD .one (ptr bb (q * 1)) g5 = some (.bool (voted.getD q false)) := c3 0 (by decide)
 refine counts_mid (hf := hasF (partsF ops s) (q : Int)) (hasF_nat _ _) a1 a2 a3 c1 c3 ?_
 obtain ⟨c, hc⟩ : ∃ c, c = (!dec && hasF (partsF ops s) (q : Int) && !voted.getD q false) := ⟨_, rfl⟩
 rw [← hc]
 obtain ⟨no', hno⟩ : ∃ no', no' = (if c then no || !vo'.yes else no) := ⟨_, rfl⟩
 obtain ⟨left', hleft⟩ : ∃ left', left' = (if c then left - 1 else left) := ⟨_, rfl⟩
 obtain ⟨now, hnow⟩ : ∃ now, now = (c && (no' || left' == 0)) := ⟨_, rfl⟩
 have hy : vo'.yes = y := by rw [hvo]
 obtain ⟨r1, r2⟩ := vz.step hA hnn hq (v := vo') (by rw [hvo]) (by rw [hvo]) (fun hyy => by rw [hy] at hyy; rw [hvo]; simp [hyy]) hc hno hleft hnow
 refine ⟨fun vs g => vs = [i64 left', .bool no'] ∧ Sep (frII N u w ns os) g (plBox bx [i64 1, i64 5, i64 (q : Nat), .bool y, i64 i, mkS tv] 6 :: plStrs (mkS tv) vo'.vals :: plBl vb (if c then voted.set q true else voted) :: plPts vp (partsF ops s) :: plOps vo ops :: plDsk p d :: plBox bi (cId ⟨1, 5⟩) 2 :: []), ?_, ?_⟩
 · rw [ifV_bool]
   cases hcc : c with
   | false =>
    rw [hcc] at hno hleft
    simp only [Bool.false_eq_true, if_false] at hno hleft ⊢
    subst hno hleft
    exact ⟨rfl, z3⟩
   | true =>
    rw [hcc] at hno hleft
    simp only [if_true] at hno hleft ⊢
    have hl1 : left - 1 ≥ -9223372036854775808 ∧ left - 1 ≤ 9223372036854775807 := by
     have hd : dec = false := by
      cases dec with
      | false => rfl
      | true => rw [hcc] at hc; cases hc
     obtain ⟨_, votes, _, _, _, e4, e5, _⟩ := vz.und hd
     have := shards_len (partsF ops s)
     rw [parts_len] at this
     omega
    obtain ⟨b', g6, d1, d2, q6, m6⟩ := qb.st (i := q) (by rw [vz.vl]; exact hq) true
    have d1 : indexAddrD (.slice 1) vb (i64 (q : Nat)) = some (ptr b' (q * 1)) := d1
    have d2 : stD (some 1) (ptr b' (q * 1)) (.bool true) g5 = some g6 := by rw [← d2]; rfl
    have z4 := kb (plBl vb (voted.set q true)) m6 q6
    have v3 : g6.rd bx 3 = some (.bool y) := by rw [rd_of (Sep.get z4.up1) 3]; rfl
    rw [d1, kv_some, d2, kH_some, sub_i64 _ 1 hl1.1 hl1.2, kv_some]
    have hno2 : no' = (no || !y) := by rw [hno, hy]
    cases no with
    | true =>
     simp only [gdV_bool, Bool.true_eq_false, if_false, kv_some, pickV_bool, if_true]
     refine ⟨by rw [hleft, hno2]; rfl, z4.re7 [1, 2, 0, 3, 4, 5, 6] rfl⟩
    | false =>
     simp only [gdV_bool, if_true, fieldAddr_ptr, Nat.zero_add, kv_some, ld_one, v3, not_bool, pickV_bool, Bool.false_eq_true, if_false]
     refine ⟨by rw [hleft, hno2]; rfl, z4.re7 [1, 2, 0, 3, 4, 5, 6] rfl⟩
 rintro e71 g7 ⟨he71, z5⟩
 simp only [List.cons.injEq, and_true] at he71
 rw [he71.1, he71.2]
 refine now_mid ?_
 rw [← hnow]
 rw [ld_agg, rdN_of z5.get]
 refine kv_of (v := .agg #[i64 vo'.id.client, i64 vo'.id.seq, i64 vo'.shard, .bool vo'.yes, i64 vo'.now, mkS tv]) (by rw [hvo]; rfl) ?_
 have hvl : vo'.vals.length ≤ 1000000 := by
  rw [hvo]
  cases y
  · simp
  · simp only [if_true, List.length_replicate]; omega
 refine cl_then (desk_Vote vz.di vz.dv vo' hvl (z5.re7 [5, 1, 2, 3, 4, 6] rfl)) ?_
 rintro r g8 ⟨rfl, z6⟩
 rw [r1]
 generalize (voteV s d vo').2 = d' at r2 z6
 simp only [bin_bool_ne, beq_self_eq_true, Bool.not_true, kv_some, ifV_bool, Bool.false_eq_true, if_false]
 have hfin : kv (binD .bad .add true (i64 (i : Nat)) (.int .i64 1) g8) fun v73 => ∃ m, m < 20 - i ∧ ∃ (i' : Nat) (left1 : Int) (dec1 no1 : Bool) (voted1 : List Bool) (d1 : DeskM), [i64 left', .bool (dec || now), .bool no', v73] = [i64 left1, .bool dec1, .bool no1, i64 i'] ∧ m = 20 - i' ∧ VSt ⟨1, 5⟩ s ops left1 dec1 no1 voted1 d1 ∧
  Sep (frII N u w ns os) g8 (plBl vb voted1 :: plPts vp (partsF ops s) :: plOps vo ops :: plDsk p d1 :: plBox bi (cId ⟨1, 5⟩) 2 :: []) := by
  rw [add_i64 _ 1 (by omega) (by omega), kv_some]
  exact ⟨20 - (i + 1), by omega, i + 1, left', dec || now, no', _, d', by simp, rfl, r2, z6.re6 [2, 3, 4, 0, 5] rfl⟩
 cases hdd : dec with
 | true =>
  rw [hdd] at hfin
  simp only [gdV_bool, Bool.true_eq_false, if_false, kv_some, pickV_bool, if_true]
  exact hfin
 | false =>
  rw [hdd] at hfin
  simp only [gdV_bool, if_true, kv_some, pickV_bool, Bool.false_eq_true, if_false]
  exact hfin
end Go.Abs

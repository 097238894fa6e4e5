/- DeskKeeps, on abstract heaps. -/
import Derived.Test.YthhegdifbnghpaaGreatDoorKbf
import Derived.Test.YthhegdifbnghpaaGreatDoorKas
set_option maxRecDepth 20000
set_option linter.unusedVariables false
set_option linter.unusedSimpArgs false
namespace Go.Abs
open Go
def F.estafettelaw15_DeskKeeps (E : FE) : Spec := fun args h K => match args with
| [a0, a1] =>
cl (F.estafettelaw15_begun E) [] h fun v16_0 h =>
kv (aUn .not v16_0) fun v18_1 =>
ifV v18_1 (
K (.bool false) h) (
kv (binD .bad .rem true a0 (.int .i64 20) h) fun v20_2 =>
kv (binD .bad .add true v20_2 (.int .i64 20) h) fun v21_3 =>
kv (binD .bad .rem true v21_3 (.int .i64 20) h) fun v22_4 =>
cl (F.desk_New E) [(.int .i64 1)] h fun v23_5 h =>
∃ (Inv6 : Nat → List V → AHeap → Prop) (n6 : Nat), Inv6 n6 [(.int .i64 1)] h ∧ ∀ (n6 : Nat) (e6 : Nat → V) (h : AHeap), Inv6 n6 [(e6 7)] h →
kv (binD .bad .leq false (e6 7) v22_4 h) fun v26_7 =>
ifV v26_7 (
kv (buildD (.struct [(.int .i64 0), (.int .i64 0)] [(0, 1), (1, 1)]) [(0, (.int .i64 3)), (1, (e6 7))]) fun v30_8 =>
kP (newD none (.agg #[(.int .i64 0), (.int .i64 0)]) h) fun v8_9 h =>
kH (stD (some 2) v8_9 v30_8 h) fun _ h =>
kv (ldD (.agg 2) v8_9 h) fun v32_10 =>
kv (buildD (.struct [(.int .i64 0), (.string ⟨#[]⟩), (.string ⟨#[]⟩), (.string ⟨#[]⟩), (.int .i64 0)] [(0, 1), (1, 1), (2, 1), (3, 1), (4, 1)]) [(0, (.int .i64 3)), (1, (.string ⟨#[97]⟩)), (2, (.string ⟨#[107]⟩))]) fun v33_11 =>
kP (buildSliceD (some (5, [(.int .i64 0), (.string ⟨#[]⟩), (.string ⟨#[]⟩), (.string ⟨#[]⟩), (.int .i64 0)])) 1 [(0, v33_11)] h) fun v34_12 h =>
cl (F.desk_Desk_Begin E) [v23_5, v32_10, v34_12] h fun v35_13 h =>
kv (aUn .not v35_13) fun v36_14 =>
ifV v36_14 (
K (.bool false) h) (
kv (ldD (.agg 2) v8_9 h) fun v37_15 =>
kv (lenD .slice a1 h) fun v40_16 =>
kv (binD .bad .geq false (e6 7) v40_16 h) fun v41_17 =>
kv (gdV v41_17 false (some a1)) fun v43_18 =>
kv (gdV v41_17 false (some (e6 7))) fun v44_19 =>
kv (gdV v41_17 false (indexAddrD (.slice 1) v43_18 v44_19)) fun v45_20 =>
kv (gdV v41_17 false (ldD .one v45_20 h)) fun v46_21 =>
kv (pickV v41_17 (.bool true) v46_21) fun v47_22 =>
kv (buildD (.struct [(.int .i64 0), (.int .i64 0), (.int .i64 0), (.bool false), (.int .i64 0), (.slice none 0 0)] [(0, 2), (2, 1), (3, 1), (4, 1), (5, 1)]) [(0, v37_15), (2, v47_22)]) fun v48_23 =>
kP (newD none (.agg #[(.int .i64 0), (.int .i64 0), (.int .i64 0), (.bool false), (.int .i64 0), (.slice none 0 0)]) h) fun v9_24 h =>
ldD (.agg 2) v8_9 h = some v37_15 ∧
gdV v41_17 false (ldD .one v45_20 h) = some v46_21 ∧
kH (stD (some 6) v9_24 v48_23 h) fun _ h =>
kv (fieldAddrD (some 3) v9_24) fun v49_25 =>
kv (ldD .one v49_25 h) fun v50_26 =>
∃ K27 : List V → AHeap → Prop, (
ifV v50_26 (
kP (buildSliceD (some (1, [(.string ⟨#[]⟩)])) 1 [(0, (.string ⟨#[45]⟩))] h) fun v51_28 h =>
kv (fieldAddrD (some 5) v9_24) fun v52_29 =>
kH (stD (some 1) v52_29 v51_28 h) fun _ h =>
K27 [] h) (
K27 [] h)) ∧ ∀ (e27 : Nat → V) (h : AHeap), K27 [] h →
kv (ldD (.agg 6) v9_24 h) fun v54_30 =>
cl (F.desk_Desk_Vote E) [v23_5, v54_30] h fun v55_31 h =>
kv (aUn .not v55_31) fun v56_32 =>
kv (gdV v56_32 false (some v23_5)) fun v58_33 =>
kv (gdV v56_32 false (ldD (.agg 2) v8_9 h)) fun v59_34 =>
gdC v56_32 false h (fun K35 => cl (F.desk_Desk_Done E) [v58_33, v59_34, (.int .i64 0)] h fun v h => K35 v h) fun v60_36 h =>
kv (gdV v56_32 false (aUn .not v60_36)) fun v61_37 =>
kv (pickV v56_32 (.bool true) v61_37) fun v62_38 =>
ifV v62_38 (
K (.bool false) h) (
kv (binD .bad .add true (e6 7) (.int .i64 1) h) fun v28_39 =>
∃ m, m < n6 ∧ Inv6 m [v28_39] h))) (
∃ (Inv40 : Nat → List V → AHeap → Prop) (n40 : Nat), Inv40 n40 [(.int .i64 1)] h ∧ ∀ (n40 : Nat) (e40 : Nat → V) (h : AHeap), Inv40 n40 [(e40 10)] h →
kv (binD .bad .add true v22_4 (.int .i64 1) h) fun v65_41 =>
kv (binD .bad .leq false (e40 10) v65_41 h) fun v66_42 =>
ifV v66_42 (
kv (buildD (.struct [(.int .i64 0), (.int .i64 0)] [(0, 1), (1, 1)]) [(0, (.int .i64 3)), (1, (e40 10))]) fun v72_43 =>
cl (F.desk_Desk_Answer E) [v23_5, v72_43] h fun v73_44 h =>
kv (aExtract v73_44 0) fun v74_45 =>
kv (aExtract v73_44 1) fun v75_46 =>
kP (newD none (.agg #[(.int .i64 0), (.int .i64 0), (.int .i64 0), (.slice none 0 0)]) h) fun v11_47 h =>
kH (stD (some 4) v11_47 v74_45 h) fun _ h =>
kv (lenD .slice a1 h) fun v78_48 =>
kv (binD .bad .geq false (e40 10) v78_48 h) fun v79_49 =>
kv (gdV v79_49 false (some a1)) fun v81_50 =>
kv (gdV v79_49 false (some (e40 10))) fun v82_51 =>
kv (gdV v79_49 false (indexAddrD (.slice 1) v81_50 v82_51)) fun v83_52 =>
kv (gdV v79_49 false (ldD .one v83_52 h)) fun v84_53 =>
kv (pickV v79_49 (.bool true) v84_53) fun v85_54 =>
∃ K55 : List V → AHeap → Prop, (
ifV v85_54 (
K55 [(.int .i64 0)] h) (
K55 [(.int .i64 4)] h)) ∧ ∀ (e55 : Nat → V) (h : AHeap), K55 [(e55 13)] h →
kv (binD .bad .sub true v22_4 (.int .i64 8) h) fun v88_56 =>
kv (binD .bad .leq false (e40 10) v88_56 h) fun v89_57 =>
∃ K58 : List V → AHeap → Prop, (
ifV v89_57 (
K58 [(.int .i64 5)] h) (
K58 [(e55 13)] h)) ∧ ∀ (e58 : Nat → V) (h : AHeap), K58 [(e58 13)] h →
kv (binD .bad .leq false (e40 10) v22_4 h) fun v93_59 =>
kv (binD .bool .neq false v75_46 v93_59 h) fun v94_60 =>
kv (gdV v94_60 false (some v75_46)) fun v96_61 =>
kv (gdV v94_60 false (some v96_61)) fun v97_62 =>
kv (gdV v97_62 true (fieldAddrD (some 2) v11_47)) fun v98_63 =>
kv (gdV v97_62 true (ldD .one v98_63 h)) fun v99_64 =>
kv (gdV v97_62 true (some (e58 13))) fun v100_65 =>
kv (gdV v97_62 true (binD .bad .neq false v99_64 v100_65 h)) fun v101_66 =>
kv (gdV v94_60 false (pickV v97_62 v101_66 (.bool false))) fun v102_67 =>
kv (pickV v94_60 (.bool true) v102_67) fun v103_68 =>
ifV v103_68 (
K (.bool false) h) (
kv (binD .bad .add true (e40 10) (.int .i64 1) h) fun v68_69 =>
∃ m, m < n40 ∧ Inv40 m [v68_69] h)) (
kv (buildD (.struct [(.int .i64 0), (.int .i64 0)] [(0, 1), (1, 1)]) [(0, (.int .i64 2)), (1, (.int .i64 1))]) fun v106_70 =>
cl (F.desk_Desk_Answer E) [v23_5, v106_70] h fun v107_71 h =>
kv (aExtract v107_71 0) fun v108_72 =>
kv (aExtract v107_71 1) fun v109_73 =>
kP (newD none (.agg #[(.int .i64 0), (.int .i64 0), (.int .i64 0), (.slice none 0 0)]) h) fun v14_74 h =>
kH (stD (some 4) v14_74 v108_72 h) fun _ h =>
kv (aUn .not v109_73) fun v111_75 =>
kv (gdV v111_75 true (some v23_5)) fun v113_76 =>
gdC v111_75 true h (fun K77 => cl (F.desk_Desk_Open E) [v113_76] h fun v h => K77 v h) fun v114_78 h =>
kv (gdV v111_75 true (lenD .slice v114_78 h)) fun v115_79 =>
kv (gdV v111_75 true (binD .bad .eql true v115_79 (.int .i64 0) h)) fun v116_80 =>
kv (pickV v111_75 v116_80 (.bool false)) fun v117_81 =>
kv (gdV v117_81 true (some v23_5)) fun v119_82 =>
gdC v117_81 true h (fun K83 => cl (F.desk_Desk_Wants E) [v119_82] h fun v h => K83 v h) fun v120_84 h =>
kv (gdV v117_81 true (lenD .slice v120_84 h)) fun v121_85 =>
kv (gdV v117_81 true (binD .bad .eql true v121_85 (.int .i64 0) h)) fun v122_86 =>
kv (pickV v117_81 v122_86 (.bool false)) fun v123_87 =>
K v123_87 h)))
| _ => False
end Go.Abs
set_option linter.unusedSimpArgs false
set_option linter.unusedVariables false
namespace Go.Abs
open Go Go.Proofs
variable {E : FE} {F : Fr} {h : AHeap} {L : List Pl}
def frBls (N : Nat) (v : V) (l : List Bool) : Fr := ⟨N, fun h => Bls N h v l, fun _ _ _ _ s m hf => Ro.mod s m hf⟩
theorem yes_at {l : List Bool} {N : Nat} {h : AHeap} {u : V} (hb : Bls N h u l) (i : Nat) : ∃ w3 w4 w5 w6 : V,
 gdV (.bool (decide ((i : Int) ≥ (l.length : Nat)))) false (some u) = some w3 ∧ gdV (.bool (decide ((i : Int) ≥ (l.length : Nat)))) false (some (i64 i)) = some w4 ∧
 gdV (.bool (decide ((i : Int) ≥ (l.length : Nat)))) false (indexAddrD (.slice 1) w3 w4) = some w5 ∧ (∀ h', Bls N h' u l → gdV (.bool (decide ((i : Int) ≥ (l.length : Nat)))) false (ldD .one w5 h') = some w6) ∧
 pickV (.bool (decide ((i : Int) ≥ (l.length : Nat)))) (.bool true) w6 = some (.bool (yesF l i)) := by
 by_cases hx : l.length ≤ i
 · have e : decide ((i : Int) ≥ (l.length : Nat)) = true := decide_eq_true (by omega)
   rw [e]
   exact ⟨gone, gone, gone, gone, rfl, rfl, rfl, fun _ _ => rfl, by simp [pickV_bool, yesF, hx]⟩
 · have e : decide ((i : Int) ≥ (l.length : Nat)) = false := decide_eq_false (by omega)
   rw [e]
   have hg : l[i]? = some l[i] := List.getElem?_eq_getElem (by omega)
   obtain ⟨b, o, a1, a2⟩ := hb.row hg
   refine ⟨u, i64 i, ptr b o, .bool l[i], rfl, rfl, by simp only [gdV_bool, if_true, a1], fun h' hb' => ?_, ?_⟩
   · obtain ⟨b', o', a3, a4⟩ := hb'.row hg
     rw [a1] at a3
     cases a3
     simp only [gdV_bool, if_true, ld_one, a4]
   · simp [pickV_bool, yesF, hx, List.getD_eq_getElem?_getD, hg]
set_option maxHeartbeats 2000000 in
theorem law_DeskKeeps (de : DkE E) {u : V} {l : List Bool} (s : Bls h.next h u l) (c : Int) : cl (Go.Abs.F.estafettelaw15_DeskKeeps E) [i64 c, u] h fun r _ => r = .bool true := by
 have oe := de.op
 refine cl_of ?_
 simp only [Go.Abs.F.estafettelaw15_DeskKeeps]
 refine cl_then begun15_spec ?_
 rintro r h1 ⟨rfl, rfl⟩
 simp only [not_bool, Bool.not_true, kv_some, ifV_bool, Bool.false_eq_true, if_false]
 obtain ⟨N, hN⟩ : ∃ N, h1.next = N := ⟨_, rfl⟩
 rw [hN] at s
 have s0 : Sep (frBls N u l) h1 [] := ⟨by show N ≤ h1.next; omega, s, [], rfl⟩
 obtain ⟨ct, hc, hct⟩ := mod_up c (d := 20) (by decide)
 refine hct ?_
 obtain ⟨c, rfl⟩ : ∃ n : Nat, ct = (n : Int) := ⟨ct.toNat, by omega⟩
 refine cl_then (desk_New 1 (by omega) s0) ?_
 intro p h2 s1
 refine ⟨fun n vs h' => ∃ (m : Nat) (d : DeskM), vs = [i64 ((m : Int) + 1)] ∧ n = c - m ∧ m ≤ c ∧ KInv l m d ∧ Sep (frBls N u l) h' (plDsk p d :: []), c,
  ⟨0, ⟨1, [], [], []⟩, rfl, rfl, by omega, ⟨rfl, rfl, rfl, rfl, rfl, fun _ _ => rfl, rfl, fun a ha => by simp [lkp] at ha⟩, s1⟩, ?_⟩
 rintro n e h3 ⟨m, d, he, rfl, hmc, k, s2⟩
 simp only [List.cons.injEq, and_true] at he
 simp only [he, bin_leq, kv_some, ifV_bool, decide_eq_true_eq]
 by_cases hx : m < c
 case neg =>
  rw [if_neg (show ¬ (m : Int) + 1 ≤ (c : Nat) by omega)]
  obtain rfl : m = c := by omega
  clear he hx
  have hm8 := k.keptLe
  refine ⟨fun n vs h' => ∃ i : Nat, vs = [i64 ((i : Int) + 1)] ∧ n = m + 1 - i ∧ i ≤ m + 1 ∧ Sep (frBls N u l) h' (plDsk p d :: []), m + 1, ⟨0, rfl, rfl, by omega, s2⟩, ?_⟩
  clear s2
  rintro n e2 g ⟨i, he2, rfl, hi, z⟩
  simp only [List.cons.injEq, and_true] at he2
  rw [he2, add_i64 _ 1 (by omega) (by omega), kv_some, bin_leq, kv_some, ifV_bool]
  simp only [decide_eq_true_eq]
  by_cases hx : i < m + 1
  case neg =>
   rw [if_neg (show ¬ (i : Int) + 1 ≤ (m : Nat) + 1 by omega)]
   refine kv_of (v := (⟨2, 1⟩ : IdM).agg) rfl ?_
   have hans : answerV d ⟨2, 1⟩ = (noAns, false) := by
    unfold answerV staleV
    rw [show (lkp (⟨2, 1⟩ : IdM).client d.kept) = none from k.kept2, show (lkp (⟨2, 1⟩ : IdM).client d.last) = none from k.last2]
    rfl
   refine cl_then (desk_Answer ⟨2, 1⟩ (by have := hm8 2; exact Nat.le_trans this (by decide)) (by show ∀ a ∈ (lkp 2 d.kept).getD [], _; rw [k.kept2]; simp) z) ?_
   rintro r4 g4 ⟨v, rfl, z4⟩
   rw [hans] at z4 ⊢
   obtain ⟨t, rfl, z5⟩ := z4.openAn1
   simp only [extract_tuple, List.getElem?_toArray, List.getElem?_cons_zero, List.getElem?_cons_succ, kv_some]
   refine kP_of (v := ptr g4.next 0) (g := g4.new (.cells [i64 0, i64 0, i64 0, .slice none 0 0] 4 .rw)) rfl ?_
   have z6 := z5.box [i64 0, i64 0, i64 0, .slice none 0 0] 4
   rw [st_of (n := 4) (vs := [i64 noAns.id.client, i64 noAns.id.seq, i64 noAns.err, mkS t]) z6.get (by simp) rfl rfl rfl (by simp), kH_some]
   have z7 := (z6.write (cs' := setList [i64 0, i64 0, i64 0, .slice none 0 0] 0 [i64 noAns.id.client, i64 noAns.id.seq, i64 noAns.err, mkS t])).re3 [2] rfl
   clear z z4 z5 z6
   generalize AHeap.put _ _ _ = g7 at z7 ⊢
   simp only [not_bool, Bool.not_false, gdV_bool, if_true, kv_some]
   refine gdC_yes rfl (cl_then (desk_Open de.sort (by rw [k.opn]; exact Nat.zero_le _) (by decide) z7) ?_)
   rintro r8 g8 ⟨l', p8, _, z8⟩
   rw [k.opn] at p8
   obtain rfl : l' = [] := List.Perm.eq_nil p8
   obtain ⟨f8, q8, _⟩ := z8.head
   have q8 : SlE dId g8 f8 r8 [] := q8
   rw [q8.len]
   simp only [kv_some, List.length_nil, bin_eql, pickV_bool, if_true, gdV_bool, show (((0 : Nat) : Int) == 0) = true from rfl]
   refine gdC_yes rfl (cl_then (desk_Wants oe k.di de.sort (by rw [k.opn]; exact Nat.zero_le _) (by decide) z8.drop) ?_)
   rintro r9 g9 ⟨ids, p9, _, z9⟩
   rw [k.opn] at p9
   obtain rfl : ids = [] := List.Perm.eq_nil p9
   rw [Sep.lenWds z9]
   simp only [kv_some, show (wantsA 1 d []).length = 0 from rfl, bin_eql, pickV_bool, if_true, show (((0 : Nat) : Int) == 0) = true from rfl]
  rw [if_pos (show (i : Int) + 1 ≤ (m : Nat) + 1 by omega)]
  refine kv_of (v := (⟨3, (i : Int) + 1⟩ : IdM).agg) rfl ?_
  obtain ⟨a1, a2⟩ := k.answer (by omega) (i := i + 1) (by omega)
  have ei : ((i + 1 : Nat) : Int) = (i : Int) + 1 := by omega
  rw [ei] at a1 a2
  refine cl_then (desk_Answer ⟨3, (i : Int) + 1⟩ (by have := hm8 3; exact Nat.le_trans this (by decide)) (fun a ha => Nat.le_trans (k.vals a ha) (by decide)) z) ?_
  rintro r4 g4 ⟨v, rfl, z4⟩
  rw [a1]
  generalize (answerV d ⟨3, (i : Int) + 1⟩).1 = an at a2 z4
  obtain ⟨t, rfl, z5⟩ := z4.openAn1
  simp only [extract_tuple, List.getElem?_toArray, List.getElem?_cons_zero, List.getElem?_cons_succ, kv_some]
  refine kP_of (v := ptr g4.next 0) (g := g4.new (.cells [i64 0, i64 0, i64 0, .slice none 0 0] 4 .rw)) rfl ?_
  have z6 := z5.box [i64 0, i64 0, i64 0, .slice none 0 0] 4
  generalize g4.new (.cells [i64 0, i64 0, i64 0, .slice none 0 0] 4 .rw) = g5 at z6 ⊢
  generalize g4.next = ba at z6 ⊢
  rw [st_of (n := 4) (vs := [i64 an.id.client, i64 an.id.seq, i64 an.err, mkS t]) z6.get (by simp) rfl rfl rfl (by simp), kH_some]
  have z7 := (z6.write (cs' := [i64 an.id.client, i64 an.id.seq, i64 an.err, mkS t])).re3 [0, 2] rfl
  rw [show setList [i64 0, i64 0, i64 0, .slice none 0 0] 0 [i64 an.id.client, i64 an.id.seq, i64 an.err, mkS t] = [i64 an.id.client, i64 an.id.seq, i64 an.err, mkS t] from rfl]
  clear z z4 z5 z6
  generalize AHeap.put _ _ _ = g7 at z7 ⊢
  have z7 : Sep (frBls N u l) g7 (plBox ba [i64 an.id.client, i64 an.id.seq, i64 an.err, mkS t] 4 :: plDsk p d :: []) := z7
  have hI : Bls N g7 u l := z7.2.1
  have hlen : lenD .slice u g7 = some (i64 l.length) := Ro.len hI g7
  rw [hlen, kv_some, bin_geq, kv_some]
  obtain ⟨w3, w4, w5, w6, q3, q4, q5, q6, q7⟩ := yes_at hI (i + 1)
  rw [ei] at q3 q4 q5 q6 q7
  rw [q3, kv_some, q4, kv_some, q5, kv_some, q6 g7 hI, kv_some, q7, kv_some]
  clear q3 q4 q5 q6 q7
  refine ⟨fun vs g' => vs = [i64 (if yesF l (i + 1) then 0 else 4)] ∧ g' = g7, ?_, ?_⟩
  · rw [ifV_bool]
    cases yesF l (i + 1) <;> exact ⟨rfl, rfl⟩
  rintro e5 g8 ⟨he5, rfl⟩
  simp only [List.cons.injEq, and_true] at he5
  rw [sub_i64 _ 8 (by omega) (by omega), kv_some, bin_leq, kv_some]
  refine ⟨fun vs g' => vs = [i64 (if i + 1 + 8 ≤ m then 5 else if yesF l (i + 1) then 0 else 4)] ∧ g' = g8, ?_, ?_⟩
  · rw [ifV_bool, he5]
    by_cases h8 : i + 1 + 8 ≤ m
    · rw [if_pos (decide_eq_true (show (i : Int) + 1 ≤ (m : Nat) - 8 by omega)), if_pos h8]
      exact ⟨rfl, rfl⟩
    · rw [if_neg (by simp only [decide_eq_true_eq]; omega), if_neg h8]
      exact ⟨rfl, rfl⟩
  rintro e6 g9 ⟨he6, rfl⟩
  simp only [List.cons.injEq, and_true] at he6
  have ed : decide ((i : Int) + 1 ≤ (m : Nat)) = decide (i + 1 ≤ m) := by
   by_cases hz : i + 1 ≤ m
   · rw [decide_eq_true hz]; exact decide_eq_true (by omega)
   · rw [decide_eq_false hz]; exact decide_eq_false (by omega)
  have hr2 : g9.rd ba 2 = some (i64 an.err) := by rw [rd_of z7.get 2]; rfl
  have fin : ∃ m', m' < m + 1 - i ∧ ∃ i' : Nat, [i64 ((i : Int) + 1 + 1)] = [i64 ((i' : Int) + 1)] ∧ m' = m + 1 - i' ∧ i' ≤ m + 1 ∧ Sep (frBls N u l) g9 (plDsk p d :: []) := ⟨m + 1 - (i + 1), by omega, i + 1, by simp, rfl, by omega, z7.drop⟩
  rw [bin_leq, kv_some, ed, bin_bool_ne, kv_some, he6]
  simp only [beq_self_eq_true, Bool.not_true, bne_self_eq_false, gdV_bool, if_true, kv_some]
  by_cases hz : i + 1 ≤ m
  · have h1 := a2 hz
    simp only [hz, decide_true, gdV_bool, if_true, fieldAddr_ptr, Nat.zero_add, kv_some, ld_one, hr2, h1, bin_neq, bne_self_eq_false, pickV_bool, Bool.false_eq_true, if_false, ifV_bool]
    rw [add_i64 _ 1 (by omega) (by omega), kv_some]
    exact fin
  · simp only [hz, decide_false, gdV_bool, Bool.false_eq_true, if_false, kv_some, pickV_bool, ifV_bool]
    rw [add_i64 _ 1 (by omega) (by omega), kv_some]
    exact fin
 rw [if_pos (show (m : Int) + 1 ≤ (c : Nat) by omega)]
 refine kv_of (v := (⟨3, (m : Int) + 1⟩ : IdM).agg) rfl ?_
 rw [newI0, kP_some]
 have s3 := s2.box (cId ⟨0, 0⟩) 2
 rw [st2 s3.get, kH_some]
 have s4 := s3.write (cs' := cId ⟨3, (m : Int) + 1⟩)
 clear s3 s2
 generalize AHeap.put _ _ _ = h4 at s4 ⊢
 generalize h3.next = bi at s4 ⊢
 rw [ld2 s4.get, kv_some]
 refine kv_of (v := opAK.agg) rfl ?_
 refine kP_of (v := .slice (some ⟨h4.next, 0, none⟩) 1 2) (g := h4.new (.cells (dOp.flat [opAK]) 5 .rw)) rfl ?_
 have s5 := s4.litOps [opAK] (by simp)
 have ho : opAK.space.size ≤ maxLen := by decide
 generalize h4.new (.cells (dOp.flat [opAK]) 5 .rw) = h5 at s5 ⊢
 generalize h4.next = bo at s5 ⊢
 refine cl_then (desk_Begin (nn := 1) oe k.n (by omega) ⟨3, (m : Int) + 1⟩ (ops := [opAK]) (by simp) (fun o ho' => by rw [List.mem_singleton.1 ho']; exact ho) (s5.re3 [2, 0, 1] rfl)) ?_
 rintro r h6 ⟨rfl, s6⟩
 rw [k.begin (by omega)] at s6 ⊢
 simp only [not_bool, Bool.not_true, kv_some, ifV_bool, Bool.false_eq_true, if_false]
 have hI : Bls N h6 u l := s6.2.1
 have hlen : lenD .slice u h6 = some (i64 l.length) := Ro.len hI h6
 rw [ld2 (Sep.get s6.up2), kv_some, hlen, kv_some, bin_geq, kv_some]
 obtain ⟨w3, w4, w5, w6, q3, q4, q5, q6, q7⟩ := yes_at hI (m + 1)
 have em : ((m + 1 : Nat) : Int) = (m : Int) + 1 := by omega
 rw [em] at q3 q4 q5 q6 q7
 rw [q3, kv_some, q4, kv_some, q5, kv_some, q6 h6 hI, kv_some, q7, kv_some]
 refine kv_of (v := .agg #[i64 3, i64 ((m : Int) + 1), i64 0, .bool (yesF l (m + 1)), i64 0, .slice none 0 0]) rfl ?_
 refine kP_of (v := ptr h6.next 0) (g := h6.new (.cells [i64 0, i64 0, i64 0, .bool false, i64 0, .slice none 0 0] 6 .rw)) rfl ?_
 have s7 := s6.box [i64 0, i64 0, i64 0, .bool false, i64 0, .slice none 0 0] 6
 generalize h6.new (.cells [i64 0, i64 0, i64 0, .bool false, i64 0, .slice none 0 0] 6 .rw) = h7 at s7 ⊢
 generalize h6.next = bv at s7 ⊢
 refine ⟨ld2 (Sep.get (s7.re4 [3] rfl)), q6 h7 s7.2.1, ?_⟩
 rw [st_of (n := 6) (vs := [i64 3, i64 ((m : Int) + 1), i64 0, .bool (yesF l (m + 1)), i64 0, .slice none 0 0]) s7.get (by simp) rfl rfl rfl (by simp), kH_some]
 have s8 := s7.write (cs' := [i64 3, i64 ((m : Int) + 1), i64 0, .bool (yesF l (m + 1)), i64 0, .slice none 0 0])
 rw [show setList [i64 0, i64 0, i64 0, .bool false, i64 0, .slice none 0 0] 0 [i64 3, i64 ((m : Int) + 1), i64 0, .bool (yesF l (m + 1)), i64 0, .slice none 0 0] = [i64 3, i64 ((m : Int) + 1), i64 0, .bool (yesF l (m + 1)), i64 0, .slice none 0 0] from rfl]
 clear s4 s5 s6 s7 hI hlen q3 q4 q5 q6 q7
 generalize AHeap.put _ _ _ = h8 at s8 ⊢
 have v3 : h8.rd bv 3 = some (.bool (yesF l (m + 1))) := by rw [rd_of s8.get 3]; rfl
 simp only [fieldAddr_ptr, Nat.zero_add, kv_some, ld_one, v3]
 refine ⟨fun vs g => vs = [] ∧ ∃ tv, Sep (frBls N u l) g (plBox bv [i64 3, i64 ((m : Int) + 1), i64 0, .bool (yesF l (m + 1)), i64 0, mkS tv] 6 :: plStrs (mkS tv) (voteK l (m + 1)).vals :: plDsk p (dB d m) :: plBox bi (cId ⟨3, (m : Int) + 1⟩) 2 :: []), ?_, ?_⟩
 · rw [ifV_bool]
   have ev : (voteK l (m + 1)).vals = if yesF l (m + 1) then [⟨#[45]⟩] else [] := rfl
   cases hy : yesF l (m + 1) with
   | false =>
    rw [hy] at s8 ev
    rw [ev]
    exact ⟨by first | rfl | trivial, (none, 0, 0), (Sep.noStrs s8).re5 [1, 0, 2, 4] rfl⟩
   | true =>
    rw [hy] at s8 ev
    rw [ev]
    simp only [if_true]
    refine kP_of (v := .slice (some ⟨h8.next, 0, none⟩) 1 2) (g := h8.new (.cells (dStr.flat [⟨#[45]⟩]) 1 .rw)) rfl ?_
    have s9 := s8.litStrs [⟨#[45]⟩] (by simp)
    generalize h8.new (.cells (dStr.flat [⟨#[45]⟩]) 1 .rw) = h9 at s9 ⊢
    generalize h8.next = bt at s9 ⊢
    rw [st_one (Sep.get s9.up1) (by simp) rfl rfl (by simp), kH_some]
    exact ⟨by first | rfl | trivial, (some ⟨bt, 0, none⟩, 1, 2), (Sep.write s9.up1).re5 [0, 1, 2, 4] rfl⟩
 rintro e27 g ⟨-, tv, s9⟩
 clear s8 v3
 rw [ld_agg, rdN_of s9.get]
 refine kv_of (v := .agg #[i64 (voteK l (m + 1)).id.client, i64 (voteK l (m + 1)).id.seq, i64 (voteK l (m + 1)).shard, .bool (voteK l (m + 1)).yes, i64 (voteK l (m + 1)).now, mkS tv]) (by rw [voteK_id]; rfl) ?_
 have di : DInv 1 (dB d m) := ⟨k.n, by omega, fun id t ht => by
  simp only [dB, lkp] at ht
  split at ht
  · cases ht; exact ⟨get_ak, rfl⟩
  · cases ht⟩
 have dv : DV (dB d m) := by
  refine ⟨fun id t ht hd => ?_, fun cc => k.keptLe cc⟩
  simp only [dB, lkp] at ht
  split at ht
  · cases ht; exact ⟨List.nodup_nil, fun _ _ hk => by cases hk⟩
  · cases ht
 have hvl : (voteK l (m + 1)).vals.length ≤ 1000000 := by unfold voteK; cases yesF l (m + 1) <;> simp
 refine cl_then (desk_Vote di dv (voteK l (m + 1)) hvl (s9.re4 [2, 1, 3] rfl)) ?_
 rintro r h10 ⟨rfl, s10⟩
 rw [k.vote] at s10 ⊢
 simp only [not_bool, Bool.not_true, kv_some, gdV_bool, if_true, pickV_bool, Bool.false_eq_true, if_false]
 rw [ld2 (Sep.get s10.up2), kv_some]
 have di2 : DInv 1 (dV l d m) := ⟨k.n, by omega, fun id t ht => by
  simp only [dV, lkp] at ht
  split at ht
  · cases ht; exact ⟨get_ak, rfl⟩
  · cases ht⟩
 refine gdC_yes rfl (cl_then (desk_Done di2 ⟨3, (m : Int) + 1⟩ 0 s10) ?_)
 rintro r h11 ⟨rfl, s11⟩
 rw [k.done] at s11 ⊢
 simp only [not_bool, Bool.not_true, kv_some, ifV_bool, Bool.false_eq_true, if_false]
 rw [add_i64 _ 1 (by omega) (by omega), kv_some]
 exact ⟨c - (m + 1), by omega, m + 1, dD l d m, by simp, rfl, by omega, k.next, s11.re3 [0] rfl⟩
end Go.Abs

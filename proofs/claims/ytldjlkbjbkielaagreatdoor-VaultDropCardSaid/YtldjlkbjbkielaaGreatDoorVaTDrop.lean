/- VaultDrop, on abstract heaps. -/
import Derived.Test.YtldjlkbjbkielaaGreatDoorVabf
import Derived.KernelRfl
import Derived.Test.YtldjlkbjbkielaaGreatDoorVaar
set_option maxRecDepth 20000
set_option linter.unusedVariables false
set_option linter.unusedSimpArgs false
namespace Go.Abs
open Go
def F.estafettelaw14_VaultDrop (E : FE) : Spec := fun args h K => match args with
| [a0] =>
cl (F.estafettelaw14_begun E) [] h fun v15_0 h =>
kv (aUn .not v15_0) fun v17_1 =>
ifV v17_1 (
K (.bool false) h) (
kv (binD .bad .rem true a0 (.int .i64 3) h) fun v19_2 =>
kv (binD .bad .add true v19_2 (.int .i64 3) h) fun v20_3 =>
kv (binD .bad .rem true v20_3 (.int .i64 3) h) fun v21_4 =>
kv (binD .bad .add true (.int .i64 1) v21_4 h) fun v22_5 =>
kv (binD .bad .eql true v22_5 (.int .i64 2) h) fun v24_6 =>
∃ K7 : List V → AHeap → Prop, (
ifV v24_6 (
K7 [(.string ⟨#[52]⟩)] h) (
K7 [(.string ⟨#[]⟩)] h)) ∧ ∀ (e7 : Nat → V) (h : AHeap), K7 [(e7 4)] h →
cl (F.vault_New E) [] h fun v25_8 h =>
kv (buildD (.struct [(.int .i64 0), (.int .i64 0)] [(0, 1), (1, 1)]) [(0, (.int .i64 1)), (1, (.int .i64 1))]) fun v26_9 =>
kv (buildD (.struct [(.int .i64 0), (.int .i64 0)] [(0, 1), (1, 1)]) [(0, (.int .i64 1)), (1, (.int .i64 2))]) fun v27_10 =>
kv (buildD (.struct [(.int .i64 0), (.int .i64 0)] [(0, 1), (1, 1)]) [(0, (.int .i64 1)), (1, (.int .i64 3))]) fun v28_11 =>
kP (newD none (.agg #[(.int .i64 0), (.int .i64 0)]) h) fun v6_12 h =>
kP (newD none (.agg #[(.int .i64 0), (.int .i64 0)]) h) fun v7_13 h =>
kP (newD none (.agg #[(.int .i64 0), (.int .i64 0)]) h) fun v8_14 h =>
kH (stD (some 2) v6_12 v26_9 h) fun _ h =>
kH (stD (some 2) v7_13 v27_10 h) fun _ h =>
kH (stD (some 2) v8_14 v28_11 h) fun _ h =>
kv (ldD (.agg 2) v6_12 h) fun v30_15 =>
kv (buildD (.struct [(.int .i64 0), (.string ⟨#[]⟩), (.string ⟨#[]⟩), (.string ⟨#[]⟩), (.int .i64 0)] [(0, 1), (1, 1), (2, 1), (3, 1), (4, 1)]) [(0, (.int .i64 1)), (1, (.string ⟨#[120]⟩)), (4, (.int .i64 2)), (2, (.string ⟨#[50]⟩))]) fun v31_16 =>
kv (buildD (.struct [(.int .i64 0), (.string ⟨#[]⟩), (.string ⟨#[]⟩), (.string ⟨#[]⟩), (.int .i64 0)] [(0, 1), (1, 1), (2, 1), (3, 1), (4, 1)]) [(0, (.int .i64 6)), (1, (.string ⟨#[120]⟩)), (3, (.string ⟨#[109]⟩))]) fun v32_17 =>
kP (buildSliceD (some (5, [(.int .i64 0), (.string ⟨#[]⟩), (.string ⟨#[]⟩), (.string ⟨#[]⟩), (.int .i64 0)])) 2 [(0, v31_16), (1, v32_17)] h) fun v33_18 h =>
cl (F.vault_Vault_Prepare E) [v25_8, v30_15, v33_18, (.int .i64 0)] h fun v34_19 h =>
kv (ldD (.agg 2) v6_12 h) fun v36_20 =>
cl (F.vault_Vault_Decide E) [v25_8, v36_20, (.bool true)] h fun v37_21 h =>
kv (ldD (.agg 2) v7_13 h) fun v40_22 =>
kv (buildD (.struct [(.int .i64 0), (.string ⟨#[]⟩), (.string ⟨#[]⟩), (.string ⟨#[]⟩), (.int .i64 0)] [(0, 1), (1, 1), (2, 1), (3, 1), (4, 1)]) [(0, (.int .i64 2)), (1, (.string ⟨#[120]⟩))]) fun v41_23 =>
kv (buildD (.struct [(.int .i64 0), (.string ⟨#[]⟩), (.string ⟨#[]⟩), (.string ⟨#[]⟩), (.int .i64 0)] [(0, 1), (1, 1), (2, 1), (3, 1), (4, 1)]) [(0, (.int .i64 1)), (1, (.string ⟨#[120]⟩)), (4, v22_5), (2, (e7 4))]) fun v44_24 =>
kP (buildSliceD (some (5, [(.int .i64 0), (.string ⟨#[]⟩), (.string ⟨#[]⟩), (.string ⟨#[]⟩), (.int .i64 0)])) 2 [(0, v41_23), (1, v44_24)] h) fun v45_25 h =>
cl (F.vault_Vault_Prepare E) [v25_8, v40_22, v45_25, (.int .i64 0)] h fun v46_26 h =>
kv (aExtract v46_26 0) fun v47_27 =>
kv (aExtract v46_26 1) fun v48_28 =>
cl (F.vault_Vault_Space E) [v25_8, (.string ⟨#[120]⟩)] h fun v50_29 h =>
kv (ldD (.agg 2) v7_13 h) fun v52_30 =>
cl (F.vault_Vault_Decide E) [v25_8, v52_30, (.bool true)] h fun v53_31 h =>
cl (F.vault_Vault_Space E) [v25_8, (.string ⟨#[120]⟩)] h fun v55_32 h =>
kv (ldD (.agg 2) v8_14 h) fun v58_33 =>
kv (buildD (.struct [(.int .i64 0), (.string ⟨#[]⟩), (.string ⟨#[]⟩), (.string ⟨#[]⟩), (.int .i64 0)] [(0, 1), (1, 1), (2, 1), (3, 1), (4, 1)]) [(0, (.int .i64 2)), (1, (.string ⟨#[120]⟩))]) fun v59_34 =>
kv (buildD (.struct [(.int .i64 0), (.string ⟨#[]⟩), (.string ⟨#[]⟩), (.string ⟨#[]⟩), (.int .i64 0)] [(0, 1), (1, 1), (2, 1), (3, 1), (4, 1)]) [(0, (.int .i64 2)), (1, (.string ⟨#[120]⟩))]) fun v60_35 =>
kP (buildSliceD (some (5, [(.int .i64 0), (.string ⟨#[]⟩), (.string ⟨#[]⟩), (.string ⟨#[]⟩), (.int .i64 0)])) 2 [(0, v59_34), (1, v60_35)] h) fun v61_36 h =>
cl (F.vault_Vault_Prepare E) [v25_8, v58_33, v61_36, (.int .i64 0)] h fun v62_37 h =>
kv (aExtract v62_37 0) fun v63_38 =>
kv (aExtract v62_37 1) fun v64_39 =>
kv (gdV v48_28 true (some v47_27)) fun v67_40 =>
kv (gdV v48_28 true (lenD .slice v67_40 h)) fun v68_41 =>
kv (gdV v48_28 true (binD .bad .eql true v68_41 (.int .i64 2) h)) fun v69_42 =>
kv (pickV v48_28 v69_42 (.bool false)) fun v70_43 =>
kv (gdV v70_43 true (some v50_29)) fun v72_44 =>
kv (gdV v70_43 true (binD (.ptr true) .neq true v72_44 (.pointer none) h)) fun v73_45 =>
kv (pickV v70_43 v73_45 (.bool false)) fun v74_46 =>
kv (gdV v74_46 true (some v50_29)) fun v76_47 =>
kv (gdV v74_46 true (aNil v76_47)) fun v77_48 =>
kv (gdV v74_46 true (fieldAddrD (some 0) v77_48)) fun v78_49 =>
kv (gdV v74_46 true (ldD .one v78_49 h)) fun v79_50 =>
kv (gdV v74_46 true (binD .bad .eql true v79_50 (.int .i64 2) h)) fun v80_51 =>
kv (pickV v74_46 v80_51 (.bool false)) fun v81_52 =>
kv (gdV v81_52 true (some v55_32)) fun v83_53 =>
kv (gdV v81_52 true (binD (.ptr true) .neq true v83_53 (.pointer none) h)) fun v84_54 =>
kv (pickV v81_52 v84_54 (.bool false)) fun v85_55 =>
kv (gdV v85_55 true (some v55_32)) fun v87_56 =>
kv (gdV v85_55 true (aNil v87_56)) fun v88_57 =>
kv (gdV v85_55 true (fieldAddrD (some 0) v88_57)) fun v89_58 =>
kv (gdV v85_55 true (ldD .one v89_58 h)) fun v90_59 =>
kv (gdV v85_55 true (some v22_5)) fun v91_60 =>
kv (gdV v85_55 true (binD .bad .eql false v90_59 v91_60 h)) fun v92_61 =>
kv (pickV v85_55 v92_61 (.bool false)) fun v93_62 =>
kv (gdV v93_62 true (some v22_5)) fun v95_63 =>
kv (gdV v93_62 true (binD .bad .neq true v95_63 (.int .i64 2) h)) fun v96_64 =>
kv (gdV v93_62 true (some v96_64)) fun v97_65 =>
kv (gdV v97_65 false (some v55_32)) fun v98_66 =>
kv (gdV v97_65 false (aNil v98_66)) fun v99_67 =>
kv (gdV v97_65 false (fieldAddrD (some 2) v99_67)) fun v100_68 =>
kv (gdV v97_65 false (ldD .one v100_68 h)) fun v101_69 =>
gdC v97_65 false h (fun K70 => cl (F.queue_Queue_Items E) [v101_69] h fun v h => K70 v h) fun v102_71 h =>
kv (gdV v97_65 false (lenD .slice v102_71 h)) fun v103_72 =>
kv (gdV v97_65 false (binD .bad .eql true v103_72 (.int .i64 0) h)) fun v104_73 =>
kv (gdV v97_65 false (some v104_73)) fun v105_74 =>
kv (gdV v105_74 true (some v55_32)) fun v106_75 =>
kv (gdV v105_74 true (aNil v106_75)) fun v107_76 =>
kv (gdV v105_74 true (fieldAddrD (some 2) v107_76)) fun v108_77 =>
kv (gdV v105_74 true (ldD .one v108_77 h)) fun v109_78 =>
gdC v105_74 true h (fun K79 => cl (F.queue_Queue_Next E) [v109_78] h fun v h => K79 v h) fun v110_80 h =>
kv (gdV v105_74 true (binD .bad .eql true v110_80 (.int .i64 1) h)) fun v111_81 =>
kv (gdV v97_65 false (pickV v105_74 v111_81 (.bool false))) fun v112_82 =>
kv (gdV v93_62 true (pickV v97_65 (.bool true) v112_82)) fun v113_83 =>
kv (pickV v93_62 v113_83 (.bool false)) fun v114_84 =>
kv (gdV v114_84 true (some v64_39)) fun v116_85 =>
kv (gdV v114_84 true (aUn .not v116_85)) fun v117_86 =>
kv (pickV v114_84 v117_86 (.bool false)) fun v118_87 =>
kv (gdV v118_87 true (some v63_38)) fun v120_88 =>
kv (gdV v118_87 true (lenD .slice v120_88 h)) fun v121_89 =>
kv (gdV v118_87 true (binD .bad .eql true v121_89 (.int .i64 0) h)) fun v122_90 =>
kv (pickV v118_87 v122_90 (.bool false)) fun v123_91 =>
kv (gdV v123_91 true (some v25_8)) fun v125_92 =>
gdC v123_91 true h (fun K93 => cl (F.vault_Vault_Space E) [v125_92, (.string ⟨#[120]⟩)] h fun v h => K93 v h) fun v126_94 h =>
kv (gdV v123_91 true (binD (.ptr true) .neq true v126_94 (.pointer none) h)) fun v127_95 =>
kv (pickV v123_91 v127_95 (.bool false)) fun v128_96 =>
K v128_96 h)
| _ => False
end Go.Abs
set_option linter.unusedSimpArgs false
set_option linter.unusedVariables false
namespace Go.Abs
open Go Go.Proofs
variable {E : FE} {h : AHeap} {v : V}
abbrev st0 : VltM := ⟨[], [], [], []⟩
end Go.Abs
namespace Go.Abs
open Go Go.Proofs
variable {E : FE} {h : AHeap} {v w : V} {F : Fr} {L : List Pl} {k : Nat} {s : SpM}
theorem kind_get (z : Sep F h (plSpM k w s :: L)) : ∃ b, w = ptr b 0 ∧ h.rd b 0 = some (i64 s.kind) := by
 obtain ⟨S, h1, h2, h3, z1⟩ := z.openSpM
 obtain ⟨f, q, kk⟩ := z1.head
 have q : SpS h f w S := q
 obtain ⟨pt, q⟩ := q
 obtain ⟨b, f', rfl, rfl, hb, hg, _⟩ := q
 refine ⟨b, rfl, ?_⟩
 rw [rd_of hg 0]
 cases S with
 | tab g => rw [h3.1]; rfl
 | qu a b i l => rw [h3.1]; rfl
 | to l g => rw [h3.1]; rfl
theorem qu_get (E : FE) (hs : s.kind = 2) (hk : k ≤ 1000) (z : Sep F h (plSpM k w s :: L)) : ∃ b qp, w = ptr b 0 ∧ h.rd b 2 = some qp ∧
 (cl (Go.Abs.F.queue_Queue_Items E) [qp] h fun r h' => Sep F h' (plMs r s.items :: plSpM k w s :: L)) ∧ (cl (Go.Abs.F.queue_Queue_Next E) [qp] h fun r h' => h' = h ∧ r = i64 s.next) := by
 have z0 := z
 obtain ⟨S, h1, h2, h3, z1⟩ := z.openSpM
 obtain ⟨f, q, kk⟩ := z1.head
 have q : SpS h f w S := q
 cases S with
 | tab g => exact absurd h3.1 (by rw [hs]; decide)
 | to l g => exact absurd h3.1 (by rw [hs]; decide)
 | qu a b i l =>
  obtain ⟨_, _, _, e1, e2, _⟩ := h3
  obtain ⟨pt, q⟩ := q
  obtain ⟨b', f', rfl, rfl, hg, hA, up⟩ := q.open
  have hA : Qu h f' pt a b i l := hA
  refine ⟨b', pt, rfl, by rw [rd_of hg 2]; rfl, ?_, ?_⟩
  · refine cl_then (queue_Items hA (by have := QI.len h1; omega)) ?_
    rintro r h' ⟨fp', q1, m1⟩
    rw [e2]
    exact z0.alloc (plMs r i) m1 q1
  · rw [e1]
    exact queue_Next hA
/-! ### Plain -/
abbrev xN : ByteArray := ⟨#[120]⟩
abbrev dropA : List Oq := [⟨1, xN, ⟨#[50]⟩, ⟨#[]⟩, 2⟩, ⟨6, xN, ⟨#[]⟩, ⟨#[109]⟩, 0⟩]
abbrev dropB (kd : Int) (key : ByteArray) : List Oq := [⟨2, xN, ⟨#[]⟩, ⟨#[]⟩, 0⟩, ⟨1, xN, key, ⟨#[]⟩, kd⟩]
abbrev dropC : List Oq := [⟨2, xN, ⟨#[]⟩, ⟨#[]⟩, 0⟩, ⟨2, xN, ⟨#[]⟩, ⟨#[]⟩, 0⟩]
abbrev dropP1 := prepV st0 ⟨1, 1⟩ dropA 0
abbrev dropD1 := decV dropP1.2 ⟨1, 1⟩ true
abbrev dropP2 (kd : Int) (key : ByteArray) := prepV dropD1.2 ⟨1, 2⟩ (dropB kd key) 0
abbrev dropD2 (kd : Int) (key : ByteArray) := decV (dropP2 kd key).2 ⟨1, 2⟩ true
abbrev dropP3 (kd : Int) (key : ByteArray) := prepV (dropD2 kd key).2 ⟨1, 3⟩ dropC 0
structure DropF (kd : Int) (key : ByteArray) : Prop where
 p2 : (dropP2 kd key).1 = ([⟨#[]⟩, ⟨#[]⟩], true)
 s1 : ((lkp xN (dropP2 kd key).2.sp).map (·.kind)) = some 2
 s2 : lkp xN (dropD2 kd key).2.sp = some (SpM.new kd (mostO key))
 p3 : (dropP3 kd key).1 = ([], false)
 s3 : (lkp xN (dropP3 kd key).2.sp).isSome = true
 z : ∀ o ∈ dropB kd key, o.space.size ≤ maxLen
 c : kd = 2 ∨ kd ≠ 2
theorem drop1 : DropF 1 ⟨#[]⟩ := ⟨by kernel_rfl, by kernel_rfl, by kernel_rfl, by kernel_rfl, by kernel_rfl, by decide, by decide⟩
theorem drop2 : DropF 2 ⟨#[52]⟩ := ⟨by kernel_rfl, by kernel_rfl, by kernel_rfl, by kernel_rfl, by kernel_rfl, by decide, by decide⟩
theorem drop3 : DropF 3 ⟨#[]⟩ := ⟨by kernel_rfl, by kernel_rfl, by kernel_rfl, by kernel_rfl, by kernel_rfl, by decide, by decide⟩
theorem kind_mod (x : Int) : ∃ kd : Int, (kd = 1 ∨ kd = 2 ∨ kd = 3) ∧ ∀ {h : AHeap} {X : V → Prop}, X (i64 kd) →
 kv (binD .bad .rem true (i64 x) (.int .i64 3) h) fun v2 => kv (binD .bad .add true v2 (.int .i64 3) h) fun v3 => kv (binD .bad .rem true v3 (.int .i64 3) h) fun v4 => kv (binD .bad .add true (.int .i64 1) v4 h) X := by
 have h1 := Int.tmod_lt_of_pos x (b := 3) (by decide)
 have h2 : -3 < x.tmod 3 := by
  have := Int.lt_tmod_of_pos x (b := 3) (by decide)
  omega
 have h3 : 0 ≤ (x.tmod 3 + 3).tmod 3 := Int.tmod_nonneg _ (by omega)
 have h4 := Int.tmod_lt_of_pos (x.tmod 3 + 3) (b := 3) (by decide)
 refine ⟨1 + (x.tmod 3 + 3).tmod 3, by omega, fun {h X} hX => ?_⟩
 rw [bin_rem, if_neg (by decide), kv_some, add_i64 _ 3 (by omega) (by omega), kv_some, bin_rem, if_neg (by decide), kv_some, add_i64 1 _ (by omega) (by omega), kv_some]
 exact hX
set_option maxHeartbeats 4000000 in
theorem law_VaultDrop (ve : VlE E) (x : Int) : cl (Go.Abs.F.estafettelaw14_VaultDrop E) [i64 x] h fun r _ => r = .bool true := by
 refine cl_of ?_
 simp only [Go.Abs.F.estafettelaw14_VaultDrop]
 refine cl_then begun_spec ?_
 rintro r h1 ⟨rfl, rfl⟩
 simp only [not_bool, Bool.not_true, kv_some, ifV_bool, Bool.false_eq_true, if_false]
 obtain ⟨kd, hkd, hmod⟩ := kind_mod x
 refine hmod ?_
 have s0 : Sep (⟨h1.next, fun _ => True, fun _ _ _ _ _ _ _ => trivial⟩ : Fr) h1 [] := ⟨Nat.le_refl _, trivial, [], rfl⟩
 generalize (⟨h1.next, fun _ => True, fun _ _ _ _ _ _ _ => trivial⟩ : Fr) = Fq at s0
 obtain ⟨key, hkey, df⟩ : ∃ key : ByteArray, (if kd = 2 then key = ⟨#[52]⟩ else key = ⟨#[]⟩) ∧ DropF kd key := by
  rcases hkd with rfl | rfl | rfl
  · exact ⟨_, rfl, drop1⟩
  · exact ⟨_, rfl, drop2⟩
  · exact ⟨_, rfl, drop3⟩
 rw [bin_eql, kv_some]
 refine ⟨fun vs h' => vs = [str key] ∧ h' = h1, ?_, ?_⟩
 · by_cases h2 : kd = 2
   · rw [if_pos h2] at hkey
     rw [ifV_bool, if_pos (by simp [h2])]
     exact ⟨by rw [hkey], rfl⟩
   · rw [if_neg h2] at hkey
     rw [ifV_bool, if_neg (by simp [h2])]
     exact ⟨by rw [hkey], rfl⟩
 rintro e7 h2 ⟨he, rfl⟩
 simp only [List.cons.injEq, and_true] at he
 simp only [he]
 refine cl_then (vault_New 0 s0) ?_
 intro p h3 s1
 refine kv_of (v := (⟨1, 1⟩ : IdM).agg) rfl ?_
 refine kv_of (v := (⟨1, 2⟩ : IdM).agg) rfl ?_
 refine kv_of (v := (⟨1, 3⟩ : IdM).agg) rfl ?_
 rw [newI0, kP_some]
 have s2 := s1.box (cId ⟨0, 0⟩) 2
 generalize h3.new (.cells (cId ⟨0, 0⟩) 2 .rw) = h4 at s2 ⊢
 generalize h3.next = ba at s2 ⊢
 rw [newI0, kP_some]
 have s3 := s2.box (cId ⟨0, 0⟩) 2
 generalize h4.new (.cells (cId ⟨0, 0⟩) 2 .rw) = h5 at s3 ⊢
 generalize h4.next = bb at s3 ⊢
 rw [newI0, kP_some]
 have s4 := s3.box (cId ⟨0, 0⟩) 2
 generalize h5.new (.cells (cId ⟨0, 0⟩) 2 .rw) = h6 at s4 ⊢
 generalize h5.next = bc at s4 ⊢
 clear s2 s3
 rw [st2 (Sep.get (s4.re4 [2] rfl)), kH_some]
 have s5 := (Sep.re4 s4 [2, 0, 1, 3] rfl).write (cs' := cId ⟨1, 1⟩)
 generalize AHeap.put _ _ _ = h7 at s5 ⊢
 rw [st2 (Sep.get (s5.re4 [2] rfl)), kH_some]
 have s6 := (Sep.re4 s5 [2, 0, 1, 3] rfl).write (cs' := cId ⟨1, 2⟩)
 generalize AHeap.put _ _ _ = h8 at s6 ⊢
 rw [st2 (Sep.get (s6.re4 [2] rfl)), kH_some]
 have s7 := (Sep.re4 s6 [2, 1, 0, 3] rfl).write (cs' := cId ⟨1, 3⟩)
 generalize AHeap.put _ _ _ = h9 at s7 ⊢
 clear s4 s5 s6
 rw [ld2 (Sep.get (s7.re4 [1] rfl)), kv_some]
 refine kv_of (v := Oq.agg ⟨1, xN, ⟨#[50]⟩, ⟨#[]⟩, 2⟩) rfl ?_
 refine kv_of (v := Oq.agg ⟨6, xN, ⟨#[]⟩, ⟨#[109]⟩, 0⟩) rfl ?_
 refine kP_of (v := .slice (some ⟨h9.next, 0, none⟩) 2 4) (g := h9.new (.cells (dOp.flat dropA) 5 .rw)) rfl ?_
 have t0 := s7.litOps dropA (by simp)
 have i0 : VInv 0 st0 := VInv.nil
 refine cl_then (vault_Prepare (k := 0) (st := st0) (ops := dropA) ve ⟨1, 1⟩ 0 i0 (by omega) (by simp) (by decide) (t0.re5 [4, 0, 1, 2, 3] rfl)) ?_
 rintro r10 h10 ⟨w10, rfl, t1⟩
 have i1 := inv_prep i0 ⟨1, 1⟩ dropA 0
 rw [ld2 (Sep.get (t1.re6 [4] rfl)), kv_some]
 refine cl_then (vault_Decide ve ⟨1, 1⟩ true i1 (by omega) (t1.re6 [1, 3, 4, 5] rfl)) ?_
 rintro r11 h11 ⟨rfl, t2⟩
 have i2 := inv_dec i1 ⟨1, 1⟩ true
 rw [ld2 (Sep.get (t2.re4 [3] rfl)), kv_some]
 refine kv_of (v := Oq.agg ⟨2, xN, ⟨#[]⟩, ⟨#[]⟩, 0⟩) rfl ?_
 refine kv_of (v := Oq.agg ⟨1, xN, key, ⟨#[]⟩, kd⟩) rfl ?_
 refine kP_of (v := .slice (some ⟨h11.next, 0, none⟩) 2 4) (g := h11.new (.cells (dOp.flat (dropB kd key)) 5 .rw)) rfl ?_
 have t3 := t2.litOps (dropB kd key) (by simp)
 refine cl_then (vault_Prepare (ops := dropB kd key) ve ⟨1, 2⟩ 0 i2 (by omega) (by simp) df.z (t3.re5 [1, 0, 2, 3, 4] rfl)) ?_
 rintro r12 h12 ⟨w12, rfl, t4⟩
 have i3 := inv_prep i2 ⟨1, 2⟩ (dropB kd key) 0
 have hp2 : (prepV (decV (prepV st0 ⟨1, 1⟩ dropA 0).2 ⟨1, 1⟩ true).2 ⟨1, 2⟩ (dropB kd key) 0).1 = ([⟨#[]⟩, ⟨#[]⟩], true) := df.p2
 rw [hp2] at t4 ⊢
 simp only [extract_tuple, List.getElem?_toArray, List.getElem?_cons_zero, List.getElem?_cons_succ, kv_some]
 refine cl_then (vault_Space xN (t4.re6 [1, 0, 3, 4, 5] rfl)) ?_
 intro y h13 t5
 rw [ld2 (Sep.get (t5.re6 [5] rfl)), kv_some]
 refine cl_then (vault_Decide ve ⟨1, 2⟩ true i3 (by omega) (t5.re6 [1, 0, 2, 3, 4, 5] rfl)) ?_
 rintro r14 h14 ⟨rfl, t6⟩
 have i4 := inv_dec i3 ⟨1, 2⟩ true
 refine cl_then (vault_Space xN t6) ?_
 intro z h15 t7
 rw [ld2 (Sep.get (t7.re7 [4] rfl)), kv_some]
 refine kv_of (v := Oq.agg ⟨2, xN, ⟨#[]⟩, ⟨#[]⟩, 0⟩) rfl ?_
 refine kv_of (v := Oq.agg ⟨2, xN, ⟨#[]⟩, ⟨#[]⟩, 0⟩) rfl ?_
 refine kP_of (v := .slice (some ⟨h15.next, 0, none⟩) 2 4) (g := h15.new (.cells (dOp.flat dropC) 5 .rw)) rfl ?_
 have t8 := t7.litOps dropC (by simp)
 refine cl_then (vault_Prepare (ops := dropC) ve ⟨1, 3⟩ 0 i4 (by omega) (by simp) (by decide) (t8.re8 [2, 0, 1, 3, 4] rfl)) ?_
 rintro r16 h16 ⟨w16, rfl, t9⟩
 have hp3 : (prepV (decV (prepV (decV (prepV st0 ⟨1, 1⟩ dropA 0).2 ⟨1, 1⟩ true).2 ⟨1, 2⟩ (dropB kd key) 0).2 ⟨1, 2⟩ true).2 ⟨1, 3⟩ dropC 0).1 = ([], false) := df.p3
 have hs1 : ((lkp xN (prepV (decV (prepV st0 ⟨1, 1⟩ dropA 0).2 ⟨1, 1⟩ true).2 ⟨1, 2⟩ (dropB kd key) 0).2.sp).map (·.kind)) = some 2 := df.s1
 have hs2 : lkp xN (decV (prepV (decV (prepV st0 ⟨1, 1⟩ dropA 0).2 ⟨1, 1⟩ true).2 ⟨1, 2⟩ (dropB kd key) 0).2 ⟨1, 2⟩ true).2.sp = some (SpM.new kd (mostO key)) := df.s2
 have hs3 : (lkp xN (prepV (decV (prepV (decV (prepV st0 ⟨1, 1⟩ dropA 0).2 ⟨1, 1⟩ true).2 ⟨1, 2⟩ (dropB kd key) 0).2 ⟨1, 2⟩ true).2 ⟨1, 3⟩ dropC 0).2.sp).isSome = true := df.s3
 generalize prepV (decV (prepV (decV (prepV st0 ⟨1, 1⟩ dropA 0).2 ⟨1, 1⟩ true).2 ⟨1, 2⟩ (dropB kd key) 0).2 ⟨1, 2⟩ true).2 ⟨1, 3⟩ dropC 0 = P3 at t9 hp3 hs3 ⊢
 rw [hs2] at t9
 obtain ⟨s1', hs1', hk1⟩ : ∃ s, lkp xN (prepV (decV (prepV st0 ⟨1, 1⟩ dropA 0).2 ⟨1, 1⟩ true).2 ⟨1, 2⟩ (dropB kd key) 0).2.sp = some s ∧ s.kind = 2 := by
  cases hh : lkp xN (prepV (decV (prepV st0 ⟨1, 1⟩ dropA 0).2 ⟨1, 1⟩ true).2 ⟨1, 2⟩ (dropB kd key) 0).2.sp with
  | none => rw [hh] at hs1; cases hs1
  | some s => rw [hh] at hs1; exact ⟨s, rfl, Option.some.inj hs1⟩
 rw [hs1'] at t9
 rw [hp3] at t9 ⊢
 clear t0 t1 t2 t3 t4 t5 t6 t7 t8
 obtain ⟨fv, qv, _⟩ := Sep.head (t9.re6 [5] rfl)
 have lenv : lenD .slice w12 h16 = some (i64 ((2 : Nat) : Int)) := Sl.len qv
 obtain ⟨f3, q3, _⟩ := t9.head
 have len3 : ∀ h, lenD .slice w16 h = some (i64 ((0 : Nat) : Int)) := by
  have q3 : Ts h16 f3 w16 [] := q3
  obtain ⟨_, ⟨rfl, _, _⟩ | ⟨b, c, all, rfl, _⟩⟩ := q3 <;> intro h <;> rfl
 obtain ⟨by1, rfl, ry⟩ := kind_get (Sep.re6 t9 [4] rfl)
 obtain ⟨bz1, rfl, rz⟩ := kind_get (Sep.re6 t9 [3] rfl)
 rw [hk1] at ry
 have hzk : (SpM.new kd (mostO key)).kind = kd := rfl
 rw [hzk] at rz
 simp only [extract_tuple, List.getElem?_toArray, List.getElem?_cons_zero, List.getElem?_cons_succ, kv_some, gdV_bool, if_true, lenv, bin_eql, pickV_bool]
 rw [show (((2 : Nat) : Int) == 2) = true from rfl]
 simp only [gdV_bool, if_true, kv_some, ptr_ne_nil, pickV_bool, aNil_ptr, fieldAddr_ptr, ld_one, Nat.zero_add, ry, rz, bin_eql, bin_neq, beq_self_eq_true]
 have last : ∀ {h' : AHeap} {LL : List Pl}, Sep Fq h' (plVlt (0 + 8 + 8 + 8 + 8 + 8) p P3.2 :: LL) →
  kv (gdV (.bool true) true (some (.bool false))) fun v85 => kv (gdV (.bool true) true (aUn .not v85)) fun v86 => kv (pickV (.bool true) v86 (.bool false)) fun v87 => kv (gdV v87 true (some w16)) fun v88 => kv (gdV v87 true (lenD .slice v88 h')) fun v89 =>
   kv (gdV v87 true (binD .bad .eql true v89 (.int .i64 0) h')) fun v90 => kv (pickV v87 v90 (.bool false)) fun v91 => kv (gdV v91 true (some p)) fun v92 =>
   gdC v91 true h' (fun K93 => cl (Go.Abs.F.vault_Vault_Space E) [v92, (.string ⟨#[120]⟩)] h' fun v h => K93 v h) fun v94 h => kv (gdV v91 true (binD (.ptr true) .neq true v94 (.pointer none) h)) fun v95 => kv (pickV v91 v95 (.bool false)) fun v96 => v96 = .bool true := by
  intro h' LL u
  simp only [gdV_bool, if_true, kv_some, not_bool, Bool.not_false, pickV_bool, len3, bin_eql]
  rw [show (((0 : Nat) : Int) == 0) = true from rfl]
  simp only [gdV_bool, if_true, kv_some]
  refine gdC_yes rfl (cl_then (vault_Space xN u) ?_)
  intro y2 h17 u2
  cases hh : lkp xN P3.2.sp with
  | none => rw [hh] at hs3; cases hs3
  | some s3 =>
   rw [hh] at u2
   obtain ⟨b2, rfl, _⟩ := kind_get (s := s3) u2
   simp only [gdV_bool, if_true, kv_some, ptr_ne_nil, pickV_bool]
 by_cases h2k : kd = 2
 · obtain ⟨bq, qp, eq, rq, items, _⟩ := qu_get E (s := SpM.new kd (mostO key)) h2k (by omega) (Sep.re6 t9 [3, 1] rfl)
   cases eq
   have hn2 : (kd != 2) = false := by simp [h2k]
   simp only [hn2, gdV_bool, if_true, kv_some, aNil_ptr, fieldAddr_ptr, ld_one, Nat.zero_add, rq]
   refine gdC_yes rfl (cl_then items ?_)
   intro r17 h17 u1
   obtain ⟨f17, q17, _⟩ := u1.head
   have len17 : lenD .slice r17 h17 = some (i64 ((0 : Nat) : Int)) := Sl.len q17
   obtain ⟨bq2, qp2, eq2, rq2, _, nxt⟩ := qu_get E (s := SpM.new kd (mostO key)) h2k (by omega) u1.up1
   cases eq2
   simp only [gdV_bool, if_true, kv_some, len17, bin_eql]
   rw [show (((0 : Nat) : Int) == 0) = true from rfl]
   simp only [gdV_bool, if_true, kv_some, aNil_ptr, fieldAddr_ptr, ld_one, Nat.zero_add, rq2]
   refine gdC_yes rfl (cl_then nxt ?_)
   rintro r18 h18 ⟨rfl, rfl⟩
   have hnx : ((SpM.new kd (mostO key)).next == 1) = true := rfl
   simp only [gdV_bool, if_true, kv_some, bin_eql, hnx, pickV_bool, Bool.false_eq_true, if_false]
   exact last u1.up2
 · have hn2 : (kd != 2) = true := by simp [h2k]
   simp only [hn2, gdV_bool, Bool.true_eq_false, if_false, if_true, kv_some, gdV_gone]
   refine gdC_no (by simp) ?_
   try simp only [gdV_bool, Bool.true_eq_false, if_false, kv_some, gdV_gone]
   refine gdC_gone ?_
   simp only [gdV_bool, gdV_gone, if_true, kv_some, pickV_bool]
   exact last (Sep.re6 t9 [1] rfl)
end Go.Abs

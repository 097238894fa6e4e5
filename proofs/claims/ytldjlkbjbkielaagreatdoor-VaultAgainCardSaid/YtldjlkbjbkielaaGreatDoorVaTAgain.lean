/- VaultAgain, on abstract heaps. -/
import Derived.Test.YtldjlkbjbkielaaGreatDoorVabf
import Derived.Test.YtldjlkbjbkielaaGreatDoorVaar
set_option maxRecDepth 20000
set_option linter.unusedVariables false
set_option linter.unusedSimpArgs false
namespace Go.Abs
open Go
def F.estafettelaw14_VaultAgain (E : FE) : Spec := fun args h K => match args with
| [a0, a1, a2, a3] =>
cl (F.estafettelaw14_begun E) [] h fun v19_0 h =>
kv (aUn .not v19_0) fun v21_1 =>
ifV v21_1 (
K (.bool false) h) (
cl (F.vault_New E) [] h fun v22_2 h =>
kv (binD .bad .and true a1 (.int .i64 1023) h) fun v24_3 =>
kv (binD .bad .and true a2 (.int .i64 1023) h) fun v26_4 =>
kv (buildD (.struct [(.int .i64 0), (.int .i64 0)] [(0, 1), (1, 1)]) [(0, (.int .i64 5)), (1, (.int .i64 1))]) fun v28_5 =>
kv (buildD (.struct [(.int .i64 0), (.string ⟨#[]⟩), (.string ⟨#[]⟩), (.string ⟨#[]⟩), (.int .i64 0)] [(0, 1), (1, 1), (2, 1), (3, 1), (4, 1)]) [(0, (.int .i64 1)), (1, (.string ⟨#[97]⟩)), (4, (.int .i64 1))]) fun v29_6 =>
kv (buildD (.struct [(.int .i64 0), (.string ⟨#[]⟩), (.string ⟨#[]⟩), (.string ⟨#[]⟩), (.int .i64 0)] [(0, 1), (1, 1), (2, 1), (3, 1), (4, 1)]) [(0, (.int .i64 1)), (1, (.string ⟨#[98]⟩)), (4, (.int .i64 2)), (2, (.string ⟨#[50]⟩))]) fun v30_7 =>
kv (buildD (.struct [(.int .i64 0), (.string ⟨#[]⟩), (.string ⟨#[]⟩), (.string ⟨#[]⟩), (.int .i64 0)] [(0, 1), (1, 1), (2, 1), (3, 1), (4, 1)]) [(0, (.int .i64 1)), (1, (.string ⟨#[99]⟩)), (4, (.int .i64 3))]) fun v31_8 =>
kv (buildD (.struct [(.int .i64 0), (.string ⟨#[]⟩), (.string ⟨#[]⟩), (.string ⟨#[]⟩), (.int .i64 0)] [(0, 1), (1, 1), (2, 1), (3, 1), (4, 1)]) [(0, (.int .i64 6)), (1, (.string ⟨#[98]⟩)), (3, (.string ⟨#[109]⟩))]) fun v32_9 =>
kP (buildSliceD (some (5, [(.int .i64 0), (.string ⟨#[]⟩), (.string ⟨#[]⟩), (.string ⟨#[]⟩), (.int .i64 0)])) 4 [(0, v29_6), (1, v30_7), (2, v31_8), (3, v32_9)] h) fun v33_10 h =>
cl (F.vault_Vault_Prepare E) [v22_2, v28_5, v33_10, (.int .i64 0)] h fun v34_11 h =>
kv (buildD (.struct [(.int .i64 0), (.int .i64 0)] [(0, 1), (1, 1)]) [(0, (.int .i64 5)), (1, (.int .i64 1))]) fun v36_12 =>
cl (F.vault_Vault_Decide E) [v22_2, v36_12, (.bool true)] h fun v37_13 h =>
kv (buildD (.struct [(.int .i64 0), (.int .i64 0)] [(0, 1), (1, 1)]) [(0, (.int .i64 1)), (1, (.int .i64 1))]) fun v38_14 =>
kP (newD none (.agg #[(.int .i64 0), (.int .i64 0)]) h) fun v11_15 h =>
kH (stD (some 2) v11_15 v38_14 h) fun _ h =>
cl (F.estafettelaw12_Ops E) [a0] h fun v40_16 h =>
kv (ldD (.agg 2) v11_15 h) fun v43_17 =>
cl (F.vault_Vault_Prepare E) [v22_2, v43_17, v40_16, v24_3] h fun v46_18 h =>
kv (aExtract v46_18 0) fun v47_19 =>
kv (aExtract v46_18 1) fun v48_20 =>
kv (ldD (.agg 2) v11_15 h) fun v51_21 =>
cl (F.vault_Vault_Prepare E) [v22_2, v51_21, v40_16, v26_4] h fun v54_22 h =>
kv (aExtract v54_22 0) fun v55_23 =>
kv (aExtract v54_22 1) fun v56_24 =>
kv (gdV v48_20 true (some v56_24)) fun v59_25 =>
kv (gdV v48_20 true (aUn .not v59_25)) fun v60_26 =>
kv (gdV v48_20 true (some v60_26)) fun v61_27 =>
kv (gdV v61_27 false (some v47_19)) fun v62_28 =>
kv (gdV v61_27 false (some v55_23)) fun v63_29 =>
gdC v61_27 false h (fun K30 => cl (F.estafettelaw14_texts E) [v62_28, v63_29] h fun v h => K30 v h) fun v64_31 h =>
kv (gdV v61_27 false (aUn .not v64_31)) fun v65_32 =>
kv (gdV v48_20 true (pickV v61_27 (.bool true) v65_32)) fun v66_33 =>
kv (gdV v48_20 true (some v66_33)) fun v67_34 =>
kv (gdV v67_34 false (some v22_2)) fun v68_35 =>
kv (gdV v67_34 false (ldD (.agg 2) v11_15 h)) fun v69_36 =>
gdC v67_34 false h (fun K37 => cl (F.vault_Vault_At E) [v68_35, v69_36] h fun v h => K37 v h) fun v70_38 h =>
kv (gdV v67_34 false (some v24_3)) fun v71_39 =>
kv (gdV v67_34 false (binD .bad .neq false v70_38 v71_39 h)) fun v72_40 =>
kv (gdV v48_20 true (pickV v67_34 (.bool true) v72_40)) fun v73_41 =>
kv (pickV v48_20 v73_41 (.bool false)) fun v74_42 =>
ifV v74_42 (
K (.bool false) h) (
kv (ldD (.agg 2) v11_15 h) fun v76_43 =>
cl (F.vault_Vault_Decide E) [v22_2, v76_43, a3] h fun v78_44 h =>
kv (ldD (.agg 2) v11_15 h) fun v81_45 =>
cl (F.vault_Vault_Prepare E) [v22_2, v81_45, v40_16, v26_4] h fun v84_46 h =>
kv (aExtract v84_46 0) fun v85_47 =>
kv (aExtract v84_46 1) fun v86_48 =>
kv (aUn .not v86_48) fun v88_49 =>
kv (gdV v88_49 true (some v85_47)) fun v90_50 =>
kv (gdV v88_49 true (lenD .slice v90_50 h)) fun v91_51 =>
kv (gdV v88_49 true (binD .bad .eql true v91_51 (.int .i64 0) h)) fun v92_52 =>
kv (pickV v88_49 v92_52 (.bool false)) fun v93_53 =>
kv (gdV v93_53 true (some v22_2)) fun v95_54 =>
kv (gdV v93_53 true (ldD (.agg 2) v11_15 h)) fun v96_55 =>
gdC v93_53 true h (fun K56 => cl (F.vault_Vault_At E) [v95_54, v96_55] h fun v h => K56 v h) fun v97_57 h =>
kv (gdV v93_53 true (binD .bad .eql true v97_57 (.int .i64 0) h)) fun v98_58 =>
kv (pickV v93_53 v98_58 (.bool false)) fun v99_59 =>
kv (gdV v99_59 true (some v22_2)) fun v101_60 =>
gdC v99_59 true h (fun K61 => cl (F.vault_Vault_Waits E) [v101_60] h fun v h => K61 v h) fun v102_62 h =>
kv (gdV v99_59 true (lenD .slice v102_62 h)) fun v103_63 =>
kv (gdV v99_59 true (binD .bad .eql true v103_63 (.int .i64 0) h)) fun v104_64 =>
kv (pickV v99_59 v104_64 (.bool false)) fun v105_65 =>
kv (gdV v105_65 true (some v22_2)) fun v107_66 =>
kv (gdV v105_65 true (ldD (.agg 2) v11_15 h)) fun v108_67 =>
gdC v105_65 true h (fun K68 => cl (F.vault_Vault_Over E) [v107_66, v108_67] h fun v h => K68 v h) fun v109_69 h =>
kv (pickV v105_65 v109_69 (.bool false)) fun v110_70 =>
K v110_70 h))
| _ => False
end Go.Abs
set_option linter.unusedSimpArgs false
set_option linter.unusedVariables false
namespace Go.Abs
open Go Go.Proofs
variable {E : FE} {h : AHeap} {v : V}
abbrev st0 : VltM := ⟨[], [], [], []⟩
theorem again_plain {k : Nat} {st : VltM} {id : IdM} {ops : List Oq} {a b : Int} (i : VInv k st) (hp : lkp id st.pt = none) (h : (prepV st id ops a).1.2 = true) :
 (prepV (prepV st id ops a).2 id ops b).1 = (prepV st id ops a).1 ∧ ∃ p, lkp id (prepV (prepV st id ops a).2 id ops b).2.pt = some p ∧ p.now = a := by
 obtain ⟨h1, h2, p, h3, h4, h5⟩ := prep_some h
 have e := prep_again (st := (prepV st id ops a).2) (now := b) (by rw [prep_ov]; exact h1) h2 h3
 rw [e]
 refine ⟨?_, p, h3, h5 hp⟩
 rw [h4]
 exact Prod.ext rfl h.symm
theorem z00 : (((0 : Nat) : Int) == 0) = true := rfl
theorem again_tail {F : Fr} {L : List Pl} {k : Nat} {p lo : V} {bi : Nat} {S : VltM} {ops : List Oq} (ve : VlE E) (b : Int) (yes : Bool) (i : VInv k S) (hov : (⟨1, 1⟩ : IdM) ∉ S.ov) (hon : ∀ e ∈ S.pt, e.1 = (⟨1, 1⟩ : IdM)) (hk : k ≤ 880)
 (hn : ops.length ≤ 1000000) (hz : ∀ o ∈ ops, o.space.size ≤ maxLen) (s : Sep F h (plVlt k p S :: plOps lo ops :: plBox bi (cId ⟨1, 1⟩) 2 :: L)) :
kv (ldD (.agg 2) (ptr bi 0) h) fun v43 =>
cl (Go.Abs.F.vault_Vault_Decide E) [p, v43, .bool yes] h fun v44 h =>
kv (ldD (.agg 2) (ptr bi 0) h) fun v45 =>
cl (Go.Abs.F.vault_Vault_Prepare E) [p, v45, lo, i64 b] h fun v46 h =>
kv (aExtract v46 0) fun v47 =>
kv (aExtract v46 1) fun v48 =>
kv (aUn .not v48) fun v49 =>
kv (gdV v49 true (some v47)) fun v50 =>
kv (gdV v49 true (lenD .slice v50 h)) fun v51 =>
kv (gdV v49 true (binD .bad .eql true v51 (.int .i64 0) h)) fun v52 =>
kv (pickV v49 v52 (.bool false)) fun v53 =>
kv (gdV v53 true (some p)) fun v54 =>
kv (gdV v53 true (ldD (.agg 2) (ptr bi 0) h)) fun v55 =>
gdC v53 true h (fun K56 => cl (Go.Abs.F.vault_Vault_At E) [v54, v55] h fun v h => K56 v h) fun v57 h =>
kv (gdV v53 true (binD .bad .eql true v57 (.int .i64 0) h)) fun v58 =>
kv (pickV v53 v58 (.bool false)) fun v59 =>
kv (gdV v59 true (some p)) fun v60 =>
gdC v59 true h (fun K61 => cl (Go.Abs.F.vault_Vault_Waits E) [v60] h fun v h => K61 v h) fun v62 h =>
kv (gdV v59 true (lenD .slice v62 h)) fun v63 =>
kv (gdV v59 true (binD .bad .eql true v63 (.int .i64 0) h)) fun v64 =>
kv (pickV v59 v64 (.bool false)) fun v65 =>
kv (gdV v65 true (some p)) fun v66 =>
kv (gdV v65 true (ldD (.agg 2) (ptr bi 0) h)) fun v67 =>
gdC v65 true h (fun K68 => cl (Go.Abs.F.vault_Vault_Over E) [v66, v67] h fun v h => K68 v h) fun v69 h =>
kv (pickV v65 v69 (.bool false)) fun v70 =>
v70 = .bool true := by
 rw [ld2 s.up2.get, kv_some]
 refine cl_then (vault_Decide ve ⟨1, 1⟩ yes i (by omega) s) ?_
 rintro r h1 ⟨_, s1⟩
 have i1 := inv_dec i ⟨1, 1⟩ yes
 have hpt := dec_only (yes := yes) hov i.dpt hon
 have ho1 := dec_ov (st := S) (id := ⟨1, 1⟩) yes
 generalize (decV S ⟨1, 1⟩ yes).2 = S1 at s1 i1 hpt ho1
 rw [ld2 s1.up2.get, kv_some]
 refine cl_then (vault_Prepare ve ⟨1, 1⟩ b i1 (by omega) hn hz s1) ?_
 rintro r h2 ⟨w, rfl, s2⟩
 rw [prep_over ho1] at s2 ⊢
 dsimp only at s2 ⊢
 obtain ⟨f, q, _⟩ := s2.head
 have hlen : lenD .slice w h2 = some (i64 ((0 : Nat) : Int)) := Sl.len q
 simp only [extract_tuple, List.getElem?_toArray, List.getElem?_cons_zero, List.getElem?_cons_succ, kv_some, not_bool, Bool.not_false, gdV_bool, if_true, hlen, bin_eql, pickV_bool, z00]
 rw [ld2 (Sep.get (s2.re4 [3] rfl)), kv_some]
 refine gdC_yes rfl (cl_then (vault_AtN ⟨1, 1⟩ (s2.re4 [1, 0, 2, 3] rfl)) ?_)
 rintro r h3 ⟨rfl, s3⟩
 have hz0 : nowOf (lkp (⟨1, 1⟩ : IdM) S1.pt) = 0 := by rw [hpt]; rfl
 rw [hz0]
 simp only [beq_self_eq_true, if_true, kv_some, gdV_bool, bin_eql, pickV_bool]
 refine gdC_yes rfl (cl_then (vault_Waits (sort12 ve) (by rw [hpt]; simp) (by omega) s3) ?_)
 rintro r h4 ⟨l', hl', _, s4⟩
 obtain ⟨f4, q4, _⟩ := s4.head
 have q4 : SlE dId h4 f4 r l' := q4
 have hl0 : l' = [] := by
  rw [hpt] at hl'
  exact List.Perm.eq_nil hl'
 rw [hl0] at q4
 have hlen4 : lenD .slice r h4 = some (i64 ((0 : Nat) : Int)) := q4.len
 simp only [beq_self_eq_true, if_true, kv_some, gdV_bool, hlen4, bin_eql, pickV_bool, z00]
 rw [ld2 (Sep.get (s4.re5 [4] rfl)), kv_some]
 refine gdC_yes rfl (cl_then (vault_Over ⟨1, 1⟩ s4.up1) ?_)
 rintro r h5 ⟨rfl, _⟩
 simp [pickV_bool, ho1]
abbrev opsA : List Oq := [⟨1, ⟨#[97]⟩, ⟨#[]⟩, ⟨#[]⟩, 1⟩, ⟨1, ⟨#[98]⟩, ⟨#[50]⟩, ⟨#[]⟩, 2⟩, ⟨1, ⟨#[99]⟩, ⟨#[]⟩, ⟨#[]⟩, 3⟩, ⟨6, ⟨#[98]⟩, ⟨#[]⟩, ⟨#[109]⟩, 0⟩]
set_option maxHeartbeats 1000000 in
theorem law_VaultAgain (ve : VlE E) {l : List Oq} (s : Oqs h.next h v l) (hz : ∀ o ∈ l, o.space.size ≤ maxLen) (a b : Int) (yes : Bool) :
 cl (Go.Abs.F.estafettelaw14_VaultAgain E) [v, i64 a, i64 b, .bool yes] h fun r _ => r = .bool true := by
 refine cl_of ?_
 simp only [Go.Abs.F.estafettelaw14_VaultAgain]
 refine cl_then begun_spec ?_
 rintro r h1 ⟨rfl, rfl⟩
 simp only [not_bool, Bool.not_true, kv_some, ifV_bool, Bool.false_eq_true, if_false]
 obtain ⟨N, hN⟩ : ∃ N, h1.next = N := ⟨_, rfl⟩
 rw [hN] at s
 have s0 : Sep (frQs N v l) h1 [] := ⟨by show N ≤ h1.next; omega, s, [], rfl⟩
 refine cl_then (vault_New 0 s0) ?_
 intro p h2 s1
 obtain ⟨a', ea, _, _⟩ := and_mask (k := .bad) (c := true) (h := h2) a 1023 (by decide) (by decide)
 obtain ⟨b', eb, _, _⟩ := and_mask (k := .bad) (c := true) (h := h2) b 1023 (by decide) (by decide)
 rw [ea, kv_some, eb, kv_some]
 refine kv_of (v := (⟨5, 1⟩ : IdM).agg) rfl ?_
 refine kv_of (v := Oq.agg ⟨1, ⟨#[97]⟩, ⟨#[]⟩, ⟨#[]⟩, 1⟩) rfl ?_
 refine kv_of (v := Oq.agg ⟨1, ⟨#[98]⟩, ⟨#[50]⟩, ⟨#[]⟩, 2⟩) rfl ?_
 refine kv_of (v := Oq.agg ⟨1, ⟨#[99]⟩, ⟨#[]⟩, ⟨#[]⟩, 3⟩) rfl ?_
 refine kv_of (v := Oq.agg ⟨6, ⟨#[98]⟩, ⟨#[]⟩, ⟨#[109]⟩, 0⟩) rfl ?_
 refine kP_of (v := .slice (some ⟨h2.next, 0, none⟩) 4 8) (g := h2.new (.cells (dOp.flat opsA) 5 .rw)) rfl ?_
 have s2 := s1.litOps opsA (by simp)
 have i0 : VInv 0 st0 := VInv.nil
 refine cl_then (vault_Prepare (k := 0) (st := st0) (ops := opsA) ve ⟨5, 1⟩ 0 i0 (by omega) (by decide) (by decide) s2.up1) ?_
 rintro r3 h3 ⟨w3, rfl, s3⟩
 refine kv_of (v := (⟨5, 1⟩ : IdM).agg) rfl ?_
 refine cl_then (vault_Decide ve ⟨5, 1⟩ true (inv_prep i0 ⟨5, 1⟩ opsA 0) (by omega) s3.up1) ?_
 rintro r4 h4 ⟨rfl, s4⟩
 have s4 := s4.re3 [0] rfl
 have i2 := inv_dec (inv_prep i0 ⟨5, 1⟩ opsA 0) ⟨5, 1⟩ true
 have hpt := one_pt (yes := true) (id := ⟨5, 1⟩) (ops := opsA) (now := 0) i0 (by simp) rfl
 have hov : (⟨1, 1⟩ : IdM) ∉ (decV (prepV st0 ⟨5, 1⟩ opsA 0).2 ⟨5, 1⟩ true).2.ov := by
  rw [(dec_ov_eq (by rw [prep_ov]; simp)).1, prep_ov]
  decide
 generalize (decV (prepV st0 ⟨5, 1⟩ opsA 0).2 ⟨5, 1⟩ true).2 = S2 at s4 i2 hpt hov
 refine kv_of (v := (⟨1, 1⟩ : IdM).agg) rfl ?_
 rw [newI0, kP_some]
 have s5 := s4.box (cId ⟨0, 0⟩) 2
 rw [st2 s5.get, kH_some]
 have s6 := s5.write (cs' := cId ⟨1, 1⟩)
 generalize AHeap.put _ _ _ = h6 at s6 ⊢
 generalize h4.next = bi at s6 ⊢
 rw [Ops_cut]
 refine cl_then (cut_ops 10 (by omega) s6.2.1 s6) ?_
 intro lo h7 s7
 rw [ld2 s7.up1.get, kv_some]
 have hz10 : ∀ o ∈ l.take 10, o.space.size ≤ maxLen := fun o ho => hz o (List.mem_of_mem_take ho)
 have hl10 : (l.take 10).length ≤ 1000000 := by rw [List.length_take]; omega
 refine cl_then (vault_Prepare ve ⟨1, 1⟩ a' i2 (by omega) hl10 hz10 (s7.re3 [2, 0, 1] rfl)) ?_
 rintro r8 h8 ⟨wx, rfl, s8⟩
 have i3 := inv_prep i2 ⟨1, 1⟩ (l.take 10) a'
 simp only [extract_tuple, List.getElem?_toArray, List.getElem?_cons_zero, List.getElem?_cons_succ, kv_some]
 rw [ld2 (Sep.get (s8.re4 [3] rfl)), kv_some]
 refine cl_then (vault_Prepare ve ⟨1, 1⟩ b' i3 (by omega) hl10 hz10 (s8.re4 [1, 2, 0, 3] rfl)) ?_
 rintro r9 h9 ⟨wy, rfl, s9⟩
 have i4 := inv_prep i3 ⟨1, 1⟩ (l.take 10) b'
 have hon : ∀ e ∈ (prepV (prepV S2 ⟨1, 1⟩ (l.take 10) a').2 ⟨1, 1⟩ (l.take 10) b').2.pt, e.1 = (⟨1, 1⟩ : IdM) := prep_only (prep_only (by rw [hpt]; simp))
 have hov4 : (⟨1, 1⟩ : IdM) ∉ (prepV (prepV S2 ⟨1, 1⟩ (l.take 10) a').2 ⟨1, 1⟩ (l.take 10) b').2.ov := by rw [prep_ov, prep_ov]; exact hov
 have hlk : lkp (⟨1, 1⟩ : IdM) S2.pt = none := by rw [hpt]; rfl
 have h8v := prep_vals8 (id := ⟨1, 1⟩) (ops := l.take 10) (now := a') i2
 have hag := again_plain (b := b') (ops := l.take 10) (a := a') (id := ⟨1, 1⟩) i2 hlk
 simp only [extract_tuple, List.getElem?_toArray, List.getElem?_cons_zero, List.getElem?_cons_succ, kv_some]
 generalize (prepV S2 ⟨1, 1⟩ (l.take 10) a') = P1 at s9 i4 hon hov4 hag h8v ⊢
 generalize (prepV P1.2 ⟨1, 1⟩ (l.take 10) b') = P2 at s9 i4 hon hov4 hag ⊢
 cases hok : P1.1.2 with
 | false =>
  simp only [gdV_bool, Bool.false_eq_true, if_false, kv_some, gdV_gone]
  refine gdC_gone ?_
  try simp only [gdV_gone, kv_some]
  refine gdC_gone ?_
  try simp only [gdV_gone, kv_some, pickV_bool, Bool.false_eq_true, if_false, ifV_bool]
  exact again_tail ve b' yes i4 hov4 hon (by omega) hl10 hz10 (s9.re5 [1, 2, 4] rfl)
 | true =>
  obtain ⟨e1, x, hx, hxn⟩ := hag hok
  rw [e1] at s9 ⊢
  simp only [gdV_bool, if_true, kv_some, hok, not_bool, Bool.not_true, Bool.false_eq_true, if_false]
  refine gdC_yes rfl (cl_then (texts_ok (by omega) (s9.re5 [3, 0] rfl)) ?_)
  rintro r h10 ⟨rfl, rfl⟩
  simp only [decide_true, not_bool, Bool.not_true, kv_some, gdV_bool, if_true, pickV_bool, Bool.false_eq_true, if_false]
  rw [ld2 (Sep.get (s9.re5 [4] rfl)), kv_some]
  refine gdC_yes rfl (cl_then (vault_AtN ⟨1, 1⟩ (s9.re5 [1, 2, 4] rfl)) ?_)
  rintro r h11 ⟨rfl, s11⟩
  have hz0 : nowOf (lkp (⟨1, 1⟩ : IdM) P2.2.pt) = a' := by rw [hx]; exact hxn
  rw [hz0]
  simp only [bin_neq, bne_self_eq_false, kv_some, gdV_bool, if_true, pickV_bool, Bool.false_eq_true, if_false, ifV_bool]
  exact again_tail ve b' yes i4 hov4 hon (by omega) hl10 hz10 s11
end Go.Abs

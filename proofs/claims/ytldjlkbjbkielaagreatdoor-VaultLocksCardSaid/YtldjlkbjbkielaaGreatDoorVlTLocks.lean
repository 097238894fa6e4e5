/- VaultLocks, on abstract heaps. -/
import Derived.Test.YtldjlkbjbkielaaGreatDoorVlbf
import Derived.Test.YtldjlkbjbkielaaGreatDoorVlar
set_option maxRecDepth 20000
set_option linter.unusedVariables false
set_option linter.unusedSimpArgs false
namespace Go.Abs
open Go
def F.estafettelaw14_VaultLocks (E : FE) : Spec := fun args h K => match args with
| [a0, a1, a2] =>
cl (F.estafettelaw14_begun E) [] h fun v22_0 h =>
kv (aUn .not v22_0) fun v24_1 =>
ifV v24_1 (
K (.bool false) h) (
cl (F.vault_New E) [] h fun v25_2 h =>
kv (buildD (.struct [(.int .i64 0), (.int .i64 0)] [(0, 1), (1, 1)]) [(0, (.int .i64 9)), (1, (.int .i64 1))]) fun v26_3 =>
kP (newD none (.agg #[(.int .i64 0), (.int .i64 0)]) h) fun v9_4 h =>
kH (stD (some 2) v9_4 v26_3 h) fun _ h =>
kv (ldD (.agg 2) v9_4 h) fun v28_5 =>
kv (buildD (.struct [(.int .i64 0), (.string ⟨#[]⟩), (.string ⟨#[]⟩), (.string ⟨#[]⟩), (.int .i64 0)] [(0, 1), (1, 1), (2, 1), (3, 1), (4, 1)]) [(0, (.int .i64 1)), (1, (.string ⟨#[97]⟩)), (4, (.int .i64 1))]) fun v29_6 =>
kv (buildD (.struct [(.int .i64 0), (.string ⟨#[]⟩), (.string ⟨#[]⟩), (.string ⟨#[]⟩), (.int .i64 0)] [(0, 1), (1, 1), (2, 1), (3, 1), (4, 1)]) [(0, (.int .i64 1)), (1, (.string ⟨#[98]⟩)), (4, (.int .i64 2)), (2, (.string ⟨#[50]⟩))]) fun v30_7 =>
kv (buildD (.struct [(.int .i64 0), (.string ⟨#[]⟩), (.string ⟨#[]⟩), (.string ⟨#[]⟩), (.int .i64 0)] [(0, 1), (1, 1), (2, 1), (3, 1), (4, 1)]) [(0, (.int .i64 1)), (1, (.string ⟨#[99]⟩)), (4, (.int .i64 3))]) fun v31_8 =>
kP (buildSliceD (some (5, [(.int .i64 0), (.string ⟨#[]⟩), (.string ⟨#[]⟩), (.string ⟨#[]⟩), (.int .i64 0)])) 3 [(0, v29_6), (1, v30_7), (2, v31_8)] h) fun v32_9 h =>
cl (F.vault_Vault_Prepare E) [v25_2, v28_5, v32_9, (.int .i64 0)] h fun v33_10 h =>
kv (ldD (.agg 2) v9_4 h) fun v35_11 =>
cl (F.vault_Vault_Decide E) [v25_2, v35_11, (.bool true)] h fun v36_12 h =>
kv (buildD (.struct [(.int .i64 0), (.int .i64 0)] [(0, 1), (1, 1)]) [(0, (.int .i64 1)), (1, (.int .i64 1))]) fun v37_13 =>
kv (buildD (.struct [(.int .i64 0), (.int .i64 0)] [(0, 1), (1, 1)]) [(0, (.int .i64 2)), (1, (.int .i64 1))]) fun v38_14 =>
kP (newD none (.agg #[(.int .i64 0), (.int .i64 0)]) h) fun v10_15 h =>
kP (newD none (.agg #[(.int .i64 0), (.int .i64 0)]) h) fun v11_16 h =>
kH (stD (some 2) v10_15 v37_13 h) fun _ h =>
kH (stD (some 2) v11_16 v38_14 h) fun _ h =>
cl (F.estafettelaw14_few E) [a0] h fun v40_17 h =>
cl (F.estafettelaw14_few E) [a1] h fun v42_18 h =>
kv (ldD (.agg 2) v10_15 h) fun v45_19 =>
cl (F.vault_Vault_Prepare E) [v25_2, v45_19, v40_17, (.int .i64 1)] h fun v47_20 h =>
kv (aExtract v47_20 0) fun v48_21 =>
kv (aExtract v47_20 1) fun v49_22 =>
kv (aUn .not v49_22) fun v51_23 =>
ifV v51_23 (
cl (F.vault_Vault_Waits E) [v25_2] h fun v53_24 h =>
kv (lenD .slice v53_24 h) fun v54_25 =>
kv (binD .bad .eql true v54_25 (.int .i64 0) h) fun v55_26 =>
K v55_26 h) (
kv (ldD (.agg 2) v11_16 h) fun v58_27 =>
cl (F.vault_Vault_Prepare E) [v25_2, v58_27, v42_18, (.int .i64 1)] h fun v60_28 h =>
kv (aExtract v60_28 0) fun v61_29 =>
kv (aExtract v60_28 1) fun v62_30 =>
kv (lenD .slice v40_17 h) fun v64_31 =>
∃ (Inv32 : Nat → List V → AHeap → Prop) (n32 : Nat), Inv32 n32 [(.bool false), (.int .i64 0)] h ∧ ∀ (n32 : Nat) (e32 : Nat → V) (h : AHeap), Inv32 n32 [(e32 18), (e32 65)] h →
kv (binD .bad .lss false (e32 65) v64_31 h) fun v66_33 =>
ifV v66_33 (
kv (lenD .slice v42_18 h) fun v69_34 =>
∃ (Inv35 : Nat → List V → AHeap → Prop) (n35 : Nat), Inv35 n35 [(e32 18), (.int .i64 0)] h ∧ ∀ (n35 : Nat) (e35 : Nat → V) (h : AHeap), Inv35 n35 [(e35 18), (e35 70)] h →
kv (binD .bad .lss false (e35 70) v69_34 h) fun v71_36 =>
ifV v71_36 (
kv (indexAddrD (.slice 5) v40_17 (e32 65)) fun v75_37 =>
kv (fieldAddrD (some 0) v75_37) fun v76_38 =>
kv (ldD .one v76_38 h) fun v77_39 =>
cl (F.estafettelaw14_table E) [v77_39] h fun v78_40 h =>
kv (aUn .not v78_40) fun v79_41 =>
kv (gdV v79_41 false (some v42_18)) fun v81_42 =>
kv (gdV v79_41 false (some (e35 70))) fun v82_43 =>
kv (gdV v79_41 false (indexAddrD (.slice 5) v81_42 v82_43)) fun v83_44 =>
kv (gdV v79_41 false (fieldAddrD (some 0) v83_44)) fun v84_45 =>
kv (gdV v79_41 false (ldD .one v84_45 h)) fun v85_46 =>
gdC v79_41 false h (fun K47 => cl (F.estafettelaw14_table E) [v85_46] h fun v h => K47 v h) fun v86_48 h =>
kv (gdV v79_41 false (aUn .not v86_48)) fun v87_49 =>
kv (pickV v79_41 (.bool true) v87_49) fun v88_50 =>
kv (gdV (e35 18) false (some v40_17)) fun v91_51 =>
kv (gdV (e35 18) false (some (e32 65))) fun v92_52 =>
kv (gdV (e35 18) false (indexAddrD (.slice 5) v91_51 v92_52)) fun v93_53 =>
kv (gdV (e35 18) false (fieldAddrD (some 1) v93_53)) fun v94_54 =>
kv (gdV (e35 18) false (ldD .one v94_54 h)) fun v95_55 =>
kv (gdV (e35 18) false (some v42_18)) fun v96_56 =>
kv (gdV (e35 18) false (some (e35 70))) fun v97_57 =>
kv (gdV (e35 18) false (indexAddrD (.slice 5) v96_56 v97_57)) fun v98_58 =>
kv (gdV (e35 18) false (fieldAddrD (some 1) v98_58)) fun v99_59 =>
kv (gdV (e35 18) false (ldD .one v99_59 h)) fun v100_60 =>
kv (gdV (e35 18) false (binD .bad .eql false v95_55 v100_60 h)) fun v101_61 =>
kv (gdV (e35 18) false (some v101_61)) fun v102_62 =>
kv (gdV v102_62 true (some v88_50)) fun v103_63 =>
kv (gdV v102_62 true (some v103_63)) fun v104_64 =>
kv (gdV v104_64 false (some v40_17)) fun v105_65 =>
kv (gdV v104_64 false (some (e32 65))) fun v106_66 =>
kv (gdV v104_64 false (indexAddrD (.slice 5) v105_65 v106_66)) fun v107_67 =>
kv (gdV v104_64 false (fieldAddrD (some 2) v107_67)) fun v108_68 =>
kv (gdV v104_64 false (ldD .one v108_68 h)) fun v109_69 =>
kv (gdV v104_64 false (some v42_18)) fun v110_70 =>
kv (gdV v104_64 false (some (e35 70))) fun v111_71 =>
kv (gdV v104_64 false (indexAddrD (.slice 5) v110_70 v111_71)) fun v112_72 =>
kv (gdV v104_64 false (fieldAddrD (some 2) v112_72)) fun v113_73 =>
kv (gdV v104_64 false (ldD .one v113_73 h)) fun v114_74 =>
kv (gdV v104_64 false (binD .bad .eql false v109_69 v114_74 h)) fun v115_75 =>
kv (gdV v102_62 true (pickV v104_64 (.bool true) v115_75)) fun v116_76 =>
kv (gdV (e35 18) false (pickV v102_62 v116_76 (.bool false))) fun v117_77 =>
kv (pickV (e35 18) (.bool true) v117_77) fun v118_78 =>
kv (binD .bad .add true (e35 70) (.int .i64 1) h) fun v119_79 =>
∃ m, m < n35 ∧ Inv35 m [v118_78, v119_79] h) (
kv (binD .bad .add true (e32 65) (.int .i64 1) h) fun v120_80 =>
∃ m, m < n32 ∧ Inv32 m [(e35 18), v120_80] h)) (
kv (gdV (e32 18) true (some v62_30)) fun v123_81 =>
kv (pickV (e32 18) v123_81 (.bool false)) fun v124_82 =>
ifV v124_82 (
K (.bool false) h) (
kv (ldD (.agg 2) v10_15 h) fun v126_83 =>
cl (F.vault_Vault_Decide E) [v25_2, v126_83, a2] h fun v128_84 h =>
kv (ldD (.agg 2) v11_16 h) fun v130_85 =>
cl (F.vault_Vault_Decide E) [v25_2, v130_85, a2] h fun v132_86 h =>
cl (F.vault_Vault_Waits E) [v25_2] h fun v134_87 h =>
kv (lenD .slice v134_87 h) fun v135_88 =>
kv (binD .bad .eql true v135_88 (.int .i64 0) h) fun v136_89 =>
kv (gdV v136_89 true (some v25_2)) fun v138_90 =>
kv (gdV v136_89 true (ldD (.agg 2) v10_15 h)) fun v139_91 =>
gdC v136_89 true h (fun K92 => cl (F.vault_Vault_Over E) [v138_90, v139_91] h fun v h => K92 v h) fun v140_93 h =>
kv (pickV v136_89 v140_93 (.bool false)) fun v141_94 =>
kv (gdV v141_94 true (some v25_2)) fun v143_95 =>
kv (gdV v141_94 true (ldD (.agg 2) v11_16 h)) fun v144_96 =>
gdC v141_94 true h (fun K97 => cl (F.vault_Vault_Over E) [v143_95, v144_96] h fun v h => K97 v h) fun v145_98 h =>
kv (pickV v141_94 v145_98 (.bool false)) fun v146_99 =>
K v146_99 h))))
| _ => False
end Go.Abs
set_option linter.unusedSimpArgs false
set_option linter.unusedVariables false
namespace Go.Abs
open Go Go.Proofs
variable {E : FE} {h : AHeap} {v : V}
abbrev st0 : VltM := ⟨[], [], [], []⟩
theorem z00 : (((0 : Nat) : Int) == 0) = true := rfl
end Go.Abs
namespace Go.Abs
open Go Go.Proofs
variable {E : FE} {h : AHeap} {v w : V} {F : Fr} {L : List Pl} {k : Nat} {st : VltM} {id a b : IdM} {ops : List Oq} {now : Int}
/-! ### Plain -/
theorem prep_ops (hp : lkp id st.pt = none) (h : (prepV st id ops now).1.2 = true) : ∃ p, lkp id (prepV st id ops now).2.pt = some p ∧ p.ops = ops := by
 unfold prepV at h ⊢
 by_cases h0 : id ∈ st.ov ∨ allO ops = false
 · rw [if_pos h0] at h; cases h
 rw [if_neg h0] at h ⊢
 rw [hp] at h ⊢
 simp only at h ⊢
 by_cases hb : blocked id (ops.map lockOf) st.lk = true
 · rw [if_pos hb] at h; cases h
 rw [if_neg hb] at h ⊢
 cases hv : partV st.sp st.pt now ops [] [] with
 | none => rw [hv] at h; cases h
 | some r =>
  obtain ⟨vals, vw⟩ := r
  exact ⟨⟨ops, vals, now, vw⟩, by simp only [lkp_ins, if_true], rfl⟩
theorem prep_fail_pt (h : (prepV st id ops now).1.2 = false) : (prepV st id ops now).2.pt = st.pt := by
 unfold prepV at h ⊢
 by_cases h0 : id ∈ st.ov ∨ allO ops = false
 · rw [if_pos h0]
 rw [if_neg h0] at h ⊢
 cases hp : lkp id st.pt with
 | some p => rfl
 | none =>
  rw [hp] at h
  simp only at h ⊢
  by_cases hb : blocked id (ops.map lockOf) st.lk = true
  · rw [if_pos hb]
  rw [if_neg hb] at h ⊢
  cases hv : partV st.sp st.pt now ops [] [] with
  | none => rfl
  | some r => rw [hv] at h; cases h
theorem prep_sub {e : IdM × PartM} (he : e ∈ (prepV st id ops now).2.pt) : e ∈ st.pt ∨ e.1 = id := by
 unfold prepV at he
 by_cases h0 : id ∈ st.ov ∨ allO ops = false
 · rw [if_pos h0] at he; exact .inl he
 rw [if_neg h0] at he
 cases hp : lkp id st.pt with
 | some p => rw [hp] at he; exact .inl he
 | none =>
  rw [hp] at he
  simp only at he
  by_cases hb : blocked id (ops.map lockOf) st.lk = true
  · rw [if_pos hb] at he; exact .inl he
  rw [if_neg hb] at he
  cases hv : partV st.sp st.pt now ops [] [] with
  | none => rw [hv] at he; exact .inl he
  | some r =>
   rw [hv] at he
   simp only at he
   rw [ins_new hp] at he
   rcases List.mem_append.1 he with he | he
   · exact .inl he
   · rw [List.mem_singleton.1 he]; exact .inr rfl
theorem dec_sub {yes : Bool} (hd : (keysL st.pt).Nodup) (ho : id ∉ st.ov) {e : IdM × PartM} (he : e ∈ (decV st id yes).2.pt) : e ∈ st.pt ∧ e.1 ≠ id := by
 unfold decV at he
 rw [if_neg ho] at he
 cases hk : lkp id st.pt with
 | none =>
  rw [hk] at he
  have he : e ∈ st.pt := he
  refine ⟨he, fun hc => ?_⟩
  exact lkp_none.1 hk (List.mem_map.2 ⟨e, he, hc⟩)
 | some x =>
  rw [hk] at he
  exact mem_rmv hd he
theorem dec_ov_sub {yes : Bool} {x : IdM} (hx : x ∈ st.ov) : x ∈ (decV st id yes).2.ov := by
 unfold decV
 split
 · exact hx
 · split <;> exact List.mem_cons_of_mem _ hx
theorem clash (i : VInv k st) (hab : a ≠ b) {p : PartM} (hp : lkp a st.pt = some p) (hb : lkp b st.pt = none) {o o' : Oq} (ho : o ∈ p.ops) (ho' : o' ∈ ops) (hm : meetK (lockOf o') (lockOf o) = true) : (prepV st b ops now).1.2 = false := by
 have h1 := lkp_mem (i.has _ (lkp_mem hp) o ho)
 have h1 : (lockOf o, a) ∈ st.lk := h1
 have h2 : blocked b (ops.map lockOf) st.lk = true := List.any_eq_true.2 ⟨_, h1, by
  simp only [ne_eq, hab, not_false_eq_true, decide_true, Bool.true_and]
  exact List.any_eq_true.2 ⟨lockOf o', List.mem_map.2 ⟨o', ho', rfl⟩, hm⟩⟩
 unfold prepV
 split
 · rfl
 · rw [hb]
   try simp only [h2, if_true]
theorem meet_of {o o' : Oq} (hs : o.space = o'.space) (hw : ¬ (3 ≤ o.fn ∧ o.fn ≤ 5) ∨ ¬ (3 ≤ o'.fn ∧ o'.fn ≤ 5) ∨ o.key = o'.key) : meetK (lockOf o') (lockOf o) = true := by
 unfold meetK
 rw [lock_space, lock_space, hs]
 simp only [decide_true, Bool.true_and]
 unfold lockOf
 by_cases h1 : 3 ≤ o.fn ∧ o.fn ≤ 5
 · by_cases h2 : 3 ≤ o'.fn ∧ o'.fn ≤ 5
   · rw [if_pos h1, if_pos h2]
     rcases hw with h | h | h
     · exact absurd h1 h
     · exact absurd h2 h
     · simp [h]
   · rw [if_neg h2]; rfl
 · rw [if_neg h1]; simp
/-! ### The call -/
theorem law14_table (f : Int) : cl (Go.Abs.F.estafettelaw14_table E) [i64 f] h fun r h' => h' = h ∧ r = .bool (decide (3 ≤ f ∧ f ≤ 5)) := by
 refine cl_of ?_
 simp only [Go.Abs.F.estafettelaw14_table, bin_eql, kv_some, gdV_bool]
 by_cases h3 : f = 3
 · subst h3; simp [gdV_bool, pickV_bool]
 · by_cases h4 : f = 4
   · subst h4; simp [gdV_bool, pickV_bool]
   · by_cases h5 : f = 5
     · subst h5; simp [gdV_bool, pickV_bool]
     · have : ¬ (3 ≤ f ∧ f ≤ 5) := by omega
       simp [gdV_bool, pickV_bool, h3, h4, h5, this]
def frQ2 (N : Nat) (v : V) (l : List Oq) (u : V) (m : List Oq) : Fr := ⟨N, fun h => Oqs N h v l ∧ Oqs N h u m, fun _ _ _ _ s m hf => ⟨Ro.mod s.1 m hf, Ro.mod s.2 m hf⟩⟩
theorem SlE.opAt {fp : List Nat} {l : List Oq} (s : SlE dOp h fp v l) {i : Nat} (hi : i < l.length) :
 ∃ c, indexAddrD (.slice 5) v (i64 i) = some (ptr c (i * 5)) ∧ h.rd c (i * 5 + 0) = some (i64 l[i].fn) ∧ h.rd c (i * 5 + 1) = some (str l[i].space) ∧ h.rd c (i * 5 + 2) = some (str l[i].key) := by
 obtain ⟨c, _, a1, _, a3⟩ := s.at (List.getElem?_eq_getElem hi)
 exact ⟨c, a1, a3 0 (by decide), a3 1 (by decide), a3 2 (by decide)⟩
abbrev opsZ : List Oq := [⟨1, ⟨#[97]⟩, ⟨#[]⟩, ⟨#[]⟩, 1⟩, ⟨1, ⟨#[98]⟩, ⟨#[50]⟩, ⟨#[]⟩, 2⟩, ⟨1, ⟨#[99]⟩, ⟨#[]⟩, ⟨#[]⟩, 3⟩]
set_option maxHeartbeats 4000000 in
theorem law_VaultLocks (ve : VlE E) {u : V} {l m : List Oq} (sl : Oqs h.next h v l) (sm : Oqs h.next h u m) (hzl : ∀ o ∈ l, o.space.size ≤ maxLen) (hzm : ∀ o ∈ m, o.space.size ≤ maxLen) (yes : Bool) :
 cl (Go.Abs.F.estafettelaw14_VaultLocks E) [v, u, .bool yes] h fun r _ => r = .bool true := by
 refine cl_of ?_
 simp only [Go.Abs.F.estafettelaw14_VaultLocks]
 refine cl_then begun_spec ?_
 rintro r h1 ⟨rfl, rfl⟩
 simp only [not_bool, Bool.not_true, kv_some, ifV_bool, Bool.false_eq_true, if_false]
 obtain ⟨N, hN⟩ : ∃ N, h1.next = N := ⟨_, rfl⟩
 rw [hN] at sl sm
 have s0 : Sep (frQ2 N v l u m) h1 [] := ⟨by show N ≤ h1.next; omega, ⟨sl, sm⟩, [], rfl⟩
 clear sl sm
 refine cl_then (vault_New 0 s0) ?_
 intro p h2 s1
 refine kv_of (v := (⟨9, 1⟩ : IdM).agg) rfl ?_
 rw [newI0, kP_some]
 have s2 := s1.box (cId ⟨0, 0⟩) 2
 rw [st2 s2.get, kH_some]
 have s3 := s2.write (cs' := cId ⟨9, 1⟩)
 generalize AHeap.put _ _ _ = h3 at s3 ⊢
 generalize h2.next = bz at s3 ⊢
 clear s2
 rw [ld2 s3.get, kv_some]
 refine kv_of (v := Oq.agg ⟨1, ⟨#[97]⟩, ⟨#[]⟩, ⟨#[]⟩, 1⟩) rfl ?_
 refine kv_of (v := Oq.agg ⟨1, ⟨#[98]⟩, ⟨#[50]⟩, ⟨#[]⟩, 2⟩) rfl ?_
 refine kv_of (v := Oq.agg ⟨1, ⟨#[99]⟩, ⟨#[]⟩, ⟨#[]⟩, 3⟩) rfl ?_
 refine kP_of (v := .slice (some ⟨h3.next, 0, none⟩) 3 6) (g := h3.new (.cells (dOp.flat opsZ) 5 .rw)) rfl ?_
 have s4 := s3.litOps opsZ (by simp)
 have i0 : VInv 0 st0 := VInv.nil
 refine cl_then (vault_Prepare (k := 0) (st := st0) (ops := opsZ) ve ⟨9, 1⟩ 0 i0 (by omega) (by decide) (by decide) (s4.re3 [2, 0, 1] rfl)) ?_
 rintro r5 h5 ⟨w5, rfl, s5⟩
 rw [ld2 (Sep.get (s5.re4 [3] rfl)), kv_some]
 refine cl_then (vault_Decide ve ⟨9, 1⟩ true (inv_prep i0 ⟨9, 1⟩ opsZ 0) (by omega) (s5.re4 [1] rfl)) ?_
 rintro r6 h6 ⟨rfl, s6⟩
 have i2 := inv_dec (inv_prep i0 ⟨9, 1⟩ opsZ 0) ⟨9, 1⟩ true
 have hpt := one_pt (yes := true) (id := ⟨9, 1⟩) (ops := opsZ) (now := 0) i0 (by simp) rfl
 have hov : (decV (prepV st0 ⟨9, 1⟩ opsZ 0).2 ⟨9, 1⟩ true).2.ov = [⟨9, 1⟩] := by
  rw [(dec_ov_eq (by rw [prep_ov]; simp)).1, prep_ov]
 generalize (decV (prepV st0 ⟨9, 1⟩ opsZ 0).2 ⟨9, 1⟩ true).2 = S2 at s6 i2 hpt hov
 clear s1 s3 s4 s5
 refine kv_of (v := (⟨1, 1⟩ : IdM).agg) rfl ?_
 refine kv_of (v := (⟨2, 1⟩ : IdM).agg) rfl ?_
 rw [newI0, kP_some]
 have t1 := s6.box (cId ⟨0, 0⟩) 2
 generalize h6.new (.cells (cId ⟨0, 0⟩) 2 .rw) = h7 at t1 ⊢
 generalize h6.next = ba at t1 ⊢
 rw [newI0, kP_some]
 have t2 := t1.box (cId ⟨0, 0⟩) 2
 generalize h7.new (.cells (cId ⟨0, 0⟩) 2 .rw) = h8 at t2 ⊢
 generalize h7.next = bb at t2 ⊢
 rw [st2 (Sep.get (t2.re3 [1] rfl)), kH_some]
 have t3 := (Sep.re3 t2 [1, 0, 2] rfl).write (cs' := cId ⟨1, 1⟩)
 generalize AHeap.put _ _ _ = h9 at t3 ⊢
 rw [st2 (Sep.get (t3.re3 [1] rfl)), kH_some]
 have t4 := (Sep.re3 t3 [1, 0, 2] rfl).write (cs' := cId ⟨2, 1⟩)
 generalize AHeap.put _ _ _ = h10 at t4 ⊢
 clear t1 t2 t3
 rw [few_cut]
 refine cl_then (cut_ops 8 (by omega) t4.2.1.1 t4) ?_
 intro lo h11 t5
 refine cl_then (cut_ops 8 (by omega) t5.2.1.2 t5) ?_
 intro mo h12 t6
 rw [ld2 (Sep.get (t6.re5 [3] rfl)), kv_some]
 have hz8 : ∀ o ∈ l.take 8, o.space.size ≤ maxLen := fun o ho => hzl o (List.mem_of_mem_take ho)
 have hzm8 : ∀ o ∈ m.take 8, o.space.size ≤ maxLen := fun o ho => hzm o (List.mem_of_mem_take ho)
 have hl8 : (l.take 8).length ≤ 8 := by rw [List.length_take]; omega
 have hm8 : (m.take 8).length ≤ 8 := by rw [List.length_take]; omega
 generalize l.take 8 = l at t6 hz8 hl8
 generalize m.take 8 = m at t6 hzm8 hm8
 refine cl_then (vault_Prepare ve ⟨1, 1⟩ 1 i2 (by omega) (by omega) hz8 (t6.re5 [4, 1, 0, 2, 3] rfl)) ?_
 rintro r13 h13 ⟨wx, rfl, t7⟩
 have i3 := inv_prep i2 ⟨1, 1⟩ l 1
 have hlk : lkp (⟨1, 1⟩ : IdM) S2.pt = none := by rw [hpt]; rfl
 have hlb : lkp (⟨2, 1⟩ : IdM) (prepV S2 ⟨1, 1⟩ l 1).2.pt = none := by
  rw [lkp_none]
  intro hm
  obtain ⟨e, he, h1⟩ := List.mem_map.1 hm
  rcases prep_sub he with h | h
  · rw [hpt] at h; cases h
  · rw [h] at h1; cases h1
 have hops := prep_ops (st := S2) (id := ⟨1, 1⟩) (ops := l) (now := 1) hlk
 have hfp := prep_fail_pt (st := S2) (id := ⟨1, 1⟩) (ops := l) (now := 1)
 have hps : ∀ e ∈ (prepV S2 ⟨1, 1⟩ l 1).2.pt, e.1 = (⟨1, 1⟩ : IdM) := prep_only (by rw [hpt]; simp)
 have hov3 : (prepV S2 ⟨1, 1⟩ l 1).2.ov = [⟨9, 1⟩] := by rw [prep_ov]; exact hov
 rw [hpt] at hfp
 generalize prepV S2 ⟨1, 1⟩ l 1 = P1 at t7 i3 hlb hops hfp hps hov3 ⊢
 simp only [extract_tuple, List.getElem?_toArray, List.getElem?_cons_zero, List.getElem?_cons_succ, kv_some, not_bool, ifV_bool]
 cases hok : P1.1.2 with
 | false =>
  simp only [Bool.not_false, if_true]
  refine cl_then (vault_Waits (sort12 ve) (by rw [hfp hok]; simp) (by omega) (t7.re6 [1] rfl)) ?_
  rintro r14 h14 ⟨l', hl', _, t8⟩
  obtain ⟨f4, q4, _⟩ := t8.head
  have q4 : SlE dId h14 f4 r14 l' := q4
  have hl0 : l' = [] := by
   rw [hfp hok] at hl'
   exact List.Perm.eq_nil hl'
  rw [hl0] at q4
  have hlen4 : lenD .slice r14 h14 = some (i64 ((0 : Nat) : Int)) := q4.len
  simp only [hlen4, kv_some, bin_eql, z00]
 | true =>
 simp only [Bool.not_true, Bool.false_eq_true, if_false]
 obtain ⟨pp, hpp, hpo⟩ := hops hok
 rw [ld2 (Sep.get (t7.re6 [4] rfl)), kv_some]
 refine cl_then (vault_Prepare ve ⟨2, 1⟩ 1 i3 (by omega) (by omega) hzm8 (t7.re6 [1, 3, 2, 4, 5] rfl)) ?_
 rintro r15 h15 ⟨wy, rfl, t8⟩
 have i4 := inv_prep i3 ⟨2, 1⟩ m 1
 have hcl : ∀ o ∈ l, ∀ o' ∈ m, meetK (lockOf o') (lockOf o) = true → (prepV P1.2 ⟨2, 1⟩ m 1).1.2 = false := fun o ho o' ho' hm => clash i3 (by decide) hpp hlb (by rw [hpo]; exact ho) ho' hm
 have hps2 : ∀ e ∈ (prepV P1.2 ⟨2, 1⟩ m 1).2.pt, e.1 = (⟨1, 1⟩ : IdM) ∨ e.1 = (⟨2, 1⟩ : IdM) := fun e he => by
  rcases prep_sub he with h | h
  · exact .inl (hps e h)
  · exact .inr h
 have hov4 : (prepV P1.2 ⟨2, 1⟩ m 1).2.ov = [⟨9, 1⟩] := by rw [prep_ov]; exact hov3
 generalize prepV P1.2 ⟨2, 1⟩ m 1 = P2 at t8 i4 hcl hps2 hov4 ⊢
 simp only [extract_tuple, List.getElem?_toArray, List.getElem?_cons_zero, List.getElem?_cons_succ, kv_some]
 obtain ⟨fl, ql, _⟩ := Sep.head (t8.re6 [3] rfl)
 have ql : SlE dOp h15 fl lo l := ql
 obtain ⟨fm, qm, _⟩ := Sep.head (t8.re6 [2] rfl)
 have qm : SlE dOp h15 fm mo m := qm
 rw [ql.len, kv_some]
 refine ⟨fun n vs h' => ∃ (i : Nat) (mt : Bool), vs = [.bool mt, i64 i] ∧ n = l.length - i ∧ i ≤ l.length ∧ (mt = true → P2.1.2 = false) ∧ h' = h15, l.length, ⟨0, false, rfl, by omega, by omega, by simp, rfl⟩, ?_⟩
 rintro n e32 h16 ⟨i, mt, he, rfl, hi, hmt, rfl⟩
 simp only [List.cons.injEq, and_true] at he
 obtain ⟨he1, he2⟩ := he
 simp only [he1, he2, bin_lss, kv_some, ifV_bool, decide_eq_true_eq]
 rcases Nat.lt_or_ge i l.length with hx | hx
 · rw [if_pos (show ((i : Nat) : Int) < (l.length : Nat) by omega), qm.len, kv_some]
   refine ⟨fun n vs h' => ∃ (k : Nat) (mt : Bool), vs = [.bool mt, i64 k] ∧ n = m.length - k ∧ k ≤ m.length ∧ (mt = true → P2.1.2 = false) ∧ h' = h16, m.length, ⟨0, mt, rfl, by omega, by omega, hmt, rfl⟩, ?_⟩
   clear hmt he1 he2
   rintro n e35 h17 ⟨k, mt, he, rfl, hk, hmt, rfl⟩
   simp only [List.cons.injEq, and_true] at he
   obtain ⟨he1, he2⟩ := he
   simp only [he1, he2, bin_lss, kv_some, ifV_bool, decide_eq_true_eq]
   rcases Nat.lt_or_ge k m.length with hy | hy
   case inr =>
    rw [if_neg (show ¬ ((k : Nat) : Int) < (m.length : Nat) by omega), add_i64 _ 1 (by omega) (by omega), kv_some]
    exact ⟨l.length - (i + 1), by omega, i + 1, mt, by simp, rfl, by omega, hmt, trivial⟩
   rw [if_pos (show ((k : Nat) : Int) < (m.length : Nat) by omega)]
   obtain ⟨c1, x1, x2, x3, x4⟩ := ql.opAt hx
   obtain ⟨c2, y1, y2, y3, y4⟩ := qm.opAt hy
   have hcl' := hcl l[i] (List.getElem_mem hx) m[k] (List.getElem_mem hy)
   generalize l[i] = o at x2 x3 x4 hcl'
   generalize m[k] = o' at y2 y3 y4 hcl'
   have again : ∀ mt' : Bool, (mt' = true → P2.1.2 = false) → kv (binD .bad .add true (i64 k) (.int .i64 1) h17) fun v79 => ∃ q, q < m.length - k ∧ ∃ (k' : Nat) (mt : Bool), [.bool mt', v79] = [.bool mt, i64 k'] ∧ q = m.length - k' ∧ k' ≤ m.length ∧ (mt = true → P2.1.2 = false) ∧ True := by
    intro mt' hm'
    rw [add_i64 _ 1 (by omega) (by omega), kv_some]
    exact ⟨m.length - (k + 1), by omega, k + 1, mt', by simp, rfl, by omega, hm', trivial⟩
   rw [x1, kv_some, fieldAddr_ptr, kv_some, ld_one, x2, kv_some]
   refine cl_then (law14_table o.fn) ?_
   rintro r18 h18 ⟨rfl, rfl⟩
   simp only [not_bool, kv_some]
   have whole : ∀ X : V → AHeap → Prop, X (.bool (!decide (3 ≤ o.fn ∧ o.fn ≤ 5) || !decide (3 ≤ o'.fn ∧ o'.fn ≤ 5))) h18 →
    kv (gdV (.bool (!decide (3 ≤ o.fn ∧ o.fn ≤ 5))) false (some mo)) fun v81 => kv (gdV (.bool (!decide (3 ≤ o.fn ∧ o.fn ≤ 5))) false (some (i64 k))) fun v82 => kv (gdV (.bool (!decide (3 ≤ o.fn ∧ o.fn ≤ 5))) false (indexAddrD (.slice 5) v81 v82)) fun v83 =>
     kv (gdV (.bool (!decide (3 ≤ o.fn ∧ o.fn ≤ 5))) false (fieldAddrD (some 0) v83)) fun v84 => kv (gdV (.bool (!decide (3 ≤ o.fn ∧ o.fn ≤ 5))) false (ldD .one v84 h18)) fun v85 =>
     gdC (.bool (!decide (3 ≤ o.fn ∧ o.fn ≤ 5))) false h18 (fun K47 => cl (Go.Abs.F.estafettelaw14_table E) [v85] h18 fun v h => K47 v h) fun v86 h => kv (gdV (.bool (!decide (3 ≤ o.fn ∧ o.fn ≤ 5))) false (aUn .not v86)) fun v87 => kv (pickV (.bool (!decide (3 ≤ o.fn ∧ o.fn ≤ 5))) (.bool true) v87) fun v88 => X v88 h := by
    intro X hX
    cases hd : decide (3 ≤ o.fn ∧ o.fn ≤ 5) with
    | true =>
     rw [hd] at hX
     simp only [Bool.not_true, gdV_bool, if_true, kv_some, y1, fieldAddr_ptr, ld_one, y2]
     refine gdC_yes rfl (cl_then (law14_table o'.fn) ?_)
     rintro r19 h19 ⟨rfl, rfl⟩
     simp only [not_bool, gdV_bool, if_true, kv_some, pickV_bool, Bool.false_eq_true, if_false]
     simpa using hX
    | false =>
     rw [hd] at hX
     simp only [Bool.not_false, gdV_bool, Bool.true_eq_false, if_false, kv_some, gdV_gone]
     refine gdC_no (by simp) ?_
     simp only [gdV_bool, Bool.true_eq_false, if_false, kv_some, gdV_gone, pickV_bool, if_true]
     simpa using hX
   refine whole _ ?_
   cases mt with
   | true =>
    simp only [gdV_bool, Bool.true_eq_false, if_false, kv_some, gdV_gone, pickV_bool, if_true]
    exact again true hmt
   | false =>
    simp only [gdV_bool, if_true, kv_some, x1, y1, fieldAddr_ptr, ld_one, x3, y3, str_eql, pickV_bool, Bool.false_eq_true, if_false]
    by_cases hsp : o.space = o'.space
    · simp only [hsp, decide_true, gdV_bool, if_true, kv_some, pickV_bool]
      cases hw : (!decide (3 ≤ o.fn ∧ o.fn ≤ 5) || !decide (3 ≤ o'.fn ∧ o'.fn ≤ 5)) with
      | true =>
       simp only [gdV_bool, Bool.true_eq_false, if_false, kv_some, gdV_gone, pickV_bool, if_true]
       refine again true fun _ => hcl' (meet_of hsp ?_)
       rcases Bool.or_eq_true _ _ ▸ hw with h | h
       · exact .inl (of_decide_eq_false (by rw [Bool.not_eq_true'] at h; exact h))
       · exact .inr (.inl (of_decide_eq_false (by rw [Bool.not_eq_true'] at h; exact h)))
      | false =>
       simp only [gdV_bool, if_true, kv_some, x1, y1, fieldAddr_ptr, ld_one, x4, y4, str_eql, pickV_bool, Bool.false_eq_true, if_false]
       refine again _ fun hkk => hcl' (meet_of hsp (.inr (.inr (of_decide_eq_true hkk))))
    · simp only [hsp, decide_false, gdV_bool, Bool.false_eq_true, if_false, kv_some, gdV_gone, pickV_bool]
      exact again false (by simp)
 · rw [if_neg (show ¬ ((i : Nat) : Int) < (l.length : Nat) by omega)]
   have hno : ∀ X : V → Prop, X (.bool false) → kv (gdV (.bool mt) true (some (.bool P2.1.2))) fun v123 => kv (pickV (.bool mt) v123 (.bool false)) X := by
    intro X hX
    cases mt with
    | true => simp only [gdV_bool, if_true, kv_some, pickV_bool, hmt rfl]; exact hX
    | false => simp only [gdV_bool, Bool.false_eq_true, if_false, kv_some, pickV_bool]; exact hX
   refine hno _ ?_
   rw [ifV_bool, if_neg (by simp), ld2 (Sep.get (t8.re6 [5] rfl)), kv_some]
   refine cl_then (vault_Decide ve ⟨1, 1⟩ yes i4 (by omega) (t8.re6 [1, 4, 5] rfl)) ?_
   rintro r19 h19 ⟨rfl, t9⟩
   have i5 := inv_dec i4 ⟨1, 1⟩ yes
   rw [ld2 (Sep.get (t9.re3 [1] rfl)), kv_some]
   refine cl_then (vault_Decide ve ⟨2, 1⟩ yes i5 (by omega) t9) ?_
   rintro r20 h20 ⟨rfl, t10⟩
   have i6 := inv_dec i5 ⟨2, 1⟩ yes
   have o1 : (⟨1, 1⟩ : IdM) ∉ P2.2.ov := by rw [hov4]; decide
   have e1 := (dec_ov_eq (yes := yes) o1).1
   have o2 : (⟨2, 1⟩ : IdM) ∉ (decV P2.2 ⟨1, 1⟩ yes).2.ov := by rw [e1, hov4]; decide
   have pt0 : (decV (decV P2.2 ⟨1, 1⟩ yes).2 ⟨2, 1⟩ yes).2.pt = [] := by
    refine List.eq_nil_iff_forall_not_mem.2 fun e he => ?_
    obtain ⟨h1, h2⟩ := dec_sub i5.dpt o2 he
    obtain ⟨h3, h4⟩ := dec_sub i4.dpt o1 h1
    rcases hps2 e h3 with h | h
    · exact h4 h
    · exact h2 h
   have ov1 : (⟨1, 1⟩ : IdM) ∈ (decV (decV P2.2 ⟨1, 1⟩ yes).2 ⟨2, 1⟩ yes).2.ov := dec_ov_sub (by rw [e1]; simp)
   have ov2 : (⟨2, 1⟩ : IdM) ∈ (decV (decV P2.2 ⟨1, 1⟩ yes).2 ⟨2, 1⟩ yes).2.ov := dec_ov yes
   generalize (decV (decV P2.2 ⟨1, 1⟩ yes).2 ⟨2, 1⟩ yes).2 = S at t10 pt0 ov1 ov2
   refine cl_then (vault_Waits (sort12 ve) (by rw [pt0]; simp) (by omega) t10) ?_
   rintro r21 h21 ⟨l', hl', _, t11⟩
   obtain ⟨f4, q4, _⟩ := t11.head
   have q4 : SlE dId h21 f4 r21 l' := q4
   have hl0 : l' = [] := by
    rw [pt0] at hl'
    exact List.Perm.eq_nil hl'
   rw [hl0] at q4
   have hlen4 : lenD .slice r21 h21 = some (i64 ((0 : Nat) : Int)) := q4.len
   simp only [hlen4, kv_some, bin_eql, z00, gdV_bool, if_true, ld2 (Sep.get (t11.re4 [3] rfl))]
   refine gdC_yes rfl (cl_then (vault_Over ⟨1, 1⟩ (t11.re4 [1, 2, 3] rfl)) ?_)
   rintro r22 h22 ⟨rfl, t12⟩
   simp only [ov1, decide_true, pickV_bool, if_true, kv_some, gdV_bool, ld2 (Sep.get (t12.re3 [1] rfl))]
   refine gdC_yes rfl (cl_then (vault_Over ⟨2, 1⟩ t12) ?_)
   rintro r23 h23 ⟨rfl, _⟩
   simp only [ov2, decide_true, pickV_bool, if_true, kv_some]
end Go.Abs

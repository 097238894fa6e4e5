/- VaultOwn, on abstract heaps. -/
import Derived.Test.YtldjlkbjbkielaaGreatDoorVabf
import Derived.Test.YtldjlkbjbkielaaGreatDoorVaar
set_option maxRecDepth 20000
set_option linter.unusedVariables false
set_option linter.unusedSimpArgs false
namespace Go.Abs
open Go
def F.estafettelaw14_VaultOwn (E : FE) : Spec := fun args h K => match args with
| [a0, a1] =>
cl (F.estafettelaw14_begun E) [] h fun v15_0 h =>
kv (aUn .not v15_0) fun v17_1 =>
ifV v17_1 (
K (.bool false) h) (
kv (lenD .str a0 h) fun v20_2 =>
kv (aMinMax false [v20_2, (.int .i64 20)]) fun v21_3 =>
kv (sliceD .str a0 none (some v21_3) none h) fun v22_4 =>
kv (lenD .str a1 h) fun v25_5 =>
kv (aMinMax false [v25_5, (.int .i64 50)]) fun v26_6 =>
kv (sliceD .str a1 none (some v26_6) none h) fun v27_7 =>
cl (F.vault_New E) [] h fun v28_8 h =>
kv (buildD (.struct [(.int .i64 0), (.int .i64 0)] [(0, 1), (1, 1)]) [(0, (.int .i64 1)), (1, (.int .i64 1))]) fun v29_9 =>
kP (newD none (.agg #[(.int .i64 0), (.int .i64 0)]) h) fun v7_10 h =>
kH (stD (some 2) v7_10 v29_9 h) fun _ h =>
kv (ldD (.agg 2) v7_10 h) fun v32_11 =>
kv (buildD (.struct [(.int .i64 0), (.string ⟨#[]⟩), (.string ⟨#[]⟩), (.string ⟨#[]⟩), (.int .i64 0)] [(0, 1), (1, 1), (2, 1), (3, 1), (4, 1)]) [(0, (.int .i64 1)), (1, (.string ⟨#[116]⟩)), (4, (.int .i64 1))]) fun v33_12 =>
kv (buildD (.struct [(.int .i64 0), (.string ⟨#[]⟩), (.string ⟨#[]⟩), (.string ⟨#[]⟩), (.int .i64 0)] [(0, 1), (1, 1), (2, 1), (3, 1), (4, 1)]) [(0, (.int .i64 4)), (1, (.string ⟨#[116]⟩)), (2, v22_4), (3, v27_7)]) fun v36_13 =>
kv (buildD (.struct [(.int .i64 0), (.string ⟨#[]⟩), (.string ⟨#[]⟩), (.string ⟨#[]⟩), (.int .i64 0)] [(0, 1), (1, 1), (2, 1), (3, 1), (4, 1)]) [(0, (.int .i64 3)), (1, (.string ⟨#[116]⟩)), (2, v22_4)]) fun v38_14 =>
kP (buildSliceD (some (5, [(.int .i64 0), (.string ⟨#[]⟩), (.string ⟨#[]⟩), (.string ⟨#[]⟩), (.int .i64 0)])) 3 [(0, v33_12), (1, v36_13), (2, v38_14)] h) fun v39_15 h =>
cl (F.vault_Vault_Prepare E) [v28_8, v32_11, v39_15, (.int .i64 0)] h fun v40_16 h =>
kv (aExtract v40_16 0) fun v41_17 =>
kv (aExtract v40_16 1) fun v42_18 =>
kv (aUn .not v42_18) fun v44_19 =>
kv (gdV v44_19 false (some v41_17)) fun v46_20 =>
kv (gdV v44_19 false (lenD .slice v46_20 h)) fun v47_21 =>
kv (gdV v44_19 false (binD .bad .neq true v47_21 (.int .i64 3) h)) fun v48_22 =>
kv (pickV v44_19 (.bool true) v48_22) fun v49_23 =>
ifV v49_23 (
K (.bool false) h) (
kv (indexAddrD (.slice 1) v41_17 (.int .i64 2)) fun v51_24 =>
kH (stD (some 1) v51_24 (.string ⟨#[116, 117, 114, 110, 101, 100]⟩) h) fun _ h =>
kv (ldD (.agg 2) v7_10 h) fun v54_25 =>
kv (buildD (.struct [(.int .i64 0), (.string ⟨#[]⟩), (.string ⟨#[]⟩), (.string ⟨#[]⟩), (.int .i64 0)] [(0, 1), (1, 1), (2, 1), (3, 1), (4, 1)]) [(0, (.int .i64 2)), (1, (.string ⟨#[116]⟩))]) fun v55_26 =>
kP (buildSliceD (some (5, [(.int .i64 0), (.string ⟨#[]⟩), (.string ⟨#[]⟩), (.string ⟨#[]⟩), (.int .i64 0)])) 1 [(0, v55_26)] h) fun v56_27 h =>
cl (F.vault_Vault_Prepare E) [v28_8, v54_25, v56_27, (.int .i64 0)] h fun v57_28 h =>
kv (aExtract v57_28 0) fun v58_29 =>
kv (aExtract v57_28 1) fun v59_30 =>
kv (ldD (.agg 2) v7_10 h) fun v61_31 =>
cl (F.vault_Vault_Decide E) [v28_8, v61_31, (.bool true)] h fun v62_32 h =>
cl (F.vault_Vault_Space E) [v28_8, (.string ⟨#[116]⟩)] h fun v64_33 h =>
kv (binD (.ptr true) .eql true v64_33 (.pointer none) h) fun v66_34 =>
kv (gdV v66_34 false (some v58_29)) fun v68_35 =>
kv (gdV v66_34 false (lenD .slice v68_35 h)) fun v69_36 =>
kv (gdV v66_34 false (binD .bad .neq true v69_36 (.int .i64 3) h)) fun v70_37 =>
kv (pickV v66_34 (.bool true) v70_37) fun v71_38 =>
kv (gdV v71_38 false (some v58_29)) fun v73_39 =>
kv (gdV v71_38 false (indexAddrD (.slice 1) v73_39 (.int .i64 2))) fun v74_40 =>
kv (gdV v71_38 false (ldD .one v74_40 h)) fun v75_41 =>
kv (gdV v71_38 false (some v27_7)) fun v76_42 =>
kv (gdV v71_38 false (binD .bad .add true (.string ⟨#[61]⟩) v76_42 h)) fun v77_43 =>
kv (gdV v71_38 false (binD .bad .neq false v75_41 v77_43 h)) fun v78_44 =>
kv (pickV v71_38 (.bool true) v78_44) fun v79_45 =>
ifV v79_45 (
K (.bool false) h) (
kv (aNil v64_33) fun v81_46 =>
kv (fieldAddrD (some 1) v81_46) fun v82_47 =>
kv (ldD .one v82_47 h) fun v83_48 =>
cl (F.table_Table_Put E) [v83_48, v22_4, (.string ⟨#[111, 116, 104, 101, 114]⟩)] h fun v85_49 h =>
cl (F.vault_Vault_Space E) [v28_8, (.string ⟨#[116]⟩)] h fun v88_50 h =>
kv (aNil v88_50) fun v89_51 =>
kv (fieldAddrD (some 1) v89_51) fun v90_52 =>
kv (ldD .one v90_52 h) fun v91_53 =>
cl (F.table_Table_Get E) [v91_53, v22_4] h fun v93_54 h =>
kv (aExtract v93_54 0) fun v94_55 =>
kv (aExtract v93_54 1) fun v95_56 =>
kv (gdV v95_56 true (some v94_55)) fun v98_57 =>
kv (gdV v95_56 true (some v27_7)) fun v99_58 =>
kv (gdV v95_56 true (binD .bad .eql false v98_57 v99_58 h)) fun v100_59 =>
kv (pickV v95_56 v100_59 (.bool false)) fun v101_60 =>
K v101_60 h)))
| _ => False
end Go.Abs
set_option linter.unusedSimpArgs false
set_option linter.unusedVariables false
namespace Go.Abs
open Go Go.Proofs
variable {E : FE} {h : AHeap} {v : V}
abbrev st0 : VltM := ⟨[], [], [], []⟩
end Go.Abs
namespace Go.Abs
open Go Go.Proofs
variable {E : FE} {h : AHeap} {v : V} {F : Fr} {L : List Pl}
theorem cut_str (s : ByteArray) (n : Nat) (h : AHeap) {X : V → Prop} (hX : X (str (s.extract 0 (min s.size n)))) :
 kv (lenD .str (str s) h) fun v20 => kv (aMinMax false [v20, i64 n]) fun v21 => kv (sliceD .str (str s) none (some v21) none h) X := by
 have e1 : lenD .str (str s) h = some (i64 s.size) := rfl
 have e2 : min ((s.size : Nat) : Int) (n : Int) = ((min s.size n : Nat) : Int) := by omega
 rw [e1, kv_some, min2, kv_some, e2]
 have e3 : sliceD .str (str s) none (some (i64 ((min s.size n : Nat) : Int))) none h = some (str (s.extract 0 (min s.size n))) := by
  have h1 : (0 : Int) ≤ ((min s.size n : Nat) : Int) ∧ ((min s.size n : Nat) : Int) ≤ ((s.size : Nat) : Int) := by omega
  simp only [sliceD, aBoundO, aBound, if_pos h1, Int.toNat_natCast, Option.map_some]
 rw [e3, kv_some]
 exact hX
theorem cut_size (s : ByteArray) (n : Nat) : (s.extract 0 (min s.size n)).size ≤ n := by
 rw [ByteArray.size_extract]
 omega
/-! ### Texts in a list, one by one -/
def dStr : EL ByteArray := ⟨1, fun s => [str s], fun _ => rfl, fun _ => rfl, by decide⟩
theorem dStr_flat : ∀ l : List ByteArray, dStr.flat l = l.map str
 | [] => rfl
 | a :: l => by rw [EL.flat_cons, dStr_flat l]; rfl
theorem ts_sle {fp : List Nat} {l : List ByteArray} : Ts h fp v l ↔ SlE dStr h fp v l := by
 unfold Ts SlE
 rw [dStr_flat]
 exact Iff.rfl
/-! ### Plain -/
theorem take_all {id : IdM} {ops : List Oq} {lk : List (KeyM × IdM)} {o : Oq} (ho : o ∈ ops) (ha : (lockOf o).all = true) : allOf (takeL id (ops.map lockOf) lk) id o.space = true := by
 have h1 : lkp (lockOf o) (takeL id (ops.map lockOf) lk) = some id := by rw [takeL_lkp, if_pos (List.mem_map.2 ⟨o, ho, rfl⟩)]
 refine List.any_eq_true.2 ⟨_, lkp_mem h1, ?_⟩
 simp only [decide_true, Bool.true_and, ha, Bool.and_true, decide_eq_true_eq]
 exact lock_space o
theorem prep_new {st : VltM} {id : IdM} {ops : List Oq} {now : Int} {vals : List ByteArray} {view : List (ByteArray × Option SpM)} (ho : id ∉ st.ov) (ha : allO ops = true) (hp : lkp id st.pt = none) (hl : st.lk = []) (hv : partV st.sp st.pt now ops [] [] = some (vals, view)) :
 prepV st id ops now = ((vals, true), { st with lk := takeL id (ops.map lockOf) st.lk, pt := ins id ⟨ops, vals, now, view⟩ st.pt }) := by
 unfold prepV
 rw [if_neg (by simp [ho, ha])]
 have hb : blocked id (ops.map lockOf) st.lk = false := by rw [hl]; rfl
 simp only [hp, hb, Bool.false_eq_true, if_false, hv]
abbrev tN : ByteArray := ⟨#[116]⟩
abbrev ownOps (key val : ByteArray) : List Oq := [⟨1, tN, ⟨#[]⟩, ⟨#[]⟩, 1⟩, ⟨4, tN, key, val, 0⟩, ⟨3, tN, key, ⟨#[]⟩, 0⟩]
abbrev ownT (key val : ByteArray) : SpM := ⟨⟨#[]⟩, 1, [⟨key, val, 0⟩], 1, [], [], 1⟩
theorem own_may {key val : ByteArray} (hk : key.size ≤ 20) (hv : val.size ≤ 50) : allO (ownOps key val) = true := by
 have h1 : smallT tN = true := by decide
 have h2 : (tN).size = 1 := rfl
 have h3 : (⟨#[]⟩ : ByteArray).size = 0 := rfl
 simp [allO, mayO, namesO, makesO, h1, h2, h3, hk, show val.size ≤ 100 by omega]
theorem own_part (key val : ByteArray) : partV [] [] 0 (ownOps key val) [] [] = some ([⟨#[]⟩, ⟨#[]⟩, ⟨#[61]⟩ ++ val], [(tN, some (ownT key val))]) := by
 have d1 : doesV [] [] 0 [] ⟨1, tN, ⟨#[]⟩, ⟨#[]⟩, 1⟩ = (⟨#[]⟩, 0, [(tN, some (SpM.new 1 1))]) := by rfl
 have d2 : doesV [] [] 0 [(tN, some (SpM.new 1 1))] ⟨4, tN, key, val, 0⟩ = (⟨#[]⟩, 0, [(tN, some (ownT key val))]) := by
  have m1 : max (1 : Int) (min 1 9) = 1 := by decide
  simp [doesV, seesV, lkp, ins, SpM.act, SpM.new, putP, m1]
 have d3 : doesV [] [] 0 [(tN, some (ownT key val))] ⟨3, tN, key, ⟨#[]⟩, 0⟩ = (⟨#[61]⟩ ++ val, 0, [(tN, some (ownT key val))]) := by
  simp [doesV, seesV, lkp, ins, SpM.act, hitP, lt_irr]
 rw [partV_cons, d1, if_pos rfl, partV_cons, d2, if_pos rfl, partV_cons, d3, if_pos rfl]
 rfl
theorem own_prep {key val : ByteArray} (hk : key.size ≤ 20) (hv : val.size ≤ 50) : prepV st0 ⟨1, 1⟩ (ownOps key val) 0 =
 (([⟨#[]⟩, ⟨#[]⟩, ⟨#[61]⟩ ++ val], true), ⟨[], takeL ⟨1, 1⟩ ((ownOps key val).map lockOf) [], [(⟨1, 1⟩, ⟨ownOps key val, [⟨#[]⟩, ⟨#[]⟩, ⟨#[61]⟩ ++ val], 0, [(tN, some (ownT key val))]⟩)], []⟩) :=
 prep_new (st := st0) (by simp) (own_may hk hv) rfl rfl (own_part key val)
theorem own_again {key val : ByteArray} (hk : key.size ≤ 20) (hv : val.size ≤ 50) {ops : List Oq} (ha : allO ops = true) :
 prepV (prepV st0 ⟨1, 1⟩ (ownOps key val) 0).2 ⟨1, 1⟩ ops 0 = (([⟨#[]⟩, ⟨#[]⟩, ⟨#[61]⟩ ++ val], true), (prepV st0 ⟨1, 1⟩ (ownOps key val) 0).2) := by
 refine prep_again (p := ⟨ownOps key val, [⟨#[]⟩, ⟨#[]⟩, ⟨#[61]⟩ ++ val], 0, [(tN, some (ownT key val))]⟩) ?_ ha ?_
 · rw [prep_ov]; simp
 · rw [own_prep hk hv]; rfl
theorem own_dec {key val : ByteArray} (hk : key.size ≤ 20) (hv : val.size ≤ 50) : lkp tN (decV (prepV st0 ⟨1, 1⟩ (ownOps key val) 0).2 ⟨1, 1⟩ true).2.sp = some (ownT key val) := by
 have hal : allOf (takeL ⟨1, 1⟩ ((ownOps key val).map lockOf) []) ⟨1, 1⟩ tN = true := take_all (o := ⟨1, tN, ⟨#[]⟩, ⟨#[]⟩, 1⟩) (by simp) rfl
 rw [own_prep hk hv, decV_eq, if_neg (by simp)]
 have e1 : lkp (⟨1, 1⟩ : IdM) [((⟨1, 1⟩ : IdM), (⟨ownOps key val, [⟨#[]⟩, ⟨#[]⟩, ⟨#[61]⟩ ++ val], 0, [(tN, some (ownT key val))]⟩ : PartM))] = some ⟨ownOps key val, [⟨#[]⟩, ⟨#[]⟩, ⟨#[61]⟩ ++ val], 0, [(tN, some (ownT key val))]⟩ := rfl
 simp only [e1, if_true, laysA, List.foldl_cons, List.foldl_nil, hal, laysV]
 rw [lkp_ins, if_pos rfl]
set_option maxHeartbeats 2000000 in
theorem law_VaultOwn (ve : VlE E) (key val : ByteArray) : cl (Go.Abs.F.estafettelaw14_VaultOwn E) [str key, str val] h fun r _ => r = .bool true := by
 refine cl_of ?_
 simp only [Go.Abs.F.estafettelaw14_VaultOwn]
 refine cl_then begun_spec ?_
 rintro r h1 ⟨rfl, rfl⟩
 simp only [not_bool, Bool.not_true, kv_some, ifV_bool, Bool.false_eq_true, if_false]
 refine cut_str key 20 h1 (cut_str val 50 h1 ?_)
 have hk := cut_size key 20
 have hv := cut_size val 50
 generalize key.extract 0 (min key.size 20) = key at hk ⊢
 generalize val.extract 0 (min val.size 50) = val at hv ⊢
 have s0 : Sep (⟨h1.next, fun _ => True, fun _ _ _ _ _ _ _ => trivial⟩ : Fr) h1 [] := ⟨Nat.le_refl _, trivial, [], rfl⟩
 generalize (⟨h1.next, fun _ => True, fun _ _ _ _ _ _ _ => trivial⟩ : Fr) = Fq at s0
 refine cl_then (vault_New 0 s0) ?_
 intro p h2 s1
 refine kv_of (v := (⟨1, 1⟩ : IdM).agg) rfl ?_
 rw [newI0, kP_some]
 have s2 := s1.box (cId ⟨0, 0⟩) 2
 rw [st2 s2.get, kH_some]
 have s3 := s2.write (cs' := cId ⟨1, 1⟩)
 clear s2
 generalize AHeap.put _ _ _ = h3 at s3 ⊢
 generalize h2.next = bi at s3 ⊢
 rw [ld2 s3.get, kv_some]
 refine kv_of (v := Oq.agg ⟨1, tN, ⟨#[]⟩, ⟨#[]⟩, 1⟩) rfl ?_
 refine kv_of (v := Oq.agg ⟨4, tN, key, val, 0⟩) rfl ?_
 refine kv_of (v := Oq.agg ⟨3, tN, key, ⟨#[]⟩, 0⟩) rfl ?_
 refine kP_of (v := .slice (some ⟨h3.next, 0, none⟩) 3 6) (g := h3.new (.cells (dOp.flat (ownOps key val)) 5 .rw)) rfl ?_
 have s4 := s3.litOps (ownOps key val) (by simp)
 have i0 : VInv 0 st0 := VInv.nil
 have hz1 : ∀ o ∈ ownOps key val, o.space.size ≤ maxLen := by
  intro o ho
  simp only [ownOps, List.mem_cons, List.not_mem_nil, or_false] at ho
  rcases ho with rfl | rfl | rfl <;> exact (by decide : (tN).size ≤ maxLen)
 refine cl_then (vault_Prepare (k := 0) (st := st0) (ops := ownOps key val) ve ⟨1, 1⟩ 0 i0 (by omega) (by simp) hz1 (s4.re3 [2, 0, 1] rfl)) ?_
 rintro r5 h5 ⟨w, rfl, s5⟩
 have i1 := inv_prep i0 ⟨1, 1⟩ (ownOps key val) 0
 have hag := own_again hk hv (ops := [⟨2, tN, ⟨#[]⟩, ⟨#[]⟩, 0⟩]) (by decide)
 have hdc := own_dec hk hv
 have hp1 := own_prep hk hv
 have hvals : (prepV st0 ⟨1, 1⟩ (ownOps key val) 0).1 = ([⟨#[]⟩, ⟨#[]⟩, ⟨#[61]⟩ ++ val], true) := by rw [hp1]
 clear hp1
 generalize prepV st0 ⟨1, 1⟩ (ownOps key val) 0 = P1 at s5 i1 hag hdc hvals ⊢
 rw [hvals] at s5 ⊢
 obtain ⟨f5, q5, kk5⟩ := s5.head
 have q5 : Ts h5 f5 w [⟨#[]⟩, ⟨#[]⟩, ⟨#[61]⟩ ++ val] := q5
 have hlen5 : lenD .slice w h5 = some (i64 ((3 : Nat) : Int)) := Sl.len q5
 simp only [extract_tuple, List.getElem?_toArray, List.getElem?_cons_zero, List.getElem?_cons_succ, kv_some, not_bool, Bool.not_true, gdV_bool, if_true, hlen5, bin_neq, pickV_bool, Bool.false_eq_true, if_false, ifV_bool]
 rw [if_neg (by decide)]
 obtain ⟨bw, h6, e1, e2, q6, m6⟩ := SlE.st (ts_sle.1 q5) (i := 2) (by simp) ⟨#[116, 117, 114, 110, 101, 100]⟩
 have e1 : indexAddrD (.slice 1) w (.int .i64 2) = some (ptr bw (2 * dStr.es)) := e1
 have e2' : stD (some 1) (ptr bw (2 * dStr.es)) (.string ⟨#[116, 117, 114, 110, 101, 100]⟩) h5 = some h6 := by
  rw [← e2]
  rfl
 rw [e1, kv_some, e2', kH_some]
 have s6 := kk5 (plStrs w _) m6 (ts_sle.2 q6)
 clear s5 q5 q6 kk5
 rw [ld2 (Sep.get (s6.re4 [3] rfl)), kv_some]
 refine kv_of (v := Oq.agg ⟨2, tN, ⟨#[]⟩, ⟨#[]⟩, 0⟩) rfl ?_
 refine kP_of (v := .slice (some ⟨h6.next, 0, none⟩) 1 2) (g := h6.new (.cells (dOp.flat [⟨2, tN, ⟨#[]⟩, ⟨#[]⟩, 0⟩]) 5 .rw)) rfl ?_
 have s7 := s6.litOps [⟨2, tN, ⟨#[]⟩, ⟨#[]⟩, 0⟩] (by simp)
 refine cl_then (vault_Prepare (ops := [⟨2, tN, ⟨#[]⟩, ⟨#[]⟩, 0⟩]) ve ⟨1, 1⟩ 0 i1 (by omega) (by simp) (by decide) (s7.re5 [2, 0, 1, 3, 4] rfl)) ?_
 rintro r8 h8 ⟨w8, rfl, s8⟩
 rw [hag] at s8 ⊢
 obtain ⟨f8, q8, _⟩ := s8.head
 have q8 : Ts h8 f8 w8 [⟨#[]⟩, ⟨#[]⟩, ⟨#[61]⟩ ++ val] := q8
 simp only [extract_tuple, List.getElem?_toArray, List.getElem?_cons_zero, List.getElem?_cons_succ, kv_some]
 have i2 := i1.mono (Nat.le_add_right (0 + 8) 8)
 rw [ld2 (Sep.get (s8.re6 [5] rfl)), kv_some]
 refine cl_then (vault_Decide ve ⟨1, 1⟩ true i2 (by omega) (s8.re6 [1, 0] rfl)) ?_
 rintro r9 h9 ⟨rfl, s9⟩
 generalize (decV P1.2 ⟨1, 1⟩ true).2 = S at s9 hdc
 refine cl_then (vault_Space tN s9) ?_
 intro x h10 s10
 rw [hdc] at s10
 have hne : binD (.ptr true) .eql true x (.pointer none) h10 = some (.bool false) := Sep.eqView s10 true
 obtain ⟨f10, q10, _⟩ := s10.up2.head
 have q10 : Ts h10 f10 w8 [⟨#[]⟩, ⟨#[]⟩, ⟨#[61]⟩ ++ val] := q10
 have hlen10 : lenD .slice w8 h10 = some (i64 ((3 : Nat) : Int)) := Sl.len q10
 obtain ⟨b10, c1, c2⟩ := SlE.ld (ts_sle.1 q10) (i := 2) (x := ⟨#[61]⟩ ++ val) rfl
 have c1 : indexAddrD (.slice 1) w8 (.int .i64 2) = some (ptr b10 (2 * dStr.es)) := c1
 have c2 : ldD .one (ptr b10 (2 * dStr.es)) h10 = some (str (⟨#[61]⟩ ++ val)) := by
  obtain ⟨b', _, a1, _, a3⟩ := SlE.at (ts_sle.1 q10) (i := 2) (x := ⟨#[61]⟩ ++ val) rfl
  have a1 : indexAddrD (.slice 1) w8 (.int .i64 2) = some (ptr b' (2 * dStr.es)) := a1
  rw [c1] at a1
  cases a1
  exact a3 0 (by decide)
 have c3 : binD .bad .add true (.string ⟨#[61]⟩) (str val) h10 = some (str (⟨#[61]⟩ ++ val)) := str_add _ _ _ _ (show (1 : Nat) + val.size ≤ _ by omega)
 simp only [hne, kv_some, gdV_bool, if_true, hlen10, bin_neq, pickV_bool, Bool.false_eq_true, if_false]
 rw [show (((3 : Nat) : Int) != 3) = false from rfl]
 simp only [gdV_bool, if_true, kv_some, c1, c2, c3, str_neq, decide_true, Bool.not_true, pickV_bool, Bool.false_eq_true, if_false, ifV_bool]
 have s10 : Sep Fq h10 (plSpM _ x (ownT key val) :: _) := s10
 obtain ⟨b11, t11, rfl, r11, put11⟩ := tab_put E (s := ownT key val) rfl key ⟨#[111, 116, 104, 101, 114]⟩ ⟨by simp only [maxLen]; omega, by decide⟩ s10
 simp only [aNil_ptr, kv_some, fieldAddr_ptr, ld_one, Nat.zero_add, r11]
 refine cl_then put11 ?_
 intro r12 h12 s12
 refine cl_then (vault_Space tN s12.up1) ?_
 intro x13 h13 s13
 rw [hdc] at s13
 have s13 : Sep Fq h13 (plSpM _ x13 (ownT key val) :: _) := s13
 obtain ⟨b14, t14, rfl, r14, _, get14⟩ := tab_get E (s := ownT key val) rfl s13
 simp only [aNil_ptr, kv_some, fieldAddr_ptr, ld_one, Nat.zero_add, r14]
 refine cl_then (get14 key) ?_
 rintro r h14 ⟨rfl, rfl⟩
 have hh : hitP key (ownT key val).pairs = some ⟨key, val, 0⟩ := by simp [hitP, lt_irr]
 rw [hh]
 simp only [extract_tuple, List.getElem?_toArray, List.getElem?_cons_zero, List.getElem?_cons_succ, kv_some, Option.isSome_some, gdV_bool, if_true, str_eql, decide_true, pickV_bool]
end Go.Abs

/- VaultTime, on abstract heaps. -/
import Derived.Test.YtldjlkbjbkielaaGreatDoorVabf
import Derived.KernelRfl
import Derived.Test.YtldjlkbjbkielaaGreatDoorVaar
set_option maxRecDepth 20000
set_option linter.unusedVariables false
set_option linter.unusedSimpArgs false
namespace Go.Abs
open Go
def F.estafettelaw14_VaultTime (E : FE) : Spec := fun args h K => match args with
| [a0, a1, a2] =>
cl (F.estafettelaw14_begun E) [] h fun v15_0 h =>
kv (aUn .not v15_0) fun v17_1 =>
ifV v17_1 (
K (.bool false) h) (
kv (binD .bad .and true a0 (.int .i64 1023) h) fun v19_2 =>
kv (binD .bad .and true a1 (.int .i64 127) h) fun v21_3 =>
kv (binD .bad .add true (.int .i64 1) v21_3 h) fun v22_4 =>
cl (F.vault_New E) [] h fun v23_5 h =>
kv (buildD (.struct [(.int .i64 0), (.int .i64 0)] [(0, 1), (1, 1)]) [(0, (.int .i64 1)), (1, (.int .i64 1))]) fun v24_6 =>
kv (buildD (.struct [(.int .i64 0), (.int .i64 0)] [(0, 1), (1, 1)]) [(0, (.int .i64 1)), (1, (.int .i64 2))]) fun v25_7 =>
kP (newD none (.agg #[(.int .i64 0), (.int .i64 0)]) h) fun v9_8 h =>
kP (newD none (.agg #[(.int .i64 0), (.int .i64 0)]) h) fun v10_9 h =>
kH (stD (some 2) v9_8 v24_6 h) fun _ h =>
kH (stD (some 2) v10_9 v25_7 h) fun _ h =>
kv (ldD (.agg 2) v9_8 h) fun v27_10 =>
kv (buildD (.struct [(.int .i64 0), (.string ⟨#[]⟩), (.string ⟨#[]⟩), (.string ⟨#[]⟩), (.int .i64 0)] [(0, 1), (1, 1), (2, 1), (3, 1), (4, 1)]) [(0, (.int .i64 1)), (1, (.string ⟨#[113]⟩)), (4, (.int .i64 2)), (2, (.string ⟨#[51]⟩))]) fun v28_11 =>
kv (buildD (.struct [(.int .i64 0), (.string ⟨#[]⟩), (.string ⟨#[]⟩), (.string ⟨#[]⟩), (.int .i64 0)] [(0, 1), (1, 1), (2, 1), (3, 1), (4, 1)]) [(0, (.int .i64 6)), (1, (.string ⟨#[113]⟩)), (3, (.string ⟨#[109]⟩))]) fun v29_12 =>
kP (buildSliceD (some (5, [(.int .i64 0), (.string ⟨#[]⟩), (.string ⟨#[]⟩), (.string ⟨#[]⟩), (.int .i64 0)])) 2 [(0, v28_11), (1, v29_12)] h) fun v30_13 h =>
cl (F.vault_Vault_Prepare E) [v23_5, v27_10, v30_13, (.int .i64 0)] h fun v31_14 h =>
kv (ldD (.agg 2) v9_8 h) fun v33_15 =>
cl (F.vault_Vault_Decide E) [v23_5, v33_15, (.bool true)] h fun v34_16 h =>
kv (ldD (.agg 2) v10_9 h) fun v37_17 =>
kv (buildD (.struct [(.int .i64 0), (.string ⟨#[]⟩), (.string ⟨#[]⟩), (.string ⟨#[]⟩), (.int .i64 0)] [(0, 1), (1, 1), (2, 1), (3, 1), (4, 1)]) [(0, (.int .i64 7)), (1, (.string ⟨#[113]⟩)), (4, v22_4)]) fun v39_18 =>
kP (buildSliceD (some (5, [(.int .i64 0), (.string ⟨#[]⟩), (.string ⟨#[]⟩), (.string ⟨#[]⟩), (.int .i64 0)])) 1 [(0, v39_18)] h) fun v40_19 h =>
cl (F.vault_Vault_Prepare E) [v23_5, v37_17, v40_19, v19_2] h fun v42_20 h =>
kv (aExtract v42_20 0) fun v43_21 =>
kv (aExtract v42_20 1) fun v44_22 =>
∃ (Inv23 : Nat → List V → AHeap → Prop) (n23 : Nat), Inv23 n23 [(.int .i64 0)] h ∧ ∀ (n23 : Nat) (e23 : Nat → V) (h : AHeap), Inv23 n23 [(e23 13)] h →
kv (lenD .slice a2 h) fun v47_24 =>
kv (binD .bad .lss false (e23 13) v47_24 h) fun v48_25 =>
kv (gdV v48_25 true (some (e23 13))) fun v50_26 =>
kv (gdV v48_25 true (binD .bad .lss true v50_26 (.int .i64 5) h)) fun v51_27 =>
kv (pickV v48_25 v51_27 (.bool false)) fun v52_28 =>
ifV v52_28 (
kv (ldD (.agg 2) v10_9 h) fun v56_29 =>
kv (buildD (.struct [(.int .i64 0), (.string ⟨#[]⟩), (.string ⟨#[]⟩), (.string ⟨#[]⟩), (.int .i64 0)] [(0, 1), (1, 1), (2, 1), (3, 1), (4, 1)]) [(0, (.int .i64 7)), (1, (.string ⟨#[113]⟩)), (4, v22_4)]) fun v58_30 =>
kv (indexAddrD (.slice 1) a2 (e23 13)) fun v63_31 =>
kv (ldD .one v63_31 h) fun v64_32 =>
kv (binD .bad .and true v64_32 (.int .i64 63) h) fun v65_33 =>
kv (binD .bad .add false v19_2 v65_33 h) fun v66_34 =>
kP (buildSliceD (some (5, [(.int .i64 0), (.string ⟨#[]⟩), (.string ⟨#[]⟩), (.string ⟨#[]⟩), (.int .i64 0)])) 1 [(0, v58_30)] h) fun v59_35 h =>
ldD (.agg 2) v10_9 h = some v56_29 ∧
ldD .one v63_31 h = some v64_32 ∧
cl (F.vault_Vault_Prepare E) [v23_5, v56_29, v59_35, v66_34] h fun v67_36 h =>
kv (binD .bad .add true (e23 13) (.int .i64 1) h) fun v54_37 =>
∃ m, m < n23 ∧ Inv23 m [v54_37] h) (
kv (ldD (.agg 2) v10_9 h) fun v69_38 =>
cl (F.vault_Vault_Decide E) [v23_5, v69_38, (.bool true)] h fun v70_39 h =>
cl (F.vault_Vault_Space E) [v23_5, (.string ⟨#[113]⟩)] h fun v72_40 h =>
kv (gdV v44_22 true (some v43_21)) fun v75_41 =>
kv (gdV v44_22 true (lenD .slice v75_41 h)) fun v76_42 =>
kv (gdV v44_22 true (binD .bad .eql true v76_42 (.int .i64 1) h)) fun v77_43 =>
kv (pickV v44_22 v77_43 (.bool false)) fun v78_44 =>
kv (gdV v78_44 true (some v43_21)) fun v80_45 =>
kv (gdV v78_44 true (indexAddrD (.slice 1) v80_45 (.int .i64 0))) fun v81_46 =>
kv (gdV v78_44 true (ldD .one v81_46 h)) fun v82_47 =>
kv (gdV v78_44 true (binD .bad .eql true v82_47 (.string ⟨#[49, 32, 49, 32, 109]⟩) h)) fun v83_48 =>
kv (pickV v78_44 v83_48 (.bool false)) fun v84_49 =>
kv (gdV v84_49 true (some v72_40)) fun v86_50 =>
kv (gdV v84_49 true (binD (.ptr true) .neq true v86_50 (.pointer none) h)) fun v87_51 =>
kv (pickV v84_49 v87_51 (.bool false)) fun v88_52 =>
kv (gdV v88_52 true (some v72_40)) fun v90_53 =>
kv (gdV v88_52 true (aNil v90_53)) fun v91_54 =>
kv (gdV v88_52 true (fieldAddrD (some 2) v91_54)) fun v92_55 =>
kv (gdV v88_52 true (ldD .one v92_55 h)) fun v93_56 =>
gdC v88_52 true h (fun K57 => cl (F.queue_Queue_Items E) [v93_56] h fun v h => K57 v h) fun v94_58 h =>
kv (gdV v88_52 true (lenD .slice v94_58 h)) fun v95_59 =>
kv (gdV v88_52 true (binD .bad .eql true v95_59 (.int .i64 1) h)) fun v96_60 =>
kv (pickV v88_52 v96_60 (.bool false)) fun v97_61 =>
kv (gdV v97_61 true (some v72_40)) fun v99_62 =>
kv (gdV v97_61 true (aNil v99_62)) fun v100_63 =>
kv (gdV v97_61 true (fieldAddrD (some 2) v100_63)) fun v101_64 =>
kv (gdV v97_61 true (ldD .one v101_64 h)) fun v102_65 =>
gdC v97_61 true h (fun K66 => cl (F.queue_Queue_Items E) [v102_65] h fun v h => K66 v h) fun v103_67 h =>
kv (gdV v97_61 true (indexAddrD (.slice 4) v103_67 (.int .i64 0))) fun v104_68 =>
kv (gdV v97_61 true (fieldAddrD (some 3) v104_68)) fun v105_69 =>
kv (gdV v97_61 true (ldD .one v105_69 h)) fun v106_70 =>
kv (gdV v97_61 true (some v19_2)) fun v107_71 =>
kv (gdV v97_61 true (some v22_4)) fun v108_72 =>
kv (gdV v97_61 true (binD .bad .add false v107_71 v108_72 h)) fun v109_73 =>
kv (gdV v97_61 true (binD .bad .eql false v106_70 v109_73 h)) fun v110_74 =>
kv (pickV v97_61 v110_74 (.bool false)) fun v111_75 =>
K v111_75 h))
| _ => False
end Go.Abs
set_option linter.unusedSimpArgs false
set_option linter.unusedVariables false
namespace Go.Abs
open Go Go.Proofs
variable {E : FE} {h : AHeap} {v : V}
abbrev st0 : VltM := ⟨[], [], [], []⟩
end Go.Abs
namespace Go.Abs
open Go Go.Proofs
variable {E : FE} {h : AHeap} {v : V} {F : Fr} {L : List Pl}
def dStr : EL ByteArray := ⟨1, fun s => [str s], fun _ => rfl, fun _ => rfl, by decide⟩
theorem dStr_flat : ∀ l : List ByteArray, dStr.flat l = l.map str
 | [] => rfl
 | a :: l => by rw [EL.flat_cons, dStr_flat l]; rfl
theorem ts_sle {fp : List Nat} {l : List ByteArray} : Ts h fp v l ↔ SlE dStr h fp v l := by
 unfold Ts SlE
 rw [dStr_flat]
 exact Iff.rfl
/-! ### Plain -/
theorem take_all {id : IdM} {ops : List Oq} {lk : List (KeyM × IdM)} {o : Oq} (ho : o ∈ ops) (ha : (lockOf o).all = true) : allOf (takeL id (ops.map lockOf) lk) id o.space = true := by
 have h1 : lkp (lockOf o) (takeL id (ops.map lockOf) lk) = some id := by rw [takeL_lkp, if_pos (List.mem_map.2 ⟨o, ho, rfl⟩)]
 refine List.any_eq_true.2 ⟨_, lkp_mem h1, ?_⟩
 simp only [decide_true, Bool.true_and, ha, Bool.and_true, decide_eq_true_eq]
 exact lock_space o
theorem prep_new {st : VltM} {id : IdM} {ops : List Oq} {now : Int} {vals : List ByteArray} {view : List (ByteArray × Option SpM)} (ho : id ∉ st.ov) (ha : allO ops = true) (hp : lkp id st.pt = none) (hl : st.lk = []) (hv : partV st.sp st.pt now ops [] [] = some (vals, view)) :
 prepV st id ops now = ((vals, true), { st with lk := takeL id (ops.map lockOf) st.lk, pt := ins id ⟨ops, vals, now, view⟩ st.pt }) := by
 unfold prepV
 rw [if_neg (by simp [ho, ha])]
 have hb : blocked id (ops.map lockOf) st.lk = false := by rw [hl]; rfl
 simp only [hp, hb, Bool.false_eq_true, if_false, hv]
end Go.Abs
namespace Go.Abs
open Go Go.Proofs
variable {E : FE} {h : AHeap} {v w : V} {F : Fr} {L : List Pl} {k : Nat} {s : SpM}
theorem qu_get (E : FE) (hs : s.kind = 2) (hk : k ≤ 1000) (z : Sep F h (plSpM k w s :: L)) : ∃ b qp, w = ptr b 0 ∧ h.rd b 2 = some qp ∧
 (cl (Go.Abs.F.queue_Queue_Items E) [qp] h fun r h' => Sep F h' (plMs r s.items :: plSpM k w s :: L)) ∧ (cl (Go.Abs.F.queue_Queue_Next E) [qp] h fun r h' => h' = h ∧ r = i64 s.next) := by
 have z0 := z
 obtain ⟨S, h1, h2, h3, z1⟩ := z.openSpM
 obtain ⟨f, q, kk⟩ := z1.head
 have q : SpS h f w S := q
 cases S with
 | tab g => exact absurd h3.1 (by rw [hs]; decide)
 | to l g => exact absurd h3.1 (by rw [hs]; decide)
 | qu a b i l =>
  obtain ⟨_, _, _, e1, e2, _⟩ := h3
  obtain ⟨pt, q⟩ := q
  obtain ⟨b', f', rfl, rfl, hg, hA, up⟩ := q.open
  have hA : Qu h f' pt a b i l := hA
  refine ⟨b', pt, rfl, by rw [rd_of hg 2]; rfl, ?_, ?_⟩
  · refine cl_then (queue_Items hA (by have := QI.len h1; omega)) ?_
    rintro r h' ⟨fp', q1, m1⟩
    rw [e2]
    exact z0.alloc (plMs r i) m1 q1
  · rw [e1]
    exact queue_Next hA
/-! ### Plain -/
end Go.Abs
namespace Go.Abs
open Go Go.Proofs
variable {E : FE} {h : AHeap} {v w : V} {F : Fr} {L : List Pl} {k : Nat} {s : SpM}
abbrev qN : ByteArray := ⟨#[113]⟩
abbrev timeA : List Oq := [⟨1, qN, ⟨#[51]⟩, ⟨#[]⟩, 2⟩, ⟨6, qN, ⟨#[]⟩, ⟨#[109]⟩, 0⟩]
abbrev timeB (t : Int) : List Oq := [⟨7, qN, ⟨#[]⟩, ⟨#[]⟩, t⟩]
abbrev timeD := decV (prepV st0 ⟨1, 1⟩ timeA 0).2 ⟨1, 1⟩ true
abbrev timeQ : SpM := ⟨⟨#[]⟩, 2, [], 3, [⟨1, ⟨#[109]⟩, 0, 0⟩], [], 2⟩
abbrev timeR (now t : Int) : SpM := ⟨⟨#[]⟩, 2, [], 3, [⟨1, ⟨#[109]⟩, 1, now + t⟩], [], 2⟩
abbrev timeT : ByteArray := ⟨#[49, 32, 49, 32, 109]⟩
theorem time_sp : timeD.2.sp = [(qN, timeQ)] := by kernel_rfl
theorem time_pt : timeD.2.pt = [] := by kernel_rfl
theorem time_lk : timeD.2.lk = [] := by kernel_rfl
theorem time_ov : timeD.2.ov = [⟨1, 1⟩] := by kernel_rfl
theorem dec1 : decT 1 = ⟨#[49]⟩ := by
 unfold decT
 rw [Lib.decDigits]
 rfl
variable {now t : Int}
theorem time_part (hn : 0 ≤ now ∧ now ≤ 100000) (ht : 1 ≤ t ∧ t ≤ 1000) : partV [(qN, timeQ)] [] now (timeB t) [] [] = some ([timeT], [(qN, some (timeR now t))]) := by
 have h1 : ¬ (t < 1 ∨ t > 1000 ∨ now < 0 ∨ now > 1099511627776) := by omega
 have h2 : ¬ ((0 : Int) > now) := by omega
 have hr : recvL 3 now t [⟨1, ⟨#[109]⟩, 0, 0⟩] = ([⟨1, ⟨#[109]⟩, 1, now + t⟩], [], some ⟨1, ⟨#[109]⟩, 1, now + t⟩) := by
  simp only [recvL, if_neg h2]
  rfl
 have ha : timeQ.act ⟨7, qN, ⟨#[]⟩, ⟨#[]⟩, t⟩ now = (timeT, 0, timeR now t) := by
  have hg : gotT (some (⟨1, ⟨#[109]⟩, 1, now + t⟩ : Msg)) = timeT := by
   simp only [gotT]
   rw [show (1 : Int).toNat = 1 from rfl, dec1]
   rfl
  simp only [SpM.act, doQ]
  simp [h1, hr, hg, SpM.ofQ]
 have hd : doesV [(qN, timeQ)] [] now [] ⟨7, qN, ⟨#[]⟩, ⟨#[]⟩, t⟩ = (timeT, 0, [(qN, some (timeR now t))]) := by
  simp [doesV, seesV, lkp, ins, ha]
 rw [partV_cons, hd, if_pos rfl]
 rfl
theorem time_may (ht : 1 ≤ t ∧ t ≤ 1000) : allO (timeB t) = true := by
 have h1 : smallT qN = true := by decide
 have h2 : (qN).size = 1 := rfl
 have h3 : (⟨#[]⟩ : ByteArray).size = 0 := rfl
 have h4 : (0 : Int) ≤ t := by omega
 have h5 : t ≤ 1099511627776 := by omega
 simp [allO, mayO, namesO, makesO, h1, h2, h3, h4, h5]
theorem time_prep (hn : 0 ≤ now ∧ now ≤ 100000) (ht : 1 ≤ t ∧ t ≤ 1000) : prepV timeD.2 ⟨1, 2⟩ (timeB t) now =
 (([timeT], true), { timeD.2 with lk := takeL ⟨1, 2⟩ ((timeB t).map lockOf) timeD.2.lk, pt := ins ⟨1, 2⟩ ⟨timeB t, [timeT], now, [(qN, some (timeR now t))]⟩ timeD.2.pt }) := by
 refine prep_new ?_ (time_may ht) ?_ time_lk ?_
 · rw [time_ov]; decide
 · rw [time_pt]; rfl
 · rw [time_sp, time_pt]; exact time_part hn ht
theorem time_again (hn : 0 ≤ now ∧ now ≤ 100000) (ht : 1 ≤ t ∧ t ≤ 1000) (n : Int) : prepV (prepV timeD.2 ⟨1, 2⟩ (timeB t) now).2 ⟨1, 2⟩ (timeB t) n = (([timeT], true), (prepV timeD.2 ⟨1, 2⟩ (timeB t) now).2) := by
 refine prep_again (p := ⟨timeB t, [timeT], now, [(qN, some (timeR now t))]⟩) ?_ (time_may ht) ?_
 · rw [prep_ov, time_ov]; decide
 · rw [time_prep hn ht]
   simp only [lkp_ins, if_true]
theorem time_dec (hn : 0 ≤ now ∧ now ≤ 100000) (ht : 1 ≤ t ∧ t ≤ 1000) : lkp qN (decV (prepV timeD.2 ⟨1, 2⟩ (timeB t) now).2 ⟨1, 2⟩ true).2.sp = some (timeR now t) := by
 have hal : allOf (takeL ⟨1, 2⟩ ((timeB t).map lockOf) timeD.2.lk) ⟨1, 2⟩ qN = true := take_all (o := ⟨7, qN, ⟨#[]⟩, ⟨#[]⟩, t⟩) (by simp) rfl
 rw [time_prep hn ht, decV_eq, if_neg (by show (⟨1, 2⟩ : IdM) ∉ timeD.2.ov; rw [time_ov]; decide)]
 have e1 : lkp (⟨1, 2⟩ : IdM) (ins ⟨1, 2⟩ (⟨timeB t, [timeT], now, [(qN, some (timeR now t))]⟩ : PartM) timeD.2.pt) = some ⟨timeB t, [timeT], now, [(qN, some (timeR now t))]⟩ := by rw [lkp_ins, if_pos rfl]
 simp only [e1, if_true, laysA, List.foldl_cons, List.foldl_nil, hal, laysV]
 rw [lkp_ins, if_pos rfl]
def frInts (N : Nat) (v : V) (l : List Int) : Fr := ⟨N, fun h => Ints N h v l, fun _ _ _ _ s m hf => Ro.mod s m hf⟩
set_option maxHeartbeats 4000000 in
theorem law_VaultTime (ve : VlE E) {u : V} {ns : List Int} (s : Ints h.next h u ns) (a b : Int) : cl (Go.Abs.F.estafettelaw14_VaultTime E) [i64 a, i64 b, u] h fun r _ => r = .bool true := by
 refine cl_of ?_
 simp only [Go.Abs.F.estafettelaw14_VaultTime]
 refine cl_then begun_spec ?_
 rintro r h1 ⟨rfl, rfl⟩
 simp only [not_bool, Bool.not_true, kv_some, ifV_bool, Bool.false_eq_true, if_false]
 obtain ⟨now, ea, hn1, hn2⟩ := and_mask (k := .bad) (c := true) (h := h1) a 1023 (by decide) (by decide)
 obtain ⟨t1, eb, ht1, ht2⟩ := and_mask (k := .bad) (c := true) (h := h1) b 127 (by decide) (by decide)
 rw [ea, kv_some, eb, kv_some, add_i64 1 t1 (by omega) (by omega), kv_some]
 generalize ht' : 1 + t1 = t
 have ht : 1 ≤ t ∧ t ≤ 1000 := by omega
 have hn : 0 ≤ now ∧ now ≤ 100000 := by omega
 obtain ⟨N, hN⟩ : ∃ N, h1.next = N := ⟨_, rfl⟩
 rw [hN] at s
 have s0 : Sep (frInts N u ns) h1 [] := ⟨by show N ≤ h1.next; omega, s, [], rfl⟩
 clear ea eb
 refine cl_then (vault_New 0 s0) ?_
 intro p h3 s1
 refine kv_of (v := (⟨1, 1⟩ : IdM).agg) rfl ?_
 refine kv_of (v := (⟨1, 2⟩ : IdM).agg) rfl ?_
 rw [newI0, kP_some]
 have s2 := s1.box (cId ⟨0, 0⟩) 2
 generalize h3.new (.cells (cId ⟨0, 0⟩) 2 .rw) = h4 at s2 ⊢
 generalize h3.next = ba at s2 ⊢
 rw [newI0, kP_some]
 have s3 := s2.box (cId ⟨0, 0⟩) 2
 generalize h4.new (.cells (cId ⟨0, 0⟩) 2 .rw) = h5 at s3 ⊢
 generalize h4.next = bb at s3 ⊢
 clear s2
 rw [st2 (Sep.get (s3.re3 [1] rfl)), kH_some]
 have s5 := (Sep.re3 s3 [1, 0, 2] rfl).write (cs' := cId ⟨1, 1⟩)
 generalize AHeap.put _ _ _ = h7 at s5 ⊢
 rw [st2 (Sep.get (s5.re3 [1] rfl)), kH_some]
 have s7 := (Sep.re3 s5 [1, 0, 2] rfl).write (cs' := cId ⟨1, 2⟩)
 generalize AHeap.put _ _ _ = h9 at s7 ⊢
 clear s3 s5
 rw [ld2 (Sep.get (s7.re3 [1] rfl)), kv_some]
 refine kv_of (v := Oq.agg ⟨1, qN, ⟨#[51]⟩, ⟨#[]⟩, 2⟩) rfl ?_
 refine kv_of (v := Oq.agg ⟨6, qN, ⟨#[]⟩, ⟨#[109]⟩, 0⟩) rfl ?_
 refine kP_of (v := .slice (some ⟨h9.next, 0, none⟩) 2 4) (g := h9.new (.cells (dOp.flat timeA) 5 .rw)) rfl ?_
 have t0 := s7.litOps timeA (by simp)
 have i0 : VInv 0 st0 := VInv.nil
 refine cl_then (vault_Prepare (k := 0) (st := st0) (ops := timeA) ve ⟨1, 1⟩ 0 i0 (by omega) (by simp) (by decide) (t0.re4 [3, 0, 1, 2] rfl)) ?_
 rintro r10 h10 ⟨w10, rfl, t1'⟩
 have i1 := inv_prep i0 ⟨1, 1⟩ timeA 0
 rw [ld2 (Sep.get (t1'.re5 [4] rfl)), kv_some]
 refine cl_then (vault_Decide ve ⟨1, 1⟩ true i1 (by omega) (t1'.re5 [1, 3] rfl)) ?_
 rintro r11 h11 ⟨rfl, t2⟩
 have i2 := inv_dec i1 ⟨1, 1⟩ true
 rw [ld2 (Sep.get (t2.up1)), kv_some]
 refine kv_of (v := Oq.agg ⟨7, qN, ⟨#[]⟩, ⟨#[]⟩, t⟩) rfl ?_
 refine kP_of (v := .slice (some ⟨h11.next, 0, none⟩) 1 2) (g := h11.new (.cells (dOp.flat (timeB t)) 5 .rw)) rfl ?_
 have t3 := t2.litOps (timeB t) (by simp)
 have hzB : ∀ o ∈ timeB t, o.space.size ≤ maxLen := by
  intro o ho
  simp only [timeB, List.mem_singleton] at ho
  rw [ho]
  exact (by decide : (qN).size ≤ maxLen)
 refine cl_then (vault_Prepare (ops := timeB t) ve ⟨1, 2⟩ now i2 (by omega) (by simp) hzB (t3.re3 [1, 0, 2] rfl)) ?_
 rintro r12 h12 ⟨w12, rfl, t4⟩
 have i3 := inv_prep i2 ⟨1, 2⟩ (timeB t) now
 have hp2 : (prepV (decV (prepV st0 ⟨1, 1⟩ timeA 0).2 ⟨1, 1⟩ true).2 ⟨1, 2⟩ (timeB t) now).1 = ([timeT], true) := by
  have := time_prep hn ht
  rw [this]
 have hag := time_again hn ht
 have hdc := time_dec hn ht
 generalize prepV (decV (prepV st0 ⟨1, 1⟩ timeA 0).2 ⟨1, 1⟩ true).2 ⟨1, 2⟩ (timeB t) now = P at t4 i3 hp2 hag hdc ⊢
 rw [hp2] at t4 ⊢
 dsimp only at t4 ⊢
 simp only [extract_tuple, List.getElem?_toArray, List.getElem?_cons_zero, List.getElem?_cons_succ, kv_some]
 clear t0 t1' t2 t3 s7 s1
 refine ⟨fun n vs h' => ∃ i : Nat, vs = [i64 i] ∧ n = ns.length - i ∧ i ≤ ns.length ∧ i ≤ 5 ∧ Sep (frInts N u ns) h' (plVlt (24 + 8 * i) p P.2 :: plStrs w12 [timeT] :: plBox bb (cId ⟨1, 2⟩) 2 :: []),
  ns.length, ⟨0, rfl, by omega, by omega, by omega, t4.re4 [1, 0, 3] rfl⟩, ?_⟩
 rintro n e h13 ⟨i, he, rfl, hi1, hi5, u1⟩
 simp only [List.cons.injEq, and_true] at he
 have hI : Ints N h13 u ns := u1.2.1
 have hlen : lenD .slice u h13 = some (i64 ns.length) := Ro.len hI h13
 simp only [he, hlen, kv_some, bin_lss]
 by_cases hx : i < ns.length ∧ i < 5
 · have c1 : (decide (((i : Nat) : Int) < ((ns.length : Nat) : Int))) = true := decide_eq_true (by omega)
   have c2 : (decide (((i : Nat) : Int) < 5)) = true := decide_eq_true (by omega)
   simp only [c1, gdV_bool, if_true, kv_some, bin_lss, c2, pickV_bool, ifV_bool]
   rw [ld2 u1.up2.get, kv_some]
   refine kv_of (v := Oq.agg ⟨7, qN, ⟨#[]⟩, ⟨#[]⟩, t⟩) rfl ?_
   have hg : ns[i]? = some ns[i] := List.getElem?_eq_getElem hx.1
   obtain ⟨b1, off, e1, e2⟩ := Ints.row hI hg
   obtain ⟨m, em, hm0, hm63⟩ := and_mask (k := .bad) (c := true) (h := h13) ns[i] 63 (by decide) (by decide)
   rw [e1, kv_some, ld_one, e2, kv_some, em, kv_some, add_i64 now m (by omega) (by omega), kv_some]
   refine kP_of (v := .slice (some ⟨h13.next, 0, none⟩) 1 2) (g := h13.new (.cells (dOp.flat (timeB t)) 5 .rw)) rfl ?_
   have u2 := u1.litOps (timeB t) (by simp)
   refine ⟨ld2 (Sep.get (u2.re4 [3] rfl)), ?_, ?_⟩
   · have hI2 : Ints N _ u ns := u2.2.1
     obtain ⟨b2, off2, e3, e4⟩ := Ints.row hI2 hg
     rw [e1] at e3
     cases e3
     exact e4
   refine cl_then (vault_Prepare (ops := timeB t) ve ⟨1, 2⟩ (now + m) (i3.mono (show 0 + 8 + 8 + 8 ≤ 24 + 8 * i by omega)) (by omega) (by simp) hzB (u2.re4 [1, 0, 2, 3] rfl)) ?_
   rintro r14 h14 ⟨w14, rfl, u3⟩
   rw [hag (now + m)] at u3
   rw [add_i64 _ 1 (by omega) (by omega), kv_some]
   refine ⟨ns.length - (i + 1), by omega, i + 1, by simp, rfl, by omega, by omega, ?_⟩
   have u4 := u3.re5 [1, 3, 4] rfl
   have e24 : 24 + 8 * (i + 1) = 24 + 8 * i + 8 := by omega
   rw [e24]
   exact u4
 · have c3 : ∀ X : V → Prop, X (.bool false) → kv (gdV (.bool (decide (((i : Nat) : Int) < ((ns.length : Nat) : Int)))) true (some (i64 i))) fun v50 => kv (gdV (.bool (decide (((i : Nat) : Int) < ((ns.length : Nat) : Int)))) true (binD .bad .lss true v50 (.int .i64 5) h13)) fun v51 =>
       kv (pickV (.bool (decide (((i : Nat) : Int) < ((ns.length : Nat) : Int)))) v51 (.bool false)) X := by
    intro X hX
    by_cases h1 : i < ns.length
    · have c1 : (decide (((i : Nat) : Int) < ((ns.length : Nat) : Int))) = true := decide_eq_true (by omega)
      have c2 : (decide (((i : Nat) : Int) < 5)) = false := decide_eq_false (by omega)
      simp only [c1, gdV_bool, if_true, kv_some, bin_lss, c2, pickV_bool]
      exact hX
    · have c1 : (decide (((i : Nat) : Int) < ((ns.length : Nat) : Int))) = false := decide_eq_false (by omega)
      simp only [c1, gdV_bool, Bool.false_eq_true, if_false, kv_some, gdV_gone, pickV_bool]
      exact hX
   refine c3 _ ?_
   simp only [ifV_bool, Bool.false_eq_true, if_false]
   rw [ld2 u1.up2.get, kv_some]
   refine cl_then (vault_Decide ve ⟨1, 2⟩ true (i3.mono (show 0 + 8 + 8 + 8 ≤ 24 + 8 * i by omega)) (by omega) u1) ?_
   rintro r14 h14 ⟨rfl, u2⟩
   refine cl_then (vault_Space qN u2) ?_
   intro x h15 u3
   rw [hdc] at u3
   have u3 : Sep _ h15 (plSpM _ x (timeR now t) :: _) := u3
   obtain ⟨fv, qv, _⟩ := u3.up2.head
   have qv : Ts h15 fv w12 [timeT] := qv
   have lenv : lenD .slice w12 h15 = some (i64 ((1 : Nat) : Int)) := Sl.len qv
   obtain ⟨b', _, c1, _, c3⟩ := SlE.at (ts_sle.1 qv) (i := 0) (x := timeT) rfl
   have c1 : indexAddrD (.slice 1) w12 (.int .i64 0) = some (ptr b' (0 * dStr.es)) := c1
   have c3 : ldD .one (ptr b' (0 * dStr.es)) h15 = some (str timeT) := c3 0 (by decide)
   obtain ⟨bx, qp, rfl, rq, items, _⟩ := qu_get E (s := timeR now t) rfl (by omega) u3
   have z11 : (((1 : Nat) : Int) == 1) = true := rfl
   simp only [gdV_bool, if_true, kv_some, lenv, bin_eql, z11, pickV_bool, c1, c3, str_eql, decide_true, ptr_ne_nil, aNil_ptr, fieldAddr_ptr, ld_one, Nat.zero_add, rq]
   refine gdC_yes rfl (cl_then items ?_)
   intro r16 h16 u4
   obtain ⟨f16, q16, _⟩ := u4.head
   have len16 : lenD .slice r16 h16 = some (i64 ((1 : Nat) : Int)) := Sl.len q16
   obtain ⟨bx2, qp2, eq2, rq2, items2, _⟩ := qu_get E (s := timeR now t) rfl (by omega) u4.up1
   cases eq2
   simp only [gdV_bool, if_true, kv_some, len16, bin_eql, z11, pickV_bool, aNil_ptr, fieldAddr_ptr, ld_one, Nat.zero_add, rq2]
   refine gdC_yes rfl (cl_then items2 ?_)
   intro r17 h17 u5
   obtain ⟨f17, q17, _⟩ := u5.head
   have q17 : Ms h17 f17 r17 [⟨1, ⟨#[109]⟩, 1, now + t⟩] := q17
   obtain ⟨b17, a1, _, _, _, _, _, a6⟩ := Ms.at q17 (i := 0) (m := ⟨1, ⟨#[109]⟩, 1, now + t⟩) rfl
   have a1 : indexAddrD (.slice 4) r17 (.int .i64 0) = some (ptr b17 0) := by simpa using a1
   have a6 : h17.rd b17 3 = some (i64 (now + t)) := by simpa using a6
   have a7 : binD .bad .add false (i64 now) (i64 t) h17 = some (i64 (now + t)) := add_i64 _ _ (by omega) (by omega)
   simp only [gdV_bool, if_true, kv_some, a1, fieldAddr_ptr, ld_one, Nat.zero_add, a6, a7, bin_eql, beq_self_eq_true, pickV_bool]
end Go.Abs

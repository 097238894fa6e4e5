/- DeskLast, on abstract heaps. -/
import Derived.Test.YthhegdifbnghpaaGreatDoorQbe
import Derived.Test.YthhegdifbnghpaaGreatDoorQas
set_option maxRecDepth 20000
set_option linter.unusedVariables false
set_option linter.unusedSimpArgs false
namespace Go.Abs
open Go
def F.estafettelaw15_DeskLast (E : FE) : Spec := fun args h K => match args with
| [a0, a1] =>
cl (F.estafettelaw15_begun E) [] h fun v13_0 h =>
kv (aUn .not v13_0) fun v15_1 =>
ifV v15_1 (
K (.bool false) h) (
kv (binD .bad .rem true a1 (.int .i64 9) h) fun v17_2 =>
kv (binD .bad .add true v17_2 (.int .i64 9) h) fun v18_3 =>
kv (binD .bad .rem true v18_3 (.int .i64 9) h) fun v19_4 =>
cl (F.desk_New E) [(.int .i64 1)] h fun v20_5 h =>
∃ (Inv6 : Nat → List V → AHeap → Prop) (n6 : Nat), Inv6 n6 [(.int .i64 0), (.int .i64 0)] h ∧ ∀ (n6 : Nat) (e6 : Nat → V) (h : AHeap), Inv6 n6 [(e6 7), (e6 8)] h →
kv (lenD .slice a0 h) fun v23_7 =>
kv (binD .bad .lss false (e6 8) v23_7 h) fun v24_8 =>
kv (gdV v24_8 true (some (e6 8))) fun v26_9 =>
kv (gdV v24_8 true (binD .bad .lss true v26_9 (.int .i64 30) h)) fun v27_10 =>
kv (pickV v24_8 v27_10 (.bool false)) fun v28_11 =>
ifV v28_11 (
kv (indexAddrD (.slice 1) a0 (e6 8)) fun v34_12 =>
kv (ldD .one v34_12 h) fun v35_13 =>
kv (buildD (.struct [(.int .i64 0), (.int .i64 0)] [(0, 1), (1, 1)]) [(0, v19_4), (1, v35_13)]) fun v36_14 =>
kP (newD none (.agg #[(.int .i64 0), (.int .i64 0)]) h) fun v9_15 h =>
kH (stD (some 2) v9_15 v36_14 h) fun _ h =>
kv (ldD (.agg 2) v9_15 h) fun v37_16 =>
cl (F.estafetteref12_Client E) [v37_16] h fun v38_17 h =>
kv (gdV v38_17 true (fieldAddrD (some 1) v9_15)) fun v40_18 =>
kv (gdV v38_17 true (ldD .one v40_18 h)) fun v41_19 =>
kv (gdV v38_17 true (some (e6 7))) fun v42_20 =>
kv (gdV v38_17 true (binD .bad .gtr false v41_19 v42_20 h)) fun v43_21 =>
kv (pickV v38_17 v43_21 (.bool false)) fun v44_22 =>
kv (ldD (.agg 2) v9_15 h) fun v46_23 =>
kv (buildD (.struct [(.int .i64 0), (.string ⟨#[]⟩), (.string ⟨#[]⟩), (.string ⟨#[]⟩), (.int .i64 0)] [(0, 1), (1, 1), (2, 1), (3, 1), (4, 1)]) [(0, (.int .i64 3)), (1, (.string ⟨#[97]⟩)), (2, (.string ⟨#[107]⟩))]) fun v47_24 =>
kP (buildSliceD (some (5, [(.int .i64 0), (.string ⟨#[]⟩), (.string ⟨#[]⟩), (.string ⟨#[]⟩), (.int .i64 0)])) 1 [(0, v47_24)] h) fun v48_25 h =>
cl (F.desk_Desk_Begin E) [v20_5, v46_23, v48_25] h fun v49_26 h =>
kv (binD .bool .neq false v49_26 v44_22 h) fun v51_27 =>
ifV v51_27 (
K (.bool false) h) (
ifV v44_22 (
kv (fieldAddrD (some 1) v9_15) fun v53_28 =>
kv (ldD .one v53_28 h) fun v54_29 =>
kv (binD .bad .add true (e6 8) (.int .i64 1) h) fun v30_30 =>
∃ m, m < n6 ∧ Inv6 m [v54_29, v30_30] h) (
kv (binD .bad .add true (e6 8) (.int .i64 1) h) fun v30_31 =>
∃ m, m < n6 ∧ Inv6 m [(e6 7), v30_31] h))) (
kv (binD .bad .add true (e6 7) (.int .i64 1) h) fun v59_32 =>
kv (buildD (.struct [(.int .i64 0), (.int .i64 0)] [(0, 1), (1, 1)]) [(0, v19_4), (1, v59_32)]) fun v60_33 =>
cl (F.desk_Desk_Answer E) [v20_5, v60_33] h fun v61_34 h =>
kv (aExtract v61_34 0) fun v62_35 =>
kv (aExtract v61_34 1) fun v63_36 =>
kP (newD none (.agg #[(.int .i64 0), (.int .i64 0), (.int .i64 0), (.slice none 0 0)]) h) fun v11_37 h =>
kH (stD (some 4) v11_37 v62_35 h) fun _ h =>
kv (aUn .not v63_36) fun v65_38 =>
K v65_38 h))
| _ => False
end Go.Abs
set_option linter.unusedSimpArgs false
set_option linter.unusedVariables false
namespace Go.Abs
open Go Go.Proofs
variable {E : FE} {h : AHeap}
theorem begun15_spec : cl (Go.Abs.F.estafettelaw15_begun E) [] h fun r h' => r = .bool true ∧ h' = h := cl_of ⟨rfl, rfl, rfl⟩
def frInts (N : Nat) (v : V) (l : List Int) : Fr := ⟨N, fun h => Ints N h v l, fun _ _ _ _ s m hf => Ro.mod s m hf⟩
theorem guard2 {h0 : AHeap} {i n m : Int} (X : V → Prop) (hX : X (.bool (decide (i < n) && decide (i < m)))) :
 kv (gdV (.bool (decide (i < n))) true (some (i64 i))) fun v16 => kv (gdV (.bool (decide (i < n))) true (binD .bad .lss true v16 (.int .i64 m) h0)) fun v17 => kv (pickV (.bool (decide (i < n))) v17 (.bool false)) X := by
 by_cases h1 : i < n
 · simp only [h1, decide_true, gdV_bool, if_true, kv_some, bin_lss, pickV_bool, Bool.true_and] at hX ⊢
   exact hX
 · simp only [h1, decide_false, gdV_bool, Bool.false_eq_true, if_false, kv_some, pickV_bool, Bool.false_and] at hX ⊢
   exact hX
end Go.Abs
namespace Go.Abs
open Go Go.Proofs
variable {E : FE} {F : Fr} {h : AHeap} {L : List Pl}
theorem ref12_Client (id : IdM) (s : Sep F h L) : cl (Go.Abs.F.estafetteref12_Client E) [id.agg] h fun r h' => r = .bool (clientB id) ∧ Sep F h' L := op_Client_ok (E := E) id s
theorem mod_up (x : Int) {d : Int} (hd : 0 < d ∧ d < 1000000) : ∃ n : Int, (0 ≤ n ∧ n < d) ∧ ∀ {h : AHeap} {X : V → Prop}, X (i64 n) →
 kv (binD .bad .rem true (i64 x) (.int .i64 d) h) fun v17 => kv (binD .bad .add true v17 (.int .i64 d) h) fun v18 => kv (binD .bad .rem true v18 (.int .i64 d) h) X := by
 have h1 := Int.tmod_lt_of_pos x hd.1
 have h2 : -d < x.tmod d := Int.lt_tmod_of_pos x hd.1
 have h3 : 0 ≤ (x.tmod d + d).tmod d := Int.tmod_nonneg _ (by omega)
 have h4 := Int.tmod_lt_of_pos (x.tmod d + d) hd.1
 refine ⟨(x.tmod d + d).tmod d, ⟨h3, h4⟩, fun {h X} hX => ?_⟩
 rw [bin_rem, if_neg (by omega), kv_some, add_i64 _ _ (by omega) (by omega), kv_some, bin_rem, if_neg (by omega), kv_some]
 exact hX
abbrev opAK : Oq := ⟨3, ⟨#[97]⟩, ⟨#[107]⟩, ⟨#[]⟩, 0⟩
set_option maxHeartbeats 1000000 in
theorem law_DeskLast (oe : OpE E) {u : V} {ns : List Int} (s : Ints h.next h u ns) (c : Int) : cl (Go.Abs.F.estafettelaw15_DeskLast E) [u, i64 c] h fun r _ => r = .bool true := by
 refine cl_of ?_
 simp only [Go.Abs.F.estafettelaw15_DeskLast]
 refine cl_then begun15_spec ?_
 rintro r h1 ⟨rfl, rfl⟩
 simp only [not_bool, Bool.not_true, kv_some, ifV_bool, Bool.false_eq_true, if_false]
 obtain ⟨N, hN⟩ : ∃ N, h1.next = N := ⟨_, rfl⟩
 rw [hN] at s
 have s0 : Sep (frInts N u ns) h1 [] := ⟨by show N ≤ h1.next; omega, s, [], rfl⟩
 obtain ⟨cl', hc, hcl⟩ := mod_up c (d := 9) (by decide)
 refine hcl ?_
 refine cl_then (desk_New 1 (by omega) s0) ?_
 intro p h2 s1
 refine ⟨fun n vs h' => ∃ (i : Nat) (d : DeskM), vs = [i64 ((lkp cl' d.last).getD 0), i64 i] ∧ n = 30 - i ∧ d.n = ((1 : Nat) : Int) ∧ lkp cl' d.kept = none ∧ (0 ≤ (lkp cl' d.last).getD 0 ∧ (lkp cl' d.last).getD 0 ≤ 1099511627776) ∧ Sep (frInts N u ns) h' (plDsk p d :: []), 30,
  ⟨0, ⟨1, [], [], []⟩, rfl, rfl, rfl, rfl, ⟨Int.le_refl 0, by show (0 : Int) ≤ 1099511627776; decide⟩, s1⟩, ?_⟩
 rintro n e h3 ⟨i, d, he, rfl, hdn, hdk, hl01, s2⟩
 simp only [List.cons.injEq, and_true] at he
 have hI : Ints N h3 u ns := s2.2.1
 have hlen : lenD .slice u h3 = some (i64 ns.length) := Ro.len hI h3
 simp only [he.1, he.2, hlen, kv_some, bin_lss]
 refine guard2 _ ?_
 rw [ifV_bool]
 by_cases hx : (i : Int) < (ns.length : Nat) ∧ (i : Int) < 30
 case neg =>
  have : (decide ((i : Int) < (ns.length : Nat)) && decide ((i : Int) < 30)) = false := by
   simp only [Bool.and_eq_false_iff, decide_eq_false_iff_not]
   omega
  rw [this]
  simp only [Bool.false_eq_true, if_false]
  refine kv_of (add_i64 _ 1 (by omega) (by omega)) ?_
  refine kv_of (v := (⟨cl', (lkp cl' d.last).getD 0 + 1⟩ : IdM).agg) rfl ?_
  have hans : answerV d ⟨cl', (lkp cl' d.last).getD 0 + 1⟩ = (noAns, false) := by
   unfold answerV
   rw [show (lkp (⟨cl', (lkp cl' d.last).getD 0 + 1⟩ : IdM).client d.kept) = none from hdk, stale_next]
   rfl
  refine cl_then (desk_Answer ⟨cl', (lkp cl' d.last).getD 0 + 1⟩ (by show ((lkp cl' d.kept).getD []).length ≤ _; rw [hdk]; simp) (by show ∀ a ∈ (lkp cl' d.kept).getD [], _; rw [hdk]; simp) s2) ?_
  rintro r4 h4 ⟨v, rfl, s4⟩
  rw [hans] at s4 ⊢
  obtain ⟨t, rfl, s5⟩ := s4.openAn1
  simp only [extract_tuple, List.getElem?_toArray, List.getElem?_cons_zero, List.getElem?_cons_succ, kv_some]
  refine kP_of (v := ptr h4.next 0) (g := h4.new (.cells [i64 0, i64 0, i64 0, .slice none 0 0] 4 .rw)) rfl ?_
  have s6 := s5.box [i64 0, i64 0, i64 0, .slice none 0 0] 4
  rw [st_of (n := 4) (vs := [i64 noAns.id.client, i64 noAns.id.seq, i64 noAns.err, mkS t]) s6.get (by simp) rfl rfl rfl (by simp), kH_some]
  rfl
 rw [decide_eq_true hx.1, decide_eq_true hx.2]
 simp only [Bool.and_self, if_true]
 have hil : i < ns.length := by omega
 have hg : ns[i]? = some ns[i] := List.getElem?_eq_getElem hil
 obtain ⟨b1, o1, a1, a2⟩ := Ints.row hI hg
 generalize ns[i] = x at a2
 rw [a1, kv_some, ld_one, a2, kv_some]
 refine kv_of (v := (⟨cl', x⟩ : IdM).agg) rfl ?_
 rw [newI0, kP_some]
 have s3 := s2.box (cId ⟨0, 0⟩) 2
 rw [st2 s3.get, kH_some]
 have s4 := s3.write (cs' := cId ⟨cl', x⟩)
 clear s3 s2 hI
 generalize AHeap.put _ _ _ = h4 at s4 ⊢
 generalize h3.next = bi at s4 ⊢
 rw [ld2 s4.get, kv_some]
 refine cl_then (ref12_Client ⟨cl', x⟩ s4) ?_
 rintro r h5 ⟨rfl, s5⟩
 clear s4
 have hi1 : h5.rd bi 1 = some (i64 x) := by rw [rd_of s5.get 1]; rfl
 have g3 : ∀ X : V → Prop, X (.bool (clientB ⟨cl', x⟩ && decide ((lkp cl' d.last).getD 0 < x))) →
  kv (gdV (.bool (clientB ⟨cl', x⟩)) true (fieldAddrD (some 1) (ptr bi 0))) fun v40 => kv (gdV (.bool (clientB ⟨cl', x⟩)) true (ldD .one v40 h5)) fun v41 => kv (gdV (.bool (clientB ⟨cl', x⟩)) true (some (i64 ((lkp cl' d.last).getD 0)))) fun v42 => kv (gdV (.bool (clientB ⟨cl', x⟩)) true (binD .bad .gtr false v41 v42 h5)) fun v43 => kv (pickV (.bool (clientB ⟨cl', x⟩)) v43 (.bool false)) X := by
  intro X hX
  cases hcb : clientB ⟨cl', x⟩ with
  | false =>
   rw [hcb] at hX
   simp only [gdV_bool, Bool.false_eq_true, if_false, kv_some, pickV_bool, Bool.false_and] at hX ⊢
   exact hX
  | true =>
   rw [hcb] at hX
   simp only [gdV_bool, if_true, kv_some, fieldAddr_ptr, Nat.zero_add, ld_one, hi1, bin_gtr, pickV_bool, Bool.true_and] at hX ⊢
   exact hX
 refine g3 _ ?_
 rw [ld2 s5.get, kv_some]
 refine kv_of (v := opAK.agg) rfl ?_
 refine kP_of (v := .slice (some ⟨h5.next, 0, none⟩) 1 2) (g := h5.new (.cells (dOp.flat [opAK]) 5 .rw)) rfl ?_
 have s6 := s5.litOps [opAK] (by simp)
 have ho : opAK.space.size ≤ maxLen := by decide
 refine cl_then (desk_Begin (nn := 1) oe hdn (by omega) ⟨cl', x⟩ (ops := [opAK]) (by simp) (fun o ho' => by rw [List.mem_singleton.1 ho']; exact ho) (s6.re3 [2, 0, 1] rfl)) ?_
 rintro r h7 ⟨rfl, s7⟩
 have hfst := beginV_fst (d := d) (id := ⟨cl', x⟩) get_ak
 have hlast := beginV_last (d := d) (id := ⟨cl', x⟩) (ops := [opAK])
 have hn2 := beginV_n (d := d) (id := ⟨cl', x⟩) (ops := [opAK])
 rw [hfst]
 simp only [bin_bool_ne, beq_self_eq_true, Bool.not_true, kv_some, ifV_bool, Bool.false_eq_true, if_false]
 rw [hfst] at hlast
 generalize (beginV d ⟨cl', x⟩ [opAK]).2 = d2 at s7 hlast hn2
 have hkept : lkp cl' d2.kept = none := by rw [hn2.2]; exact hdk
 have hdn2 : d2.n = ((1 : Nat) : Int) := by rw [hn2.1]; exact hdn
 have hi7 : h7.rd bi 1 = some (i64 x) := by rw [rd_of (Sep.get s7.up2) 1]; rfl
 cases hb : clientB ⟨cl', x⟩ && decide ((lkp cl' d.last).getD 0 < x) with
 | false =>
  rw [hb] at hlast
  simp only [Bool.false_eq_true, if_false] at hlast ⊢
  refine kv_of (add_i64 (i : Int) 1 (by omega) (by omega)) ?_
  exact ⟨30 - (i + 1), by omega, i + 1, d2, by simp [hlast], rfl, hdn2, hkept, by rw [hlast]; exact hl01, s7.re3 [0] rfl⟩
 | true =>
  rw [hb] at hlast
  simp only [if_true] at hlast ⊢
  have hx2 : 0 ≤ x ∧ x ≤ 1099511627776 := by
   unfold clientB at hb
   simp only [Bool.and_eq_true, decide_eq_true_eq] at hb
   omega
  simp only [fieldAddr_ptr, Nat.zero_add, kv_some, ld_one, hi7]
  refine kv_of (add_i64 (i : Int) 1 (by omega) (by omega)) ?_
  exact ⟨30 - (i + 1), by omega, i + 1, d2, by simp [hlast], rfl, hdn2, hkept, by rw [hlast]; exact hx2, s7.re3 [0] rfl⟩
end Go.Abs

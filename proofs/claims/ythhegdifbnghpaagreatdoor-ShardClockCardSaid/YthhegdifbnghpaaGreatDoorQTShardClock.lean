/- ShardClock, on abstract heaps. -/
import Derived.Test.YthhegdifbnghpaaGreatDoorQbe
import Derived.Test.YthhegdifbnghpaaGreatDoorQas
set_option maxRecDepth 20000
set_option linter.unusedVariables false
set_option linter.unusedSimpArgs false
namespace Go.Abs
open Go
def F.estafettelaw15_ShardClock (E : FE) : Spec := fun args h K => match args with
| [a0] =>
cl (F.estafettelaw15_begun E) [] h fun v7_0 h =>
kv (aUn .not v7_0) fun v9_1 =>
ifV v9_1 (
K (.bool false) h) (
cl (F.shard_New E) [(.int .i64 0), (.int .i64 1)] h fun v10_2 h =>
∃ (Inv3 : Nat → List V → AHeap → Prop) (n3 : Nat), Inv3 n3 [(.int .i64 0), (.int .i64 0)] h ∧ ∀ (n3 : Nat) (e3 : Nat → V) (h : AHeap), Inv3 n3 [(e3 5), (e3 6)] h →
kv (lenD .slice a0 h) fun v13_4 =>
kv (binD .bad .lss false (e3 6) v13_4 h) fun v14_5 =>
kv (gdV v14_5 true (some (e3 6))) fun v16_6 =>
kv (gdV v14_5 true (binD .bad .lss true v16_6 (.int .i64 30) h)) fun v17_7 =>
kv (pickV v14_5 v17_7 (.bool false)) fun v18_8 =>
ifV v18_8 (
kv (indexAddrD (.slice 1) a0 (e3 6)) fun v24_9 =>
kv (ldD .one v24_9 h) fun v25_10 =>
kP (buildSliceD (some (1, [(.int .i64 0)])) 1 [(0, v25_10)] h) fun v26_11 h =>
kv (buildD (.struct [(.int .i64 0), (.slice none 0 0), (.slice none 0 0)] [(0, 1), (1, 1), (2, 1)]) [(0, (.int .i64 2)), (1, v26_11)]) fun v27_12 =>
cl (F.shard_Shard_Apply E) [v10_2, v27_12] h fun v28_13 h =>
kv (indexAddrD (.slice 1) a0 (e3 6)) fun v31_14 =>
kv (ldD .one v31_14 h) fun v32_15 =>
kv (binD .bad .leq true v32_15 (.int .i64 1099511627776) h) fun v33_16 =>
∃ K17 : List V → AHeap → Prop, (
ifV v33_16 (
kv (indexAddrD (.slice 1) a0 (e3 6)) fun v37_18 =>
kv (ldD .one v37_18 h) fun v38_19 =>
kv (aMinMax true [(e3 5), v38_19]) fun v39_20 =>
K17 [v39_20] h) (
K17 [(e3 5)] h)) ∧ ∀ (e17 : Nat → V) (h : AHeap), K17 [(e17 5)] h →
kv (binD .bad .add true (e17 5) (.int .i64 1) h) fun v42_21 =>
kP (buildSliceD (some (1, [(.int .i64 0)])) 2 [(0, v42_21), (1, (.int .i64 2))] h) fun v43_22 h =>
kv (buildD (.struct [(.int .i64 0), (.slice none 0 0), (.slice none 0 0)] [(0, 1), (1, 1), (2, 1)]) [(0, (.int .i64 2)), (1, v43_22)]) fun v44_23 =>
cl (F.shard_Shard_Apply E) [v10_2, v44_23] h fun v45_24 h =>
kv (binD .bad .add true (e17 5) (.int .i64 1) h) fun v48_25 =>
kP (buildSliceD (some (1, [(.int .i64 0)])) 1 [(0, v48_25)] h) fun v49_26 h =>
kP (buildSliceD (some (1, [(.string ⟨#[]⟩)])) 1 [(0, (.string ⟨#[120]⟩))] h) fun v50_27 h =>
kv (buildD (.struct [(.int .i64 0), (.slice none 0 0), (.slice none 0 0)] [(0, 1), (1, 1), (2, 1)]) [(0, (.int .i64 2)), (1, v49_26), (2, v50_27)]) fun v51_28 =>
cl (F.shard_Shard_Apply E) [v10_2, v51_28] h fun v52_29 h =>
cl (F.shard_Shard_Now E) [v10_2] h fun v54_30 h =>
kv (binD .bad .neq false v54_30 (e17 5) h) fun v56_31 =>
ifV v56_31 (
K (.bool false) h) (
kv (binD .bad .add true (e3 6) (.int .i64 1) h) fun v20_32 =>
∃ m, m < n3 ∧ Inv3 m [(e17 5), v20_32] h)) (
K (.bool true) h))
| _ => False
end Go.Abs
set_option linter.unusedSimpArgs false
set_option linter.unusedVariables false
namespace Go.Abs
open Go Go.Proofs
variable {E : FE} {h : AHeap}
theorem begun15_spec : cl (Go.Abs.F.estafettelaw15_begun E) [] h fun r h' => r = .bool true ∧ h' = h := cl_of ⟨rfl, rfl, rfl⟩
def frInts (N : Nat) (v : V) (l : List Int) : Fr := ⟨N, fun h => Ints N h v l, fun _ _ _ _ s m hf => Ro.mod s m hf⟩
theorem guard2 {h0 : AHeap} {i n m : Int} (X : V → Prop) (hX : X (.bool (decide (i < n) && decide (i < m)))) :
 kv (gdV (.bool (decide (i < n))) true (some (i64 i))) fun v16 => kv (gdV (.bool (decide (i < n))) true (binD .bad .lss true v16 (.int .i64 m) h0)) fun v17 => kv (pickV (.bool (decide (i < n))) v17 (.bool false)) X := by
 by_cases h1 : i < n
 · simp only [h1, decide_true, gdV_bool, if_true, kv_some, bin_lss, pickV_bool, Bool.true_and] at hX ⊢
   exact hX
 · simp only [h1, decide_false, gdV_bool, Bool.false_eq_true, if_false, kv_some, pickV_bool, Bool.false_and] at hX ⊢
   exact hX
set_option maxHeartbeats 1000000 in
theorem law_ShardClock {u : V} {ns : List Int} (s : Ints h.next h u ns) : cl (Go.Abs.F.estafettelaw15_ShardClock E) [u] h fun r _ => r = .bool true := by
 refine cl_of ?_
 simp only [Go.Abs.F.estafettelaw15_ShardClock]
 refine cl_then begun15_spec ?_
 rintro r h1 ⟨rfl, rfl⟩
 simp only [not_bool, Bool.not_true, kv_some, ifV_bool, Bool.false_eq_true, if_false]
 obtain ⟨N, hN⟩ : ∃ N, h1.next = N := ⟨_, rfl⟩
 rw [hN] at s
 have s0 : Sep (frInts N u ns) h1 [] := ⟨by show N ≤ h1.next; omega, s, [], rfl⟩
 refine cl_then (shard_New0 s0) ?_
 intro p h2 s1
 refine ⟨fun n vs h' => ∃ (i : Nat) (now : Int), vs = [i64 now, i64 i] ∧ n = 30 - i ∧ 0 ≤ now ∧ now ≤ 1099511627776 ∧ Sep (frInts N u ns) h' (plShd p 0 1 now :: []), 30, ⟨0, 0, rfl, rfl, by omega, by omega, s1⟩, ?_⟩
 rintro n e h3 ⟨i, now, he, rfl, hn0, hn1, s2⟩
 simp only [List.cons.injEq, and_true] at he
 have hI : Ints N h3 u ns := s2.2.1
 have hlen : lenD .slice u h3 = some (i64 ns.length) := Ro.len hI h3
 simp only [he.1, he.2, hlen, kv_some, bin_lss]
 refine guard2 _ ?_
 rw [ifV_bool]
 by_cases hx : (i : Int) < (ns.length : Nat) ∧ (i : Int) < 30
 case neg =>
  have : (decide ((i : Int) < (ns.length : Nat)) && decide ((i : Int) < 30)) = false := by
   simp only [Bool.and_eq_false_iff, decide_eq_false_iff_not]
   omega
  simp only [this, Bool.false_eq_true, if_false]
 rw [decide_eq_true hx.1, decide_eq_true hx.2]
 simp only [Bool.and_self, if_true]
 have hil : i < ns.length := by omega
 have hg : ns[i]? = some ns[i] := List.getElem?_eq_getElem hil
 generalize ns[i] = x at hg
 have row : ∀ {g : AHeap}, Ints N g u ns → ∃ b off, indexAddrD (.slice 1) u (i64 i) = some (ptr b off) ∧ g.rd b off = some (i64 x) := fun q => Ints.row q hg
 obtain ⟨b1, o1, a1, a2⟩ := row hI
 have at' : ∀ {g : AHeap}, Ints N g u ns → g.rd b1 o1 = some (i64 x) := fun q => by
  obtain ⟨b, o, c1, c2⟩ := row q
  rw [a1] at c1
  cases c1
  exact c2
 have r27 := fun (t : Tri) => (rec_build 2 t (none, 0, 0)).1
 rw [a1, kv_some, ld_one, a2, kv_some]
 refine kP_of (v := .slice (some ⟨h3.next, 0, none⟩) 1 2) (g := h3.new (.cells (dInt.flat [x]) 1 .rw)) rfl ?_
 have s3 := s2.litInts [x] (by simp)
 generalize h3.new (.cells (dInt.flat [x]) 1 .rw) = h4 at s3 ⊢
 generalize h3.next = bn at s3 ⊢
 refine kv_of (r27 (some ⟨bn, 0, none⟩, 1, 2)) ?_
 refine cl_then (apply_clock (vN := mkS (some ⟨bn, 0, none⟩, 1, 2)) (vT := mkS (none, 0, 0)) ((Sep.noStrs s3).re3 [2, 1, 0] rfl)) ?_
 intro r5 h5 s5
 rw [clock1] at s5
 have s5 : Sep (frInts N u ns) h5 (plShd p 0 1 (if x ≤ 1099511627776 then max now x else now) :: []) := s5.re3 [0] rfl
 clear s3
 obtain ⟨now1, e1, hb0, hb1⟩ : ∃ now1, now1 = (if x ≤ 1099511627776 then max now x else now) ∧ 0 ≤ now1 ∧ now1 ≤ 1099511627776 := by
  refine ⟨_, rfl, ?_, ?_⟩ <;> split <;> omega
 rw [← e1] at s5
 simp only [a1, kv_some, ld_one, at' s5.2.1, bin_leq]
 refine ⟨fun vs h' => vs = [i64 now1] ∧ h' = h5, ?_, ?_⟩
 · rw [ifV_bool]
   by_cases hc : x ≤ 1099511627776
   · rw [if_pos hc] at e1
     simp only [hc, decide_true, if_true, a1, kv_some, ld_one, at' s5.2.1, max2, e1]
     exact ⟨trivial, trivial⟩
   · rw [if_neg hc] at e1
     simp only [hc, decide_false, Bool.false_eq_true, if_false, e1]
     exact ⟨trivial, trivial⟩
 rintro e17 h6 ⟨he17, rfl⟩
 simp only [List.cons.injEq, and_true] at he17
 simp only [he17, add_i64 now1 1 (by omega) (by omega), kv_some]
 refine kP_of (v := .slice (some ⟨h6.next, 0, none⟩) 2 4) (g := h6.new (.cells (dInt.flat [now1 + 1, 2]) 1 .rw)) rfl ?_
 have s6 := s5.litInts [now1 + 1, 2] (by simp)
 generalize h6.new (.cells (dInt.flat [now1 + 1, 2]) 1 .rw) = h7 at s6 ⊢
 generalize h6.next = bm at s6 ⊢
 refine kv_of (r27 (some ⟨bm, 0, none⟩, 2, 4)) ?_
 refine cl_then (apply_clock (vN := mkS (some ⟨bm, 0, none⟩, 2, 4)) (vT := mkS (none, 0, 0)) ((Sep.noStrs s6).re3 [2, 1, 0] rfl)) ?_
 intro r8 h8 s8
 rw [clock2] at s8
 have s8 : Sep (frInts N u ns) h8 (plShd p 0 1 now1 :: []) := s8.re3 [0] rfl
 clear s5 s6
 refine kP_of (v := .slice (some ⟨h8.next, 0, none⟩) 1 2) (g := h8.new (.cells (dInt.flat [now1 + 1]) 1 .rw)) rfl ?_
 have s9 := s8.litInts [now1 + 1] (by simp)
 generalize h8.new (.cells (dInt.flat [now1 + 1]) 1 .rw) = h9 at s9 ⊢
 generalize h8.next = bk at s9 ⊢
 refine kP_of (v := .slice (some ⟨h9.next, 0, none⟩) 1 2) (g := h9.new (.cells (dStr.flat [⟨#[120]⟩]) 1 .rw)) rfl ?_
 have s10 := s9.litStrs [⟨#[120]⟩] (by simp)
 generalize h9.new (.cells (dStr.flat [⟨#[120]⟩]) 1 .rw) = h10 at s10 ⊢
 generalize h9.next = bt at s10 ⊢
 refine kv_of (rec_build 2 (some ⟨bk, 0, none⟩, 1, 2) (some ⟨bt, 0, none⟩, 1, 2)).2 ?_
 refine cl_then (apply_clock (vN := mkS (some ⟨bk, 0, none⟩, 1, 2)) (vT := mkS (some ⟨bt, 0, none⟩, 1, 2)) (s10.re3 [2, 1, 0] rfl)) ?_
 intro r11 h11 s11
 rw [clock3] at s11
 refine cl_then (shard_Now s11) ?_
 rintro r12 h12 ⟨rfl, rfl⟩
 simp only [bin_neq, bne_self_eq_false, kv_some, ifV_bool, Bool.false_eq_true, if_false]
 refine kv_of (add_i64 (i : Int) 1 (by omega) (by omega)) ?_
 exact ⟨30 - (i + 1), by omega, i + 1, now1, by simp, rfl, hb0, hb1, s11.re3 [0] rfl⟩
end Go.Abs

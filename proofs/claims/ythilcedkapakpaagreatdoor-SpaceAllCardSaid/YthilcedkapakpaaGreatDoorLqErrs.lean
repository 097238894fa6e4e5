/- SpaceErrors, on abstract heaps. -/
import Derived.Test.YthilcedkapakpaaGreatDoorLqKinds
set_option linter.unusedSimpArgs false
set_option linter.unusedVariables false
namespace Go.Abs
open Go Go.Proofs
variable {E E0 E1 : FE} {h h' : AHeap} {p : V}

def frQs (N : Nat) (v : V) (l : List Oq) : Fr := ⟨N, fun h => Oqs N h v l, fun _ _ _ _ s m hf => Ro.mod s m hf⟩

theorem Oqs.row {N : Nat} {v : V} {l : List Oq} (s : Oqs N h v l) {i : Nat} {o : Oq} (hi : l[i]? = some o) :
    ∃ b off, indexAddrD (.slice 5) v (i64 i) = some (ptr b off) ∧ h.rd b (off + 4) = some (i64 o.n) ∧ ldD (.agg 5) (ptr b off) h = some o.agg := by
  obtain ⟨hlt, _⟩ := List.getElem?_eq_some_iff.1 hi
  obtain ⟨b, off, e, hr⟩ := Ro.at s hlt
  obtain ⟨b', off', e', _, hr'⟩ := Ro.row s (by decide) hlt
  rw [e] at e'
  cases e'
  refine ⟨b, off, e, (hr 4 (by decide)).trans (oqs_cells l i o hi 4 (by decide)), ?_⟩
  have : ((l.flatMap Oq.cells).drop (i * 5)).take 5 = o.cells := by
    apply List.ext_getElem?
    intro j
    rw [List.getElem?_take]
    split
    · rename_i hj
      rw [List.getElem?_drop, oqs_cells l i o hi j hj]
    · rename_i hj
      rw [List.getElem?_eq_none (by simp [Oq.cells]; omega)]
  rw [ld_agg, hr', this]
  rfl

theorem law_SpaceErrors (hM : MonoI E.I) (hE0 : E.I (E.k 0) = some (cl (Go.Abs.F.queue_Queue_Ack_1 E0))) (hE1 : E.I (E.k 1) = some (cl (Go.Abs.F.space_Space_Eq_1 E1))) (hE2 : E.I (E.k 2) = some (cl (Go.Abs.F.space_alike_1 E1))) {v : V} {l : List Oq} (s : Oqs h.next h v l) (hzl : ∀ o ∈ l, o.key.size ≤ BB ∧ o.val.size ≤ BB) (a : Int) (o : Oq) (hz : o.key.size ≤ BB ∧ o.val.size ≤ BB) :
    Go.Abs.F.estafettelaw8_SpaceErrors E [i64 a, v, o.agg] h fun v _ => v = .bool true := by
  have hB : BB ≤ maxLen := by decide
  simp only [Go.Abs.F.estafettelaw8_SpaceErrors, new5, kP_some]
  have s0 : Sep (frQs h.next v l) h [] := ⟨Nat.le_refl _, s, [], rfl⟩
  have s1 := s0.box o.cells 5
  have g1 := s1.get
  generalize h.new (.cells o.cells 5 .rw) = h1 at s1 g1 ⊢
  clear s s0
  generalize hN : h.next = N at s1 g1 ⊢
  have hbx : ∃ bx, bx = N := ⟨N, rfl⟩
  obtain ⟨bx, ebx⟩ := hbx
  have s1' : Sep (frQs N v l) h1 [plBox bx o.cells 5] := by rw [ebx]; exact s1
  rw [← ebx] at g1
  rw [show (ptr N 0 : V) = ptr bx 0 by rw [ebx]]
  clear s1 ebx
  refine cl_of ⟨rfl, ?_⟩
  simp only [not_bool, kv_some, ifV_bool, Bool.not_true, Bool.false_eq_true, if_false]
  obtain ⟨k, hk, hkk⟩ := kind3 a
  refine hkk h1 _ ?_
  refine cl_then (new_ok k 2 hk) ?_
  rintro ps h2 ⟨S0, f2, sp2, m2, hi0, _⟩
  have s2 := s1'.alloc (plSpS ps S0) m2 sp2
  refine ⟨fun n vs h' => ∃ (i : Nat) (S : SpSt), vs = [i64 i] ∧ i ≤ l.length ∧ i ≤ 30 ∧ n = l.length - i ∧ SI i S ∧ Sep (frQs N v l) h' [plSpS ps S, plBox bx o.cells 5], l.length, ⟨0, S0, rfl, by omega, by omega, by omega, hi0, s2⟩, ?_⟩
  rintro n e h3 ⟨i, S, he, hil, hi30, rfl, hi, s3⟩
  simp only [List.cons.injEq, and_true] at he
  have hI : Oqs N h3 v l := s3.2.1
  have hfin : cl (Go.Abs.F.space_Space_Clone E) [ps] h3 fun v55 h => kv (fieldAddrD (some 4) (ptr bx 0)) fun v56 => kv (ldD .one v56 h) fun v57 => kv (binD .bad .lss true v57 (.int .i64 0) h) fun v58 => kv (gdV v58 false (fieldAddrD (some 4) (ptr bx 0))) fun v60 =>
      kv (gdV v58 false (ldD .one v60 h)) fun v61 => kv (gdV v58 false (binD .bad .gtr true v61 (.int .i64 1099511627776) h)) fun v62 => kv (pickV v58 (.bool true) v62) fun v63 => ifV v63 (cl (Go.Abs.F.space_Space_Eq E) [ps, v55] h fun v66 h => v66 = .bool true) (
        kv (ldD (.agg 5) (ptr bx 0) h) fun v69 => cl (Go.Abs.F.space_Space_Do E) [ps, v69, (.int .i64 40)] h fun v70 h => kv (aExtract v70 0) fun v71 => kv (aExtract v70 1) fun v72 => kv (binD .bad .eql true v72 (.int .i64 0) h) fun v74 =>
        kv (gdV v74 false (some ps)) fun v76 => kv (gdV v74 false (some v55)) fun v77 => gdC v74 false h (fun K46 => cl (Go.Abs.F.space_Space_Eq E) [v76, v77] h fun v h => K46 v h) fun v78 h => kv (pickV v74 (.bool true) v78) fun v79 => v79 = .bool true) := by
    obtain ⟨fs, hs, _⟩ := s3.head
    refine cl_then (clone_ok hs hi) ?_
    rintro pc h4 ⟨f4, c4, m4⟩
    have s4 := (s3.alloc (plSpS pc S) m4 c4).dn2
    -- [ps, box, pc]
    have g4 := s4.up1.get
    refine n_cmp g4 ?_
    simp only [ifV_bool]
    obtain ⟨fa, ha, ka⟩ := s4.head
    obtain ⟨fb, hb, _⟩ := s4.h2
    cases hbad : (decide (o.n < 0) || decide (o.n > 1099511627776))
    · simp only [Bool.false_eq_true, if_false]
      rw [ld5 g4, kv_some]
      refine cl_then (act_ok hM hE0 ha hi (by omega) o 40 hz) ?_
      rintro r h5 ⟨c, f5, rfl, q5, m5⟩
      have s5 := ka (plSpS ps (S.act o 40 c).2.2) m5 q5
      simp only [extract_tuple, List.getElem?_toArray, List.getElem?_cons_zero, List.getElem?_cons_succ, kv_some, bin_eql, gdV_bool]
      by_cases he0 : (S.act o 40 c).2.1 = 0
      · simp only [he0, beq_self_eq_true, Bool.true_eq_false, if_false, kv_some]
        refine gdC_no (by decide) ?_
        simp only [pickV_bool, if_true, kv_some]
      · have hb0 : ((S.act o 40 c).2.1 == 0) = false := by simpa using he0
        rw [act_err S o 40 c he0] at s5
        simp only [hb0, if_true, kv_some]
        obtain ⟨fa', ha', _⟩ := s5.head
        obtain ⟨fb', hb', _⟩ := s5.h2
        refine gdC_yes rfl (cl_then (eq_ok hM hE1 hE2 ha' hb' hi (by omega)) ?_)
        rintro r h6 ⟨rfl, m6⟩
        simp only [pickV_bool, Bool.false_eq_true, if_false, kv_some]
    · simp only [if_true]
      refine cl_then (eq_ok hM hE1 hE2 ha hb hi (by omega)) ?_
      rintro r h6 ⟨rfl, m6⟩
      rfl
  simp only [he, Ro.len hI h3, kv_some, bin_lss]
  by_cases hx : i < l.length
  · have hx' : ((i : Int) < (l.length : Nat)) := by omega
    simp only [hx', decide_true, gdV_bool, if_true, kv_some, bin_lss, pickV_bool, ifV_bool, decide_eq_true_eq]
    by_cases h30 : (i : Int) < 30
    · rw [if_pos h30]
      obtain ⟨q, hq⟩ : ∃ q, l[i]? = some q := ⟨l[i], by simp [hx]⟩
      have hqz := hzl q (List.mem_of_getElem? hq)
      obtain ⟨b, off, ex, er, el⟩ := hI.row hq
      simp only [ex, kv_some, fieldAddr_ptr, ld_one, er, bin_geq, gdV_bool]
      have next : ∀ (S' : SpSt) (h6 : AHeap), SI (i + 1) S' → Sep (frQs N v l) h6 [plSpS ps S', plBox bx o.cells 5] →
          kv (binD .bad .add true (i64 i) (.int .i64 1) h6) fun v32 => ∃ m, m < l.length - i ∧ ∃ (i' : Nat) (S : SpSt), [v32] = [i64 i'] ∧ i' ≤ l.length ∧ i' ≤ 30 ∧ m = l.length - i' ∧ SI i' S ∧ Sep (frQs N v l) h6 [plSpS ps S, plBox bx o.cells 5] := by
        intro S' h6 hS' s6
        rw [add_i64 _ 1 (by omega) (by omega), kv_some]
        exact ⟨l.length - (i + 1), by omega, i + 1, S', by simp, by omega, by omega, rfl, hS', s6⟩
      have skip := next S h3 (hi.mono (by omega)) s3
      have doit : cl (Go.Abs.F.space_Space_Do E) [ps, q.agg, i64 i] h3 fun _ h => kv (binD .bad .add true (i64 i) (.int .i64 1) h) fun v32 => ∃ m, m < l.length - i ∧ ∃ (i' : Nat) (S : SpSt), [v32] = [i64 i'] ∧ i' ≤ l.length ∧ i' ≤ 30 ∧ m = l.length - i' ∧ SI i' S ∧
          Sep (frQs N v l) h [plSpS ps S, plBox bx o.cells 5] := by
        obtain ⟨fa, ha, ka⟩ := s3.head
        refine cl_then (act_ok hM hE0 ha hi (by omega) q i hqz) ?_
        rintro r h5 ⟨c, f5, rfl, q5, m5⟩
        exact next _ h5 (hi.step q i c ⟨Nat.le_trans hqz.1 hB, hqz.2⟩) (ka (plSpS ps (S.act q i c).2.2) m5 q5)
      by_cases h0 : q.n ≥ 0
      · simp only [h0, decide_true, if_true, kv_some, ex, fieldAddr_ptr, ld_one, er, bin_leq, pickV_bool, ifV_bool, decide_eq_true_eq]
        by_cases h1 : q.n ≤ 1099511627776
        · rw [if_pos h1]
          rw [el, kv_some]
          exact doit
        · rw [if_neg h1]
          exact skip
      · simp only [h0, decide_false, Bool.false_eq_true, if_false, kv_some, gdV_gone, pickV_bool, ifV_bool]
        exact skip
    · rw [if_neg h30]
      exact hfin
  · have hx' : ¬ ((i : Int) < (l.length : Nat)) := by omega
    simp only [hx', decide_false, gdV_bool, Bool.false_eq_true, if_false, kv_some, gdV_gone, pickV_bool, ifV_bool]
    exact hfin

end Go.Abs

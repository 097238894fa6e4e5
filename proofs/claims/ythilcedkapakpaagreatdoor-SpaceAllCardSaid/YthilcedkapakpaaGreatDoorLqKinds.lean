/- SpaceKinds, SpaceErrors, on abstract heaps. -/
import Derived.Test.YthilcedkapakpaaGreatDoorRepH
import Derived.Test.YthilcedkapakpaaGreatDoorSlc
set_option linter.unusedSimpArgs false
set_option linter.unusedVariables false
namespace Go.Abs
open Go Go.Proofs
variable {E E0 E1 : FE} {h h' : AHeap} {p : V}

def SpSt.kind : SpSt → Int
  | .tab _ => 1
  | .qu .. => 2
  | .to .. => 3

theorem SpS.lt {S : SpSt} {fp : List Nat} (s : SpS h fp p S) : ∀ x ∈ fp, x < h.next := by
  obtain ⟨pt, s⟩ := s
  exact s.lt
theorem SpS.same {S : SpSt} {fp : List Nat} (s : SpS h fp p S) (hl : h.next ≤ h'.next) (hs : ∀ x ∈ fp, h'.get x = h.get x) : SpS h' fp p S := by
  obtain ⟨pt, s⟩ := s
  exact ⟨pt, s.same hl hs⟩
def plSpS (p : V) (S : SpSt) : Pl := ⟨fun h f => SpS h f p S, fun _ _ q => q.lt, fun _ _ _ q hl hs => q.same hl hs⟩

/-- A new space. -/
theorem new_ok (k most : Int) (hk : k = 1 ∨ k = 2 ∨ k = 3) : cl (Go.Abs.F.space_New E) [i64 k, i64 most] h fun r h' => ∃ S fp, SpS h' fp r S ∧ Mod h [] h' fp ∧ SI 0 S ∧ S.kind = k := by
  rcases hk with rfl | rfl | rfl
  · refine cl_then (space_New_tab _) ?_
    rintro r h' ⟨pt, fp, s, m⟩
    exact ⟨.tab [], fp, ⟨pt, s⟩, m, ⟨by simp, by simp, by simp⟩, rfl⟩
  · refine cl_then (space_New_qu most) ?_
    rintro r h' ⟨pt, fp, s, m⟩
    exact ⟨.qu (min (max most 1) 9) 1 [] [], fp, ⟨pt, s⟩, m, ⟨by omega, by omega, by simp, by simp, by simp⟩, rfl⟩
  · refine cl_then (space_New_to _) ?_
    rintro r h' ⟨pt, fp, s, m⟩
    exact ⟨.to [] [], fp, ⟨pt, s⟩, m, ⟨by simp, by simp, by simp, by simp, by simp⟩, rfl⟩

/-- A kind is reckoned. -/
theorem kind3 (a : Int) : ∃ k : Int, (k = 1 ∨ k = 2 ∨ k = 3) ∧ ∀ (h : AHeap) (X : V → Prop), X (i64 k) →
    kv (binD .bad .rem true (i64 a) (.int .i64 3) h) fun v15 => kv (binD .bad .add true v15 (.int .i64 3) h) fun v16 => kv (binD .bad .rem true v16 (.int .i64 3) h) fun v17 => kv (binD .bad .add true (.int .i64 1) v17 h) X := by
  have h1 : -3 < a.tmod 3 ∧ a.tmod 3 < 3 := ⟨Int.lt_tmod_of_pos a (by decide), Int.tmod_lt_of_pos a (by decide)⟩
  have h2 : 0 ≤ (a.tmod 3 + 3).tmod 3 ∧ (a.tmod 3 + 3).tmod 3 < 3 := by
    rw [Int.tmod_eq_emod_of_nonneg (by omega)]
    omega
  refine ⟨1 + (a.tmod 3 + 3).tmod 3, by omega, fun h X hX => ?_⟩
  simp only [bin_rem]
  rw [if_neg (by decide), kv_some, add_i64 _ _ (by omega) (by omega), kv_some]
  simp only [bin_rem]
  rw [if_neg (by decide), kv_some, add_i64 _ _ (by omega) (by omega), kv_some]
  exact hX

def kindOf (fn : Int) : Int := if 3 ≤ fn ∧ fn ≤ 5 then 1 else if 6 ≤ fn ∧ fn ≤ 9 then 2 else if 10 ≤ fn ∧ fn ≤ 12 then 3 else 0

theorem act_other {S : SpSt} {o : Oq} {now : Int} {c : Nat} (hk : kindOf o.fn ≠ S.kind) : S.act o now c = (⟨#[]⟩, 1, S) := by
  unfold kindOf at hk
  cases S with
  | tab g =>
    simp only [SpSt.act]
    rw [if_neg]
    intro hf
    rw [if_pos hf] at hk
    exact hk rfl
  | qu a b i l =>
    simp only [SpSt.act]
    rw [if_neg]
    intro hf
    rw [if_neg (by omega), if_pos hf] at hk
    exact hk rfl
  | to l g =>
    simp only [SpSt.act]
    rw [if_neg]
    intro hf
    rw [if_neg (by omega), if_neg (by omega), if_pos hf] at hk
    exact hk rfl

/-- Is an operation's number none that may be? -/
theorem n_cmp {bx : Nat} {hp : AHeap} {o : Oq} (g0 : hp.get bx = some (.cells o.cells 5 .rw)) {X : V → Prop} (hX : X (.bool (decide (o.n < 0) || decide (o.n > 1099511627776)))) :
    kv (fieldAddrD (some 4) (ptr bx 0)) fun v21 => kv (ldD .one v21 hp) fun v22 => kv (binD .bad .lss true v22 (.int .i64 0) hp) fun v23 => kv (gdV v23 false (fieldAddrD (some 4) (ptr bx 0))) fun v25 => kv (gdV v23 false (ldD .one v25 hp)) fun v26 =>
      kv (gdV v23 false (binD .bad .gtr true v26 (.int .i64 1099511627776) hp)) fun v27 => kv (pickV v23 (.bool true) v27) X := by
  have r4 : hp.rd bx 4 = some (i64 o.n) := rd_of g0 4
  simp only [fieldAddr_ptr, kv_some, ld_one, Nat.zero_add, r4, bin_lss, gdV_bool]
  cases h1 : decide (o.n < 0) with
  | true => simpa only [h1, Bool.true_eq_false, if_false, if_true, kv_some, gdV_gone, pickV_bool, Bool.true_or] using hX
  | false => simpa only [h1, if_true, kv_some, ld_one, r4, bin_gtr, pickV_bool, Bool.false_eq_true, if_false, Bool.false_or] using hX

theorem law_SpaceKinds (hM : MonoI E.I) (hE0 : E.I (E.k 0) = some (cl (Go.Abs.F.queue_Queue_Ack_1 E0))) (hE1 : E.I (E.k 1) = some (cl (Go.Abs.F.space_Space_Eq_1 E1))) (hE2 : E.I (E.k 2) = some (cl (Go.Abs.F.space_alike_1 E1))) (a : Int) (o : Oq) (hz : o.key.size ≤ BB ∧ o.val.size ≤ BB) :
    Go.Abs.F.estafettelaw8_SpaceKinds E [i64 a, o.agg] h fun v _ => v = .bool true := by
  simp only [Go.Abs.F.estafettelaw8_SpaceKinds, new5, kP_some]
  have s0 : Sep ⟨h.next, fun _ => True, fun _ _ _ _ _ _ _ => trivial⟩ h [] := ⟨Nat.le_refl _, trivial, [], rfl⟩
  have s1 := s0.box o.cells 5
  have g1 := s1.get
  generalize h.new (.cells o.cells 5 .rw) = h1 at s1 g1 ⊢
  generalize h.next = bx at s1 g1 ⊢
  generalize (⟨bx, fun _ => True, fun _ _ _ _ _ _ _ => trivial⟩ : Fr) = X at s1
  refine cl_of ⟨rfl, ?_⟩
  simp only [not_bool, kv_some, ifV_bool, Bool.not_true, Bool.false_eq_true, if_false]
  obtain ⟨k, hk, hkk⟩ := kind3 a
  refine hkk h1 _ ?_
  refine cl_then (new_ok k 3 hk) ?_
  rintro ps h2 ⟨S, f2, sp2, m2, hi, hkind⟩
  have s2 := (s1.alloc (plSpS ps S) m2 sp2).up1
  have g2 := s2.get
  refine n_cmp g2 ?_
  simp only [ifV_bool]
  cases hbad : (decide (o.n < 0) || decide (o.n > 1099511627776))
  · simp only [Bool.false_eq_true, if_false]
    refine ⟨fun vs h' => vs = [i64 (kindOf o.fn)] ∧ h' = h2, ?_, ?_⟩
    · have r0 : h2.rd bx 0 = some (i64 o.fn) := rd_of g2 0
      have step : ∀ {lo hi : Int} {A B : Prop}, (if lo ≤ o.fn ∧ o.fn ≤ hi then A else B) →
          (kv (fieldAddrD (some 0) (ptr bx 0)) fun v30 => kv (ldD .one v30 h2) fun v31 => kv (binD .bad .geq true v31 (.int .i64 lo) h2) fun v32 => kv (gdV v32 true (fieldAddrD (some 0) (ptr bx 0))) fun v34 => kv (gdV v32 true (ldD .one v34 h2)) fun v35 =>
            kv (gdV v32 true (binD .bad .leq true v35 (.int .i64 hi) h2)) fun v36 => kv (pickV v32 v36 (.bool false)) fun v37 => ifV v37 A B) := by
        intro lo hi A B hAB
        simp only [fieldAddr_ptr, kv_some, ld_one, Nat.zero_add, r0, bin_geq, gdV_bool]
        by_cases h1 : o.fn ≥ lo
        · simp only [h1, decide_true, if_true, kv_some, ld_one, r0, bin_leq, pickV_bool, ifV_bool, decide_eq_true_eq]
          by_cases h2 : o.fn ≤ hi
          · rw [if_pos h2]; rwa [if_pos ⟨h1, h2⟩] at hAB
          · rw [if_neg h2]; rwa [if_neg (by omega)] at hAB
        · simp only [h1, decide_false, Bool.false_eq_true, if_false, kv_some, gdV_gone, pickV_bool, ifV_bool]
          rwa [if_neg (by omega)] at hAB
      refine step ?_
      by_cases h1 : 3 ≤ o.fn ∧ o.fn ≤ 5
      · rw [if_pos h1]; exact ⟨by simp only [kindOf, if_pos h1], rfl⟩
      rw [if_neg h1]
      refine step ?_
      by_cases h2 : 6 ≤ o.fn ∧ o.fn ≤ 9
      · rw [if_pos h2]; exact ⟨by simp only [kindOf, if_neg h1, if_pos h2], rfl⟩
      rw [if_neg h2]
      refine step ?_
      by_cases h3 : 10 ≤ o.fn ∧ o.fn ≤ 12
      · rw [if_pos h3]; exact ⟨by simp only [kindOf, if_neg h1, if_neg h2, if_pos h3], rfl⟩
      rw [if_neg h3]
      exact ⟨by simp only [kindOf, if_neg h1, if_neg h2, if_neg h3], rfl⟩
    rintro e h3 ⟨he, e3⟩
    simp only [List.cons.injEq, and_true] at he
    rw [he, e3]
    obtain ⟨fs, hs, _⟩ := s2.up1.head
    refine cl_then (clone_ok hs hi) ?_
    rintro pc h4 ⟨f4, c4, m4⟩
    have s4 := (s2.alloc (plSpS pc S) m4 c4).dn2
    have g4 := s4.get
    rw [ld5 g4, kv_some]
    obtain ⟨fq, hq, kq⟩ := s4.h1
    refine cl_then (act_ok hM hE0 hq hi (by omega) o 5 hz) ?_
    rintro r h5 ⟨c, f5, rfl, q5, m5⟩
    have s5 := kq (plSpS ps (S.act o 5 c).2.2) m5 q5
    simp only [extract_tuple, List.getElem?_toArray, List.getElem?_cons_zero, List.getElem?_cons_succ, kv_some, bin_eql, gdV_bool]
    by_cases hsame : kindOf o.fn = k
    · simp only [hsame, beq_self_eq_true, Bool.true_eq_false, if_false, kv_some, gdV_gone, pickV_bool, if_true]
      refine gdC_gone ?_
      simp only [gdV_gone, kv_some]
    · have hb : (kindOf o.fn == k) = false := by simpa using hsame
      rw [act_other (by rw [hkind]; exact hsame)] at s5 ⊢
      simp only [hb, if_true, kv_some, bin_eql, beq_self_eq_true, gdV_bool, str_eql, decide_true, pickV_bool]
      obtain ⟨fa, ha, _⟩ := s5.h1
      obtain ⟨fb, hb', _⟩ := s5.h2
      refine gdC_yes rfl (cl_then (eq_ok hM hE1 hE2 ha hb' hi (by omega)) ?_)
      rintro r h6 ⟨rfl, m6⟩
      simp only [pickV_bool, if_true, kv_some, Bool.false_eq_true, if_false]
  · simp only [if_true]

end Go.Abs

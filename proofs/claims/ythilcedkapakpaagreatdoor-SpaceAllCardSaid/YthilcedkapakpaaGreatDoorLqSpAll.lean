/- SpaceAll, on abstract heaps. -/
import Derived.Test.YthilcedkapakpaaGreatDoorRep43
import Derived.Test.YthilcedkapakpaaGreatDoorLqSpFetch
set_option linter.unusedSimpArgs false
set_option linter.unusedVariables false
namespace Go.Abs
open Go Go.Proofs
variable {E E0 E1 : FE} {h h' : AHeap} {p q : V} {k : Nat}

theorem law_SpaceAll (hM : MonoI E.I) (hE0 : E.I (E.k 0) = some (cl (Go.Abs.F.queue_Queue_Ack_1 E0))) (hE1 : E.I (E.k 1) = some (cl (Go.Abs.F.space_Space_Eq_1 E1))) (hE2 : E.I (E.k 2) = some (cl (Go.Abs.F.space_alike_1 E1))) {v u : V} {l : List Oq} {ns : List Int} (s : Oqs h.next h v l) (t : Ints h.next h u ns) (a most : Int) :
    Go.Abs.F.estafettelaw8_SpaceAll E [i64 a, i64 most, v, u] h fun v _ => v = .bool true := by
  simp only [Go.Abs.F.estafettelaw8_SpaceAll]
  refine cl_of ⟨rfl, ?_⟩
  simp only [not_bool, kv_some, ifV_bool, Bool.not_true, Bool.false_eq_true, if_false]
  have s0 : Sep (frQN h.next v l u ns) h [] := ⟨Nat.le_refl _, ⟨s, t⟩, [], rfl⟩
  generalize h.next = N at s0
  clear s t
  obtain ⟨kd, hkd, hkk⟩ := kind3 a
  refine hkk h _ ?_
  refine cl_then (new_both kd most hkd) ?_
  rintro ps h1 ⟨S, f1, sp1, m1, i1, ki1, R1⟩
  have s1 := s0.alloc (plSpS ps S) m1 sp1
  refine cl_then (ref8_New kd most) ?_
  rintro pw h2 ⟨f2, w2, m2⟩
  have s2 := (s1.alloc (plSp pw _) m2 w2).up1
  generalize (⟨⟨#[]⟩, kd, [], max 1 (min most 9), [], [], 1⟩ : SpM) = sm at R1 s2 w2
  obtain ⟨fs, hs, _⟩ := s2.head
  refine cl_then (clone_ok hs i1) ?_
  rintro pc h3 ⟨f3, c3, m3⟩
  have s3 := (s2.alloc (plSpS pc S) m3 c3).dn2
  obtain ⟨fw, hw, _⟩ := s3.h1
  refine cl_then (ref8_Clone hw (by have := rel_len R1 i1 (by omega); omega)) ?_
  rintro pd h4 ⟨f4, d4, m4⟩
  have s4 := (s3.alloc (plSp pd sm) m4 d4).dn3
  refine ⟨fun n vs h' => ∃ (i : Nat) (pc pd : V) (S : SpSt) (sm : SpM) (C : SpSt) (cm : SpM), vs = [pc, pd, i64 i] ∧ i ≤ l.length ∧ i ≤ 60 ∧ n = l.length - i ∧ SAll i S sm C cm ∧ Sep (frQN N v l u ns) h' [plSpS ps S, plSp pw sm, plSpS pc C, plSp pd cm], l.length,
    ⟨0, pc, pd, S, sm, S, sm, rfl, by omega, by omega, by omega, ⟨i1, ki1, R1, i1, ki1, R1, rfl⟩, s4⟩, ?_⟩
  clear s4 d4 m4 hw s3 c3 m3 hs s2 w2 m2 s1 sp1 m1 R1 ki1 i1
  rintro n e h5 ⟨i, pc, pd, S, sm, C, cm, he, hil, hi60, rfl, A, s5⟩
  simp only [List.cons.injEq, and_true] at he
  obtain ⟨e1, e2, e3⟩ := he
  have hI : Oqs N h5 v l := s5.2.1.1
  have hfin : cl (Go.Abs.F.space_Space_Clone E) [ps] h5 fun v152 h => cl (Go.Abs.F.space_Space_Eq E) [ps, v152] h fun v153 h => v153 = .bool true := by
    obtain ⟨fs, hs, _⟩ := s5.head
    refine cl_then (clone_ok hs A.si) ?_
    rintro pe h6 ⟨f6, c6, m6⟩
    have s6 := (s5.alloc (plSpS pe S) m6 c6)
    obtain ⟨fa, ha, _⟩ := s6.h1
    obtain ⟨fb, hb, _⟩ := s6.head
    refine cl_then (eq_ok hM hE1 hE2 ha hb A.si (by omega)) ?_
    rintro r h7 ⟨rfl, _⟩
    rfl
  simp only [e1, e2, e3, Ro.len hI h5, kv_some, bin_lss]
  by_cases hx : i < l.length
  · have hx' : ((i : Int) < (l.length : Nat)) := by omega
    simp only [hx', decide_true, gdV_bool, if_true, kv_some, bin_lss, pickV_bool, ifV_bool, decide_eq_true_eq]
    by_cases h60 : (i : Int) < 60
    · rw [if_pos h60]
      obtain ⟨o, ho⟩ : ∃ o, l[i]? = some o := ⟨l[i], by simp [hx]⟩
      obtain ⟨b, off, ex, er, el⟩ := hI.row ho
      have e0 : newD none (.agg #[(.int .i64 0), (.string ⟨#[]⟩), (.string ⟨#[]⟩), (.string ⟨#[]⟩), (.int .i64 0)]) h5 = some (ptr h5.next 0, h5.new (.cells [i64 0, str ⟨#[]⟩, str ⟨#[]⟩, str ⟨#[]⟩, i64 0] 5 .rw)) := rfl
      simp only [ex, kv_some, el, e0, kP_some]
      have s6 := s5.box [i64 0, str ⟨#[]⟩, str ⟨#[]⟩, str ⟨#[]⟩, i64 0] 5
      have g6 := s6.get
      generalize h5.new (.cells [i64 0, str ⟨#[]⟩, str ⟨#[]⟩, str ⟨#[]⟩, i64 0] 5 .rw) = h6 at s6 g6 ⊢
      generalize h5.next = bx at s6 g6 ⊢
      have st : stD (some 5) (ptr bx 0) o.agg h6 = some (h6.put bx (.cells o.cells 5 .rw)) := st_of (vs := o.cells) g6 (by decide) rfl rfl rfl (by show 0 + 5 ≤ 5; decide)
      rw [st, kH_some]
      have s7 := s6.write (cs' := o.cells)
      have g7 := s7.get
      generalize h6.put bx (.cells o.cells 5 .rw) = h7 at s7 g7 ⊢
      have ln : ∀ (x : ByteArray) (h : AHeap), lenD .str (str x) h = some (i64 (x.size : Nat)) := fun _ _ => rfl
      have r2 : h7.rd bx 2 = some (str o.key) := rd_of g7 2
      have r3 : h7.rd bx 3 = some (str o.val) := rd_of g7 3
      simp only [fieldAddr_ptr, kv_some, ld_one, Nat.zero_add, r2, r3, ln, min2]
      rw [show (min (o.key.size : Int) 30) = ((min o.key.size 30 : Nat) : Int) by omega, show (min (o.val.size : Int) 120) = ((min o.val.size 120 : Nat) : Int) by omega, slice_str _ (Nat.min_le_left _ _), kv_some, slice_str _ (Nat.min_le_left _ _), kv_some]
      rw [st_one g7 (by decide) rfl rfl (by simp [Oq.cells]), kH_some]
      have s8 := s7.write (cs' := o.cells.set 2 (str (o.key.extract 0 (min o.key.size 30))))
      have g8 := s8.get
      generalize h7.put bx (.cells (o.cells.set 2 (str (o.key.extract 0 (min o.key.size 30)))) 5 .rw) = h8 at s8 g8 ⊢
      refine ⟨slice_str _ (Nat.min_le_left _ _), ?_⟩
      rw [st_one g8 (by decide) rfl rfl (by simp [Oq.cells]), kH_some]
      have s9 := s8.write (cs' := o.cut.cells)
      have g9 := s9.get
      have ecs : (o.cells.set 2 (str (o.key.extract 0 (min o.key.size 30)))).set 3 (str (o.val.extract 0 (min o.val.size 120))) = o.cut.cells := rfl
      rw [ecs]
      generalize h8.put bx (.cells o.cut.cells 5 .rw) = h9 at s9 g9 ⊢
      clear s8 g8 s7 g7 s6 g6 st e0 r2 r3 s5 hfin hI ex er el
      have hck := o.cut_key
      have hcv := o.cut_val
      generalize o.cut = o' at s9 g9 hck hcv ⊢
      have hB : 120 ≤ BB := by decide
      have hM' : 120 ≤ maxLen := by decide
      have hz : o'.key.size ≤ BB ∧ o'.val.size ≤ BB := ⟨by omega, by omega⟩
      have hT : Ints N h9 u ns := s9.2.1.2
      have hnow : ∀ X : (Nat → V) → AHeap → Prop, (∀ (now : Int) (e49 : Nat → V), e49 16 = i64 now → X e49 h9) →
        (kv (lenD .slice u h9) fun v72_35 => kv (binD .bad .lss false (i64 i) v72_35 h9) fun v73_36 => kv (gdV v73_36 true (some u)) fun v75_37 => kv (gdV v73_36 true (some (i64 i))) fun v76_38 => kv (gdV v73_36 true (indexAddrD (.slice 1) v75_37 v76_38)) fun v77_39 =>
          kv (gdV v73_36 true (ldD .one v77_39 h9)) fun v78_40 => kv (gdV v73_36 true (binD .bad .geq true v78_40 (.int .i64 0) h9)) fun v79_41 => kv (pickV v73_36 v79_41 (.bool false)) fun v80_42 => kv (gdV v80_42 true (some u)) fun v82_43 =>
          kv (gdV v80_42 true (some (i64 i))) fun v83_44 => kv (gdV v80_42 true (indexAddrD (.slice 1) v82_43 v83_44)) fun v84_45 => kv (gdV v80_42 true (ldD .one v84_45 h9)) fun v85_46 => kv (gdV v80_42 true (binD .bad .leq true v85_46 (.int .i64 1099511627776) h9)) fun v86_47 =>
          kv (pickV v80_42 v86_47 (.bool false)) fun v87_48 => ∃ K49 : List V → AHeap → Prop, (ifV v87_48 (kv (indexAddrD (.slice 1) u (i64 i)) fun v90_50 => kv (ldD .one v90_50 h9) fun v91_51 => K49 [v91_51] h9) (K49 [i64 i] h9)) ∧ ∀ (e49 : Nat → V) (h : AHeap), K49 [(e49 16)] h → X e49 h) := by
        intro X hX
        have fin : ∀ c : Bool, (c = true → ∃ (x : Int) (b off : Nat), indexAddrD (.slice 1) u (i64 i) = some (ptr b off) ∧ h9.rd b off = some (i64 x)) →
            ∃ K49 : List V → AHeap → Prop, (ifV (.bool c) (kv (indexAddrD (.slice 1) u (i64 i)) fun v90_50 => kv (ldD .one v90_50 h9) fun v91_51 => K49 [v91_51] h9) (K49 [i64 i] h9)) ∧ ∀ (e49 : Nat → V) (h : AHeap), K49 [(e49 16)] h → X e49 h := by
          intro c hc
          refine ⟨fun vs h' => ∃ x : Int, vs = [i64 x] ∧ h' = h9, ?_, ?_⟩
          · cases c with
            | true =>
              obtain ⟨x, b, off, i1, i2⟩ := hc rfl
              simp only [ifV_bool, if_true, i1, kv_some, ld_one, i2]
              exact ⟨x, rfl, trivial⟩
            | false =>
              simp only [ifV_bool, Bool.false_eq_true, if_false]
              exact ⟨i, rfl, trivial⟩
          · rintro e49 h' ⟨x, hx, rfl⟩
            simp only [List.cons.injEq, and_true] at hx
            exact hX x e49 hx
        simp only [Ro.len hT h9, kv_some, bin_lss]
        by_cases hn : i < ns.length
        · have hn' : ((i : Int) < (ns.length : Nat)) := by omega
          obtain ⟨b, off, i1, i2⟩ := hT.row (i := i) (x := ns[i]) (by simp [hn])
          simp only [hn', decide_true, gdV_bool, if_true, kv_some, i1, ld_one, i2, bin_geq, pickV_bool]
          by_cases h0 : ns[i] ≥ 0
          · simp only [h0, decide_true, if_true, kv_some, i1, ld_one, i2, bin_leq, pickV_bool]
            have := fin (decide (ns[i] ≤ 1099511627776)) fun _ => ⟨_, _, _, i1, i2⟩
            simpa only [i1, kv_some, ld_one, i2] using this
          · simp only [h0, decide_false, Bool.false_eq_true, if_false, kv_some, gdV_gone, pickV_bool]
            have := fin false fun _ => ⟨_, _, _, i1, i2⟩
            simpa only [i1, kv_some, ld_one, i2] using this
        · have hn' : ¬ ((i : Int) < (ns.length : Nat)) := by omega
          simp only [hn', decide_false, gdV_bool, Bool.false_eq_true, if_false, kv_some, gdV_gone, pickV_bool]
          exact fin false fun h => by cases h
      refine hnow _ fun now e49 he49 => ?_
      clear hnow hT
      rw [he49]
      have s9' := s9.dn4
      have g9' : h9.get bx = some (.cells o'.cells 5 .rw) := g9
      refine n_cmp g9 ?_
      simp only [ifV_bool]
      have next : ∀ (pc pd : V) (S : SpSt) (sm : SpM) (C : SpSt) (cm : SpM) (h6 : AHeap), SAll (i + 1) S sm C cm → Sep (frQN N v l u ns) h6 [plSpS ps S, plSp pw sm, plSpS pc C, plSp pd cm] →
          kv (binD .bad .add true (i64 i) (.int .i64 1) h6) fun v32 => ∃ m, m < l.length - i ∧ ∃ (i' : Nat) (pc' pd' : V) (S : SpSt) (sm : SpM) (C : SpSt) (cm : SpM), [pc, pd, v32] = [pc', pd', i64 i'] ∧ i' ≤ l.length ∧ i' ≤ 60 ∧ m = l.length - i' ∧ SAll i' S sm C cm ∧
            Sep (frQN N v l u ns) h6 [plSpS ps S, plSp pw sm, plSpS pc' C, plSp pd' cm] := by
        intro pc pd S sm C cm h6 A' s6
        rw [add_i64 _ 1 (by omega) (by omega), kv_some]
        exact ⟨l.length - (i + 1), by omega, i + 1, pc, pd, S, sm, C, cm, by simp, by omega, by omega, rfl, A', s6⟩
      cases hbad : (decide (o'.n < 0) || decide (o'.n > 1099511627776))
      · simp only [Bool.false_eq_true, if_false]
        rw [ld5 g9, kv_some]
        obtain ⟨fa, ha, ka⟩ := s9'.head
        refine cl_then (act_ok hM hE0 ha A.si (by omega) o' now hz) ?_
        rintro r h10 ⟨c, fA, rfl, qA, mA⟩
        have s10 := ka (plSpS ps (S.act o' now c).2.2) mA qA
        have g10 : h10.get bx = some (.cells o'.cells 5 .rw) := s10.getM (by simp)
        simp only [extract_tuple, List.getElem?_toArray, List.getElem?_cons_zero, List.getElem?_cons_succ, kv_some]
        rw [ld5 g10, kv_some]
        obtain ⟨fw, hw, kw⟩ := s10.h1
        refine cl_then (doc_act hw A.rs A.si (by omega) (fun l g hS x hx => ?_) o' now hz) ?_
        · have hk := A.ki
          rw [hS] at hk
          have := hk.1 x hx
          omega
        rintro r h11 ⟨fB, sm', rfl, qB, mB, hrel⟩
        have s11 := kw (plSp pw sm') mB qB
        have R' := hrel c
        obtain ⟨ac1, ac2⟩ := act_c S o' now c
        have i' : SI (i + 1) (S.act o' now c).2.2 := A.si.step o' now c ⟨by omega, hz.2⟩
        have ki' := A.ki.step o' now c ⟨hck, hcv⟩
        have kd' := act_kind S o' now c
        rw [ac1, ac2]
        generalize (S.act o' now c).2.2 = S' at s11 R' i' ki' kd'
        simp only [extract_tuple, List.getElem?_toArray, List.getElem?_cons_zero, List.getElem?_cons_succ, kv_some, str_neq, decide_true, Bool.not_true, gdV_bool, if_true, bin_neq, bne_self_eq_false, pickV_bool, Bool.false_eq_true, if_false]
        have same : ∀ {p w : V} {S : SpSt} {s : SpM} {L : List Pl} {hh : AHeap}, SI (i + 1) S → KI S → RelS S s → Sep (frQN N v l u ns) hh L → (∃ fa, SpS hh fa p S) → (∃ fb, Sp hh fb w s) →
            cl (Go.Abs.F.estafettelaw8_Same E) [p, w] hh fun r h' => r = .bool true ∧ Sep (frQN N v l u ns) h' L := by
          rintro p w S s L hh hi hk R sp ⟨fa, ha⟩ ⟨fb, hb⟩
          refine cl_then (law_Same ha hb R hi (by omega) fun l g hS e he => ?_) ?_
          · rw [hS] at hk
            exact hk.2 e he
          · rintro r h' ⟨rfl, m⟩
            exact ⟨rfl, sp.skip m⟩
        have iC : SI (i + 1) C := A.sic.mono (by omega)
        refine gdC_yes rfl (cl_then (same i' ki' R' s11 ?_ ?_) ?_)
        · obtain ⟨fa, ha, _⟩ := s11.head; exact ⟨fa, ha⟩
        · obtain ⟨fa, ha, _⟩ := s11.h1; exact ⟨fa, ha⟩
        rintro r h12 ⟨rfl, s12⟩
        simp only [not_bool, Bool.not_true, kv_some, gdV_bool, if_true, pickV_bool, Bool.false_eq_true, if_false]
        refine gdC_yes rfl (cl_then (same iC A.kic A.rc s12 ?_ ?_) ?_)
        · obtain ⟨fa, ha, _⟩ := s12.h2; exact ⟨fa, ha⟩
        · obtain ⟨fa, ha, _⟩ := s12.h3; exact ⟨fa, ha⟩
        rintro r h13 ⟨rfl, s13⟩
        simp only [not_bool, Bool.not_true, kv_some, gdV_bool, if_true, pickV_bool, Bool.false_eq_true, if_false]
        obtain ⟨fa, ha, _⟩ := s13.head
        obtain ⟨fb, hb, _⟩ := s13.h2
        refine gdC_yes rfl (cl_then (EqG hM hE1 hE2 ha hb i' iC (by omega) R' A.rc (kd'.trans A.kd.symm)) ?_)
        rintro r h14 ⟨⟨x, rfl, hxx⟩, m14⟩
        have s14 := s13.skip m14
        obtain ⟨fa, ha, _⟩ := s14.h1
        obtain ⟨fb, hb, _⟩ := s14.h3
        have hkds : sm'.kind = cm.kind := by rw [rel_kind R', rel_kind A.rc, kd', A.kd]
        refine gdC_yes rfl (cl_then (doc_Eq ha hb hkds (rel_len R' i' (by omega))) ?_)
        rintro r h15 ⟨e15, y, rfl, hyy⟩
        rw [e15]
        have exy : x = y := by
          have := rel_eq R' A.rc (kd'.trans A.kd.symm)
          rw [← hyy, ← hxx] at this
          cases x <;> cases y <;> simp_all
        subst exy
        simp only [bin_bool_ne, beq_self_eq_true, Bool.not_true, kv_some, gdV_bool, if_true, pickV_bool, Bool.false_eq_true, if_false, ifV_bool, bin_rem]
        rw [if_neg (by decide), kv_some]
        simp only [bin_eql, kv_some, ifV_bool]
        have A' : SAll (i + 1) S' sm' C cm := ⟨i', ki', R', iC, A.kic, A.rc, A.kd.trans kd'.symm⟩
        have s14' := s14.up4.drop
        cases h7 : ((i : Int).tmod 7 == 3)
        · simp only [Bool.false_eq_true, if_false]
          exact next _ _ _ _ _ _ _ A' s14'
        · simp only [if_true]
          obtain ⟨fs, hs, _⟩ := s14'.head
          refine cl_then (clone_ok hs i') ?_
          rintro pc' hA ⟨f3, c3, m3⟩
          have sA := (s14'.alloc (plSpS pc' S') m3 c3).dn2
          obtain ⟨fw, hw, _⟩ := sA.h1
          refine cl_then (ref8_Clone hw (by have := rel_len R' i' (by omega); omega)) ?_
          rintro pd' hB ⟨f4, d4, m4⟩
          have sB := (sA.alloc (plSp pd' sm') m4 d4).dn3
          exact next _ _ _ _ _ _ _ ⟨i', ki', R', i', ki', R', rfl⟩ (sB.up4.drop.up4.drop)
      · simp only [if_true]
        exact next _ _ _ _ _ _ _ ⟨A.si.mono (by omega), A.ki, A.rs, A.sic.mono (by omega), A.kic, A.rc, A.kd⟩ (s9'.up4.drop)
    · rw [if_neg h60]
      exact hfin
  · have hx' : ¬ ((i : Int) < (l.length : Nat)) := by omega
    simp only [hx', decide_false, gdV_bool, Bool.false_eq_true, if_false, kv_some, gdV_gone, pickV_bool, ifV_bool]
    exact hfin

end Go.Abs

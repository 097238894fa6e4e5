/- TableLast, on abstract heaps. -/
import Derived.Test.YthilcedkapakpaaGreatDoorRep11
import Derived.Test.YthilcedkapakpaaGreatDoorRep1
set_option linter.unusedSimpArgs false
set_option linter.unusedVariables false
namespace Go.Abs
open Go
variable {E E0 : FE} {h : AHeap}

theorem mem_del {k : ByteArray} : ∀ {g : List En} {e : En}, e ∈ delE k g → e ∈ g
  | [], e, h => by simp [delE] at h
  | a :: g, e, h => by
    simp only [delE] at h
    split at h
    · simp [h]
    · simp only [List.mem_cons] at h ⊢
      rcases h with h | h
      · exact .inl h
      · exact .inr (mem_del h)

theorem law_TableLast {v : V} {l : List OpA} (s : Ops h.next h v l) (key : ByteArray) :
    F.estafettelaw8_TableLast E [v, str key] h fun v _ => v = .bool true := by
  simp only [F.estafettelaw8_TableLast]
  refine cl_of ⟨rfl, ?_⟩
  simp only [not_bool, kv_some, ifV_bool, Bool.not_true, Bool.false_eq_true, if_false]
  generalize hN : h.next = N at s
  refine cl_then table_New ?_
  rintro p h1 ⟨f1, t1, m1⟩
  have s1 := s.mod m1 (by simp)
  have u1 := m1.above (N := N) (by omega) (by simp)
  refine ⟨fun k l' h' => ∃ (val : ByteArray) (ok : Bool) (i : Int) (fp' : List Nat) (g : List En), l' = [str val, .bool ok, i64 i] ∧ 0 ≤ i ∧ i ≤ l.length ∧ k = (l.length - i).toNat ∧ Tab h' fp' p g ∧
      (∀ e ∈ g, ∃ s, e.v = str s) ∧ (∀ x ∈ fp', N ≤ x) ∧ Ops N h' v l ∧ getE key g = (if ok then some (str val) else none) ∧ (ok = false → val = ⟨#[]⟩),
    l.length, ⟨⟨#[]⟩, false, 0, f1, [], rfl, by omega, by omega, by omega, t1, by simp, u1, s1, rfl, fun _ => rfl⟩, ?_⟩
  rintro k e g ⟨val, ok, i, f2, gr, hl, i0, i1, rfl, t2, hv2, u2, s2, hk, hval⟩
  simp only [List.cons.injEq, and_true] at hl
  obtain ⟨hl1, hl2, hl3⟩ := hl
  rw [hl1, hl2, hl3]
  have next : ∀ (val : ByteArray) (ok : Bool) (fp' : List Nat) (gr : List En) (h' : AHeap), i < l.length → i < 60 → Tab h' fp' p gr → (∀ e ∈ gr, ∃ s, e.v = str s) → (∀ x ∈ fp', N ≤ x) → Ops N h' v l →
      getE key gr = (if ok then some (str val) else none) → (ok = false → val = ⟨#[]⟩) →
      kv (binD .bad .add true (i64 i) (.int .i64 1) h') fun w => ∃ m, m < (↑l.length - i).toNat ∧ ∃ (val' : ByteArray) (ok' : Bool) (i' : Int) (fp' : List Nat) (g : List En), [str val, .bool ok, w] = [str val', .bool ok', i64 i'] ∧ 0 ≤ i' ∧ i' ≤ l.length ∧
        m = (l.length - i').toNat ∧ Tab h' fp' p g ∧ (∀ e ∈ g, ∃ s, e.v = str s) ∧ (∀ x ∈ fp', N ≤ x) ∧ Ops N h' v l ∧ getE key g = (if ok' then some (str val') else none) ∧ (ok' = false → val' = ⟨#[]⟩) := by
    intro val ok fp' gr h' hi1 hi2 a1 a2 a3 a4 a5 a6
    rw [add_i64 i 1 (by omega) (by omega), kv_some]
    exact ⟨(l.length - (i + 1)).toNat, by omega, val, ok, i + 1, fp', gr, rfl, by omega, by omega, rfl, a1, a2, a3, a4, a5, a6⟩
  simp only [Ro.len s2 g, kv_some, bin_lss, gdV_bool]
  by_cases hj : i < (l.length : Int)
  · have ej : decide (i < (l.length : Int)) = true := by simpa using hj
    simp only [ej, if_true, kv_some, bin_lss, pickV_bool, ifV_bool, decide_eq_true_eq]
    by_cases h60 : i < 60
    · rw [if_pos h60]
      obtain ⟨o, ho⟩ : ∃ o, l[i.toNat]? = some o := ⟨l[i.toNat]'(by omega), List.getElem?_eq_getElem _⟩
      obtain ⟨b, off, ex, er⟩ := s2.row ho
      rw [show ((i.toNat : Nat) : Int) = i by omega] at ex
      simp only [ex, kv_some, er, new6, kP_some]
      have lt2 := t2.lt
      generalize hb1 : g.new (.cells [.int .i64 0, .string ⟨#[]⟩, .string ⟨#[]⟩, .int .i64 0, .int .i64 0, .int .i64 0] 6 .rw) = g1
      have gb1 : g1.get g.next = some (.cells [.int .i64 0, .string ⟨#[]⟩, .string ⟨#[]⟩, .int .i64 0, .int .i64 0, .int .i64 0] 6 .rw) := by rw [← hb1]; simp
      rw [st6 gb1, kH_some]
      generalize hb2 : g1.put g.next (.cells o.cells 6 .rw) = g2
      have gb2 : g2.get g.next = some (.cells o.cells 6 .rw) := by rw [← hb2]; simp
      have m2 : Mod g f2 g2 f2 := by rw [← hb2, ← hb1]; exact (Mod.newBox lt2).putNew (Nat.le_refl _)
      have t3 : Tab g2 f2 p gr := t2.same m2.next fun x hx => by rw [← hb2, ← hb1]; simp [Nat.ne_of_lt (lt2 x hx)]
      have s3 := s2.mod m2 u2
      have bn : ∀ x ∈ f2, x ≠ g.next := fun x hx => Nat.ne_of_lt (lt2 x hx)
      have rd : ∀ (h' : AHeap), h'.get g.next = some (.cells o.cells 6 .rw) → h'.rd g.next 0 = some (i64 o.kind) ∧ h'.rd g.next 1 = some (str o.key) ∧ h'.rd g.next 2 = some (str o.val) := fun h' hg => ⟨by rw [rd_of hg]; rfl, by rw [rd_of hg]; rfl, by rw [rd_of hg]; rfl⟩
      obtain ⟨r0, r1, r2⟩ := rd g2 gb2
      simp only [fieldAddr_ptr, kv_some, ld_one, Nat.zero_add, r0, bin_leq, ifV_bool, decide_eq_true_eq]
      have keep : ∀ h', Mod g2 f2 h' f2 → h'.get g.next = some (.cells o.cells 6 .rw) := fun h' m => by
        rw [m.same g.next (by rw [← hb2, ← hb1]; simp) fun hx => bn _ hx rfl, gb2]
      by_cases hk1 : o.kind ≤ 1
      · rw [if_pos hk1]
        simp only [r1, r2, kv_some]
        refine cl_then (table_Put t3 o.key (str o.val)) ?_
        rintro r h4 ⟨rfl, c, t4, m4⟩
        obtain ⟨q0, q1, q2⟩ := rd h4 (keep h4 m4)
        have s4 := s3.mod m4 u2
        have hv4 : ∀ e ∈ putE o.key (str o.val) c gr, ∃ s, e.v = str s := fun e he => by
          rcases mem_put he with he | he
          · exact hv2 e he
          · exact ⟨o.val, he⟩
        have chk : ∀ X Y : Prop, Y → kv (binD .bool .eql false (.bool (getE o.key gr).isNone) (.bool ok) h4) fun v42_20 =>
            kv (gdV v42_20 true (some (ptr g.next 1))) fun v44_21 =>
            kv (gdV v42_20 true (ldD .one v44_21 h4)) fun v45_22 =>
            kv (gdV v42_20 true (some (str key))) fun v46_23 =>
            kv (gdV v42_20 true (binD .bad .eql false v45_22 v46_23 h4)) fun v47_24 =>
            kv (pickV v42_20 v47_24 (.bool false)) fun v48_25 => ifV v48_25 X Y := by
          intro X Y hY
          simp only [bin_bool_eq, kv_some, gdV_bool]
          cases hb : ((getE o.key gr).isNone == ok) with
          | false => simp only [Bool.false_eq_true, if_false, kv_some, pickV_bool, ifV_bool]; exact hY
          | true =>
            have hne : ¬ o.key = key := by
              intro he
              rw [he, hk] at hb
              cases ok <;> simp at hb
            simp only [if_true, kv_some, ld_one, q1, str_eql, pickV_bool, ifV_bool, hne, decide_false, Bool.false_eq_true, if_false]
            exact hY
        refine chk _ _ ?_
        simp only [q1, kv_some, str_eql, ifV_bool, decide_eq_true_eq]
        by_cases he : o.key = key
        · rw [if_pos he]
          simp only [q2, kv_some]
          exact next o.val true f2 _ h4 hj h60 t4 hv4 u2 s4 (by rw [get_put, if_pos he, if_pos rfl]) (fun h => by cases h)
        · rw [if_neg he]
          exact next val ok f2 _ h4 hj h60 t4 hv4 u2 s4 (by rw [get_put, if_neg he, hk]) hval
      · rw [if_neg hk1]
        simp only [bin_eql, kv_some, ifV_bool, beq_iff_eq]
        by_cases hk2 : o.kind = 2
        · rw [if_pos hk2]
          simp only [r1, kv_some]
          refine cl_then (table_Del t3 hv2 o.key) ?_
          rintro r h4 ⟨rfl, t4, m4⟩
          obtain ⟨q0, q1, q2⟩ := rd h4 (keep h4 m4)
          have s4 := s3.mod m4 u2
          have hnd : (keysE gr).Nodup := by obtain ⟨_, _, _, _, _, _, _, _, _, _, hn⟩ := t3; exact hn
          have hv4 : ∀ e ∈ delE o.key gr, ∃ s, e.v = str s := fun e he => hv2 e (mem_del he)
          have chk : ∀ X Y : Prop, Y → kv (binD .bool .neq false (.bool (getE o.key gr).isSome) (.bool ok) h4) fun v42_20 =>
              kv (gdV v42_20 true (some (ptr g.next 1))) fun v44_21 =>
              kv (gdV v42_20 true (ldD .one v44_21 h4)) fun v45_22 =>
              kv (gdV v42_20 true (some (str key))) fun v46_23 =>
              kv (gdV v42_20 true (binD .bad .eql false v45_22 v46_23 h4)) fun v47_24 =>
              kv (pickV v42_20 v47_24 (.bool false)) fun v48_25 => ifV v48_25 X Y := by
            intro X Y hY
            simp only [bin_bool_ne, kv_some, gdV_bool]
            cases hb : (!((getE o.key gr).isSome == ok)) with
            | false => simp only [Bool.false_eq_true, if_false, kv_some, pickV_bool, ifV_bool]; exact hY
            | true =>
              have hne : ¬ o.key = key := by
                intro he
                rw [he, hk] at hb
                cases ok <;> simp at hb
              simp only [if_true, kv_some, ld_one, q1, str_eql, pickV_bool, ifV_bool, hne, decide_false, Bool.false_eq_true, if_false]
              exact hY
          refine chk _ _ ?_
          simp only [q1, kv_some, str_eql, ifV_bool, decide_eq_true_eq]
          by_cases he : o.key = key
          · rw [if_pos he]
            exact next ⟨#[]⟩ false f2 _ h4 hj h60 t4 hv4 u2 s4 (by rw [get_del hnd, if_pos he]; rfl) (fun _ => rfl)
          · rw [if_neg he]
            exact next val ok f2 _ h4 hj h60 t4 hv4 u2 s4 (by rw [get_del hnd, if_neg he, hk]) hval
        · rw [if_neg hk2]
          exact next val ok f2 gr g2 hj h60 t3 hv2 u2 s3 hk hval
    · rw [if_neg h60]
      refine cl_then (table_Get t2 hv2 key) ?_
      rintro r h4 ⟨rfl, rfl⟩
      rw [hk]
      cases ok with
      | true => simp [aStr, ba_toList_eq]
      | false => simp [aStr, ba_toList_eq, hval rfl]
  · have ej : decide (i < (l.length : Int)) = false := by simpa using hj
    simp only [ej, Bool.false_eq_true, if_false, kv_some, pickV_bool, ifV_bool]
    refine cl_then (table_Get t2 hv2 key) ?_
    rintro r h4 ⟨rfl, rfl⟩
    rw [hk]
    cases ok with
    | true => simp [aStr, ba_toList_eq]
    | false => simp [aStr, ba_toList_eq, hval rfl]

end Go.Abs

/- SpaceFetch, on abstract heaps. -/
import Derived.Test.YthilcedkapakpaaGreatDoorRepE
import Derived.Test.YthilcedkapakpaaGreatDoorLawA
set_option linter.unusedSimpArgs false
set_option linter.unusedVariables false
namespace Go.Abs
open Go Go.Proofs
variable {E : FE} {h : AHeap}

def frStrs (N : Nat) (v : V) (l : List ByteArray) : Fr := ⟨N, fun h => Strs N h v l, fun _ _ _ _ s m hf => Ro.mod s m hf⟩

/-- A text's first hundred. -/
def cut100 (s : ByteArray) : ByteArray := s.extract 0 (min s.size 100)

theorem cut100_size (s : ByteArray) : (cut100 s).size ≤ 100 := by
  unfold cut100
  rw [ByteArray.size_extract]
  omega

theorem slice_str (s : ByteArray) {n : Nat} (hn : n ≤ s.size) : sliceD .str (str s) none (some (i64 n)) none h = some (str (s.extract 0 n)) := by
  simp only [sliceD, aBoundO, aBound]
  rw [if_pos (by omega)]
  simp

/-- What was wanted of the first items. -/
def FS (T : List ByteArray) (want : ByteArray) (full : Bool) : Prop :=
  want.size ≤ 200 ∧ ∀ rest, fetchT ⟨#[]⟩ (T ++ rest) = if full then want else fetchT want rest

theorem law_SpaceFetch {v : V} {l : List ByteArray} (s : Strs h.next h v l) (a : Int) :
    Go.Abs.F.estafettelaw8_SpaceFetch E [v, i64 a] h fun v _ => v = .bool true := by
  simp only [Go.Abs.F.estafettelaw8_SpaceFetch]
  refine cl_of ⟨rfl, ?_⟩
  simp only [not_bool, kv_some, ifV_bool, Bool.not_true, Bool.false_eq_true, if_false]
  have s0 : Sep (frStrs h.next v l) h [] := ⟨Nat.le_refl _, s, [], rfl⟩
  generalize h.next = N at s0
  clear s
  refine cl_then (space_New_to _) ?_
  rintro ps h1 ⟨pt, f1, t1, m1⟩
  have s1 := s0.alloc (plSpa ps (cTo pt) (plTo pt [] [])) m1 t1
  obtain ⟨y, ey, y0, y1⟩ := and_mask (k := .bad) (c := true) (h := h1) a 15 (by decide) (by decide)
  simp only [ey, kv_some]
  refine ⟨fun n vs h' => ∃ (i : Nat) (want : ByteArray) (full : Bool), vs = [str want, .bool full, i64 i] ∧ i ≤ l.length ∧ i ≤ 20 ∧ n = l.length - i ∧ FS (((l.take i).map cut100).take y.toNat) want full ∧
    Sep (frStrs N v l) h' [plSpa ps (cTo pt) (plTo pt ((l.take i).map cut100) [])], l.length, ⟨0, ⟨#[]⟩, false, rfl, by omega, by omega, by omega, ⟨by decide, fun rest => by simp⟩, by simpa using s1⟩, ?_⟩
  rintro n e h2 ⟨i, want, full, he, hi, hi20, rfl, ⟨hw, hfs⟩, s2⟩
  simp only [List.cons.injEq, and_true] at he
  obtain ⟨e1, e2, e3⟩ := he
  have hI : Strs N h2 v l := s2.2.1
  simp only [e1, e2, e3, Ro.len hI h2, kv_some, bin_lss]
  have hcl : ((l.take i).map cut100).length = i := by simp; omega
  by_cases hgo : i < l.length ∧ i < 20
  · obtain ⟨hx, h20⟩ := hgo
    have hx' : ((i : Int) < (l.length : Nat)) := by omega
    have h20' : ((i : Int) < 20) := by omega
    obtain ⟨b1, o1, x1, r1⟩ := (Strs.rdt hI).2 i l[i] (List.getElem?_eq_getElem hx)
    have ln : ∀ (x : ByteArray) (h : AHeap), lenD .str (str x) h = some (i64 (x.size : Nat)) := fun _ _ => rfl
    simp only [bin_lss, gdV_bool, hx', h20', decide_true, if_true, kv_some, pickV_bool, ifV_bool, x1, ld_one, r1, ln, min2]
    rw [show (min (l[i].size : Int) 100) = ((min l[i].size 100 : Nat) : Int) by omega, slice_str _ (Nat.min_le_left _ _), kv_some]
    have ec : l[i].extract 0 (min l[i].size 100) = cut100 l[i] := rfl
    rw [ec]
    have hc := cut100_size l[i]
    generalize hcv : cut100 l[i] = c at hc
    have eb : buildD (.struct [(.int .i64 0), (.string ⟨#[]⟩), (.string ⟨#[]⟩), (.string ⟨#[]⟩), (.int .i64 0)] [(0, 1), (1, 1), (2, 1), (3, 1), (4, 1)]) [(0, i64 10), (3, str c)] = some (⟨10, ⟨#[]⟩, ⟨#[]⟩, c, 0⟩ : Oq).agg := rfl
    simp only [eb, kv_some]
    obtain ⟨f2, t2, k2⟩ := s2.head
    refine cl_then (Do_topic t2 ⟨10, ⟨#[]⟩, ⟨#[]⟩, c, 0⟩ _ ⟨by show (10 : Int) ≤ 10; omega, by show (10 : Int) ≤ 12; omega⟩ (P := fun r h' => r = .tuple #[str (decT i), i64 0] ∧ Sep (frStrs N v l) h' [plSpa ps (cTo pt) (plTo pt ((l.take i).map cut100 ++ [c]) [])]) fun h3 m3 => ?_) ?_
    · have s3 := s2.skip m3
      obtain ⟨f3, t3, k3⟩ := s3.head
      refine cl_then (Do_pub t3 ⟨10, ⟨#[]⟩, ⟨#[]⟩, c, 0⟩ rfl (by rw [hcl]; omega)) ?_
      rintro r h4 hr
      rw [if_pos (by rw [hcl]; omega), hcl] at hr
      obtain ⟨rfl, f4, t4, m4⟩ := hr
      exact ⟨_, _, rfl, rfl, k3 (plSpa ps (cTo pt) (plTo pt ((l.take i).map cut100 ++ [c]) [])) m4 t4⟩
    rintro r h4 ⟨rfl, s4⟩
    simp only [extract_tuple, List.getElem?_toArray, List.getElem?_cons_zero, List.getElem?_cons_succ, kv_some, bin_neq, bne_self_eq_false, ifV_bool, Bool.false_eq_true, if_false, ln]
    refine cl_then (ref8_Dec c.size (by omega)) ?_
    rintro r h5 ⟨rfl, m5⟩
    have s5 := s4.skip m5
    have hds := decT_size c.size
    have e58 : (⟨#[58]⟩ : ByteArray).size = 1 := rfl
    rw [str_add _ _ _ _ (by omega), kv_some, str_add _ _ _ _ (by rw [ba_size]; omega), kv_some]
    have eT : decT c.size ++ ⟨#[58]⟩ ++ c = encT c := rfl
    rw [eT]
    have hes := encT_size c
    have htake : (l.take (i + 1)).map cut100 = (l.take i).map cut100 ++ [c] := by
      rw [List.take_succ_eq_append_getElem hx, List.map_append, ← hcv]
      rfl
    rw [← htake] at s5
    have inc : ∀ (w' : ByteArray) (f' : Bool), FS (((l.take (i + 1)).map cut100).take y.toNat) w' f' →
        kv (binD .bad .add true (i64 i) (.int .i64 1) h5) fun v31 => ∃ m, m < l.length - i ∧ (∃ (i' : Nat) (want : ByteArray) (full : Bool), [str w', .bool f', v31] = [str want, .bool full, i64 i'] ∧ i' ≤ l.length ∧ i' ≤ 20 ∧ m = l.length - i' ∧ FS (((l.take i').map cut100).take y.toNat) want full ∧
          Sep (frStrs N v l) h5 [plSpa ps (cTo pt) (plTo pt ((l.take i').map cut100) [])]) := by
      intro w' f' hF
      rw [add_i64 _ 1 (by omega) (by omega), kv_some]
      exact ⟨l.length - (i + 1), by omega, i + 1, w', f', by simp, by omega, by omega, rfl, hF, s5⟩
    by_cases hy : i < y.toNat
    · have hy' : (i : Int) < y := by omega
      have hT : ((l.take (i + 1)).map cut100).take y.toNat = ((l.take i).map cut100).take y.toNat ++ [c] := by
        have q1 : (((l.take i).map cut100) ++ [c]).take y.toNat = ((l.take i).map cut100) ++ [c] := List.take_of_length_le (by rw [List.length_append, hcl]; simp; omega)
        have q2 : ((l.take i).map cut100).take y.toNat = (l.take i).map cut100 := List.take_of_length_le (by rw [hcl]; omega)
        rw [htake, q1, q2]
      simp only [hy', decide_true, gdV_bool, if_true, kv_some, not_bool, pickV_bool, ifV_bool]
      cases full with
      | true =>
        simp only [Bool.not_true, Bool.false_eq_true, if_false]
        refine inc want true ⟨hw, fun rest => ?_⟩
        rw [hT, List.append_assoc]
        exact hfs _
      | false =>
        simp only [Bool.not_false, if_true, ln, kv_some]
        rw [add_i64 _ _ (by omega) (by omega), kv_some]
        simp only [bin_gtr, kv_some, not_bool, ifV_bool]
        have hfs' : ∀ rest, fetchT ⟨#[]⟩ (((l.take i).map cut100).take y.toNat ++ rest) = fetchT want rest := hfs
        have hstep : ∀ rest, fetchT want (c :: rest) = if want.size + (encT c).size > 200 then want else fetchT (want ++ encT c) rest := fun _ => rfl
        by_cases hb : want.size + (encT c).size > 200
        · have hb' : (want.size : Int) + (encT c).size > 200 := by omega
          simp only [hb', decide_true, Bool.not_true, Bool.false_eq_true, if_false]
          refine inc want true ⟨hw, fun rest => ?_⟩
          rw [hT, List.append_assoc, hfs', List.singleton_append, hstep, if_pos hb]
          rfl
        · have hb' : ¬ ((want.size : Int) + (encT c).size > 200) := by omega
          simp only [hb', decide_false, Bool.not_false, if_true]
          rw [str_add _ _ _ _ (by omega), kv_some]
          refine inc (want ++ encT c) false ⟨by rw [ba_size]; omega, fun rest => ?_⟩
          rw [hT, List.append_assoc, hfs', List.singleton_append, hstep, if_neg hb]
          rfl
    · have hy' : ¬ (i : Int) < y := by omega
      have hT : ((l.take (i + 1)).map cut100).take y.toNat = ((l.take i).map cut100).take y.toNat := by
        rw [htake, List.take_append_of_le_length (by rw [hcl]; omega)]
      simp only [hy', decide_false, gdV_bool, gdV_gone, Bool.false_eq_true, if_false, kv_some, pickV_bool, ifV_bool]
      refine inc want full ⟨hw, fun rest => ?_⟩
      rw [hT]
      exact hfs rest
  · have hout : (if decide ((i : Int) < (l.length : Nat)) = true then decide ((i : Int) < 20) else false) = false := by
      by_cases hx : (i : Int) < (l.length : Nat)
      · simp [hx]; omega
      · simp [hx]
    have hall : ((l.take i).map cut100) = ((l.take i).map cut100) := rfl
    have go : ∀ (c1 : Bool), c1 = decide ((i : Int) < (l.length : Nat)) → ∀ X : V → Prop, X (.bool false) →
        (kv (gdV (.bool c1) true (some (i64 i))) fun v27 => kv (gdV (.bool c1) true (binD .bad .lss true v27 (.int .i64 20) h2)) fun v28 => kv (pickV (.bool c1) v28 (.bool false)) X) := by
      intro c1 hc X hX
      cases c1 with
      | false => simpa only [gdV_bool, gdV_gone, Bool.false_eq_true, if_false, kv_some, pickV_bool] using hX
      | true =>
        have hx : (i : Int) < (l.length : Nat) := of_decide_eq_true hc.symm
        have h20 : ¬ (i : Int) < 20 := by omega
        simpa only [gdV_bool, if_true, kv_some, bin_lss, h20, decide_false, pickV_bool] using hX
    refine go _ rfl _ ?_
    simp only [ifV_bool, Bool.false_eq_true, if_false]
    have eb : buildD (.struct [(.int .i64 0), (.string ⟨#[]⟩), (.string ⟨#[]⟩), (.string ⟨#[]⟩), (.int .i64 0)] [(0, 1), (1, 1), (2, 1), (3, 1), (4, 1)]) [(0, (.int .i64 11)), (2, (.string ⟨#[103]⟩)), (4, i64 y)] = some (⟨11, ⟨#[]⟩, ⟨#[103]⟩, ⟨#[]⟩, y⟩ : Oq).agg := rfl
    simp only [eb, kv_some]
    have hfin : fetchT ⟨#[]⟩ (itemsT ((l.take i).map cut100) 0 y) = want := by
      have e1 : itemsT ((l.take i).map cut100) 0 y = ((l.take i).map cut100).take y.toNat := by
        unfold itemsT
        rw [hcl]
        simp only [Int.toNat_zero, List.drop_zero]
        rw [show (min (max y 0) ((i : Int) - 0)).toNat = min y.toNat i by omega, ← List.take_take, List.take_of_length_le (Nat.le_of_eq hcl : ((l.take i).map cut100).length ≤ i)]
      have := hfs []
      rw [List.append_nil] at this
      rw [e1, this]
      cases full <;> rfl
    obtain ⟨f2, t2, k2⟩ := s2.head
    refine cl_then (Do_topic t2 ⟨11, ⟨#[]⟩, ⟨#[103]⟩, ⟨#[]⟩, y⟩ _ ⟨by show (10 : Int) ≤ 11; omega, by show (11 : Int) ≤ 12; omega⟩ (P := fun r h' => r = .tuple #[str want, i64 0]) fun h3 m3 => ?_) ?_
    · have s3 := s2.skip m3
      obtain ⟨f3, t3, k3⟩ := s3.head
      refine cl_then (Do_fetch t3 ⟨11, ⟨#[]⟩, ⟨#[103]⟩, ⟨#[]⟩, y⟩ rfl (by rw [hcl]; omega) ⟨Int.le_refl 0, by show (0 : Int) ≤ _; omega⟩ fun v hv => ?_) ?_
      · obtain ⟨s, _, rfl⟩ := List.mem_map.1 hv
        have := cut100_size s
        omega
      · rintro r h4 ⟨rfl, _⟩
        refine ⟨_, _, rfl, ?_⟩
        show Value.tuple #[str (fetchT ⟨#[]⟩ (itemsT _ 0 y)), i64 0] = _
        rw [hfin]
    rintro r h4 rfl
    simp only [extract_tuple, List.getElem?_toArray, List.getElem?_cons_zero, List.getElem?_cons_succ, kv_some, str_eql, decide_true, gdV_bool, if_true, bin_eql, beq_self_eq_true, pickV_bool]

end Go.Abs

/- TopicFetch, on abstract heaps. -/
import Derived.Test.YthilcedkapakpaaGreatDoorRep12
set_option linter.unusedSimpArgs false
set_option linter.unusedVariables false
namespace Go.Abs
open Go
variable {E E0 : FE} {h : AHeap}

theorem law_TopicFetch {v : V} {l : List ByteArray} (s : Strs h.next h v l) (a b : Int) :
    F.estafettelaw8_TopicFetch E [v, i64 a, i64 b] h fun v _ => v = .bool true := by
  simp only [F.estafettelaw8_TopicFetch]
  refine cl_of ⟨rfl, ?_⟩
  simp only [not_bool, kv_some, ifV_bool, Bool.not_true, Bool.false_eq_true, if_false]
  generalize hN : h.next = N at s
  obtain ⟨v', e0, s'⟩ := s.pre (k := min l.length 64) (Nat.min_le_left _ _)
  simp only [Ro.len s h, kv_some, min2]
  rw [show (min (l.length : Int) 64) = ((min l.length 64 : Nat) : Int) by omega, e0, kv_some]
  generalize hL : l.take (min l.length 64) = L at s'
  have hLl : L.length ≤ 64 := by rw [← hL]; simp; omega
  refine cl_then topic_New ?_
  rintro p h1 ⟨f1, t1, m1⟩
  have s1 := Ro.mod s' m1 (by simp)
  have u1 := m1.above (N := N) (by omega) (by simp)
  refine ⟨fun k l' h' => ∃ (i : Nat) (fp' : List Nat), l' = [i64 i] ∧ i ≤ L.length ∧ k = L.length - i ∧ To h' fp' p (L.take i) [] ∧ (∀ x ∈ fp', N ≤ x) ∧ Strs N h' v' L,
    L.length, ⟨0, f1, rfl, by omega, by omega, t1, u1, s1⟩, ?_⟩
  rintro k e g ⟨i, f2, hl, i0, rfl, t2, u2, s2⟩
  simp only [List.cons.injEq, and_true] at hl
  rw [hl]
  simp only [Ro.len s2 g, kv_some, bin_lss, ifV_bool, decide_eq_true_eq]
  by_cases hi : (i : Int) < (L.length : Int)
  · rw [if_pos hi]
    have hiL : i < L.length := by omega
    obtain ⟨b1, o1, x1, r1⟩ := (Strs.rdt s2).2 i L[i] (List.getElem?_eq_getElem hiL)
    simp only [x1, kv_some, ld_one, r1]
    refine cl_then (topic_Pub t2 L[i] (by simp; omega)) ?_
    intro r h2 hs
    rw [if_pos (by simp; omega)] at hs
    obtain ⟨rfl, f3, t3, m3⟩ := hs
    have hlen : ((L.take i).length : Int) = i := by simp; omega
    have e1 : (((L.take i).length : Int) != (i : Int)) = false := by rw [hlen]; simp
    simp only [extract_tuple, List.getElem?_toArray, List.getElem?_cons_zero, List.getElem?_cons_succ, kv_some, not_bool, Bool.not_true, gdV_bool, if_true, bin_neq, e1, pickV_bool, Bool.false_eq_true, if_false, ifV_bool]
    rw [add_i64 _ 1 (by omega) (by omega), kv_some]
    refine ⟨L.length - (i + 1), by omega, i + 1, f3, by simp, by omega, rfl, ?_, m3.above s2.2.1 u2, Ro.mod s2 m3 u2⟩
    rw [List.take_succ_eq_append_getElem hiL]
    exact t3
  · rw [if_neg hi]
    obtain rfl : i = L.length := by omega
    rw [List.take_length] at t2
    obtain ⟨y, ey, y0, y1⟩ := and_mask (k := .bad) (c := true) (h := g) a 63 (by decide) (by decide)
    simp only [ey, kv_some]
    refine cl_then (topic_Seek t2 ⟨#[103]⟩ 0 y) ?_
    intro r h2 hs
    have hs' : r = .bool (decide (y ≤ L.length)) ∧ ∃ gr, To h2 f2 p L gr ∧ Mod g f2 h2 f2 ∧ atN ⟨#[103]⟩ gr = (if y ≤ L.length then y else 0) := by
      have h00 : atN (⟨#[103]⟩ : ByteArray) [] = 0 := rfl
      rw [h00] at hs
      by_cases hy : y ≤ L.length
      · rw [if_pos ⟨rfl, by omega, hy, .inr (by simp)⟩] at hs
        obtain ⟨rfl, c, t3, m3⟩ := hs
        refine ⟨by simp [hy], _, t3, m3, ?_⟩
        rw [if_pos hy]
        rfl
      · rw [if_neg (by omega)] at hs
        obtain ⟨rfl, rfl⟩ := hs
        refine ⟨by simp [hy], [], t2, Mod.refl t2.lt, ?_⟩
        rw [if_neg hy]
        rfl
    clear hs
    obtain ⟨rfl, gr, t3, m3, hat⟩ := hs'
    have s3 := Ro.mod s2 m3 u2
    have e2 : (!(decide (y ≤ (L.length : Int)) == decide (y ≤ (L.length : Int)))) = false := by simp
    simp only [Ro.len s3 h2, kv_some, bin_leq, bin_bool_ne, e2, ifV_bool, Bool.false_eq_true, if_false, not_bool]
    generalize hz : (if y ≤ (L.length : Int) then y else 0) = z at hat
    have z0 : 0 ≤ z ∧ z ≤ L.length := by
      rw [← hz]
      split <;> omega
    refine ⟨fun l' h' => l' = [i64 z] ∧ h' = h2, ?_, ?_⟩
    · rw [← hz]
      by_cases hy : y ≤ (L.length : Int) <;> simp [hy]
    · rintro e26 h3 ⟨hl3, rfl⟩
      simp only [List.cons.injEq, and_true] at hl3
      rw [hl3]
      obtain ⟨x, ex, x0, xx⟩ := and_mask (k := .bad) (c := true) (h := h3) b 127 (by decide) (by decide)
      simp only [ex, kv_some]
      rw [sub_i64 x 8 (by omega) (by omega)]
      simp only [kv_some, Ro.len s3 h3]
      rw [sub_i64 _ z (by omega) (by omega)]
      simp only [kv_some, min2, max2]
      generalize hn : max 0 (min (x - 8) ((L.length : Int) - z)) = n
      rw [add_i64 z n (by omega) (by omega), kv_some]
      obtain ⟨v'', e3, hr⟩ := Strs.mid s3 (a := z.toNat) (z := (z + n).toNat) (by omega) (by omega)
      rw [show ((z.toNat : Nat) : Int) = z by omega, show (((z + n).toNat : Nat) : Int) = z + n by omega] at e3 hr
      rw [e3, kv_some]
      refine cl_then (topic_Fetch t3 ⟨#[103]⟩ (by rw [hat]; exact z0) (x - 8) (by omega)) ?_
      rintro r h4 ⟨f4, s4, m4⟩
      have hold : ∀ q, q < N → h4.get q = h3.get q := fun q hq => m4.same q (by have := s3.2.1; omega) (by simp)
      obtain ⟨hr1, hr2⟩ := hr h4 m4.next hold
      refine ⟨hr2, ?_⟩
      have eqL : (L.drop (atN ⟨#[103]⟩ gr).toNat).take (min (max (x - 8) 0) (↑L.length - atN ⟨#[103]⟩ gr)).toNat = (L.drop z.toNat).take ((z + n).toNat - z.toNat) := by
        rw [hat]
        congr 1
        omega
      rw [eqL] at s4
      refine cl_then (law_texts s4.rdt hr1 (by simp; omega)) ?_
      rintro r h5 ⟨rfl, rfl⟩
      have s5 := Ro.mod s3 m4 (by simp)
      have t5 := t3.same m4.next fun q hq => m4.same q (t3.lt q hq) (by simp)
      simp only [decide_true, gdV_bool, if_true, kv_some, Ro.len s5 h5]
      refine gdC_yes rfl (cl_then (topic_Len t5) ?_)
      rintro r h6 ⟨rfl, rfl⟩
      simp only [bin_eql, beq_self_eq_true, kv_some, pickV_bool, if_true]

end Go.Abs

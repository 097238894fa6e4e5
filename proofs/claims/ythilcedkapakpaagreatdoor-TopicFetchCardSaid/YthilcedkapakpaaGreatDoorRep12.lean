/- Specs on abstract heaps, part 12: lists of texts that were handed in; texts that are the same. -/
import Derived.Test.YthilcedkapakpaaGreatDoorRep11
set_option linter.unusedSimpArgs false
set_option linter.unusedVariables false
namespace Go.Abs
open Go
variable {E : FE} {N : Nat} {h h' : AHeap} {v : V} {fp fp' : List Nat} {l : List ByteArray}

def Strs (N : Nat) (h : AHeap) (v : V) (l : List ByteArray) : Prop := Ro N h v 1 l.length (l.map str)

/-- A list of texts that may be read. -/
def Rdt (h : AHeap) (v : V) (l : List ByteArray) : Prop :=
  lenD .slice v h = some (i64 l.length) ∧ ∀ (i : Nat) (s : ByteArray), l[i]? = some s → ∃ b o, indexAddrD (.slice 1) v (i64 i) = some (ptr b o) ∧ h.rd b o = some (str s)

theorem Strs.rdt (s : Strs N h v l) : Rdt h v l := by
  refine ⟨Ro.len s h, fun i x hi => ?_⟩
  obtain ⟨hlt, hx⟩ := List.getElem?_eq_some_iff.1 hi
  obtain ⟨b, off, e, hr⟩ := Ro.at s hlt
  refine ⟨b, off, e, ?_⟩
  have := hr 0 (by decide)
  rw [Nat.add_zero] at this
  rw [this]
  simp [hi]

theorem Ts.rdt (s : Ts h fp v l) : Rdt h v l := by
  refine ⟨Sl.len s, fun i x hi => ?_⟩
  obtain ⟨hlt, hx⟩ := List.getElem?_eq_some_iff.1 hi
  obtain ⟨h0, ⟨rfl, hn, rfl⟩ | ⟨b, c, all, rfl, rfl, hb, h1, h2, h3, h4⟩⟩ := s
  · omega
  · refine ⟨b, 0 + i * 1, ?_, ?_⟩
    · have : (0 : Int) ≤ i ∧ (i : Int) < l.length := by omega
      simp only [indexAddrD, if_pos this, Int.toNat_natCast]
    · rw [rd_of h2]
      have : (all.take (l.length * 1))[i]? = (l.map str)[i]? := by rw [h4]
      rw [List.getElem?_take, if_pos (by omega)] at this
      rw [Nat.zero_add, Nat.mul_one, this]
      simp [hi]

/-- The first k. -/
theorem Strs.pre (s : Strs N h v l) {k : Nat} (hk : k ≤ l.length) : ∃ v', sliceD (.slice 1) v none (some (i64 k)) none h = some v' ∧ Strs N h v' (l.take k) := by
  obtain ⟨h0, h1, ⟨rfl, hn⟩ | ⟨b, o, c, all, rfl, hb, hc, hg, ha⟩⟩ := s
  · obtain rfl : k = 0 := by omega
    exact ⟨.slice none 0 0, by simp [sliceD, aBoundO, aBound], by simp, h1, .inl ⟨rfl, by simp⟩⟩
  · refine ⟨.slice (some ⟨b, o, none⟩) k c, ?_, by simp, h1, .inr ⟨b, o, c, all, by simp [Nat.min_eq_left hk], hb, by simp; omega, hg, ?_⟩⟩
    · have hk2 : (0 : Int) ≤ k ∧ (k : Int) ≤ ((c / 2 : Nat) : Int) := by omega
      simp only [sliceD, hg, if_true, aBoundO, aBound, if_pos hk2, Int.toNat_natCast]
    · rw [List.length_take, Nat.min_eq_left hk, Nat.mul_one, List.map_take, ← ha, List.take_take, Nat.mul_one, Nat.min_eq_left hk]

/-- From the a-th to ahead of the z-th. -/
theorem Strs.mid (s : Strs N h v l) {a z : Nat} (ha : a ≤ z) (hz : z ≤ l.length) : ∃ v', sliceD (.slice 1) v (some (i64 a)) (some (i64 z)) none h = some v' ∧
    ∀ h', h'.next ≥ h.next → (∀ x, x < N → h'.get x = h.get x) → Rdt h' v' ((l.drop a).take (z - a)) ∧ sliceD (.slice 1) v (some (i64 a)) (some (i64 z)) none h' = some v' := by
  have hl : ((l.drop a).take (z - a)).length = z - a := by simp; omega
  obtain ⟨h0, h1, ⟨rfl, hn⟩ | ⟨b, o, c, all, rfl, hb, hc, hg, hall⟩⟩ := s
  · obtain rfl : z = 0 := by omega
    obtain rfl : a = 0 := by omega
    refine ⟨.slice none 0 0, by simp [sliceD, aBoundO, aBound], fun h' _ _ => ⟨⟨by rw [hl]; rfl, fun i s hi => by simp at hi⟩, by simp [sliceD, aBoundO, aBound]⟩⟩
  · have e1 : (0 : Int) ≤ z ∧ (z : Int) ≤ ((c / 2 : Nat) : Int) := by omega
    have e2 : (0 : Int) ≤ a ∧ (a : Int) ≤ (z : Int) := by omega
    have hsl : ∀ h', h'.get b = some (.cells all 1 .ro) → sliceD (.slice 1) (.slice (some ⟨b, o, none⟩) l.length c) (some (i64 a)) (some (i64 z)) none h' =
        if a = 0 then some (.slice (some ⟨b, o, none⟩) z c) else if a < c / 2 then some (.slice (some ⟨b, o + a * 1, none⟩) (z - a) (c - 2 * a))
        else if c % 2 = 0 then some (.slice (some ⟨b, o, none⟩) (z - a) 0) else some (.slice none 0 1) := fun h' hg' => by
      simp only [sliceD, hg', if_true, aBoundO, aBound, if_pos e1, if_pos e2, Int.toNat_natCast]
    have read : ∀ h' : AHeap, h'.get b = some (.cells all 1 .ro) → ∀ i s, ((l.drop a).take (z - a))[i]? = some s → h'.rd b (o + a + i) = some (str s) := fun h' hg' i s hi => by
      rw [List.getElem?_take] at hi
      split at hi
      · rename_i hlt
        rw [List.getElem?_drop] at hi
        rw [rd_of hg']
        have : ((all.drop o).take (l.length * 1))[a + i]? = (l.map str)[a + i]? := by rw [hall]
        rw [List.getElem?_take, if_pos (by omega), List.getElem?_drop] at this
        rw [Nat.add_assoc, this]
        simp [hi]
      · cases hi
    have idx : ∀ (o' : Nat) (n c' i : Nat), i < n → indexAddrD (.slice 1) (.slice (some ⟨b, o', none⟩) n c') (i64 i) = some (ptr b (o' + i)) := fun o' n c' i hi => by
      have : (0 : Int) ≤ i ∧ (i : Int) < n := by omega
      simp only [indexAddrD, if_pos this, Int.toNat_natCast, Nat.mul_one]
    have lt : ∀ i s, ((l.drop a).take (z - a))[i]? = some s → i < z - a := fun i s hi => by
      have := (List.getElem?_eq_some_iff.1 hi).1
      omega
    rw [hsl h hg]
    by_cases ha0 : a = 0
    · subst ha0
      refine ⟨_, if_pos rfl, fun h' _ hs => ⟨⟨by rw [hl]; rfl, fun i s hi => ⟨b, o + i, idx o z c i (by have := lt i s hi; omega), ?_⟩⟩, by rw [hsl h' (by rw [hs b hb, hg]), if_pos rfl]⟩⟩
      exact read h' (by rw [hs b hb, hg]) i s hi
    · rw [if_neg ha0]
      by_cases ha1 : a < c / 2
      · refine ⟨_, if_pos ha1, fun h' _ hs => ⟨⟨by rw [hl]; rfl, fun i s hi => ⟨b, o + a + i, ?_, read h' (by rw [hs b hb, hg]) i s hi⟩⟩, by rw [hsl h' (by rw [hs b hb, hg]), if_neg ha0, if_pos ha1]⟩⟩
        rw [Nat.mul_one]
        exact idx (o + a) (z - a) _ i (lt i s hi)
      · rw [if_neg ha1]
        have hz0 : z - a = 0 := by omega
        by_cases hc2 : c % 2 = 0
        · refine ⟨_, if_pos hc2, fun h' _ hs => ⟨⟨by rw [hl]; rfl, fun i s hi => by have := lt i s hi; omega⟩, by rw [hsl h' (by rw [hs b hb, hg]), if_neg ha0, if_neg ha1, if_pos hc2]⟩⟩
        · refine ⟨_, if_neg hc2, fun h' _ hs => ⟨⟨by rw [hl, hz0]; rfl, fun i s hi => by have := lt i s hi; omega⟩, by rw [hsl h' (by rw [hs b hb, hg]), if_neg ha0, if_neg ha1, if_neg hc2]⟩⟩

theorem law_texts {x y : V} {a b : List ByteArray} (hx : Rdt h x a) (hy : Rdt h y b) (hsz : a.length ≤ 1000000) : cl (F.estafettelaw8_texts E) [x, y] h fun r h' => h' = h ∧ r = .bool (decide (a = b)) := by
  refine cl_of ?_
  simp only [F.estafettelaw8_texts, hx.1, hy.1, kv_some, bin_neq, ifV_bool]
  by_cases hl : a.length = b.length
  · have e : ((a.length : Int) != (b.length : Int)) = false := by simp [hl]
    rw [e]
    simp only [Bool.false_eq_true, if_false]
    refine ⟨fun k l' h' => h' = h ∧ ∃ i : Nat, l' = [i64 i] ∧ i ≤ a.length ∧ k = a.length - i ∧ a.take i = b.take i, a.length, ⟨rfl, 0, rfl, by omega, by omega, by simp⟩, ?_⟩
    rintro k e5 h5 ⟨rfl, i, hl5, hi, rfl, htk⟩
    simp only [List.cons.injEq, and_true] at hl5
    rw [hl5]
    simp only [hx.1, kv_some, bin_lss, ifV_bool, decide_eq_true_eq]
    by_cases hlt : (i : Int) < (a.length : Int)
    · rw [if_pos hlt]
      have hia : i < a.length := by omega
      have hib : i < b.length := by omega
      obtain ⟨b1, o1, x1, r1⟩ := hx.2 i a[i] (List.getElem?_eq_getElem hia)
      obtain ⟨b2, o2, x2, r2⟩ := hy.2 i b[i] (List.getElem?_eq_getElem hib)
      simp only [x1, x2, kv_some, ld_one, r1, r2, str_neq, ifV_bool]
      by_cases he : a[i] = b[i]
      · simp only [he, decide_true, Bool.not_true, Bool.false_eq_true, if_false]
        rw [add_i64 _ 1 (by omega) (by omega), kv_some]
        refine ⟨a.length - (i + 1), by omega, trivial, i + 1, by simp, by omega, rfl, ?_⟩
        rw [List.take_succ_eq_append_getElem hia, List.take_succ_eq_append_getElem hib, htk, he]
      · simp only [he, decide_false, Bool.not_false, if_true]
        refine ⟨trivial, ?_⟩
        have : a ≠ b := fun h => he (by subst h; rfl)
        simp [this]
    · rw [if_neg hlt]
      refine ⟨trivial, ?_⟩
      have : a = b := by
        rw [List.take_of_length_le (by omega), List.take_of_length_le (by omega)] at htk
        exact htk
      simp [this]
  · have e : ((a.length : Int) != (b.length : Int)) = true := by simp; omega
    rw [e]
    simp only [if_true]
    refine ⟨trivial, ?_⟩
    have : a ≠ b := fun h => hl (by rw [h])
    simp [this]

end Go.Abs

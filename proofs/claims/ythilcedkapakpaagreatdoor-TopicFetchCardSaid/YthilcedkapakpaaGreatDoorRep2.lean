/- Specs on abstract heaps, part 2: slices. -/
import Derived.Test.YthilcedkapakpaaGreatDoorRep0
set_option linter.unusedSimpArgs false
set_option linter.unusedVariables false
namespace Go.Abs
open Go

/-- A slice v of n elements of es cells each, that holds cs; its row is its own. -/
def Sl (h : AHeap) (fp : List Nat) (v : V) (es n : Nat) (cs : List V) : Prop :=
  cs.length = n * es ∧ ((v = .slice none 0 0 ∧ n = 0 ∧ fp = []) ∨
    ∃ b c all, v = .slice (some ⟨b, 0, none⟩) n c ∧ fp = [b] ∧ b < h.next ∧ n ≤ c / 2 ∧ h.get b = some (.cells all es .rw) ∧ c / 2 * es ≤ all.length ∧ all.take (n * es) = cs)

variable {h : AHeap} {fp : List Nat} {v : V} {es n : Nat} {cs : List V}

theorem Sl.lt (s : Sl h fp v es n cs) : ∀ x ∈ fp, x < h.next := by
  obtain ⟨_, ⟨rfl, rfl, rfl⟩ | ⟨b, c, all, rfl, rfl, hb, _⟩⟩ := s
  · simp
  · simpa using hb

theorem Sl.same {h' : AHeap} (s : Sl h fp v es n cs) (hl : h.next ≤ h'.next) (hs : ∀ x ∈ fp, h'.get x = h.get x) : Sl h' fp v es n cs := by
  obtain ⟨h0, ⟨rfl, rfl, rfl⟩ | ⟨b, c, all, rfl, rfl, hb, h1, h2, h3, h4⟩⟩ := s
  · exact ⟨h0, .inl ⟨rfl, rfl, rfl⟩⟩
  · exact ⟨h0, .inr ⟨b, c, all, rfl, rfl, by omega, h1, by rw [hs b (by simp), h2], h3, h4⟩⟩

theorem Sl.nil : Sl h [] (.slice none 0 0) es 0 [] := ⟨by simp, .inl ⟨rfl, rfl, rfl⟩⟩

theorem Sl.len (s : Sl h fp v es n cs) : lenD .slice v h = some (i64 n) := by
  obtain ⟨h0, ⟨rfl, rfl, rfl⟩ | ⟨b, c, all, rfl, rfl, hb, h1, h2, h3, h4⟩⟩ := s <;> rfl

theorem Sl.isNil (s : Sl h fp v es n cs) (c : Bool) : ∃ b, binD .slice .eql c v (.slice none 0 0) h = some (.bool b) ∧ (b = true → n = 0 ∧ v = .slice none 0 0) := by
  obtain ⟨h0, ⟨rfl, rfl, rfl⟩ | ⟨b, c, all, rfl, rfl, hb, h1, h2, h3, h4⟩⟩ := s
  · exact ⟨true, rfl, fun _ => ⟨rfl, rfl⟩⟩
  · exact ⟨false, rfl, fun h => by cases h⟩

/-- The first k. -/
theorem Sl.pre (s : Sl h fp v es n cs) {k : Nat} {t : IntKind} (hk : k ≤ n) : ∃ v', sliceD (.slice es) v none (some (.int t k)) none h = some v' ∧ Sl h fp v' es k (cs.take (k * es)) := by
  obtain ⟨h0, ⟨rfl, rfl, rfl⟩ | ⟨b, c, all, rfl, rfl, hb, h1, h2, h3, h4⟩⟩ := s
  · obtain rfl : k = 0 := by omega
    refine ⟨.slice none 0 0, ?_, by simp, .inl ⟨rfl, rfl, rfl⟩⟩
    simp [sliceD, aBoundO, aBound]
  · refine ⟨.slice (some ⟨b, 0, none⟩) k c, ?_, ?_, .inr ⟨b, c, all, rfl, rfl, hb, by omega, h2, h3, ?_⟩⟩
    · have hk2 : (0 : Int) ≤ k ∧ (k : Int) ≤ ((c / 2 : Nat) : Int) := by omega
      simp only [sliceD, h2, if_true, aBoundO, aBound, if_pos hk2, Int.toNat_natCast]
    · have : k * es ≤ n * es := Nat.mul_le_mul_right _ hk
      simp; omega
    · subst h4
      have : k * es ≤ n * es := Nat.mul_le_mul_right _ hk
      rw [List.take_take, Nat.min_eq_left this]

/-- What is behind the first k, to be appended. -/
theorem Sl.post (s : Sl h fp v es n cs) {k : Nat} {t : IntKind} (hk : k ≤ n) : ∃ v', sliceD (.slice es) v (some (.int t k)) none none h = some v' ∧ aLenOf v' = some (n - k) ∧ (n - k ≠ 0 → aSrc es v' h = some (cs.drop (k * es))) := by
  obtain ⟨h0, ⟨rfl, rfl, rfl⟩ | ⟨b, c, all, rfl, rfl, hb, h1, h2, h3, h4⟩⟩ := s
  · obtain rfl : k = 0 := by omega
    exact ⟨.slice none 0 0, by simp [sliceD, aBoundO, aBound], rfl, by simp⟩
  · have hsl : sliceD (.slice es) (.slice (some ⟨b, 0, none⟩) n c) (some (.int t k)) none none h =
        if k = 0 then some (.slice (some ⟨b, 0, none⟩) n c) else if k < c / 2 then some (.slice (some ⟨b, 0 + k * es, none⟩) (n - k) (c - 2 * k))
        else if c % 2 = 0 then some (.slice (some ⟨b, 0, none⟩) (n - k) 0) else some (.slice none 0 1) := by
      simp [sliceD, aBoundO, aBound, h2, hk]
    have hlen : n * es ≤ all.length := Nat.le_trans (Nat.mul_le_mul_right _ h1) h3
    have hdrop : ∀ o, o = k * es → h.rdN b o ((n - k) * es) = some (cs.drop (k * es)) := by
      rintro o rfl
      rw [rdN_of h2, Nat.sub_mul]
      have : k * es ≤ n * es := Nat.mul_le_mul_right _ hk
      rw [if_pos (by omega), ← h4, List.drop_take]
    rw [hsl]
    by_cases hk0 : k = 0
    · subst hk0
      refine ⟨_, if_pos rfl, rfl, fun _ => ?_⟩
      have := hdrop 0 (by simp)
      simpa [aSrc, sliceCells] using this
    · rw [if_neg hk0]
      by_cases hk1 : k < c / 2
      · refine ⟨_, if_pos hk1, rfl, fun _ => ?_⟩
        have := hdrop (0 + k * es) (by simp)
        simpa [aSrc, sliceCells] using this
      · rw [if_neg hk1]
        have hz : n - k = 0 := by omega
        split
        · exact ⟨_, rfl, by simp [aLenOf], fun h => absurd hz h⟩
        · exact ⟨_, rfl, by simp [aLenOf, hz], fun h => absurd hz h⟩

/-- A slice as what is appended. -/
theorem Sl.src (s : Sl h fp v es n cs) : aLenOf v = some n ∧ aSrc es v h = some cs := by
  obtain ⟨h0, ⟨rfl, rfl, rfl⟩ | ⟨b, c, all, rfl, rfl, hb, h1, h2, h3, h4⟩⟩ := s
  · refine ⟨rfl, ?_⟩
    have : cs = [] := by simpa using h0
    subst this; rfl
  · refine ⟨rfl, ?_⟩
    show h.rdN b 0 (n * es) = some cs
    have hlen : n * es ≤ all.length := Nat.le_trans (Nat.mul_le_mul_right _ h1) h3
    rw [rdN_of h2, if_pos (by omega)]
    simpa using h4

theorem setList_eq (c : List V) : ∀ (vs : List V) (o : Nat), o + vs.length ≤ c.length → setList c o vs = c.take o ++ vs ++ c.drop (o + vs.length) := by
  intro vs
  induction vs generalizing c with
  | nil => intro o _; simp [setList]
  | cons v vs ih =>
    intro o ho
    simp only [setList]
    simp only [List.length_cons] at ho
    rw [ih (c.set o v) (o + 1) (by simp; omega)]
    have h1 : (c.set o v).take (o + 1) = c.take o ++ [v] := by
      rw [List.take_add_one, List.take_set_of_le (Nat.le_refl _)]
      simp [show o < c.length by omega]
    have h2 : (c.set o v).drop (o + 1 + vs.length) = c.drop (o + 1 + vs.length) := List.drop_set_of_lt (by omega)
    rw [h1, h2]
    simp [Nat.add_assoc, Nat.add_comm, Nat.add_left_comm]

/-- What is appended stands behind. -/
theorem Sl.append (s : Sl h fp v es n cs) {x : V} {k bytes : Nat} {z : List V} {new : List V} (hz : z.length = es) (he : 0 < es) (hby : bytes ≤ 64) (hx : aLenOf x = some k) (hs : k ≠ 0 → aSrc es x h = some new)
    (hn : new.length = k * es) (h1 : new.all oneCell = true) (hsum : n + k ≤ 1099511627776) :
    ∃ v' h' fp', appendD (some (es, bytes, z)) v x h = some (v', h') ∧ Sl h' fp' v' es (n + k) (cs ++ new) ∧ Mod h fp h' fp' := by
  have hlt := s.lt
  obtain ⟨h0, ⟨rfl, rfl, rfl⟩ | ⟨b, c, all, rfl, rfl, hb, hc, h2, h3, h4⟩⟩ := s
  · have : cs = [] := by simpa using h0
    subst this
    simp only [appendD, hx, he, hby, hz, and_self, if_true]
    by_cases hk : k = 0
    · subst hk
      have : new = [] := by simpa using hn
      subst this
      exact ⟨_, _, [], if_pos rfl, Sl.nil, Mod.refl (by simp)⟩
    · rw [if_neg hk, if_pos (by omega), hs hk]
      refine ⟨_, _, [h.next], rfl, ⟨by simp [hn], .inr ⟨h.next, 2 * k + 1, new, by simp, rfl, by simp, by omega, by simp, ?_, ?_⟩⟩, by simp, fun x hx _ => ?_, by simp, by simp⟩
      · rw [show (2 * k + 1) / 2 = k by omega, hn]; exact Nat.le_refl _
      · simp [← hn]
      · simp; omega
  · have hcs : cs.length = n * es := h0
    simp only [appendD, hx, he, hby, hz, and_self, if_true]
    by_cases hk : k = 0
    · subst hk
      have : new = [] := by simpa using hn
      subst this
      exact ⟨_, _, [b], if_pos rfl, ⟨by simp [h0], .inr ⟨b, c, all, rfl, rfl, hb, by omega, h2, h3, by simp [h4]⟩⟩, Mod.refl hlt⟩
    · rw [if_neg hk]
      have hlen : n * es ≤ all.length := Nat.le_trans (Nat.mul_le_mul_right _ hc) h3
      by_cases hfit : n + k ≤ c / 2
      · rw [if_pos hfit, hs hk, h2]
        have hfl : n * es + new.length ≤ all.length := by
          rw [hn, ← Nat.add_mul]
          exact Nat.le_trans (Nat.mul_le_mul_right _ hfit) h3
        have hw : h.wr b (0 + n * es) new = some (h.put b (.cells (setList all (n * es) new) es .rw)) := by
          simp [AHeap.wr, h2, hfl]
        simp only [h1, and_self, if_true, hw, Option.map_some]
        refine ⟨_, _, [b], rfl, ⟨by simp [h0, hn, Nat.add_mul], .inr ⟨b, c, setList all (n * es) new, rfl, rfl, hb, hfit, by simp, by rw [setList_length]; exact h3, ?_⟩⟩, by simp, fun x _ hx => ?_, fun x hx => .inl hx, hlt⟩
        · rw [setList_eq all new (n * es) hfl, h4, Nat.add_mul, ← hn, ← h0, ← List.length_append, List.take_left]
        · simp at hx; simp [hx]
      · rw [if_neg hfit, if_pos hsum, hs hk]
        have hrd : h.rdN b 0 (n * es) = some cs := by
          rw [rdN_of h2, if_pos (by omega)]; simpa using h4
        simp only [hrd, h2]
        have fin : ∀ h', (h' = h ∨ h' = h.kill b) → ∃ fp', Sl (h'.new (.cells (cs ++ new) es .rw)) fp' (.slice (some ⟨h.next, 0, none⟩) (n + k) (2 * (n + k) + 1)) es (n + k) (cs ++ new) ∧ Mod h [b] (h'.new (.cells (cs ++ new) es .rw)) fp' := by
          intro h' hh
          have hnx : h'.next = h.next := by rcases hh with rfl | rfl <;> rfl
          refine ⟨[h.next], ⟨by simp [h0, hn, Nat.add_mul], .inr ⟨h.next, _, cs ++ new, rfl, rfl, by simp [hnx], by omega, by simp [hnx], ?_, ?_⟩⟩, by simp [hnx], fun x hx hb => ?_, by simp, by simp [hnx]⟩
          · rw [show (2 * (n + k) + 1) / 2 = n + k by omega]; simp [h0, hn, Nat.add_mul]
          · rw [Nat.add_mul, ← h0, ← hn, ← List.length_append, List.take_length]
          · simp at hb
            have : x ≠ h.next := by omega
            rcases hh with rfl | rfl <;> simp [hnx, this, hb]
        split
        · obtain ⟨fp', a, b'⟩ := fin h (.inl rfl)
          exact ⟨_, _, fp', rfl, a, b'⟩
        · obtain ⟨fp', a, b'⟩ := fin (h.kill b) (.inr rfl)
          simp only [h1, ne_eq, reduceCtorEq, not_false_eq_true, and_self, if_true]
          exact ⟨_, _, fp', rfl, a, b'⟩

end Go.Abs

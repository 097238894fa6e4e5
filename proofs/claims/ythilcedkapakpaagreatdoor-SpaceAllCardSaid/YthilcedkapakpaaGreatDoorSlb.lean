/- Lists of texts that were handed in, from the model's worlds to abstract heaps. No program in sight. -/
import Derived.Test.YthilcedkapakpaaGreatDoorSla
import Derived.Test.YthilcedkapakpaaGreatDoorRepB
import Derived.SliceStrings
set_option linter.unusedSimpArgs false
set_option linter.unusedVariables false
namespace Go.Abs
open Go Go.RowKit

/-- **A list of texts that was handed in.** -/
theorem open_strs {H : Type} {enc : TypeId × Value → H} {P : Program} {J : World → Prop} {W : World} {held : Bool} {base : Nat} {t e : TypeId} {v : V} {d : DataW H} {p : List MemPlace}
    (ht : P.underlying t = some (.slice e)) (he : P.underlying e = some .string) (ce : P.cellsOf e = 1) (hJ : J W) (hval : Value.okWide P W .any base t v) (hd : DataW.Trod enc P W 0 (fun _ => true) held t v d p) :
    ∃ (l : List ByteArray) (r : Ren) (h : AHeap) (v' : V), R J W.heap.size r h W ∧ VR r v' v ∧ Strs h.next h v' l ∧ l.length ≤ maxLen := by
  obtain ⟨fuel, hd⟩ := hd
  obtain ⟨a, len, cap, rfl⟩ := WideShapes.okWide_slice ht hval
  rcases ChangeShapes.open_strings ht he ce hd with ⟨h1, _⟩ | ⟨a', len', cap', ss, h1, _, hlc, hcap, hm, _, hr, _⟩
  · simp only [Value.cells, List.cons.injEq, Value.slice.injEq, and_true] at h1
    obtain ⟨rfl, rfl, rfl⟩ := h1
    obtain ⟨r, h, v', hR, hv, hro⟩ := R.ofNil (W := W) hJ 1
    exact ⟨[], r, h, v', hR, hv, hro, by simp⟩
  · simp only [Value.cells, List.cons.injEq, Value.slice.injEq, and_true] at h1
    obtain ⟨h11, h12, h13⟩ := h1
    subst h11
    simp only [if_true] at hm
    rw [← h12, ← h13] at hlc
    rw [← h13] at hcap hm
    clear h12 h13
    obtain ⟨hs, cc, el, fr, hb, ho⟩ := okWide_slice_at ht hval
    have hadd : ∀ k, a'.add k = ⟨a'.block, a'.off + k, none⟩ := by
      intro k
      obtain ⟨bb, oo, sp⟩ := a'
      simp only at hs
      subst hs
      exact addr_add _ _ _
    have each : ∀ i, i < cap → cc[a'.off + i]? = some (str (ss.getD i ByteArray.empty)) := by
      intro i hi
      have h2 := hr i (by omega)
      rw [hadd, cell_of_block hb] at h2
      exact h2
    have hsz : a'.off + cap * 1 ≤ cc.size := by
      by_cases hc0 : cap = 0
      · omega
      · have := (Array.getElem?_eq_some_iff.1 (each (cap - 1) (by omega))).1
        omega
    have hc1 : ((ss.take len).map str).length = len * 1 := by simp; omega
    have hc2 : ∀ j, j < len * 1 → cc[a'.off + j]? = ((ss.take len).map str)[j]? := by
      intro j hj
      rw [each j (by omega), List.getElem?_map, List.getElem?_take, if_pos (by omega), List.getD_eq_getElem?_getD, List.getElem?_eq_getElem (show j < ss.length by omega)]
      rfl
    have hc3 : ∀ u ∈ (ss.take len).map str, closedV u = true := by
      intro u hu
      obtain ⟨s, _, rfl⟩ := List.mem_map.1 hu
      rfl
    obtain ⟨r, h, v', hR, hv, hro⟩ := R.ofSlice (J := J) hJ (es := 1) hs hb hsz hlc hc1 hc2 hc3
    refine ⟨ss.take len, r, h, v', hR, hv, ?_, by simp; omega⟩
    unfold Strs
    rw [List.length_take, Nat.min_eq_left (by omega)]
    exact hro

end Go.Abs

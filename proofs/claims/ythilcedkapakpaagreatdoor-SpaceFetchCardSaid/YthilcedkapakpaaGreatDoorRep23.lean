/- Specs on abstract heaps, part 23: tables: Clone, Keys. -/
import Derived.Test.YthilcedkapakpaaGreatDoorRepD
import Derived.Test.YthilcedkapakpaaGreatDoorRepA
set_option linter.unusedSimpArgs false
set_option linter.unusedVariables false
namespace Go.Abs
open Go Go.Proofs
variable {E : FE} {h : AHeap} {fp : List Nat} {p : V} {l : List En}

theorem table_Clone (t : Tab h fp p l) : cl (F.table_Table_Clone E) [p] h fun r h' => ∃ fp', Tab h' fp' r l ∧ Mod h [] h' fp' := by
  obtain ⟨b, m, clk, rfl, rfl, hne, hb, hm, h1, h2, hn⟩ := t
  refine cl_of ?_
  simp only [F.table_Table_Clone, ptr_eq_nil, kv_some, ifV_bool, Bool.false_eq_true, if_false, aNil_ptr, fieldAddr_ptr, ld_one, Nat.zero_add, rd_of h1, List.getElem?_cons_zero]
  refine cl_of ?_
  simp only [F.maps_Clone_map_string_string_string_string, map_eq_nil, kv_some, ifV_bool, Bool.false_eq_true, if_false, iface]
  refine cl_of ?_
  simp only [F.maps_clone, L.clone, h2, assertD, beq_self_eq_true, Bool.and_self, if_true, Bool.false_eq_true, if_false, kv_some]
  have e1 : ∀ x : Nat, buildD (.struct [(.map none)] [(0, 1)]) [(0, .map (some x))] = some (.agg #[.map (some x)]) := fun _ => rfl
  have e2 : ∀ (x : Nat) (g : AHeap), newD none (.agg #[.map (some x)]) g = some (ptr g.next 0, g.new (.cells [.map (some x)] 1 .rw)) := fun _ _ => rfl
  simp only [e1, e2, kv_some, kP_some]
  refine ⟨[h.next + 1, h.next], ⟨h.next + 1, h.next, clk, by simp, rfl, by simp, by simp, by simp; omega, by simp, by simp, hn⟩, by simp; omega, fun x hx _ => ?_, fun x hx => ?_, fun x hx => ?_⟩
  · have a : x ≠ h.next := by omega
    have a' : x ≠ h.next + 1 := by omega
    simp [a, a']
  · simp at hx; right; omega
  · simp at hx ⊢; omega

theorem srtK_len (es : List MapEntry) : (srtK es).length = es.length := by rw [srtK, List.length_mergeSort, List.length_map]

/-- What slices.Sorted hands back. -/
theorem sorted_row (ks : List (List UInt8)) (h : AHeap) : ∃ fp', Sl (sortH ks h) fp' (sortV ks h) 1 ks.length (ks.map encStr) ∧ Mod h [] (sortH ks h) fp' := by
  unfold sortH sortV
  by_cases hk : ks = []
  · subst hk
    exact ⟨[], Sl.nil, Mod.refl (by simp)⟩
  · rw [if_neg hk, if_neg hk]
    refine ⟨[h.next], ⟨by simp, .inr ⟨h.next, 2 * ks.length + 1, ks.map encStr, rfl, rfl, by simp, by omega, by simp, by simp; omega, by rw [Nat.mul_one, List.take_of_length_le (by simp)]⟩⟩, by simp, fun x hx _ => ?_, by simp, by simp⟩
    have a : x ≠ h.next := by omega
    simp [a]

theorem keys_sorted {b : Nat} {es : Nat} {k : BK} {m clk g : Nat} (hb : h.get b = some (.cells [.map (some m)] es k)) (hm : h.get m = some (.map (l.map ME) clk)) (hn : (keysE l).Nodup ∧ Stp l clk) (hs : ∀ e ∈ l, e.k.size ≤ maxLen) (hl : l.length ≤ 1000)
    (hg : g = E.k 3 ∨ g = E.k 4) {K : V → AHeap → Prop} (hK : K (sortV (srtK (l.map ME)) h) (sortH (srtK (l.map ME)) h)) : F.slices_Sorted_string E [.func (.func g) #[] #[ptr b 0]] h K := by
  refine ⟨rfl, hg, b, m, l.map ME, clk, es, k, rfl, hb, hm, by simpa using hl, fun x hx => ?_, ?_, ?_, hK⟩
  · obtain ⟨e, he, rfl⟩ := List.mem_map.1 hx
    exact ⟨⟨e.k, rfl, hs e he⟩, hn.2.2 e he⟩
  · rw [List.map_map]
    exact hn.2.1
  · rw [List.map_map]
    have h1 := hn.1
    unfold keysE at h1
    refine List.pairwise_map.2 ((List.pairwise_map.1 h1).imp fun {a b} hab e => hab ?_)
    simpa [ME] using e

theorem table_Keys (t : Tab h fp p l) (hs : ∀ e ∈ l, e.k.size ≤ maxLen) (hl : l.length ≤ 1000) :
    cl (F.table_Table_Keys E) [p] h fun r h' => ∃ fp', Sl h' fp' r 1 l.length ((srtK (l.map ME)).map encStr) ∧ Mod h [] h' fp' := by
  obtain ⟨b, m, clk, rfl, rfl, hne, hb, hm, h1, h2, hn⟩ := t
  refine cl_of ?_
  simp only [F.table_Table_Keys, ptr_eq_nil, kv_some, ifV_bool, Bool.false_eq_true, if_false, aNil_ptr, fieldAddr_ptr, ld_one, Nat.zero_add, rd_of h1, List.getElem?_cons_zero]
  refine cl_of ?_
  have e2 : newD none (.map (some m)) h = some (ptr h.next 0, h.new (.cells [.map (some m)] 1 .rw)) := rfl
  simp only [F.maps_Keys_map_string_string_string_string, e2, kP_some]
  refine cl_of ?_
  have m0 : Mod h [] (h.new (.cells [.map (some m)] 1 .rw)) [] := Mod.newBox (by simp)
  show F.slices_Sorted_string E _ _ _
  refine keys_sorted (l := l) (b := h.next) (m := m) (clk := clk) (es := 1) (k := .rw) (by simp) (by simp [Nat.ne_of_lt hm, h2]) hn hs hl (.inl rfl) ?_
  obtain ⟨fp', q1, q2⟩ := sorted_row (srtK (l.map ME)) (h.new (.cells [.map (some m)] 1 .rw))
  rw [srtK_len, List.length_map] at q1
  exact ⟨fp', q1, m0.trans q2⟩

end Go.Abs

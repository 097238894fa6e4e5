/- Specs on abstract heaps, part 11: operations that are read whole; texts that are compared. -/
import Derived.Test.YthilcedkapakpaaGreatDoorRep10
import Derived.Laws.Strings
set_option linter.unusedSimpArgs false
set_option linter.unusedVariables false
namespace Go.Abs
open Go

theorem ba_toList (a : ByteArray) : a.toList = a.data.toList := by first | exact ByteArray.toList_eq a | exact Go.ByteArray.toList_eq a

theorem ba_toList_eq (a b : ByteArray) : (a.toList == b.toList) = decide (a = b) := by
  rw [ba_toList, ba_toList]
  by_cases h : a = b
  · subst h; simp
  · have : ¬ a.data.toList = b.data.toList := fun e => h (by cases a; cases b; exact congrArg ByteArray.mk (Array.ext' e))
    rw [beq_eq_false_iff_ne.2 this]
    simp [h]

variable {N : Nat} {h h' : AHeap} {v : V} {es n : Nat} {cs : List V} {fp fp' : List Nat}

theorem str_eql (k : EqK) (c : Bool) (a b : ByteArray) : binD k .eql c (str a) (str b) h = some (.bool (decide (a = b))) := by
  rw [bin_str]
  simp only [aStr, ba_toList_eq]

theorem str_neq (k : EqK) (c : Bool) (a b : ByteArray) : binD k .neq c (str a) (str b) h = some (.bool (!decide (a = b))) := by
  rw [bin_str]
  simp only [aStr, ba_toList_eq]

theorem Ro.row (s : Ro N h v es n cs) (he : 0 < es) {i : Nat} (hi : i < n) :
    ∃ b off, indexAddrD (.slice es) v (i64 i) = some (ptr b off) ∧ b < N ∧ h.rdN b off es = some ((cs.drop (i * es)).take es) := by
  obtain ⟨h0, h1, ⟨rfl, rfl⟩ | ⟨b, o, c, all, rfl, hb, hc, hg, ha⟩⟩ := s
  · omega
  · refine ⟨b, o + i * es, ?_, hb, ?_⟩
    · have : (0 : Int) ≤ i ∧ (i : Int) < n := by omega
      simp only [indexAddrD, if_pos this, Int.toNat_natCast]
    · have hl : i * es + es ≤ n * es := by
        have : (i + 1) * es ≤ n * es := Nat.mul_le_mul_right _ hi
        rw [Nat.add_mul, Nat.one_mul] at this
        exact this
      have hlen : n * es ≤ all.length - o := by
        rw [← ha, List.length_take, List.length_drop] at h0
        omega
      rw [rdN_of hg, ← ha, List.drop_take, List.take_take, List.drop_drop]
      have : es ≤ n * es := by omega
      rw [if_pos (by omega), Nat.min_eq_left (by omega)]

theorem Ops.row {l : List OpA} (s : Ops N h v l) {i : Nat} {o : OpA} (hi : l[i]? = some o) :
    ∃ b off, indexAddrD (.slice 6) v (i64 i) = some (ptr b off) ∧ ldD (.agg 6) (ptr b off) h = some (.agg #[i64 o.kind, str o.key, str o.val, i64 o.a, i64 o.b, i64 o.now]) := by
  obtain ⟨hlt, _⟩ := List.getElem?_eq_some_iff.1 hi
  obtain ⟨b, off, e, _, hr⟩ := Ro.row s (by decide) hlt
  refine ⟨b, off, e, ?_⟩
  have : ((l.flatMap OpA.cells).drop (i * 6)).take 6 = o.cells := by
    apply List.ext_getElem?
    intro j
    rw [List.getElem?_take]
    split
    · rename_i hj
      rw [List.getElem?_drop, ops_cells l i o hi j hj]
    · rename_i hj
      rw [List.getElem?_eq_none (by simp [OpA.cells]; omega)]
  rw [ld_agg, hr, this]
  rfl

theorem new6 (a b c d e f : V) : newD none (.agg #[a, b, c, d, e, f]) h = some (ptr h.next 0, h.new (.cells [a, b, c, d, e, f] 6 .rw)) := rfl

theorem st6 {b : Nat} {c1 c2 c3 c4 c5 c6 : V} {o : OpA} (hb : h.get b = some (.cells [c1, c2, c3, c4, c5, c6] 6 .rw)) :
    stD (some 6) (ptr b 0) (.agg #[i64 o.kind, str o.key, str o.val, i64 o.a, i64 o.b, i64 o.now]) h = some (h.put b (.cells o.cells 6 .rw)) :=
  st_of (n := 6) (vs := o.cells) (o := 0) hb (by simp) rfl rfl rfl (by simp)

end Go.Abs

/- Specs on abstract heaps, part 9: topics: Seek, Fetch. -/
import Derived.Test.YthhegdifbnghpaaGreatDoorWat
import Derived.Laws.Strings
set_option linter.unusedSimpArgs false
set_option linter.unusedVariables false
namespace Go.Abs
open Go
def Ro (N : Nat) (h : AHeap) (v : V) (es n : Nat) (cs : List V) : Prop :=
 cs.length = n * es ∧ N ≤ h.next ∧ ((v = .slice none 0 0 ∧ n = 0) ∨
  ∃ b o c all, v = .slice (some ⟨b, o, none⟩) n c ∧ b < N ∧ n ≤ c / 2 ∧ h.get b = some (.cells all es .ro) ∧ (all.drop o).take (n * es) = cs)
variable {N : Nat} {h h' : AHeap} {v : V} {es n : Nat} {cs : List V} {fp fp' : List Nat}
theorem Ro.len (s : Ro N h v es n cs) (h' : AHeap) : lenD .slice v h' = some (i64 n) := by
 obtain ⟨_, _, ⟨rfl, rfl⟩ | ⟨b, o, c, all, rfl, _⟩⟩ := s <;> rfl
theorem Ro.at (s : Ro N h v es n cs) {i : Nat} (hi : i < n) :
 ∃ b off, indexAddrD (.slice es) v (i64 i) = some (ptr b off) ∧ ∀ j, j < es → h.rd b (off + j) = cs[i * es + j]? := by
 obtain ⟨h0, h1, ⟨rfl, rfl⟩ | ⟨b, o, c, all, rfl, hb, hc, hg, ha⟩⟩ := s
 · omega
 · refine ⟨b, o + i * es, ?_, fun j hj => ?_⟩
   · have : (0 : Int) ≤ i ∧ (i : Int) < n := by omega
     simp only [indexAddrD, if_pos this, Int.toNat_natCast]
   · have hl : i * es + j < n * es := by
      have : (i + 1) * es ≤ n * es := Nat.mul_le_mul_right _ hi
      rw [Nat.add_mul, Nat.one_mul] at this
      omega
     rw [rd_of hg, ← ha, List.getElem?_take, if_pos hl, List.getElem?_drop, Nat.add_assoc]
structure OpA where
 kind : Int
 key : ByteArray
 val : ByteArray
 a : Int
 b : Int
 now : Int
 deriving Inhabited
def OpA.cells (o : OpA) : List V := [i64 o.kind, str o.key, str o.val, i64 o.a, i64 o.b, i64 o.now]
def Ops (N : Nat) (h : AHeap) (v : V) (l : List OpA) : Prop := Ro N h v 6 l.length (l.flatMap OpA.cells)
theorem ops_cells : ∀ (l : List OpA) (i : Nat) (o : OpA), l[i]? = some o → ∀ j, j < 6 → (l.flatMap OpA.cells)[i * 6 + j]? = o.cells[j]?
 | [], i, o, h, _, _ => by simp at h
 | a :: l, 0, o, h, j, hj => by
  simp only [List.getElem?_cons_zero, Option.some.injEq] at h
  subst h
  rw [List.flatMap_cons, List.getElem?_append_left (by simp [OpA.cells]; omega)]
  simp
 | a :: l, i + 1, o, h, j, hj => by
  rw [List.getElem?_cons_succ] at h
  rw [List.flatMap_cons, List.getElem?_append_right (by simp [OpA.cells]; omega), ← ops_cells l i o h j hj]
  congr 1
  simp [OpA.cells]
  omega
theorem Ops.at {l : List OpA} (s : Ops N h v l) {i : Nat} {o : OpA} (hi : l[i]? = some o) :
 ∃ b off, indexAddrD (.slice 6) v (i64 i) = some (ptr b off) ∧ h.rd b off = some (i64 o.kind) ∧ h.rd b (off + 1) = some (str o.key) ∧ h.rd b (off + 2) = some (str o.val) ∧ h.rd b (off + 3) = some (i64 o.a) ∧
  h.rd b (off + 4) = some (i64 o.b) ∧ h.rd b (off + 5) = some (i64 o.now) := by
 obtain ⟨hlt, _⟩ := List.getElem?_eq_some_iff.1 hi
 obtain ⟨b, off, e, hr⟩ := Ro.at s hlt
 have k := fun j hj => (hr j hj).trans (ops_cells l i o hi j hj)
 exact ⟨b, off, e, k 0 (by decide), k 1 (by decide), k 2 (by decide), k 3 (by decide), k 4 (by decide), k 5 (by decide)⟩
end Go.Abs
namespace Go.Abs
open Go
theorem ba_toList (a : ByteArray) : a.toList = a.data.toList := by first | exact ByteArray.toList_eq a | exact Go.ByteArray.toList_eq a
theorem ba_toList_eq (a b : ByteArray) : (a.toList == b.toList) = decide (a = b) := by
 rw [ba_toList, ba_toList]
 by_cases h : a = b
 · subst h; simp
 · have : ¬ a.data.toList = b.data.toList := fun e => h (by cases a; cases b; exact congrArg ByteArray.mk (Array.ext' e))
   rw [beq_eq_false_iff_ne.2 this]
   simp [h]
variable {N : Nat} {h h' : AHeap} {v : V} {es n : Nat} {cs : List V} {fp fp' : List Nat}
theorem str_eql (k : EqK) (c : Bool) (a b : ByteArray) : binD k .eql c (str a) (str b) h = some (.bool (decide (a = b))) := by
 rw [bin_str]
 simp only [aStr, ba_toList_eq]
theorem str_neq (k : EqK) (c : Bool) (a b : ByteArray) : binD k .neq c (str a) (str b) h = some (.bool (!decide (a = b))) := by
 rw [bin_str]
 simp only [aStr, ba_toList_eq]
end Go.Abs

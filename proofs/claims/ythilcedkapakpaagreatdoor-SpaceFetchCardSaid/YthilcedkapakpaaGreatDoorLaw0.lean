/- What the laws' proofs share. -/
import Derived.Test.YthilcedkapakpaaGreatDoorRepA
set_option linter.unusedSimpArgs false
set_option linter.unusedVariables false
namespace Go.Abs
open Go

theorem gdC_yes {b w : Bool} {h : AHeap} {t : (V → AHeap → Prop) → Prop} {K : V → AHeap → Prop} (hb : b = w) (ht : t K) : gdC (.bool b) w h t K :=
  gdC.intro K ⟨.inl ⟨hb, ht⟩, fun _ _ h => h⟩

theorem gdC_no {b w : Bool} {h : AHeap} {t : (V → AHeap → Prop) → Prop} {K : V → AHeap → Prop} (hb : b ≠ w) (hk : K gone h) : gdC (.bool b) w h t K :=
  gdC.intro K ⟨.inr ⟨hb, hk⟩, fun _ _ h => h⟩

theorem gdC_gone {w : Bool} {h : AHeap} {t : (V → AHeap → Prop) → Prop} {K : V → AHeap → Prop} (hk : K gone h) : gdC gone w h t K :=
  gdC.intro K ⟨hk, fun _ _ h => h⟩

/-- A mask of low bits. -/
theorem and_mask {k : EqK} {c : Bool} {h : AHeap} (a m : Int) (h0 : 0 ≤ m) (h1 : m ≤ 4294967295) : ∃ r, binD k .and c (i64 a) (i64 m) h = some (i64 r) ∧ 0 ≤ r ∧ r ≤ m := by
  have e : (BitVec.ofInt 64 a &&& BitVec.ofInt 64 m).toNat ≤ m.toNat := by
    rw [BitVec.toNat_and]
    refine Nat.le_trans Nat.and_le_right ?_
    rw [BitVec.toNat_ofInt]
    omega
  refine ⟨((BitVec.ofInt 64 a &&& BitVec.ofInt 64 m).toNat : Int), ?_, by omega, by omega⟩
  show some (Value.int .i64 (IntKind.i64.wrap _)) = _
  rw [show IntKind.i64.bits = 64 from rfl, wrap_i64 (by omega) (by omega)]

theorem Mod.box {h : AHeap} {h' : AHeap} {fp fp' : List Nat} {o : AObj} (m : Mod (h.new o) fp h' fp') (hl : ∀ x ∈ fp, x < h.next) : h'.get h.next = some o := by
  rw [m.same h.next (by simp) fun hx => Nat.lt_irrefl _ (hl _ hx)]
  simp

theorem law_one {E : FE} {h : AHeap} (b : Bool) : cl (F.estafettelaw8_one E) [.bool b] h fun r h' => h' = h ∧ r = i64 (if b then 1 else 0) := by
  refine cl_of ?_
  cases b <;> simp [F.estafettelaw8_one]

theorem Ms.len {h : AHeap} {fp : List Nat} {v : V} {l : List Msg} (s : Ms h fp v l) : lenD .slice v h = some (i64 l.length) := Sl.len s

end Go.Abs

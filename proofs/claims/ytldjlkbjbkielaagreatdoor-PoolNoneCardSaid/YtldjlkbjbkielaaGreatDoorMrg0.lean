/- What a call leaves, told anew: what was turned, and what is new and can be come to, under names of its own; all else is left out. -/
import Derived.Test.YtldjlkbjbkielaaGreatDoorAbs25
set_option linter.unusedSimpArgs false
set_option linter.unusedVariables false
namespace Go.Abs
open Go

/-! ### Heaps over heaps -/

abbrev Lay2 := List (Nat × Option AObj)

def layG (g : Nat → Option AObj) : Lay2 → Nat → Option AObj
  | [], x => g x
  | (k, o) :: D, x => cond (Nat.beq x k) o (layG g D x)

def toH (h : AHeap) (D : Lay2) (n : Nat) : AHeap := ⟨layG h.get D, h.next + n⟩

theorem layG_cases {g : Nat → Option AObj} {x : Nat} {o : AObj} : ∀ {D : Lay2}, layG g D x = some o → (x, some o) ∈ D ∨ ((∀ p ∈ D, p.1 ≠ x) ∧ g x = some o)
  | [], h => .inr ⟨by simp, h⟩
  | (k, o') :: D, h => by
    simp only [layG] at h
    cases e : Nat.beq x k with
    | true =>
      rw [e] at h
      have := Nat.eq_of_beq_eq_true e
      subst this
      simp only [cond_true] at h
      subst h
      exact .inl (by simp)
    | false =>
      rw [e] at h
      simp only [cond_false] at h
      rcases layG_cases h with h1 | ⟨h1, h2⟩
      · exact .inl (by simp [h1])
      · refine .inr ⟨fun p hp => ?_, h2⟩
        rcases List.mem_cons.1 hp with rfl | hp
        · rintro rfl
          rw [Nat.beq_refl] at e
          cases e
        · exact h1 p hp

theorem layG_out {g : Nat → Option AObj} {x : Nat} : ∀ {D : Lay2}, (∀ p ∈ D, p.1 ≠ x) → layG g D x = g x
  | [], _ => rfl
  | (k, o) :: D, h => by
    have hk : Nat.beq x k = false := by
      cases e : Nat.beq x k with
      | false => rfl
      | true => exact absurd (Nat.eq_of_beq_eq_true e).symm (h (k, o) (by simp))
    simp only [layG, hk, cond_false]
    exact layG_out fun p hp => h p (by simp [hp])

/-! ### Other names -/

def ren0 (m : Nat → Option Nat) : V → Option V
  | .bool b => some (.bool b)
  | .int k n => some (.int k n)
  | .string s => some (.string s)
  | .pointer none => some (.pointer none)
  | .pointer (some ⟨b, o, none⟩) => (m b).map fun b' => .pointer (some ⟨b', o, none⟩)
  | .slice none n c => some (.slice none n c)
  | .slice (some ⟨b, o, none⟩) n c => (m b).map fun b' => .slice (some ⟨b', o, none⟩) n c
  | .map none => some (.map none)
  | .map (some b) => (m b).map fun b' => .map (some b')
  | .nilFunc => some .nilFunc
  | .nilIface => some .nilIface
  | _ => none

def renL (m : Nat → Option Nat) : List V → Option (List V)
  | [] => some []
  | v :: l => match ren0 m v, renL m l with
    | some v', some l' => some (v' :: l')
    | _, _ => none

def ren1 (m : Nat → Option Nat) : V → Option V
  | .agg c => (renL m c.toList).map fun l => .agg l.toArray
  | .func fn f c => match renL m f.toList, renL m c.toList with
    | some f', some c' => some (.func fn f'.toArray c'.toArray)
    | _, _ => none
  | .iface t v => (ren0 m v).map fun v' => .iface t v'
  | v => ren0 m v

def renM (m : Nat → Option Nat) : List V → Option (List V)
  | [] => some []
  | v :: l => match ren1 m v, renM m l with
    | some v', some l' => some (v' :: l')
    | _, _ => none

def ren2 (m : Nat → Option Nat) : V → Option V
  | .tuple c => (renM m c.toList).map fun l => .tuple l.toArray
  | v => ren1 m v

def renE (m : Nat → Option Nat) : List MapEntry → Option (List MapEntry)
  | [] => some []
  | e :: l => match ren1 m e.key, ren1 m e.val, renE m l with
    | some k, some v, some l' => some (⟨k, v, e.born⟩ :: l')
    | _, _, _ => none

def renO (m : Nat → Option Nat) : AObj → Option AObj
  | .cells c e k => (renM m c).map fun c' => .cells c' e k
  | .map es clk => (renE m es).map fun es' => .map es' clk
  | .siter s p => some (.siter s p)
  | .miter none a s l => some (.miter none a s l)
  | .miter (some b) a s l => (m b).map fun b' => .miter (some b') a s l

set_option linter.unusedSectionVars false
section
variable {r r2 : Ren} {m : Nat → Option Nat} (hm : ∀ b b' t, m b = some b' → r b = some t → r2 b' = some t)
include hm

theorem ren0_sound {x y x' : V} (h : ren0 m x = some y) (hv : VR r x x') : VR r2 y x' := by
  unfold ren0 at h
  split at h
  case h_5 b o =>
    obtain ⟨b', hb, rfl⟩ := Option.map_eq_some_iff.1 h
    cases hv with
    | ptr h1 => exact .ptr (hm _ _ _ hb h1)
  case h_6 n c =>
    cases h
    cases hv with
    | sliceNil => exact .sliceNil
    | sliceGone a c => exact .sliceGone a c
  case h_7 b o n c =>
    obtain ⟨b', hb, rfl⟩ := Option.map_eq_some_iff.1 h
    cases hv with
    | slice h1 h2 h3 h4 => exact .slice (hm _ _ _ hb h1) h2 h3 h4
  case h_9 b =>
    obtain ⟨b', hb, rfl⟩ := Option.map_eq_some_iff.1 h
    cases hv with
    | map h1 => exact .map (hm _ _ _ hb h1)
  case h_12 => cases h
  all_goals
    cases h
    cases hv
    constructor

theorem renL_sound : ∀ {x y x' : List V}, renL m x = some y → VRl r x x' → VRl r2 y x'
  | [], y, x', h, hv => by
    simp only [renL, Option.some.injEq] at h
    subst h
    have : x' = [] := List.eq_nil_of_length_eq_zero hv.1.symm
    subst this
    exact VRl.nil _
  | v :: l, y, x', h, hv => by
    simp only [renL] at h
    split at h
    · rename_i v' l' h1 h2
      cases h
      cases x' with
      | nil => have := hv.1; simp at this
      | cons a x' =>
        exact VRl.cons (ren0_sound hm h1 (hv.2 0 (by simp) (by simp))) (renL_sound h2 ⟨by simpa using hv.1, fun i h3 h4 => hv.2 (i + 1) (by simpa using h3) (by simpa using h4)⟩)
    · cases h

theorem ren1_sound {x y x' : V} (h : ren1 m x = some y) (hv : VR r x x') : VR r2 y x' := by
  unfold ren1 at h
  split at h
  · obtain ⟨l, hl, rfl⟩ := Option.map_eq_some_iff.1 h
    cases hv with
    | agg h1 h2 =>
      have := renL_sound hm hl (VRa.toList ⟨h1, h2⟩)
      exact VRl.agg this
  · split at h
    · rename_i f' c' h1 h2
      cases h
      cases hv with
      | func _ a1 a2 a3 a4 =>
        have b1 := (renL_sound hm h1 (VRa.toList ⟨a1, a2⟩)).toArray
        have b2 := (renL_sound hm h2 (VRa.toList ⟨a3, a4⟩)).toArray
        exact .func _ b1.1 b1.2 b2.1 b2.2
    · cases h
  · obtain ⟨v', h1, rfl⟩ := Option.map_eq_some_iff.1 h
    cases hv with
    | iface _ h2 => exact .iface _ (ren0_sound hm h1 h2)
  · exact ren0_sound hm h hv

theorem renM_sound : ∀ {x y x' : List V}, renM m x = some y → VRl r x x' → VRl r2 y x'
  | [], y, x', h, hv => by
    simp only [renM, Option.some.injEq] at h
    subst h
    have : x' = [] := List.eq_nil_of_length_eq_zero hv.1.symm
    subst this
    exact VRl.nil _
  | v :: l, y, x', h, hv => by
    simp only [renM] at h
    split at h
    · rename_i v' l' h1 h2
      cases h
      cases x' with
      | nil => have := hv.1; simp at this
      | cons a x' =>
        exact VRl.cons (ren1_sound hm h1 (hv.2 0 (by simp) (by simp))) (renM_sound h2 ⟨by simpa using hv.1, fun i h3 h4 => hv.2 (i + 1) (by simpa using h3) (by simpa using h4)⟩)
    · cases h

theorem ren2_sound {x y x' : V} (h : ren2 m x = some y) (hv : VR r x x') : VR r2 y x' := by
  unfold ren2 at h
  split at h
  · rename_i c
    obtain ⟨l, hl, rfl⟩ := Option.map_eq_some_iff.1 h
    cases hv with
    | junk v =>
      have : l = [] := by
        have : renM m [] = some l := hl
        simpa [renM] using this.symm
      subst this
      exact .junk _
    | tuple h1 h2 =>
      have := (renM_sound hm hl (VRa.toList ⟨h1, h2⟩)).toArray
      exact .tuple this.1 this.2
  · exact ren1_sound hm h hv

theorem renE_sound : ∀ {x y x' : List MapEntry}, renE m x = some y → VRe r x x' → VRe r2 y x'
  | [], y, x', h, hv => by
    simp only [renE, Option.some.injEq] at h
    subst h
    exact ⟨hv.1, fun i h => by simp at h⟩
  | e :: l, y, x', h, hv => by
    simp only [renE] at h
    split at h
    · rename_i k v l' h1 h2 h3
      cases h
      cases x' with
      | nil => have := hv.1; simp at this
      | cons a x' =>
        obtain ⟨a1, a2, a3⟩ := hv.2 0 (by simp) (by simp)
        have ht := renE_sound h3 hv.tail
        refine ⟨by simp [ht.1], fun i h4 h5 => ?_⟩
        cases i with
        | zero => exact ⟨ren1_sound hm h1 a1, ren1_sound hm h2 a2, a3⟩
        | succ i => exact ht.2 i (by simpa using h4) (by simpa using h5)
    · cases h

theorem renL_len : ∀ {x y : List V}, renM m x = some y → y.length = x.length
  | [], y, h => by simp only [renM, Option.some.injEq] at h; rw [← h]
  | v :: l, y, h => by
    simp only [renM] at h
    split at h
    · rename_i v' l' h1 h2
      cases h
      simp [renL_len h2]
    · cases h

theorem renE_len : ∀ {x y : List MapEntry}, renE m x = some y → y.length = x.length
  | [], y, h => by simp only [renE, Option.some.injEq] at h; rw [← h]
  | v :: l, y, h => by
    simp only [renE] at h
    split at h
    · rename_i k v' l' h1 h2 h3
      cases h
      simp [renE_len h3]
    · cases h

theorem renO_sound {B : Nat} {w : World} {t : Tgt} {o o' : AObj} (h : renO m o = some o') (hO : OR B r w t o) : OR B r2 w t o' := by
  unfold renO at h
  split at h
  · rename_i c e k
    obtain ⟨c', hc, rfl⟩ := Option.map_eq_some_iff.1 h
    obtain ⟨h0, ⟨cc, el, fr, h1, h2, h3, h4, h5⟩, h6⟩ := hO
    have hl := renL_len hm hc
    refine ⟨h0, ⟨cc, el, fr, h1, h2, by omega, fun i hi hi' => ?_, h5⟩, h6⟩
    have hv : VRl r c (cc.toList.take c.length) := ⟨by simp; omega, fun j a b => by simpa using h4 j a (by omega)⟩
    have := (renM_sound hm hc hv).2 i hi (by simp; omega)
    simpa using this
  · rename_i es clk
    obtain ⟨es', hc, rfl⟩ := Option.map_eq_some_iff.1 h
    obtain ⟨h0, ces, h1, h2, h3⟩ := hO
    have hv : VRe r es ces.toList := ⟨by simpa using h2, fun i a b => by simpa using h3 i a (by simpa using b)⟩
    have hv' := renE_sound hm hc hv
    exact ⟨h0, ces, h1, by simpa using hv'.1, fun i a b => by have := hv'.2 i a (by simpa using b); simpa only [Array.getElem_toList] using this⟩
  · cases h; exact hO
  · cases h; exact hO
  · rename_i b a s l
    obtain ⟨b', hb, rfl⟩ := Option.map_eq_some_iff.1 h
    obtain ⟨h0, tm, h1, h2⟩ := hO
    exact ⟨h0, tm, hm _ _ _ hb h1, h2⟩

end

theorem renO_ro {m : Nat → Option Nat} {o o' : AObj} (h : renO m o = some o') : (o.isRo ↔ o'.isRo) := by
  unfold renO at h
  split at h
  · obtain ⟨c', _, rfl⟩ := Option.map_eq_some_iff.1 h
    constructor
    · rintro ⟨c, e, he⟩; cases he; exact ⟨_, _, rfl⟩
    · rintro ⟨c, e, he⟩; cases he; exact ⟨_, _, rfl⟩
  · obtain ⟨c', _, rfl⟩ := Option.map_eq_some_iff.1 h
    constructor <;> (rintro ⟨c, e, he⟩; cases he)
  · cases h; rfl
  · cases h; rfl
  · obtain ⟨b', _, rfl⟩ := Option.map_eq_some_iff.1 h
    constructor <;> (rintro ⟨c, e, he⟩; cases he)

/-- What names old blocks alone reads the same. -/
theorem VR.under {r0 r r2 : Ren} (hu : ∀ b t, r0 b = some t → ∀ t', r b = some t' → r2 b = some t') {x x0 : V} (h0 : VR r0 x x0) : ∀ {x' : V}, VR r x x' → VR r2 x x' := by
  induction h0 with
  | junk v => intro x' h; exact .junk _
  | gone => intro x' h; cases h; exact .gone
  | bool b => intro x' h; cases h; exact .bool b
  | int k n => intro x' h; cases h; exact .int k n
  | float k n => intro x' h; cases h; exact .float k n
  | string s => intro x' h; cases h; exact .string s
  | ptrNil => intro x' h; cases h; exact .ptrNil
  | ptr h1 => intro x' h; cases h with | ptr h2 => exact .ptr (hu _ _ h1 _ h2)
  | sliceNil => intro x' h; cases h; exact .sliceNil
  | slice h1 _ _ _ => intro x' h; cases h with | slice h2 a b c => exact .slice (hu _ _ h1 _ h2) a b c
  | sliceGone a c => intro x' h; cases h with | sliceGone a c => exact .sliceGone a c
  | mapNil => intro x' h; cases h; exact .mapNil
  | map h1 => intro x' h; cases h with | map h2 => exact .map (hu _ _ h1 _ h2)
  | nilFunc => intro x' h; cases h; exact .nilFunc
  | func fn a1 _ a3 _ i1 i2 =>
    intro x' h
    cases h with
    | func _ b1 b2 b3 b4 => exact .func fn b1 (fun i h1 h2 => i1 i h1 (by omega) (b2 i h1 h2)) b3 fun i h1 h2 => i2 i h1 (by omega) (b4 i h1 h2)
  | iface t _ ih => intro x' h; cases h with | iface _ h2 => exact .iface t (ih h2)
  | nilIface => intro x' h; cases h; exact .nilIface
  | agg hc _ ih => intro x' h; cases h with | agg b1 b2 => exact .agg b1 fun i h1 h2 => ih i h1 (by omega) (b2 i h1 h2)
  | tuple hc _ ih =>
    intro x' h
    cases h with
    | junk v => exact .junk _
    | tuple b1 b2 => exact .tuple b1 fun i h1 h2 => ih i h1 (by omega) (b2 i h1 h2)

theorem OR.under {r0 r r2 : Ren} (hu : ∀ b t, r0 b = some t → ∀ t', r b = some t' → r2 b = some t') {B B0 : Nat} {w w0 : World} {t t0 : Tgt} {o : AObj} (h0 : OR B0 r0 w0 t0 o) (h : OR B r w t o) : OR B r2 w t o := by
  cases o with
  | cells c e k =>
    obtain ⟨_, ⟨cc0, _, _, _, _, z3, z4, _⟩, _⟩ := h0
    obtain ⟨a0, ⟨cc, el, fr, a1, a2, a3, a4, a5⟩, a6⟩ := h
    exact ⟨a0, ⟨cc, el, fr, a1, a2, a3, fun i hi hi' => (z4 i hi (by omega)).under hu (a4 i hi hi'), a5⟩, a6⟩
  | map es clk =>
    obtain ⟨_, ces0, _, z2, z3⟩ := h0
    obtain ⟨a0, ces, a1, a2, a3⟩ := h
    exact ⟨a0, ces, a1, a2, fun i hi hi' => ⟨(z3 i hi (by omega)).1.under hu (a3 i hi hi').1, (z3 i hi (by omega)).2.1.under hu (a3 i hi hi').2.1, (a3 i hi hi').2.2⟩⟩
  | siter s p => exact h
  | miter m a s l =>
    cases m with
    | none => exact h
    | some m =>
      obtain ⟨_, tm0, z1, _⟩ := h0
      obtain ⟨a0, tm, a1, a2⟩ := h
      exact ⟨a0, tm, hu _ _ z1 _ a1, a2⟩

end Go.Abs

/- Our own abstract machine, part 13: the other builtins; operands; every operation but calls. -/
import Derived.Test.YtldjlkbjbkielaaGreatDoorAbs12
set_option linter.unusedSimpArgs false
set_option linter.unusedVariables false
namespace Go.Abs
open Go Go.RowKit

section
variable {P : Program} {J : World → Prop} {B : Nat} {r : Ren} {h : AHeap} {w : World}

theorem copy_sound (hJ : Stays J B) (hR : R J B r h w) {ts : Array TypeId} {ty : TypeId} {d d' s s' v : V} {h' : AHeap} (hd : VR r d d') (hs : VR r s s') (hc : aCopy P ts d s h = some (v, h')) :
    ∃ v' w', (Builtin.copy_ ts ty #[d', s']).run P w = .ok v' w' ∧ R J B r h' w' ∧ Ext r h w r h' w' ∧ VR r v v' := by
  unfold aCopy at hc
  split at hc
  case h_2 => cases hc
  rename_i e he
  obtain ⟨dt, hdt⟩ : ∃ dt, ts[0]? = some dt := by
    cases h0 : ts[0]? with
    | none => simp [h0] at he
    | some st => exact ⟨st, rfl⟩
  simp only [hdt, Option.bind_some] at he
  have hu := eltT_und he
  split at hc
  · rename_i size n hsz hn
    cases hd
    simp only [Option.some.injEq, Prod.mk.injEq] at hc
    obtain ⟨rfl, rfl⟩ := hc
    refine ⟨.int .i64 0, w, ?_, hR, Ext.refl _ _ _, .int _ _⟩
    simp [Builtin.copy_, hdt, run_und hu, lenOf_all (P := P) hs hn, run_sizeOf hsz, firstCells_zero (P := P) (w := w) (lenOf_shape hs hn), goInt]
  · rename_i size b o m c n hsz hn
    cases hd with
    | @slice _ _ _ _ c' tg htg hcr hnm hz =>
    split at hc
    · rename_i hpos
      split at hc
      · rename_i cs hcs
        simp only at hc
        split at hc
        · rename_i hone
          cases hwr : h.wr b o (cs.take (Nat.min n m * size)) with
          | none => simp [hwr] at hc
          | some h2 =>
            simp only [hwr, Option.map_some, Option.some.injEq, Prod.mk.injEq] at hc
            obtain ⟨rfl, rfl⟩ := hc
            obtain ⟨nl, g1, g2, g3⟩ := src_sound (P := P) hR hs hn hcs
            have hmin : Nat.min n m ≤ n := Nat.min_le_left n m
            have hmul : Nat.min n m * size ≤ n * size := Nat.mul_le_mul_right _ hmin
            -- the first ones of them
            have hfirst : ∃ nl', (Builtin.firstCells size (Nat.min n m) s').run P w = .ok nl' w ∧ VRl r (cs.take (Nat.min n m * size)) nl'.toList := by
              unfold aSrc at hcs
              split at hcs
              · rename_i str
                cases hs
                split at hcs
                · rename_i h1
                  subst h1
                  simp only [Option.some.injEq] at hcs
                  subst hcs
                  refine ⟨_, rfl, ?_⟩
                  simp only [Nat.mul_one, Array.toList_map, ByteArray.data_extract, Array.toList_extract, List.extract_eq_take_drop, List.drop_zero, Nat.sub_zero]
                  rw [← List.map_take]
                  refine ⟨rfl, fun i a b => ?_⟩
                  simp only [List.getElem_map]
                  exact .int _ _
                · cases hcs
              · unfold sliceCells at hcs
                split at hcs
                · cases hs
                  simp only [Option.some.injEq] at hcs
                  subst hcs
                  exact ⟨#[], rfl, by simp; exact VRl.nil r⟩
                · rename_i b2 o2 m2 c2 _
                  simp only [aLenOf, Option.some.injEq] at hn
                  subst hn
                  cases hs with
                  | @slice _ _ _ _ c3 tg2 htg2 hcr2 hnm2 hz2 =>
                  have : h.rdN b2 o2 (Nat.min m2 m * size) = some (cs.take (Nat.min m2 m * size)) := by
                    unfold AHeap.rdN at hcs ⊢
                    split at hcs
                    · split at hcs
                      · rename_i hb2 hlen
                        simp only [Option.some.injEq] at hcs
                        subst hcs
                        rw [if_pos (by omega), List.take_take, Nat.min_eq_left hmul]
                      · cases hcs
                    · cases hcs
                  obtain ⟨l', h1, h2, h3, h4⟩ := rdN_sound (P := P) hR htg2 this
                  exact ⟨l', h1, h2⟩
                · cases hcs
            obtain ⟨nl', f1, f2⟩ := hfirst
            obtain ⟨w', s1, s2, s3⟩ := wr_sound (P := P) hJ hR htg f2 (oneCells f2 hone) hwr
            refine ⟨.int .i64 (Nat.min n m), w', ?_, s2, s3, .int _ _⟩
            simp [Builtin.copy_, hdt, run_und hu, lenOf_all (P := P) hs hn, run_sizeOf hsz, f1, s1, goInt]
        · cases hc
      · cases hc
    · cases hc
  · cases hc

theorem len_sound (hR : R J B r h w) {ts : Array TypeId} {ty : TypeId} {x x' v : V} (hx : VR r x x') (hl : aLen P ts x h = some v) : (Builtin.len_ ts ty #[x']).run P w = .ok v w ∧ VR r v v := by
  unfold aLen at hl
  obtain ⟨t, ht⟩ : ∃ t, ts[0]? = some t := by
    cases h0 : ts[0]? with
    | none => simp [h0] at hl
    | some t => exact ⟨t, rfl⟩
  simp only [ht, Option.bind_some] at hl
  split at hl
  · rename_i hu
    cases hx; simp only [Option.some.injEq] at hl; subst hl
    exact ⟨by simp [Builtin.len_, ht, run_und hu, goInt], .int _ _⟩
  · rename_i n e hu
    simp only [Option.some.injEq] at hl; subst hl
    exact ⟨by simp [Builtin.len_, ht, run_und hu, goInt], .int _ _⟩
  · rename_i e a n c hu
    simp only [Option.some.injEq] at hl; subst hl
    cases hx <;> exact ⟨by simp [Builtin.len_, ht, run_und hu, goInt], .int _ _⟩
  · rename_i hu
    cases hx; simp only [Option.some.injEq] at hl; subst hl
    exact ⟨by simp [Builtin.len_, ht, run_und hu, goInt], .int _ _⟩
  · rename_i b hu
    cases hx with
    | @map _ tg htg =>
    split at hl
    · rename_i es clock hb
      simp only [Option.some.injEq] at hl; subst hl
      obtain ⟨t', ces, ht', _, hw, hve⟩ := hR.map hb
      rw [htg] at ht'; cases ht'
      have hg := run_getObj (P := P) hw (fun c e f he => by cases he)
      have hle := hve.1
      simp only [Array.length_toList] at hle
      exact ⟨by simp [Builtin.len_, ht, run_und hu, goInt, hg, hle], .int _ _⟩
    · cases hl
  · cases hl

theorem zeroCells_VR {z : List V} {zv : Array V} {n : Nat} (hz : VRl r z zv.toList) (hp : 0 < zv.size) : VRl r (zeros z (n * z.length)) (Builtin.zeroCells zv n).toList := by
  have hl := hz.1
  simp only [Array.length_toList] at hl
  unfold Builtin.zeroCells
  rw [hl]
  exact zeros_VR hz (fun _ => hp)

theorem clear_sound (hJ : Stays J B) (hR : R J B r h w) {ts : Array TypeId} {ty : TypeId} {x x' : V} {h' : AHeap} (hx : VR r x x') (hc : aClear P ts x h = some h') :
    ∃ w', (Builtin.clear_ ts ty #[x']).run P w = .ok (.tuple #[]) w' ∧ R J B r h' w' ∧ Ext r h w r h' w' := by
  unfold aClear at hc
  split at hc
  case h_2 => cases hc
  rename_i e a n c he
  obtain ⟨t, ht⟩ : ∃ t, ts[0]? = some t := by
    cases h0 : ts[0]? with
    | none => simp [h0] at he
    | some st => exact ⟨st, rfl⟩
  simp only [ht, Option.bind_some] at he
  have hu := eltT_und he
  split at hc
  · split at hc
    · subst c
      cases hx
      simp only [Option.some.injEq] at hc; subst hc
      exact ⟨w, by simp [Builtin.clear_, ht, run_und hu], hR, Ext.refl _ _ _⟩
    · cases hc
  · rename_i a0
    simp only [Option.some.injEq] at hc; subst hc
    cases hx
    exact ⟨w, by simp [Builtin.clear_, ht, run_und hu], hR, Ext.refl _ _ _⟩
  · rename_i b o m
    cases hx with
    | @slice _ _ _ _ c' tg htg hcr hnm hz =>
    split at hc
    · rename_i z hzz
      split at hc
      · rename_i hcond
        obtain ⟨hz1, hz2⟩ := hcond
        obtain ⟨zv, hzr, hzl⟩ := zero_cells (P := P) (w := w) (r := r) hzz
        have hzs : zv.cells.size = z.length := by have := hzl.1; simp at this; omega
        have hv := zeroCells_VR (n := m + 1) hzl (by omega)
        have hone : (zeros z ((m + 1) * z.length)).all oneCell = true := by
          rw [List.all_eq_true]
          intro v hv
          simp only [zeros, List.mem_map, List.mem_range] at hv
          obtain ⟨i, _, rfl⟩ := hv
          have hm : i % z.length < z.length := Nat.mod_lt _ (by omega)
          rw [List.getD_eq_getElem?_getD, List.getElem?_eq_getElem hm, Option.getD_some]
          exact List.all_eq_true.1 hz2 _ (List.getElem_mem hm)
        obtain ⟨w', s1, s2, s3⟩ := wr_sound (P := P) hJ hR htg hv (oneCells hv hone) hc
        exact ⟨w', by simp [Builtin.clear_, ht, run_und hu, hzr, s1], s2, s3⟩
      · cases hc
    · cases hc
  · cases hc

theorem minMaxFrom_sound {mx : Bool} : ∀ (l l' : List V) (v v' u : V), VRl r l l' → VR r v v' → aMinMaxFrom mx l v = some u →
    (l'.foldlM (if mx then Builtin.max2 else Builtin.min2) v').run P w = .ok u w ∧ VR r u u
  | [], [], v, v', u, _, hv, hf => by
    cases v <;> simp only [aMinMaxFrom, reduceCtorEq, Option.some.injEq] at hf
    subst hf; cases hv
    exact ⟨rfl, .int _ _⟩
  | [], _ :: _, _, _, _, h, _, _ => by have := h.1; simp at this
  | _ :: _, [], _, _, _, h, _, _ => by have := h.1; simp at this
  | a :: l, a' :: l', v, v', u, h, hv, hf => by
    have h0 : VR r a a' := h.2 0 (by simp) (by simp)
    have ht : VRl r l l' := ⟨by have := h.1; simpa using this, fun i x y => h.2 (i + 1) (by simpa using x) (by simpa using y)⟩
    cases a <;> cases v <;> simp only [aMinMaxFrom, reduceCtorEq] at hf
    split at hf
    · rename_i hk
      subst hk
      cases h0; cases hv
      obtain ⟨g1, g2⟩ := minMaxFrom_sound l l' _ _ u ht (.int _ _) hf
      refine ⟨?_, g2⟩
      simp only [List.foldlM_cons, Sem.run_bind]
      cases mx
      · simp only [Bool.false_eq_true, if_false, Builtin.min2, Sem.run_pure, Result.andThen_ok]
        simpa using g1
      · simp only [if_true, Builtin.max2, Sem.run_pure, Result.andThen_ok]
        simpa using g1
    · cases hf

theorem minMax_sound {mx : Bool} {ts : Array TypeId} {ty : TypeId} {l : List V} {l' : Array V} {v : V} (hl : VRl r l l'.toList) (hm : aMinMax mx l = some v) :
    (if mx then Builtin.max_ ts ty l' else Builtin.min_ ts ty l').run P w = .ok v w ∧ VR r v v := by
  unfold aMinMax at hm
  split at hm
  · rename_i k a rs
    cases hle : l'.toList with
    | nil => rw [hle] at hl; have := hl.1; simp at this
    | cons a' l'' =>
      rw [hle] at hl
      have h0 : VR r (.int k a) a' := hl.2 0 (by simp) (by simp)
      have ht : VRl r rs l'' := ⟨by have := hl.1; simpa using this, fun i x y => hl.2 (i + 1) (by simpa using x) (by simpa using y)⟩
      obtain ⟨g1, g2⟩ := minMaxFrom_sound (P := P) (w := w) rs l'' _ _ v ht h0 hm
      refine ⟨?_, g2⟩
      cases mx
      · simp only [Bool.false_eq_true, if_false, Builtin.min_, hle] at g1 ⊢; exact g1
      · simp only [if_true, Builtin.max_, hle] at g1 ⊢; exact g1
  · cases hm

/-! ### Operands -/

/-- The frame holds what the abstract one says. -/
def EnvR (r : Ren) (e : Nat → V) (a : Act) : Prop := ∀ t, VR r (e t) (a.tmps.getD t undef)

theorem EnvR.mono {r r' : Ren} (hr : r.le r') {e : Nat → V} {a : Act} (h : EnvR r e a) : EnvR r' e a := fun t => (h t).mono hr

theorem EnvR.ev {e : Nat → V} {a : Act} (h : EnvR r e a) (x : Operand) : VR r (aEv e x) (a.eval x) := by
  cases x with
  | tmp t => exact h t
  | const v =>
    simp only [aEv, Act.eval]
    split
    · rename_i hc; exact VR.closed hc
    · exact .junk _
  | global g => exact .junk _
  | func f => exact .func _ rfl (fun i h1 => by simp at h1) rfl (fun i h1 => by simp at h1)

theorem EnvR.arr {e : Nat → V} {a : Act} (h : EnvR r e a) (xs : Array Operand) : VRl r (evArr e xs) (xs.map a.eval).toList := by
  refine ⟨by simp [evArr], fun i h1 h2 => ?_⟩
  simp only [evArr, List.getElem_map, Array.toList_map]
  exact h.ev _

theorem EnvR.opt {e : Nat → V} {a : Act} (h : EnvR r e a) (x : Option Operand) : VRo r (x.map (aEv e)) (x.map a.eval) := by
  cases x with
  | none => exact .none
  | some x => exact .some (h.ev x)

theorem EnvR.pairs {e : Nat → V} {a : Act} (h : EnvR r e a) (ps : Array (Nat × Operand)) : (ps.toList.map fun p => (p.1, aEv e p.2)).length = (ps.toList.map fun p => (p.1, a.eval p.2)).length ∧
    ∀ (i : Nat) (h1 : i < (ps.toList.map fun p => (p.1, aEv e p.2)).length) (h2 : i < (ps.toList.map fun p => (p.1, a.eval p.2)).length),
      (ps.toList.map fun p => (p.1, aEv e p.2))[i].1 = (ps.toList.map fun p => (p.1, a.eval p.2))[i].1 ∧ VR r (ps.toList.map fun p => (p.1, aEv e p.2))[i].2 (ps.toList.map fun p => (p.1, a.eval p.2))[i].2 := by
  refine ⟨by simp, fun i h1 h2 => ?_⟩
  simp only [List.getElem_map]
  exact ⟨trivial, h.ev _⟩

/-- What an operation comes to. -/
def Done (P : Program) (J : World → Prop) (B : Nat) (r : Ren) (h : AHeap) (w : World) (s : Sem Next) (v : V) (h' : AHeap) : Prop :=
  ∃ r' n w', s.run P w = .ok n w' ∧ R J B r' h' w' ∧ Ext r h w r' h' w' ∧ ((∃ v', n = .value v' ∧ VR r' v v') ∨ (n = .skip ∧ v = junk))

theorem Done.same (hR : R J B r h w) {s : Sem V} {v v' : V} (hs : s.run P w = .ok v' w) (hv : VR r v v') : Done P J B r h w (do pure (.value (← s))) v h :=
  ⟨r, .value v', w, by simp [hs], hR, Ext.refl _ _ _, .inl ⟨v', rfl, hv⟩⟩

theorem Done.some {s : Sem V} {v : V} {h' : AHeap} (hs : ∃ r' v' w', s.run P w = .ok v' w' ∧ R J B r' h' w' ∧ Ext r h w r' h' w' ∧ VR r' v v') : Done P J B r h w (do pure (.value (← s))) v h' := by
  obtain ⟨r', v', w', h1, h2, h3, h4⟩ := hs
  exact ⟨r', .value v', w', by simp [h1], h2, h3, .inl ⟨v', rfl, h4⟩⟩

theorem Done.unit {s : Sem Unit} {h' : AHeap} (hs : ∃ w', s.run P w = .ok () w' ∧ R J B r h' w' ∧ Ext r h w r h' w') : Done P J B r h w (do s; pure .skip) junk h' := by
  obtain ⟨w', h1, h2, h3⟩ := hs
  exact ⟨r, .skip, w', by simp [h1], h2, h3, .inr ⟨rfl, rfl⟩⟩

theorem map_pair {α β : Type} {x : Option α} {f : α → V} {h h' : β} {v : V} (e : (x.map fun a => (f a, h)) = some (v, h')) : ∃ a, x = some a ∧ f a = v ∧ h = h' := by
  cases x with
  | none => cases e
  | some a => simp at e; exact ⟨a, rfl, e.1, e.2⟩

theorem map_junk {x : Option AHeap} {h' : AHeap} {v : V} (e : (x.map fun a => (Abs.junk, a)) = some (v, h')) : x = some h' ∧ v = junk := by
  cases x with
  | none => cases e
  | some a => simp at e; exact ⟨by rw [e.2], e.1.symm⟩

theorem one_arg {e : Nat → V} {a : Act} (he : EnvR r e a) {xs : Array Operand} {x : V} (h : evArr e xs = [x]) : ∃ x', xs.map a.eval = #[x'] ∧ VR r x x' := by
  have hv := he.arr xs
  rw [h] at hv
  have hl := hv.1
  simp only [List.length_cons, List.length_nil, Nat.zero_add, Array.length_toList] at hl
  obtain ⟨y, hy⟩ : ∃ y, xs.map a.eval = #[y] := by
    generalize xs.map a.eval = z at hl
    obtain ⟨l⟩ := z
    simp at hl
    match l, hl with
    | [y], _ => exact ⟨y, rfl⟩
  refine ⟨y, hy, ?_⟩
  have := hv.2 0 (by simp) (by simp [hy])
  simpa [hy] using this

theorem two_args {e : Nat → V} {a : Act} (he : EnvR r e a) {xs : Array Operand} {x y : V} (h : evArr e xs = [x, y]) : ∃ x' y', xs.map a.eval = #[x', y'] ∧ VR r x x' ∧ VR r y y' := by
  have hv := he.arr xs
  rw [h] at hv
  have hl := hv.1
  simp only [List.length_cons, List.length_nil, Nat.zero_add, Array.length_toList] at hl
  obtain ⟨p, q, hy⟩ : ∃ p q, xs.map a.eval = #[p, q] := by
    generalize xs.map a.eval = z at hl
    obtain ⟨l⟩ := z
    simp at hl
    match l, hl with
    | [p, q], _ => exact ⟨p, q, rfl⟩
  have h0 := hv.2 0 (by simp) (by simp [hy])
  have h1 := hv.2 1 (by simp) (by simp [hy])
  refine ⟨p, q, hy, ?_, ?_⟩
  · simpa [hy] using h0
  · simpa [hy] using h1

theorem builtin_sound (hJ : Stays J B) (hR : R J B r h w) {e : Nat → V} {a : Act} (he : EnvR r e a) {b : Builtin} {ts : Array TypeId} {ty : TypeId} {cs : Array Bool} {xs : Array Operand} {v : V} {h' : AHeap}
    (hb : aBuiltin P b ts (evArr e xs) h = some (v, h')) : Done P J B r h w (builtin b ts ty cs (xs.map a.eval)) v h' := by
  generalize hargs : evArr e xs = args at hb
  unfold aBuiltin at hb
  split at hb
  · obtain ⟨x', y', hxs, h1, h2⟩ := two_args he hargs
    rw [hxs]
    exact Done.some (append_sound hJ hR h1 h2 hb)
  · obtain ⟨x', y', hxs, h1, h2⟩ := two_args he hargs
    rw [hxs]
    obtain ⟨v', w', g1, g2, g3, g4⟩ := copy_sound (ty := ty) hJ hR h1 h2 hb
    exact Done.some ⟨r, v', w', g1, g2, g3, g4⟩
  · obtain ⟨x', hxs, h1⟩ := one_arg he hargs
    obtain ⟨u, g1, rfl, rfl⟩ := map_pair (f := fun v => v) hb
    rw [hxs]
    obtain ⟨g2, g3⟩ := len_sound (ty := ty) hR h1 g1
    exact Done.same hR g2 g3
  · obtain ⟨x', y', hxs, h1, h2⟩ := two_args he hargs
    obtain ⟨g1, rfl⟩ := map_junk hb
    rw [hxs]
    cases ht : ts[0]? with
    | none => simp [ht] at g1
    | some t =>
      simp only [ht, Option.bind_some] at g1
      obtain ⟨w', k1, k2, k3⟩ := delete_sound (ty := ty) hJ hR ht h1 h2 g1
      exact Done.some ⟨r, _, w', k1, k2, k3, .junk _⟩
  · obtain ⟨x', hxs, h1⟩ := one_arg he hargs
    obtain ⟨g1, rfl⟩ := map_junk hb
    rw [hxs]
    obtain ⟨w', k1, k2, k3⟩ := clear_sound (ty := ty) hJ hR h1 g1
    exact Done.some ⟨r, _, w', k1, k2, k3, .junk _⟩
  · obtain ⟨u, g1, rfl, rfl⟩ := map_pair (f := fun v => v) hb
    have hv := he.arr xs
    rw [hargs] at hv
    obtain ⟨g2, g3⟩ := minMax_sound (P := P) (w := w) (ts := ts) (ty := ty) hv g1
    exact Done.same hR g2 g3
  · obtain ⟨u, g1, rfl, rfl⟩ := map_pair (f := fun v => v) hb
    have hv := he.arr xs
    rw [hargs] at hv
    obtain ⟨g2, g3⟩ := minMax_sound (P := P) (w := w) (ts := ts) (ty := ty) hv g1
    exact Done.same hR g2 g3
  · cases hb

theorem aOp_sound (hJ : Stays J B) (hR : R J B r h w) {e : Nat → V} {a : Act} (he : EnvR r e a) {o : Oper} {v : V} {h' : AHeap} (hop : aOp P o.op e h = some (v, h')) :
    Done P J B r h w (execOp a.eval o) v h' := by
  obtain ⟨dst, op, ty, pos, after, guard⟩ := o
  simp only at hop ⊢
  cases op <;> simp only [aOp, reduceCtorEq] at hop <;> simp only [execOp]
  case move x => simp at hop; obtain ⟨rfl, rfl⟩ := hop; exact ⟨r, _, w, rfl, hR, Ext.refl _ _ _, .inl ⟨_, rfl, he.ev x⟩⟩
  case assign x => simp at hop; obtain ⟨rfl, rfl⟩ := hop; exact ⟨r, _, w, rfl, hR, Ext.refl _ _ _, .inl ⟨_, rfl, he.ev x⟩⟩
  case pick c x y =>
    have hc := he.ev c
    split at hop
    · rename_i t hcv
      rw [hcv] at hc
      simp only [Option.some.injEq, Prod.mk.injEq] at hop
      obtain ⟨rfl, rfl⟩ := hop
      generalize a.eval c = cv at hc
      cases hc
      refine ⟨r, .value (if t = true then a.eval x else a.eval y), w, by simp [asBool], hR, Ext.refl _ _ _, .inl ⟨_, rfl, ?_⟩⟩
      cases t
      · exact he.ev y
      · exact he.ev x
    · cases hop
  case alloc t =>
    cases hz : zeroOf P t with
    | none => simp [hz] at hop
    | some z =>
      simp only [hz, Option.bind_some] at hop
      obtain ⟨g1, g2⟩ := run_zeroValue (w := w) hz
      obtain ⟨r', x', w', k1, k2, k3, k4⟩ := new_sound (P := P) hJ hR (VR.closed g2) hop
      exact Done.some ⟨r', _, w', by simp [Instr.alloc, g1, k1], k2, k3, k4⟩
  case box t x =>
    obtain ⟨r', x', w', k1, k2, k3, k4⟩ := new_sound (P := P) hJ hR (he.ev x) hop
    exact Done.some ⟨r', _, w', by simp [Instr.box, k1], k2, k3, k4⟩
  case build t ps =>
    obtain ⟨u, g1, rfl, rfl⟩ := map_pair (f := fun v => v) hop
    obtain ⟨p1, p2⟩ := he.pairs ps
    obtain ⟨v', k1, k2⟩ := build_sound (P := P) (w := w) p1 p2 g1
    have e1 : (ps.toList.map fun p => (p.1, a.eval p.2)).toArray = ps.map fun (i, x) => (i, a.eval x) := by apply Array.ext'; simp
    rw [e1] at k1
    exact Done.same hR k1 k2
  case buildSlice t n ps =>
    obtain ⟨p1, p2⟩ := he.pairs ps
    have g := buildSlice_sound (P := P) hJ hR p1 p2 hop
    have e1 : (ps.toList.map fun p => (p.1, a.eval p.2)).toArray = ps.map fun (i, x) => (i, a.eval x) := by apply Array.ext'; simp
    rw [e1] at g
    exact Done.some g
  case insert t m k x =>
    obtain ⟨g1, rfl⟩ := map_junk hop
    exact Done.unit (mapUpdate_sound hJ hR (he.ev m) (he.ev k) (he.ev x) g1)
  case load t x =>
    obtain ⟨u, g1, rfl, rfl⟩ := map_pair (f := fun v => v) hop
    obtain ⟨v', k1, k2⟩ := load_sound (P := P) hR (he.ev x) g1
    exact Done.same hR k1 k2
  case store t x y =>
    obtain ⟨g1, rfl⟩ := map_junk hop
    exact Done.unit (store_sound hJ hR (he.ev x) (he.ev y) g1)
  case nilCheck x =>
    obtain ⟨u, g1, rfl, rfl⟩ := map_pair (f := fun v => v) hop
    have hx := he.ev x
    generalize aEv e x = xa at g1 hx
    generalize a.eval x = xv at hx
    unfold aNil at g1
    split at g1 <;> simp only [Option.some.injEq, reduceCtorEq] at g1 <;> subst g1
    · cases hx with
      | ptr h => exact ⟨r, _, w, rfl, hR, Ext.refl _ _ _, .inl ⟨_, rfl, .ptr h⟩⟩
    · cases hx with
      | iface _ h => exact ⟨r, _, w, rfl, hR, Ext.refl _ _ _, .inl ⟨_, rfl, .iface _ h⟩⟩
    · cases hx with
      | func _ h1 h2 h3 h4 => exact ⟨r, _, w, rfl, hR, Ext.refl _ _ _, .inl ⟨_, rfl, .func _ h1 h2 h3 h4⟩⟩
  case binOp bo t x y yt =>
    obtain ⟨u, g1, rfl, rfl⟩ := map_pair (f := fun v => v) hop
    obtain ⟨k1, k2⟩ := bin_sound (P := P) hR (he.ev x) (he.ev y) g1
    exact Done.same hR k1 k2
  case unOp uo t x =>
    obtain ⟨u, g1, rfl, rfl⟩ := map_pair (f := fun v => v) hop
    obtain ⟨k1, k2⟩ := un_sound (P := P) (w := w) (he.ev x) g1
    exact Done.same hR k1 k2
  case convert s d x => exact Done.some (convert_sound hJ hR (he.ev x) hop)
  case makeInterface t x =>
    split at hop
    · cases hop
    · rename_i d hni hu
      simp only [Option.some.injEq, Prod.mk.injEq] at hop
      obtain ⟨rfl, rfl⟩ := hop
      refine Done.same hR (v' := .iface t (a.eval x)) ?_ (.iface t (he.ev x))
      simp only [Instr.makeInterface, Sem.run_bind, run_und hu, Result.andThen_ok]
      cases d <;> first | rfl | (exact absurd rfl (hni _))
    · cases hop
  case makeFunc fn f c =>
    simp only [Option.some.injEq, Prod.mk.injEq] at hop
    obtain ⟨rfl, rfl⟩ := hop
    exact Done.same hR (v' := .func fn (f.map a.eval) (c.map a.eval)) rfl (.func fn (by simp) (fun i h1 h2 => by simp; exact he.ev _) (by simp) (fun i h1 h2 => by simp; exact he.ev _))
  case makeMap t rs =>
    have go : ∀ (s : Sem V), s.run P w = .ok (.map (some w.heap.size)) (w.alloc (.map #[] 0)) → Done P J B r h w (do pure (.value (← s))) (.map (some h.next)) (h.new (.map [] 0)) := by
      intro s hs
      obtain ⟨h1, h2⟩ := hR.alloc hJ (.map [] 0) (.map #[] 0) ⟨w.heap.size, 0, 0⟩ rfl ⟨hR.base, #[], heap_alloc_new, rfl, fun i hi => by simp at hi⟩
      exact Done.some ⟨_, _, _, hs, h1, h2, .map (Ren.upd_same _ _ _)⟩
    split at hop
    · rename_i hu
      simp only [Option.some.injEq, Prod.mk.injEq] at hop
      obtain ⟨rfl, rfl⟩ := hop
      exact go _ rfl
    · rename_i x k et hu
      have hx := he.ev x
      split at hop
      · rename_i hxv
        rw [hxv] at hx
        simp only [Option.some.injEq, Prod.mk.injEq] at hop
        obtain ⟨rfl, rfl⟩ := hop
        refine go _ ?_
        simp only [Option.map_some]
        generalize a.eval x = xv at hx
        cases hx
        simp [Instr.makeMap, run_und hu, asInt, asIntOf]
      · cases hop
    · cases hop
  case makeSlice t l c => exact Done.some (makeSlice_sound hJ hR (he.ev l) (he.ev c) hop)
  case slice t x lo hi mx =>
    obtain ⟨u, g1, rfl, rfl⟩ := map_pair (f := fun v => v) hop
    obtain ⟨v', k1, k2⟩ := slice_sound (P := P) hR (he.ev x) (he.opt lo) (he.opt hi) (he.opt mx) g1
    exact Done.same hR k1 k2
  case fieldAddr t x i =>
    obtain ⟨u, g1, rfl, rfl⟩ := map_pair (f := fun v => v) hop
    obtain ⟨v', k1, k2⟩ := fieldAddr_sound (P := P) (w := w) (he.ev x) g1
    exact Done.same hR k1 k2
  case field t x i =>
    obtain ⟨u, g1, rfl, rfl⟩ := map_pair (f := fun v => v) hop
    obtain ⟨v', k1, k2⟩ := field_sound (P := P) (w := w) (he.ev x) g1
    exact Done.same hR k1 k2
  case indexAddr t x i =>
    obtain ⟨u, g1, rfl, rfl⟩ := map_pair (f := fun v => v) hop
    obtain ⟨v', k1, k2⟩ := indexAddr_sound (P := P) (w := w) (he.ev x) (he.ev i) g1
    exact Done.same hR k1 k2
  case index t x i =>
    obtain ⟨u, g1, rfl, rfl⟩ := map_pair (f := fun v => v) hop
    obtain ⟨v', k1, k2⟩ := index_sound (P := P) (w := w) (he.ev x) (he.ev i) g1
    exact Done.same hR k1 k2
  case lookup t x i ok =>
    obtain ⟨u, g1, rfl, rfl⟩ := map_pair (f := fun v => v) hop
    obtain ⟨v', k1, k2⟩ := lookup_sound (P := P) hR (he.ev x) (he.ev i) g1
    exact Done.same hR k1 k2
  case mapUpdate t m k x =>
    obtain ⟨g1, rfl⟩ := map_junk hop
    exact Done.unit (mapUpdate_sound hJ hR (he.ev m) (he.ev k) (he.ev x) g1)
  case range t x => exact Done.some (range_sound hJ hR (he.ev x) hop)
  case entry x =>
    obtain ⟨u, g1, rfl, rfl⟩ := map_pair (f := fun v => v) hop
    obtain ⟨v', k1, k2⟩ := entry_sound (P := P) hR (he.ev x) g1
    exact Done.same hR k1 k2
  case typeAssert x xt t ok =>
    obtain ⟨u, g1, rfl, rfl⟩ := map_pair (f := fun v => v) hop
    obtain ⟨v', k1, k2⟩ := assert_sound (P := P) (w := w) (xt := xt) (he.ev x) g1
    exact Done.same hR k1 k2
  case extract x i =>
    obtain ⟨u, g1, rfl, rfl⟩ := map_pair (f := fun v => v) hop
    obtain ⟨v', k1, k2⟩ := extract_sound (P := P) (w := w) (he.ev x) g1
    exact Done.same hR k1 k2
  case call c =>
    obtain ⟨callee, args, argTypes⟩ := c
    cases callee <;> simp only [reduceCtorEq] at hop
    case builtin b =>
      have g := builtin_sound (P := P) (ty := ty) (cs := args.map fun | .const _ => true | _ => false) hJ hR he hop
      simp only [resolve]
      exact g

end
end Go.Abs

/- Our own abstract machine, part 8: comparisons, arithmetic, conversions. -/
import Derived.Test.YtldjlkbjbkielaaGreatDoorAbs7
set_option linter.unusedSimpArgs false
set_option linter.unusedVariables false
namespace Go.Abs
open Go Go.RowKit

section
variable {P : Program} {J : World → Prop} {B : Nat} {r : Ren} {h : AHeap} {w : World}

theorem VRa.get {xs xs' : Array V} (hx : VRa r xs xs') {i : Nat} {v : V} (h : xs[i]? = some v) : ∃ v', xs'[i]? = some v' ∧ VR r v v' := by
  obtain ⟨hlt, rfl⟩ := Array.getElem?_eq_some_iff.1 h
  have hlt' : i < xs'.size := hx.1 ▸ hlt
  exact ⟨xs'[i], Array.getElem?_eq_getElem hlt', hx.2 i hlt hlt'⟩

theorem run_part_one {t : TypeId} {cs : Array V} {off : Nat} {v : V} (ha : aggT P t = some false) (h : cs[off]? = some v) : (part t cs off).run P w = .ok v w := by
  simp only [part, Sem.run_bind, run_isAgg ha, Result.andThen_ok]
  simp [h]

theorem aEqFields_sound {xs xs' ys ys' : Array V} (hx : VRa r xs xs') (hy : VRa r ys ys') (d : Nat) : ∀ (fs : List Field) (b : Bool), aEqFields P xs ys fs = some b →
    (Op.eqFields (d + 1) xs' ys' fs).run P w = .ok b w
  | [], b, h => by simp [aEqFields] at h; subst h; rfl
  | f :: fs, b, h => by
    simp only [aEqFields] at h
    split at h
    · cases h
    · rename_i hn
      simp only [Op.eqFields, ne_eq, hn, not_false_eq_true, if_true, Sem.run_bind]
      split at h
      · rename_i kk k a k' b' hu h1 h2
        obtain ⟨v1, g1, e1⟩ := hx.get h1
        obtain ⟨v2, g2, e2⟩ := hy.get h2
        cases e1; cases e2
        have ha : aggT P f.type = some false := by simp [aggT, hu]
        rw [run_part_one ha g1]
        simp only [Result.andThen_ok]
        rw [run_part_one ha g2]
        simp only [Result.andThen_ok]
        split at h
        · subst k'
          rw [run_equalIn_int w d f.type k kk a b' hu]
          simp only [Result.andThen_ok]
          split at h
          · rename_i hab
            simp only [hab, Bool.not_true, Bool.false_eq_true, if_false]
            exact aEqFields_sound hx hy d fs b h
          · rename_i hab
            simp only [hab, Bool.not_false, if_true]
            simp at h; subst h; rfl
        · cases h
      · rename_i a b' hu h1 h2
        obtain ⟨v1, g1, e1⟩ := hx.get h1
        obtain ⟨v2, g2, e2⟩ := hy.get h2
        cases e1; cases e2
        have ha : aggT P f.type = some false := by simp [aggT, hu]
        rw [run_part_one ha g1]
        simp only [Result.andThen_ok]
        rw [run_part_one ha g2]
        simp only [Result.andThen_ok]
        rw [run_equalIn_string w d f.type a b' hu]
        simp only [Result.andThen_ok]
        split at h
        · rename_i hab
          simp only [hab, Bool.not_true, Bool.false_eq_true, if_false]
          exact aEqFields_sound hx hy d fs b h
        · rename_i hab
          simp only [hab, Bool.not_false, if_true]
          simp at h; subst h; rfl
      · rename_i a b' hu h1 h2
        obtain ⟨v1, g1, e1⟩ := hx.get h1
        obtain ⟨v2, g2, e2⟩ := hy.get h2
        cases e1; cases e2
        have ha : aggT P f.type = some false := by simp [aggT, hu]
        rw [run_part_one ha g1]
        simp only [Result.andThen_ok]
        rw [run_part_one ha g2]
        simp only [Result.andThen_ok]
        rw [run_equalIn_bool' w d f.type a b' hu]
        simp only [Result.andThen_ok]
        split at h
        · rename_i hab
          simp only [hab, Bool.not_true, Bool.false_eq_true, if_false]
          exact aEqFields_sound hx hy d fs b h
        · rename_i hab
          simp only [hab, Bool.not_false, if_true]
          simp at h; subst h; rfl
      · cases h

theorem rwLive_row (hR : R J B r h w) {b : Nat} (hb : rwLive h b = true) : ∃ o t cc el fr, h.get b = some o ∧ r b = some t ∧ w.heap[t.blk]? = some (.cells cc el fr) ∧ ∀ o, w.frozen? ⟨t.blk, o, none⟩ = false := by
  unfold rwLive at hb
  split at hb
  · rename_i c e hg
    obtain ⟨t, cc, el, fr, ht, _, h1, _, _, _, _, h6, _⟩ := hR.row hg
    refine ⟨_, t, cc, el, fr, hg, ht, h1, fun o => ?_⟩
    rw [frozen_of_block h1]
    have := h6 rfl
    simp only [Bool.and_eq_false_iff, decide_eq_false_iff_not]
    omega
  · cases hb

theorem sameAddr_sound (hR : R J B r h w) {a b : Addr} {a' b' : Addr} (ha : VR r (.pointer (some a)) (.pointer (some a'))) (hb : VR r (.pointer (some b)) (.pointer (some b')))
    (h1 : rwLive h a.block = true) (h2 : rwLive h b.block = true) : (sameAddr a' b').run P w = .ok (a == b) w := by
  cases ha with
  | @ptr ba oa ta hta =>
  cases hb with
  | @ptr bb ob tb htb =>
  obtain ⟨o1, t1, cc1, el1, fr1, g1, r1, w1, f1⟩ := rwLive_row hR h1
  obtain ⟨o2, t2, cc2, el2, fr2, g2, r2, w2, f2⟩ := rwLive_row hR h2
  simp only at h1 h2 g1 r1 g2 r2
  rw [hta] at r1; cases r1
  rw [htb] at r2; cases r2
  unfold sameAddr
  by_cases e : ba = bb
  · subst e
    rw [hta] at htb; cases htb
    simp only [beq_self_eq_true, if_true]
    congr 1
    by_cases eo : oa = ob
    · subst eo; simp
    · have n1 : ((⟨ta.blk, oa, none⟩ : Addr) == ⟨ta.blk, ob, none⟩) = false := by simp [eo]
      have n2 : ((⟨ba, oa, none⟩ : Addr) == ⟨ba, ob, none⟩) = false := by simp [eo]
      rw [n1, n2]; rfl
  · have hne : ta.blk ≠ tb.blk := fun e2 => e (hR.inj_w g1 g2 hta htb e2 fun _ _ h => by subst h; simp [rwLive, g2] at h2)
    have n1 : ((⟨ba, oa, none⟩ : Addr) == ⟨bb, ob, none⟩) = false := by simp [e]
    have s1 : w.shape? ta.blk = some (el1, cc1.size) := by simp [World.shape?, w1]
    have s2 : w.shape? tb.blk = some (el2, cc2.size) := by simp [World.shape?, w2]
    have m1 : (stringish ⟨ta.blk, oa, none⟩).run P w = .ok false w := by
      simp [stringish, f1, s1]
    have m2 : (stringish ⟨tb.blk, ob, none⟩).run P w = .ok false w := by
      simp [stringish, f2, s2]
    rw [n1]
    simp [hne, f1, noView, viewAt, s1, s2, mayBeOne, m1, m2]

theorem eq_sound (hR : R J B r h w) {t : TypeId} {c : Bool} {x x' y y' : V} {b : Bool} (hx : VR r x x') (hy : VR r y y') (he : aEq P t c x y h = some b) :
    (Op.equal t x' y').run P w = .ok b w := by
  have e0 : Op.equal t x' y' = Op.equalIn (9999 + 1) t x' y' := rfl
  rw [e0]
  unfold aEq at he
  split at he
  case h_4 =>
    rename_i e a a2 hu
    cases hsz : szT P e with
    | none => simp [hsz] at he
    | some n =>
      cases n with
      | zero => simp [hsz] at he
      | succ n =>
        simp only [hsz] at he
        split at he
        · rename_i hl
          simp only [Bool.and_eq_true] at hl
          simp only [Option.some.injEq] at he
          subst he
          cases hx with
          | ptr h1 =>
          cases hy with
          | ptr h2 =>
          have := sameAddr_sound (P := P) hR (.ptr h1) (.ptr h2) hl.1 hl.2
          rw [Op.equalIn]
          simp only [Sem.run_bind, run_und hu, Result.andThen_ok, run_sizeOf hsz]
          simpa using this
        · cases he
  case h_16 =>
    rename_i fs a a2 hu
    split at he
    · cases he
    · rename_i hg
      simp only [Bool.or_eq_true, not_or, Bool.not_eq_true] at hg
      cases hx with
      | agg h1 h1e =>
      cases hy with
      | agg h2 h2e =>
      have hf : P.fieldsOf t = fs := by simp [Program.fieldsOf, hu]
      rw [run_equalIn_struct w 9999 t _ _ (by rw [hf]; exact hu) hg.2, hf]
      exact aEqFields_sound ⟨h1, h1e⟩ ⟨h2, h2e⟩ 9998 _ _ he
  case h_17 => cases he
  case h_13 =>
    rename_i ms hu
    cases hx; cases hy
    split at he <;> simp at he
    subst he
    rw [Op.equalIn]
    simp only [Sem.run_bind, run_und hu, Result.andThen_ok, Sem.run_pure]
  all_goals
    rename_i hu
    simp only [Option.some.injEq] at he
    subst he
    rw [Op.equalIn]
    simp only [Sem.run_bind, run_und hu, Result.andThen_ok]
    cases hx <;> cases hy <;> first | rfl | simp

theorem str_sound {op : BinOp} {a b : ByteArray} {v : V} (hv : aStr op a b = some v) : (Op.stringOp op a b).run P w = .ok v w ∧ VR r v v := by
  unfold aStr at hv
  cases op <;> simp only [Option.some.injEq, reduceCtorEq] at hv
  case add =>
    split at hv
    · cases hv
    · rename_i hc
      simp at hv; subst hv
      exact ⟨by simp only [Op.stringOp, if_neg hc]; rfl, .string _⟩
  all_goals subst hv; exact ⟨rfl, .bool _⟩

theorem shift_sound {op : BinOp} {k yk : IntKind} {a b : Int} {v : V} (hv : aShift op k a b = some v) : (Op.shift op k a yk b).run P w = .ok v w ∧ VR r v v := by
  unfold aShift at hv
  split at hv
  · cases hv
  · rename_i hb
    simp only [Op.shift, hb, if_false]
    cases op <;> simp only [Option.some.injEq, reduceCtorEq] at hv <;> subst hv <;> exact ⟨rfl, .int _ _⟩

theorem aInt_VR {op : BinOp} {k : IntKind} {a b : Int} {v : V} (hv : aInt op k a b = some v) : VR r v v := by
  unfold aInt at hv
  cases op <;> simp only [Option.some.injEq, reduceCtorEq] at hv <;> first | (subst hv; constructor) | skip
  all_goals (split at hv <;> simp at hv; subst hv; constructor)

theorem run_eqGuard {op : BinOp} {t : TypeId} {x y : Operand} {a b : V} (h1 : (op = .eql ∨ op = .neq) → (a = .nilIface ∧ b = .nilIface → isConstO x || isConstO y) )
    (h2 : (op = .eql ∨ op = .neq) → ∀ c d, a = .agg c → b = .agg d → P.eqGuardType P.depth t = false) : (eqGuard op t x y a b).run P w = .ok () w := by
  cases op <;> first | rfl | skip
  all_goals
    have g1 := h1 (by simp)
    have g2 := h2 (by simp)
    clear h1 h2
    simp only [eqGuard, Bool.not_true, Bool.false_eq_true, if_false]
    split
    · have g := g1 ⟨rfl, rfl⟩
      clear g1 g2
      cases x <;> cases y <;> first | rfl | (simp [isConstO] at g; done)
    · rename_i c d
      have g := g2 c d rfl rfl
      clear g1 g2
      simp [g]
    · rfl

def plainK : V → Bool
  | .bool _ | .pointer _ | .slice .. | .map _ | .nilFunc | .func .. | .nilIface | .iface .. | .agg _ => true
  | _ => false

theorem aEq_plain {t : TypeId} {c : Bool} {x y : V} {b : Bool} (he : aEq P t c x y h = some b) : plainK x = true := by
  unfold aEq at he
  split at he <;> first | rfl | cases he

theorem VR.plainK {x x' : V} (hx : VR r x x') (h : plainK x = true) : Abs.plainK x' = true := by
  cases hx <;> first | rfl | (simp [Abs.plainK] at h; done)

theorem aEq_guard1 {t : TypeId} {c : Bool} {x x' y y' : V} {b : Bool} (hx : VR r x x') (hy : VR r y y') (he : aEq P t c x y h = some b) (h1 : x' = .nilIface) (h2 : y' = .nilIface) : c = true := by
  subst h1 h2
  have hp := aEq_plain he
  cases hx with
  | junk => simp [Abs.plainK] at hp
  | nilIface =>
    cases hy with
    | junk => unfold aEq at he; split at he <;> simp_all
    | nilIface => unfold aEq at he; split at he <;> simp_all

theorem aEq_guard2 {t : TypeId} {c : Bool} {x x' y y' : V} {b : Bool} (hx : VR r x x') (hy : VR r y y') (he : aEq P t c x y h = some b) {p q : Array V} (h1 : x' = .agg p) (h2 : y' = .agg q) :
    P.eqGuardType P.depth t = false := by
  subst h1 h2
  have hp := aEq_plain he
  cases hx with
  | junk => simp [Abs.plainK] at hp
  | @agg c1 _ a1 a2 =>
    have key : ∀ y, aEq P t c (.agg c1) y h = some b → P.eqGuardType P.depth t = false := by
      intro y he
      unfold aEq at he
      split at he
      case h_16 =>
        split at he
        · cases he
        · rename_i hg
          simp only [Bool.or_eq_true, not_or, Bool.not_eq_true] at hg
          exact hg.1
      all_goals first | (cases he; done) | (rename_i hh _; cases hh; done) | (rename_i hh; cases hh; done) | skip
    exact key _ he

theorem binOp_eql {t : TypeId} {x y : V} (h : plainK x = true) : binOp .eql t x y = (do pure (.bool (← Op.equal t x y))) := by
  cases x <;> first | rfl | (cases y <;> rfl) | (simp [plainK] at h; done)

theorem binOp_neq {t : TypeId} {x y : V} (h : plainK x = true) : binOp .neq t x y = (do pure (.bool (!(← Op.equal t x y)))) := by
  cases x <;> first | rfl | (cases y <;> rfl) | (simp [plainK] at h; done)

theorem bin_sound (hR : R J B r h w) {op : BinOp} {t : TypeId} {xo yo : Operand} {x x' y y' v : V} (hx : VR r x x') (hy : VR r y y')
    (hv : aBin P op t (isConstO xo || isConstO yo) x y h = some v) : (do eqGuard op t xo yo x' y'; binOp op t x' y' : Sem V).run P w = .ok v w ∧ VR r v v := by
  unfold aBin at hv
  split at hv
  · rename_i k a k' b
    cases hx; cases hy
    have hg : (eqGuard op t xo yo (.int k a) (.int k' b)).run P w = .ok () w := run_eqGuard (fun _ h => by cases h.1) (fun _ c d h => by cases h)
    rw [Sem.run_bind, hg]
    simp only [Result.andThen_ok]
    split at hv
    · exact shift_sound (yk := k') hv
    · exact shift_sound (yk := k') hv
    · rename_i n1 n2
      split at hv
      · rename_i hk
        subst hk
        have h1 := int_sound (P := P) (w := w) hv
        have h2 : binOp op t (.int k a) (.int k b) = binOp op 0 (.int k a) (.int k b) := by cases op <;> rfl
        rw [h2]
        rcases h1 with h1 | h1 | h1
        · exact ⟨h1, aInt_VR hv⟩
        · exact absurd h1 n1
        · exact absurd h1 n2
      · cases hv
  · rename_i a b
    cases hx; cases hy
    have hg : (eqGuard op t xo yo (.string a) (.string b)).run P w = .ok () w := run_eqGuard (fun _ h => by cases h.1) (fun _ c d h => by cases h)
    rw [Sem.run_bind, hg]
    simp only [Result.andThen_ok]
    have : binOp op t (.string a) (.string b) = Op.stringOp op a b := by cases op <;> rfl
    rw [this]
    exact str_sound hv
  · split at hv
    · cases he : aEq P t (isConstO xo || isConstO yo) x y h with
      | none => simp [he] at hv
      | some b =>
        simp only [he, Option.map_some, Option.some.injEq] at hv
        subst hv
        have h1 := eq_sound (P := P) hR hx hy he
        rw [Sem.run_bind, run_eqGuard (fun _ g => aEq_guard1 hx hy he g.1 g.2) (fun _ c d g1 g2 => aEq_guard2 hx hy he g1 g2)]
        simp only [Result.andThen_ok, binOp_eql (hx.plainK (aEq_plain he)), Sem.run_bind, h1]
        exact ⟨rfl, .bool _⟩
    · cases he : aEq P t (isConstO xo || isConstO yo) x y h with
      | none => simp [he] at hv
      | some b =>
        simp only [he, Option.map_some, Option.some.injEq] at hv
        subst hv
        have h1 := eq_sound (P := P) hR hx hy he
        rw [Sem.run_bind, run_eqGuard (fun _ g => aEq_guard1 hx hy he g.1 g.2) (fun _ c d g1 g2 => aEq_guard2 hx hy he g1 g2)]
        simp only [Result.andThen_ok, binOp_neq (hx.plainK (aEq_plain he)), Sem.run_bind, h1]
        exact ⟨rfl, .bool _⟩
    · cases hv

end
end Go.Abs

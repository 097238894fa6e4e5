/- Our own abstract machine, part 9: maps, iterators, assertions. -/
import Derived.Test.YtldjlkbjbkielaaGreatDoorAbs8
set_option linter.unusedSimpArgs false
set_option linter.unusedVariables false
namespace Go.Abs
open Go Go.RowKit

section
variable {P : Program} {J : World → Prop} {B : Nat} {r : Ren} {h : AHeap} {w : World}

theorem extract_sound {x x' v : V} {i : Nat} (hx : VR r x x') (he : aExtract x i = some v) : ∃ v', (Instr.extract x' i).run P w = .ok v' w ∧ VR r v v' := by
  unfold aExtract at he
  split at he
  · rename_i vs
    cases hx with
    | junk => simp at he
    | tuple h1 h2 =>
      obtain ⟨v', g1, g2⟩ := VRa.get ⟨h1, h2⟩ he
      exact ⟨v', by simp [Instr.extract, g1], g2⟩
  · cases he

theorem assert_sound {x x' v : V} {xt t : TypeId} {ok : Bool} (hx : VR r x x') (ha : aAssert P x t ok = some v) : ∃ v', (Instr.typeAssert x' xt t ok).run P w = .ok v' w ∧ VR r v v' := by
  unfold aAssert at ha
  split at ha
  · cases ha
  · rename_i d ty y hni hu
    cases hx with
    | @iface _ _ y' hy =>
    split at ha
    · rename_i e
      subst e
      simp only [Option.some.injEq] at ha
      subst ha
      refine ⟨if ok = true then .tuple #[y', .bool true] else y', ?_, ?_⟩
      · simp only [Instr.typeAssert, Sem.run_bind, run_und hu, Result.andThen_ok]
        cases d <;> first | (exact absurd rfl (hni _)) | simp
      · cases ok
        · exact hy
        · refine .tuple rfl fun i h1 h2 => ?_
          have : i = 0 ∨ i = 1 := by simp at h1; omega
          rcases this with rfl | rfl
          · exact hy
          · exact .bool _
    · cases ha
  · cases ha

/-! ### Maps -/

theorem part_scalar {t : TypeId} {cs : Array V} {off : Nat} {v : V} {d : TypeDesc} (hu : P.underlying t = some d) (hd : (∃ k, d = .int k) ∨ d = .string ∨ d = .bool) (h : cs[off]? = some v) :
    (part t cs off).run P w = .ok v w := by
  refine run_part_one ?_ h
  rcases hd with ⟨k, rfl⟩ | rfl | rfl <;> simp [aggT, hu]

theorem keyOk_sound {kt : TypeId} {k k' : V} {e : Bool} (hk : VR r k k') (ho : aKeyOk P kt k = true) : (Instr.checkKey e 10000 kt k').run P w = .ok () w ∧ k' = k ∧ closedV k = true := by
  have e0 : Instr.checkKey e 10000 kt k' = Instr.checkKey e (9999 + 1) kt k' := rfl
  rw [e0]
  unfold aKeyOk at ho
  split at ho
  · rename_i hu
    cases hk
    refine ⟨?_, rfl, by simp [closedV]⟩
    rw [Instr.checkKey]
    simp only [Sem.run_bind, run_und hu, Result.andThen_ok, Sem.run_pure]
  · rename_i hu
    cases hk
    refine ⟨?_, rfl, by simp [closedV]⟩
    rw [Instr.checkKey]
    simp only [Sem.run_bind, run_und hu, Result.andThen_ok, Sem.run_pure]
  · rename_i fs cs hu
    simp only [Bool.and_eq_true] at ho
    obtain ⟨hc, hf⟩ := ho
    have hkk := VR.eq_of_closed hc hk
    subst hkk
    refine ⟨?_, rfl, hc⟩
    rw [Instr.checkKey]
    simp only [Sem.run_bind, run_und hu, Result.andThen_ok]
    rw [← Array.forIn_toList]
    rw [← Array.all_toList] at hf
    generalize fs.toList = l at hf
    clear hu hk
    induction l with
    | nil => rfl
    | cons f l ih =>
      simp only [List.all_cons, Bool.and_eq_true] at hf
      obtain ⟨⟨hn, hs⟩, hl⟩ := hf
      have hn' : f.name ≠ "_" := by simpa using hn
      simp only [List.forIn_cons, hn', ne_eq, not_false_eq_true, if_true, Sem.run_bind]
      have : ∃ (v : V) (d : TypeDesc), P.underlying f.type = some d ∧ ((∃ k, d = .int k) ∨ d = .string ∨ d = .bool) ∧ cs[f.offset]? = some v := by
        split at hs
        · rename_i h1 h2; exact ⟨_, _, h1, .inl ⟨_, rfl⟩, h2⟩
        · rename_i h1 h2; exact ⟨_, _, h1, .inr (.inl rfl), h2⟩
        · rename_i h1 h2; exact ⟨_, _, h1, .inr (.inr rfl), h2⟩
        · cases hs
      obtain ⟨v, d, h1, h2, h3⟩ := this
      rw [part_scalar h1 h2 h3]
      simp only [Result.andThen_ok]
      have : (Instr.checkKey e 9999 f.type v).run P w = .ok () w := by
        have e1 : Instr.checkKey e 9999 f.type v = Instr.checkKey e (9998 + 1) f.type v := rfl
        rw [e1, Instr.checkKey]
        simp only [Sem.run_bind, run_und h1, Result.andThen_ok]
        rcases h2 with ⟨k, rfl⟩ | rfl | rfl <;> rfl
      rw [this]
      simp only [Result.andThen_ok, Sem.run_pure]
      exact ih hl
  · cases ho

theorem keyEq_equal {kt : TypeId} {x y : V} {b : Bool} (he : aKeyEq P kt x y = some b) (hx : closedV x = true) (hy : closedV y = true) : (Op.equal kt x y).run P w = .ok b w := by
  have e0 : Op.equal kt x y = Op.equalIn (9999 + 1) kt x y := rfl
  rw [e0]
  unfold aKeyEq at he
  split at he
  · rename_i hu
    split at he
    · rename_i hkk; subst hkk; simp only [Option.some.injEq] at he; subst he; exact run_equalIn_int w 9999 _ _ _ _ _ hu
    · cases he
  · rename_i hu
    simp only [Option.some.injEq] at he; subst he
    rw [run_equalIn_string w 9999 _ _ _ hu, beq_toListBytes]
  · rename_i fs a c hu
    split at he
    · cases he
    · rename_i hp
      have hf : P.fieldsOf kt = fs := by simp [Program.fieldsOf, hu]
      rw [run_equalIn_struct w 9999 kt _ _ (by rw [hf]; exact hu) (by simpa using hp), hf]
      have r0 : Ren := fun _ => none
      have va : ∀ {z : Array V}, closedV (.agg z) = true → VRa r0 z z := fun hz => by
        have := VR.closed (r := r0) hz
        cases this with
        | agg h1 h2 => exact ⟨h1, h2⟩
      exact aEqFields_sound (r := r0) (va hx) (va hy) 9998 _ _ he
  · cases he

/-- Two lists of entries. -/
def VRe (r : Ren) (es : List MapEntry) (ces : List MapEntry) : Prop := ces.length = es.length ∧
  ∀ (i : Nat) (h : i < es.length) (h' : i < ces.length), VR r es[i].key ces[i].key ∧ VR r es[i].val ces[i].val ∧ ces[i].born = es[i].born

theorem VRe.tail {e e' : MapEntry} {es ces : List MapEntry} (h : VRe r (e :: es) (e' :: ces)) : VRe r es ces :=
  ⟨by have := h.1; simpa using this, fun i a b => h.2 (i + 1) (by simpa using a) (by simpa using b)⟩

/-- Two answers of a search agree. -/
def FindR (P : Program) (r : Ren) (kt : TypeId) (k : V) (es ces : List MapEntry) (i : Nat) : Option (Nat × V) → Option (Nat × V) → Prop
  | none, none => True
  | some (j, v), some (j', v') => j = j' ∧ VR r v v' ∧ i ≤ j ∧ ∃ e e', es[j - i]? = some e ∧ ces[j - i]? = some e' ∧ e.val = v ∧ e'.key = e.key ∧ closedV e.key = true ∧ aKeyEq P kt k e.key = some true
  | _, _ => False

theorem find_sound {kt : TypeId} {k : V} (hk : closedV k = true) : ∀ (es ces : List MapEntry) (i : Nat) (res : Option (Nat × V)), VRe r es ces → aFind P kt k es i = some res →
    ∃ res', FindR P r kt k es ces i res res' ∧
      (Instr.findAsking kt k ces i).run P w = .ok res' w ∧
      (∀ d, P.underlying kt = some d → (∃ kk, d = .int kk) ∨ d = .string → Instr.findNow d k ces i = some res')
  | [], [], i, res, _, hf => by simp [aFind] at hf; subst hf; exact ⟨none, trivial, rfl, fun _ _ _ => rfl⟩
  | [], _ :: _, _, _, h, _ => by have := h.1; simp at this
  | _ :: _, [], _, _, h, _ => by have := h.1; simp at this
  | e :: es, e' :: ces, i, res, h, hf => by
    have h0 := h.2 0 (by simp) (by simp)
    simp only [List.getElem_cons_zero] at h0
    simp only [aFind] at hf
    have now : ∀ {b : Bool}, aKeyEq P kt k e.key = some b → ∀ d, P.underlying kt = some d → (∃ kk, d = .int kk) ∨ d = .string → Instr.sameNow d k e.key = some b := by
      intro b hb d hu hd
      unfold aKeyEq at hb
      rw [hu] at hb
      rcases hd with ⟨kk, rfl⟩ | rfl
      · split at hb <;> simp_all [Instr.sameNow]
      · split at hb <;> simp_all [Instr.sameNow]
    split at hf
    · rename_i hke
      split at hf
      · rename_i hc
        simp only [Option.some.injEq] at hf
        subst hf
        have hkk := VR.eq_of_closed hc h0.1
        refine ⟨some (i, e'.val), ⟨rfl, h0.2.1, Nat.le_refl _, e, e', by simp, by simp, rfl, hkk, hc, hke⟩, ?_, ?_⟩
        · simp only [Instr.findAsking, hkk, Sem.run_bind, keyEq_equal hke hk hc, Result.andThen_ok, if_true, Sem.run_pure]
        · intro d hu hd
          simp only [Instr.findNow, hkk, now hke d hu hd]
      · cases hf
    · rename_i hke
      split at hf
      · rename_i hc
        have hkk := VR.eq_of_closed hc h0.1
        obtain ⟨res', g1, g2, g3⟩ := find_sound hk es ces (i + 1) res h.tail hf
        refine ⟨res', ?_, ?_, ?_⟩
        · cases res with
          | none =>
            cases res' with
            | none => trivial
            | some p' => exact g1.elim
          | some p =>
            cases res' with
            | none => exact g1.elim
            | some p' =>
              obtain ⟨a1, a2, a3, x, x', a4, a5, a6⟩ := g1
              refine ⟨a1, a2, by omega, x, x', ?_, ?_, a6⟩
              · rw [show p.1 - i = (p.1 - (i + 1)) + 1 from by omega]; simpa using a4
              · rw [show p.1 - i = (p.1 - (i + 1)) + 1 from by omega]; simpa using a5
        · simp only [Instr.findAsking, hkk, Sem.run_bind, keyEq_equal hke hk hc, Result.andThen_ok, Bool.false_eq_true, if_false]
          exact g2
        · intro d hu hd
          simp only [Instr.findNow, hkk, now hke d hu hd]
          exact g3 d hu hd
      · cases hf
    · cases hf

theorem findKey_sound {kt : TypeId} {k : V} (hk : closedV k = true) (hok : aKeyOk P kt k = true) {es ces : List MapEntry} {res : Option (Nat × V)} (h : VRe r es ces) (hf : aFind P kt k es 0 = some res) :
    ∃ res', FindR P r kt k es ces 0 res res' ∧
      (Instr.findKey kt k ces).run P w = .ok res' w := by
  obtain ⟨res', g1, g2, g3⟩ := find_sound (P := P) (w := w) hk es ces 0 res h hf
  refine ⟨res', g1, ?_⟩
  · unfold aKeyOk at hok
    split at hok
    · rename_i kk _ _ hu
      simp only [Instr.findKey, Sem.run_bind, run_und hu, Result.andThen_ok, g3 _ hu (.inl ⟨kk, rfl⟩), Sem.run_pure]
    · rename_i hu
      simp only [Instr.findKey, Sem.run_bind, run_und hu, Result.andThen_ok, g3 _ hu (.inr rfl), Sem.run_pure]
    · rename_i fs cs hu
      simp only [Instr.findKey, Sem.run_bind, run_und hu, Result.andThen_ok]
      cases ces with
      | nil => simp [Instr.findAsking] at g2; subst g2; simp [Instr.findNow]
      | cons e' ces => simp only [Instr.findNow, Instr.sameNow]; exact g2
    · cases hok

/-- What a live map says. -/
theorem R.map (hR : R J B r h w) {b : Nat} {es : List MapEntry} {clock : Nat} (hb : h.get b = some (.map es clock)) :
    ∃ t ces, r b = some t ∧ B ≤ t.blk ∧ w.heap[t.blk]? = some (.map ces clock) ∧ VRe r es ces.toList := by
  obtain ⟨t, ht, h0, ces, h1, h2, h3⟩ := hR.live b _ hb
  exact ⟨t, ces, ht, h0, h1, by simpa using h2, fun i a c => by simpa using h3 i a (by simpa using c)⟩

theorem lookup_sound (hR : R J B r h w) {t : TypeId} {x x' k k' v : V} {ok : Bool} (hx : VR r x x') (hk : VR r k k') (hl : aLookup P t x k ok h = some v) :
    ∃ v', (Instr.lookup t x' k' ok).run P w = .ok v' w ∧ VR r v v' := by
  unfold aLookup at hl
  split at hl
  · rename_i kt et hu
    split at hl
    · rename_i hok
      have fin : ∀ (a a' : V) (b : Bool), VR r a a' → VR r (if ok = true then .tuple #[a, .bool b] else a) (if ok = true then .tuple #[a', .bool b] else a') := by
        intro a a' b ha
        cases ok
        · exact ha
        · refine .tuple rfl fun i h1 h2 => ?_
          have : i = 0 ∨ i = 1 := by simp at h1; omega
          rcases this with rfl | rfl
          · exact ha
          · exact .bool _
      split at hl
      · rename_i z fv hz hf
        simp only [Option.some.injEq] at hl
        subst hl
        split at hf
        · cases hf
        · rename_i b
          cases hx with
          | @map _ tg htg =>
          split at hf
          · rename_i es clock hb
            obtain ⟨t', ces, ht', _, hw, hv⟩ := hR.map hb
            rw [htg] at ht'; cases ht'
            obtain ⟨hck, rfl, hkc⟩ := keyOk_sound (P := P) (w := w) (e := ces.isEmpty) hk hok
            obtain ⟨res', g1, g2⟩ := findKey_sound (P := P) (w := w) hkc hok hv hf
            cases res' with
            | none => exact g1.elim
            | some p =>
              obtain ⟨_, g3, _⟩ := g1
              refine ⟨_, ?_, fin _ _ true g3⟩
              simp only [Instr.lookup, Sem.run_bind, run_und hu, Result.andThen_ok, getObj, Sem.run, hw, hck, g2, Sem.run_pure]
          · cases hf
        · cases hf
      · rename_i z hz hf
        simp only [Option.some.injEq] at hl
        subst hl
        obtain ⟨hz1, hz2⟩ := run_zeroValue (w := w) hz
        split at hf
        · cases hx
          obtain ⟨hck, rfl, hkc⟩ := keyOk_sound (P := P) (w := w) (e := true) hk hok
          refine ⟨_, ?_, fin _ _ false (VR.closed hz2)⟩
          have hfk : (Instr.findKey kt k' []).run P w = .ok none w := by
            obtain ⟨res', g1, g2⟩ := findKey_sound (P := P) (w := w) (r := r) (res := none) (es := []) (ces := []) hkc hok ⟨rfl, fun i a => by simp at a⟩ rfl
            cases res' with
            | none => exact g2
            | some p => exact g1.elim
          simp only [Instr.lookup, Sem.run_bind, run_und hu, Result.andThen_ok, Sem.run_pure, Array.isEmpty_empty, hck, hfk, hz1]
        · rename_i b
          cases hx with
          | @map _ tg htg =>
          split at hf
          · rename_i es clock hb
            obtain ⟨t', ces, ht', _, hw, hv⟩ := hR.map hb
            rw [htg] at ht'; cases ht'
            obtain ⟨hck, rfl, hkc⟩ := keyOk_sound (P := P) (w := w) (e := ces.isEmpty) hk hok
            obtain ⟨res', g1, g2⟩ := findKey_sound (P := P) (w := w) hkc hok hv hf
            cases res' with
            | some p => exact g1.elim
            | none =>
              refine ⟨_, ?_, fin _ _ false (VR.closed hz2)⟩
              simp only [Instr.lookup, Sem.run_bind, run_und hu, Result.andThen_ok, getObj, Sem.run, hw, hck, g2, Sem.run_pure, hz1]
          · cases hf
        · cases hf
      · cases hl
    · cases hl
  · cases hl

end
end Go.Abs

/- Our own abstract machine, part 7: operations that do not touch the heap (but for reading): they speak truly of the model. -/
import Derived.Test.YtldjlkbjbkielaaGreatDoorAbs6
set_option linter.unusedSimpArgs false
set_option linter.unusedVariables false
namespace Go.Abs
open Go Go.RowKit

section
variable {P : Program} {J : World → Prop} {B : Nat} {r : Ren} {h : AHeap} {w : World}

theorem aFill_sound {place : Nat → Option (Nat × Nat)} : ∀ (ps : List (Nat × V)) (ps' : List (Nat × V)) (z : List V) (z' : Array V) (l : List V),
    ps.length = ps'.length → (∀ (i : Nat) (h : i < ps.length) (h' : i < ps'.length), ps[i].1 = ps'[i].1 ∧ VR r ps[i].2 ps'[i].2) →
    VRl r z z'.toList → aFill place z ps = some l → ∃ l', Instr.fill place z' ps' = some l' ∧ VRl r l l'.toList
  | [], [], z, z', l, _, _, hz, hf => by simp [aFill] at hf; subst hf; exact ⟨z', rfl, hz⟩
  | [], _ :: _, _, _, _, h, _, _, _ => by simp at h
  | _ :: _, [], _, _, _, h, _, _, _ => by simp at h
  | (i, v) :: ps, (i', v') :: ps', z, z', l, hl, hp, hz, hf => by
    obtain ⟨e, hv⟩ := hp 0 (by simp) (by simp)
    simp only [List.getElem_cons_zero] at e hv
    subst e
    simp only [aFill] at hf
    split at hf
    · rename_i off size vs hpl hcs
      split at hf
      · rename_i hcond
        have hvl := hv.cells hcs
        have hlen := hvl.1
        have hzl := hz.1
        simp only [Array.length_toList] at hlen hzl
        simp only [Instr.fill, hpl]
        rw [if_neg (by simp only [ne_eq, Bool.or_eq_true, decide_eq_true_eq, not_or, Nat.not_lt]; omega)]
        have hset : ∀ (xs : List V) (cs : Array V) (j : Nat), ((xs.zipIdx j).foldl (fun cs (c, j) => cs.setIfInBounds (off + j) c) cs) = setArr cs (off + j) xs := by
          intro xs
          induction xs with
          | nil => intro cs j; rfl
          | cons x xs ih => intro cs j; simp only [List.zipIdx_cons, List.foldl_cons, setArr]; rw [ih]; rfl
        have hz2 : (v'.cells.zipIdx.foldl (fun cs (c, j) => cs.setIfInBounds (off + j) c) z') = setArr z' off v'.cells.toList := by
          rw [← Array.foldl_toList, Array.toList_zipIdx]
          exact hset _ _ 0
        rw [hz2]
        refine aFill_sound ps ps' _ _ l (by simpa using hl) (fun j a b => hp (j + 1) (by simpa using a) (by simpa using b)) ?_ hf
        refine ⟨by simp [setList_length, setArr_size, hzl], fun j a b => ?_⟩
        have := VR_setList vs v'.cells.toList z z' off hvl (fun i a b => by have := hz.2 i a (by simpa using b); simpa using this) j a (by simpa using b)
        simpa using this
      · cases hf
    · cases hf

theorem mapM_places {fs : Array Field} (hok : fieldsOk P fs = true) :
    ∃ places : Array (Nat × Nat), (fs.mapM (m := Sem) fun f => do pure (f.offset, ← sizeOf f.type)).run P w = .ok places w ∧ ∀ i, places[i]? = structPlace P fs i := by
  have key : ∀ (l : List Field) (acc : Array (Nat × Nat)), (∀ f ∈ l, (szT P f.type).isSome) →
      ∃ ps : List (Nat × Nat), (l.foldlM (m := Sem) (fun (acc : Array (Nat × Nat)) (f : Field) => do pure (acc.push (f.offset, ← sizeOf f.type))) acc).run P w = .ok (acc ++ ps.toArray) w ∧
        ps.length = l.length ∧ ∀ (i : Nat), ps[i]? = (l[i]?).bind fun (f : Field) => (szT P f.type).map fun n => (f.offset, n) := by
    intro l
    induction l with
    | nil => intro acc _; exact ⟨[], by simp, rfl, fun i => by simp⟩
    | cons f l ih =>
      intro acc hl
      have hf := hl f (List.mem_cons_self ..)
      obtain ⟨n, hn⟩ := Option.isSome_iff_exists.1 hf
      obtain ⟨ps, h1, h2, h3⟩ := ih (acc.push (f.offset, n)) (fun g hg => hl g (List.mem_cons_of_mem _ hg))
      refine ⟨(f.offset, n) :: ps, ?_, by simp [h2], fun i => ?_⟩
      · simp only [List.foldlM_cons, Sem.run_bind, run_sizeOf hn, Result.andThen_ok, Sem.run_pure]
        rw [h1]
        congr 1
        apply Array.ext'
        simp
      · cases i with
        | zero => simp [hn]
        | succ i => simpa using h3 i
  obtain ⟨ps, h1, h2, h3⟩ := key fs.toList #[] (fun f hf => by
    have := Array.all_eq_true.1 hok
    obtain ⟨i, hi, rfl⟩ := List.getElem_of_mem hf
    have := this i (by simpa using hi)
    simpa using this)
  refine ⟨ps.toArray, ?_, fun i => ?_⟩
  · rw [Array.mapM_eq_foldlM, ← Array.foldlM_toList]
    have : (fun (bs : Array (Nat × Nat)) (a : Field) => bs.push <$> (do pure (a.offset, ← sizeOf a.type) : Sem (Nat × Nat))) = (fun (acc : Array (Nat × Nat)) (f : Field) => do pure (acc.push (f.offset, ← sizeOf f.type))) := by
      funext acc f
      simp
    rw [this, h1]
    simp
  · simp only [structPlace]
    have := h3 i
    simp only [List.getElem?_toArray, this]
    simp only [Array.getElem?_toList]
    cases fs[i]? <;> rfl

theorem build_sound {t : TypeId} {ps ps' : List (Nat × V)} {v : V} (hl : ps.length = ps'.length) (hp : ∀ (i : Nat) (h : i < ps.length) (h' : i < ps'.length), ps[i].1 = ps'[i].1 ∧ VR r ps[i].2 ps'[i].2)
    (hb : aBuild P t ps = some v) : ∃ v', (Instr.build t ps'.toArray).run P w = .ok v' w ∧ VR r v v' := by
  unfold aBuild at hb
  split at hb
  · rename_i z hz
    cases hz0 : zeroOf P t with
    | none => simp [hz0] at hz
    | some zv =>
      simp only [hz0, Option.bind_some] at hz
      obtain ⟨hzr, hzc⟩ := run_zeroValue (w := w) hz0
      have hzl := (VR.closed (r := r) hzc).cells hz
      simp only [Instr.build, Sem.run_bind, hzr, Result.andThen_ok]
      split at hb
      · rename_i fs hu
        split at hb
        · rename_i hok
          simp only [run_und hu, Result.andThen_ok]
          obtain ⟨places, h1, h2⟩ := mapM_places (P := P) (w := w) hok
          have e : (fun x => places[x]?) = structPlace P fs := funext h2
          cases hf : aFill (structPlace P fs) z ps with
          | none => simp [hf] at hb
          | some l =>
            simp only [hf, Option.map_some, Option.some.injEq] at hb
            subst hb
            obtain ⟨l', h3, h4⟩ := aFill_sound ps ps' z zv.cells l hl hp hzl hf
            simp only [Sem.run_bind, h1, Result.andThen_ok]
            rw [e, h3]
            exact ⟨.agg l', rfl, by have := h4.agg; simpa using this⟩
        · cases hb
      · rename_i n e hu
        split at hb
        · rename_i sz hsz
          simp only [run_und hu, Result.andThen_ok]
          cases hf : aFill (fun i => some (i * sz, sz)) z ps with
          | none => simp [hf] at hb
          | some l =>
            simp only [hf, Option.map_some, Option.some.injEq] at hb
            subst hb
            obtain ⟨l', h3, h4⟩ := aFill_sound ps ps' z zv.cells l hl hp hzl hf
            simp only [Sem.run_bind, run_sizeOf hsz, Result.andThen_ok]
            rw [h3]
            exact ⟨.agg l', rfl, by have := h4.agg; simpa using this⟩
        · cases hb
      · cases hb
  · cases hb

theorem int_sound {op : BinOp} {k : IntKind} {a b : Int} {v : V} (hv : aInt op k a b = some v) : (binOp op 0 (.int k a) (.int k b)).run P w = .ok v w ∨ op = .shl ∨ op = .shr := by
  cases op <;> simp only [aInt, Option.some.injEq, reduceCtorEq] at hv <;> first | exact .inr (.inl rfl) | exact .inr (.inr rfl) | skip
  all_goals left
  case quo => split at hv <;> simp at hv; subst hv; rename_i hb; simp [binOp, Op.intDiv, hb]
  case rem => split at hv <;> simp at hv; subst hv; rename_i hb; simp [binOp, Op.intDiv, hb]
  all_goals subst hv; simp [binOp, Op.intArith, Op.intBits, Op.intCmp]

theorem part_sound {t : TypeId} {cs cs' : Array V} {off : Nat} {v : V} (hc : VRa r cs cs') (hp : aPart P t cs off = some v) : ∃ v', (part t cs' off).run P w = .ok v' w ∧ VR r v v' := by
  unfold aPart at hp
  split at hp
  · rename_i n hag hsz
    simp only [Option.some.injEq] at hp
    subst hp
    simp only [part, Sem.run_bind, run_isAgg hag, Result.andThen_ok, if_true, run_sizeOf hsz]
    refine ⟨_, rfl, .agg (by simp [hc.1]) fun i a b => ?_⟩
    simp only [Array.getElem_extract]
    exact hc.2 _ _ _
  · rename_i hag
    simp only [part, Sem.run_bind, run_isAgg hag, Result.andThen_ok]
    obtain ⟨hlt, rfl⟩ := Array.getElem?_eq_some_iff.1 hp
    have hlt' : off < cs'.size := hc.1 ▸ hlt
    refine ⟨cs'[off], ?_, hc.2 off hlt hlt'⟩
    simp [Array.getElem?_eq_getElem hlt']
  · cases hp

theorem field_sound {t : TypeId} {x x' v : V} {i : Nat} (hx : VR r x x') (hf : aField P t x i = some v) : ∃ v', (Instr.field t x' i).run P w = .ok v' w ∧ VR r v v' := by
  unfold aField at hf
  split at hf
  · rename_i fs cs hu
    cases hx with
    | @agg _ cs' hs he =>
    split at hf
    · rename_i f hfi
      obtain ⟨v', h1, h2⟩ := part_sound (P := P) (w := w) ⟨hs, he⟩ hf
      refine ⟨v', ?_, h2⟩
      simp only [Instr.field, Sem.run_bind, run_und hu, Result.andThen_ok, hfi, asAgg, Sem.run_pure]
      exact h1
    · cases hf
  · cases hf

theorem fieldAddr_sound {t : TypeId} {x x' v : V} {i : Nat} (hx : VR r x x') (hf : aFieldAddr P t x i = some v) : ∃ v', (Instr.fieldAt t x' i).run P w = .ok v' w ∧ VR r v v' := by
  unfold aFieldAddr at hf
  split at hf
  · rename_i b o off ho
    cases hx with
    | @ptr _ _ tg htg =>
    simp only [Option.some.injEq] at hf
    subst hf
    unfold fieldOff at ho
    split at ho
    · rename_i fs hu
      split at ho
      · rename_i f hfi
        split at ho
        · rename_i n hsz
          simp only [Option.some.injEq] at ho
          subst ho
          refine ⟨_, ?_, .ptr (o := o + f.offset) htg⟩
          simp only [Instr.fieldAt, Sem.run_bind, run_und hu, Result.andThen_ok, hfi, Instr.sureAddr, Sem.run_pure, fieldPlace, run_sizeOf hsz, Nat.add_one_ne_zero, if_false, addr_add]
        · cases ho
      · cases ho
    · cases ho
  · cases hf

theorem indexAddr_sound {t : TypeId} {x x' i i' v : V} (hx : VR r x x') (hi : VR r i i') (hf : aIndexAddr P t x i = some v) : ∃ v', (Instr.indexAt t x' i').run P w = .ok v' w ∧ VR r v v' := by
  unfold aIndexAddr at hf
  split at hf
  · rename_i e b o n c k i hu
    cases hx with
    | @slice _ _ _ _ c' tg htg hc hn hs =>
    cases hi
    split at hf
    · rename_i size hsz
      split at hf
      · rename_i hlt
        simp only [Option.some.injEq] at hf
        subst hf
        refine ⟨_, ?_, .ptr htg⟩
        simp [Instr.indexAt, asIntOf, run_und hu, hlt, run_sizeOf hsz, addr_add]
      · cases hf
    · cases hf
  · rename_i n e b o k i hu
    cases hx with
    | @ptr _ _ tg htg =>
    cases hi
    split at hf
    · rename_i size hsz
      split at hf
      · rename_i hlt
        simp only [Option.some.injEq] at hf
        subst hf
        refine ⟨_, ?_, .ptr htg⟩
        simp [Instr.indexAt, Instr.sureAddr, asIntOf, run_und hu, hlt, run_sizeOf hsz, addr_add]
      · cases hf
    · cases hf
  · cases hf

theorem index_sound {t : TypeId} {x x' i i' v : V} (hx : VR r x x') (hi : VR r i i') (hf : aIndex P t x i = some v) : ∃ v', (Instr.index t x' i').run P w = .ok v' w ∧ VR r v v' := by
  unfold aIndex at hf
  split at hf
  · rename_i n e cs k i hu
    cases hx with
    | @agg _ cs' hs he =>
    cases hi
    split at hf
    · rename_i size hsz
      split at hf
      · rename_i hlt
        obtain ⟨v', h1, h2⟩ := part_sound (P := P) (w := w) ⟨hs, he⟩ hf
        refine ⟨v', ?_, h2⟩
        simp [Instr.index, asIntOf, run_und hu, hlt, run_sizeOf hsz]
        exact h1
      · cases hf
    · cases hf
  · rename_i s k i hu
    cases hx
    cases hi
    split at hf
    · rename_i b hb
      simp only [Option.some.injEq] at hf
      subst hf
      refine ⟨_, ?_, .int _ _⟩
      simp only [Instr.index, asIntOf, Sem.run_bind, Sem.run_pure, Result.andThen_ok, run_und hu]
      rw [hb]
      rfl
    · cases hf
  · cases hf

theorem un_sound {op : UnOp} {x x' v : V} (hx : VR r x x') (hv : aUn op x = some v) : (Op.unary op x').run P w = .ok v w ∧ VR r v v := by
  unfold aUn at hv
  split at hv
  · cases hx
    simp only [aInt, Option.some.injEq] at hv
    subst hv
    exact ⟨by simp [Op.unary, Op.intArith], .int _ _⟩
  · cases hx
    simp only [aInt, Option.some.injEq] at hv
    subst hv
    exact ⟨by simp [Op.unary, Op.intBits], .int _ _⟩
  · cases hx
    simp only [Option.some.injEq] at hv
    subst hv
    exact ⟨by simp [Op.unary], .bool _⟩
  · cases hv

theorem bound_sound {x x' : V} {y n : Nat} {code : BoundsCode} (hx : VR r x x') (hb : aBound x y = some n) {y' : Nat} (hy : y ≤ y') :
    (Instr.sliceBound x' y' code).run P w = .ok n w ∧ n ≤ y := by
  unfold aBound at hb
  split at hb
  · cases hx
    split at hb
    · rename_i hc
      simp only [Option.some.injEq] at hb
      subst hb
      refine ⟨?_, by omega⟩
      have h2 : (0 : Int) ≤ ‹Int› ∧ ‹Int› ≤ (y' : Int) := by omega
      simp [Instr.sliceBound, asIntOf, h2]
    · cases hb
  · cases hb

/-- Optional operands. -/
inductive VRo (r : Ren) : Option V → Option V → Prop
  | none : VRo r none none
  | some {a a' : V} (h : VR r a a') : VRo r (some a) (some a')

theorem run_sliceBounds {isSlice : Bool} {len cap l u : Nat} {lo lo' hi hi' : Option V} (hlo : VRo r lo lo') (hhi : VRo r hi hi') {cap0 : Nat} (hcap : cap0 ≤ cap) (hlen : len ≤ cap0)
    (h1 : aBoundO hi cap0 len = some u) (h2 : aBoundO lo u 0 = some l) :
    (Instr.sliceBounds isSlice len cap lo' hi' none).run P w = .ok (l, u, cap) w ∧ u ≤ cap0 ∧ l ≤ u := by
  unfold Instr.sliceBounds
  cases hlo with
  | none =>
    simp only [aBoundO, Option.some.injEq] at h2
    cases hhi with
    | none => simp only [aBoundO, Option.some.injEq] at h1; subst h1 h2; exact ⟨by simp, hlen, Nat.zero_le _⟩
    | some hh => obtain ⟨b1, b2⟩ := bound_sound (P := P) (w := w) (code := if isSlice = true then .sliceAcap else .sliceAlen) hh h1 hcap; subst h2; exact ⟨by simp [b1], b2, Nat.zero_le _⟩
  | some hl =>
    obtain ⟨c1, c2⟩ := bound_sound (P := P) (w := w) (code := .sliceB) hl h2 (Nat.le_refl u)
    cases hhi with
    | none => simp only [aBoundO, Option.some.injEq] at h1; subst h1; exact ⟨by simp [c1], hlen, c2⟩
    | some hh => obtain ⟨b1, b2⟩ := bound_sound (P := P) (w := w) (code := if isSlice = true then .sliceAcap else .sliceAlen) hh h1 hcap; exact ⟨by simp [b1, c1], b2, c2⟩

theorem run_sliceBounds3 {isSlice : Bool} {len cap l u m : Nat} {lo lo' : Option V} {hi hi' mx mx' : V} (hlo : VRo r lo lo') (hhi : VR r hi hi') (hmx : VR r mx mx') {cap0 : Nat} (hcap : cap0 ≤ cap)
    (h0 : aBound mx cap0 = some m) (h1 : aBound hi m = some u) (h2 : aBoundO lo u 0 = some l) :
    (Instr.sliceBounds isSlice len cap lo' (some hi') (some mx')).run P w = .ok (l, u, m) w ∧ m ≤ cap0 ∧ u ≤ m ∧ l ≤ u := by
  obtain ⟨a1, a2⟩ := bound_sound (P := P) (w := w) (code := if isSlice then .slice3Acap else .slice3Alen) hmx h0 hcap
  obtain ⟨b1, b2⟩ := bound_sound (P := P) (w := w) (code := .slice3B) hhi h1 (Nat.le_refl m)
  unfold Instr.sliceBounds
  cases hlo with
  | none => simp only [aBoundO, Option.some.injEq] at h2; subst h2; exact ⟨by simp [a1, b1], a2, b2, Nat.zero_le _⟩
  | some hl =>
    obtain ⟨c1, c2⟩ := bound_sound (P := P) (w := w) (code := .slice3C) hl h2 (Nat.le_refl u)
    exact ⟨by simp [a1, b1, c1], a2, b2, c2⟩

theorem bound_zero {x : V} {n : Nat} (h : aBound x 0 = some n) : n = 0 := by
  unfold aBound at h
  split at h
  · split at h
    · simp at h; omega
    · cases h
  · cases h

theorem boundO_zero {x : Option V} {n : Nat} (h : aBoundO x 0 0 = some n) : n = 0 := by
  cases x with
  | none => simpa [aBoundO] using h.symm
  | some x => exact bound_zero h

theorem slice_sound (hR : R J B r h w) {t : TypeId} {x x' v : V} {lo lo' hi hi' mx mx' : Option V} (hx : VR r x x') (hlo : VRo r lo lo') (hhi : VRo r hi hi') (hmx : VRo r mx mx')
    (hf : aSlice P t x lo hi mx h = some v) : ∃ v', (Instr.sliceAt t x' lo' hi' mx').run P w = .ok v' w ∧ VR r v v' := by
  unfold aSlice at hf
  split at hf
  · rename_i s hu
    cases hx
    split at hf
    · rename_i u hu1
      cases hl : aBoundO lo u 0 with
      | none => simp [hl] at hf
      | some l =>
        simp only [hl, Option.map_some, Option.some.injEq] at hf
        subst hf
        cases hmx
        refine ⟨_, ?_, .string _⟩
        simp only [Instr.sliceAt, Sem.run_bind, run_und hu, Result.andThen_ok, Instr.slice, Option.isSome_none, Bool.false_eq_true, if_false]
        have := (run_sliceBounds (P := P) (w := w) (isSlice := false) (r := r) hlo hhi (Nat.le_refl _) (Nat.le_refl _) hu1 hl).1
        simp only [Sem.run_bind, this, Result.andThen_ok, Sem.run_pure]
    · cases hf
  · rename_i e hu
    cases hx
    split at hf
    · rename_i size hi0 hsz
      cases hmx
      split at hf
      · rename_i u l hu1 hl
        simp only [Option.some.injEq] at hf
        subst hf
        have eu := boundO_zero hu1
        subst eu
        have el := boundO_zero hl
        subst el
        refine ⟨.slice none 0 0, ?_, .sliceNil⟩
        have := (run_sliceBounds (P := P) (w := w) (isSlice := true) (r := r) (len := 0) (cap := 0) hlo hhi (Nat.le_refl _) (Nat.le_refl _) hu1 hl).1
        simp only [Instr.sliceAt, Sem.run_bind, run_und hu, Result.andThen_ok, Instr.slice, this, run_sizeOf hsz, Sem.run_pure, if_true, Nat.sub_self]
      · cases hf
    · rename_i size mv uv hsz
      cases hmx with
      | some hm =>
      cases hhi with
      | some hh =>
      split at hf
      · rename_i m u l hm1 hu1 hl
        simp only [Option.some.injEq] at hf
        subst hf
        have em := bound_zero hm1
        subst em
        have eu := bound_zero hu1
        subst eu
        have el := boundO_zero hl
        subst el
        refine ⟨.slice none 0 0, ?_, .sliceNil⟩
        have := (run_sliceBounds3 (P := P) (w := w) (isSlice := true) (r := r) (len := 0) (cap := 0) hlo hh hm (Nat.le_refl _) hm1 hu1 hl).1
        simp only [Instr.sliceAt, Sem.run_bind, run_und hu, Result.andThen_ok, Instr.slice, this, run_sizeOf hsz, Sem.run_pure, if_true, Nat.sub_self]
      · cases hf
    · cases hf
  · rename_i e b o n c hu
    cases hx with
    | @slice _ _ _ _ c' tg htg hc hn hs =>
    split at hf
    · rename_i size c0 esz k hsz hb
      split at hf
      · rename_i hse
        subst hse
        obtain ⟨t', cc, el, fr, ht', hesz, _⟩ := hR.row hb
        rw [htg] at ht'; cases ht'
        subst hesz
        cases hmx with
        | none =>
          simp only at hf
          split at hf
          · rename_i u hu1
            split at hf
            · rename_i l hl
              obtain ⟨hrun, hu2, hl2⟩ := run_sliceBounds (P := P) (w := w) (isSlice := true) (r := r) hlo hhi hc.1 hn hu1 hl
              split at hf
              · rename_i h0
                subst h0
                simp only [Option.some.injEq] at hf
                subst hf
                refine ⟨.slice (some ⟨tg.blk, o, none⟩) u c', ?_, .slice htg hc hu2 hs⟩
                simp only [Instr.sliceAt, Sem.run_bind, run_und hu, Result.andThen_ok, Instr.slice, hrun, run_sizeOf hsz, Nat.zero_mul, Option.map_some, Nat.sub_zero, Sem.run_pure]
                congr 2
                split <;> rfl
              · rename_i h0
                split at hf
                · rename_i hlt
                  simp only [Option.some.injEq] at hf
                  subst hf
                  have hc1 := hc.1
                  refine ⟨.slice (some ⟨tg.blk, o + l * tg.esz, none⟩) (u - l) (c' - l), ?_, .slice htg ⟨by omega, fun he => ?_⟩ (by omega) ?_⟩
                  · simp only [Instr.sliceAt, Sem.run_bind, run_und hu, Result.andThen_ok, Instr.slice, hrun, run_sizeOf hsz, Option.map_some, Sem.run_pure]
                    rw [if_neg (by omega), addr_add]
                  · have := hc.2 (by omega); omega
                  · rw [Nat.add_assoc, ← Nat.add_mul]; rw [show l + (c' - l) = c' from by omega]; exact hs
                · split at hf
                  · rename_i hge he
                    simp only [Option.some.injEq] at hf
                    subst hf
                    have hce := hc.2 he
                    have : l = c' := by omega
                    subst this
                    refine ⟨.slice (some ⟨tg.blk, o, none⟩) (u - l) (l - l), ?_, .slice htg ⟨by omega, fun _ => by omega⟩ (by omega) (by simp; omega)⟩
                    simp only [Instr.sliceAt, Sem.run_bind, run_und hu, Result.andThen_ok, Instr.slice, hrun, run_sizeOf hsz, Sem.run_pure, if_true]
                  · simp only [Option.some.injEq] at hf
                    subst hf
                    have hul : u - l = 0 := by omega
                    obtain ⟨a, ha⟩ : ∃ a, (Instr.sliceAt t (Value.slice (some { block := tg.blk, off := o }) n c') lo' hi' none).run P w = Result.ok (Value.slice a (u - l) (c' - l)) w :=
                      ⟨_, by
                        simp only [Instr.sliceAt, Sem.run_bind, run_und hu, Result.andThen_ok, Instr.slice, hrun, run_sizeOf hsz, Sem.run_pure]
                        rfl⟩
                    exact ⟨_, ha, by rw [hul]; exact .sliceGone _ _⟩
            · cases hf
          · cases hf
        | some hm =>
          simp only at hf
          split at hf
          · rename_i m u0 hm0 
            split at hf
            · rename_i u hu1
              split at hf
              · rename_i l hl
                simp only [Option.some.injEq] at hf
                subst hf
                cases hhi with
                | some hh =>
                obtain ⟨hrun, hm2, hu2, hl2⟩ := run_sliceBounds3 (P := P) (w := w) (isSlice := true) (r := r) (len := n) hlo hh hm hc.1 hm0 hu1 hl
                have hc1 := hc.1
                refine ⟨.slice (some ⟨tg.blk, if m = l then o else o + l * tg.esz, none⟩) (u - l) (m - l), ?_, .slice htg ⟨by omega, fun _ => by omega⟩ (by omega) ?_⟩
                · simp only [Instr.sliceAt, Sem.run_bind, run_und hu, Result.andThen_ok, Instr.slice, hrun, run_sizeOf hsz, Sem.run_pure, Option.map_some, addr_add]
                  split <;> rfl
                · split
                  · subst m; simp; omega
                  · rw [Nat.add_assoc, ← Nat.add_mul, show l + (m - l) = m from by omega]
                    exact Nat.le_trans (Nat.add_le_add_left (Nat.mul_le_mul_right _ (by omega)) _) hs
              · cases hf
            · cases hf
          · cases hf
      · cases hf
    · cases hf
  · cases hf

end
end Go.Abs

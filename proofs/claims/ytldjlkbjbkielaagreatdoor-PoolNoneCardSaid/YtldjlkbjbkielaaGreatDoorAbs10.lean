/- Our own abstract machine, part 10: stores into maps, iterators. -/
import Derived.Test.YtldjlkbjbkielaaGreatDoorAbs9
set_option linter.unusedSimpArgs false
set_option linter.unusedVariables false
namespace Go.Abs
open Go Go.RowKit

section
variable {P : Program} {J : World → Prop} {B : Nat} {r : Ren} {h : AHeap} {w : World}

theorem turned_setObj {k : Nat} {o : Obj} (hk : k < w.heap.size) : Turned w { w with heap := w.heap.setIfInBounds k o } k o :=
  ⟨rfl, rfl, rfl, by simp, by simp [hk], fun j hj => by simp [Array.getElem?_setIfInBounds_ne (Ne.symm hj)], rfl⟩

/-- A live map is turned. -/
theorem R.setMap (hJ : Stays J B) (hR : R J B r h w) {b : Nat} {es es2 : List MapEntry} {clock clock2 : Nat} {t : Tgt} {ces2 : Array MapEntry} (hb : h.get b = some (.map es clock)) (ht : r b = some t)
    (hv : VRe r es2 ces2.toList) :
    R J B r (h.put b (.map es2 clock2)) { w with heap := w.heap.setIfInBounds t.blk (.map ces2 clock2) } ∧ Ext r h w r (h.put b (.map es2 clock2)) { w with heap := w.heap.setIfInBounds t.blk (.map ces2 clock2) } := by
  obtain ⟨t', ces, ht', hB, hw, _⟩ := hR.map hb
  rw [ht] at ht'; cases ht'
  have hT := turned_setObj (w := w) (o := .map ces2 clock2) (hR.lt _ _ ht).1
  refine hR.turn hJ hb (fun c e he => by cases he) ht hT ⟨hB, ces2, hT.here, by simpa using hv.1, fun i a c => by have := hv.2 i a (by simpa using c); simpa only [Array.getElem_toList] using this⟩ (fun c e he => by cases he)

theorem run_setObj {k : Nat} {o o1 : Obj} (h : w.heap[k]? = some o1) (h1 : ∀ c e f, o1 ≠ .cells c e f) : (setObj k o).run P w = .ok () { w with heap := w.heap.setIfInBounds k o } := by
  simp only [setObj, Sem.run, h]

theorem run_getObj {k : Nat} {o : Obj} (h : w.heap[k]? = some o) (h1 : ∀ c e f, o ≠ .cells c e f) : (getObj k).run P w = .ok o w := by
  simp only [getObj, Sem.run, h]

theorem mapUpdate_sound (hJ : Stays J B) (hR : R J B r h w) {t : TypeId} {x x' k k' v v' : V} {h' : AHeap} (hx : VR r x x') (hk : VR r k k') (hv : VR r v v') (hu : aMapUpdate P t x k v h = some h') :
    ∃ w', (Instr.mapUpdate t x' k' v').run P w = .ok () w' ∧ R J B r h' w' ∧ Ext r h w r h' w' := by
  unfold aMapUpdate at hu
  split at hu
  · rename_i kt et hun
    split at hu
    · rename_i hok
      split at hu
      · rename_i b
        cases hx with
        | @map _ tg htg =>
        split at hu
        · rename_i es clock hb
          obtain ⟨t', ces, ht', _, hw, hve⟩ := hR.map hb
          rw [htg] at ht'; cases ht'
          obtain ⟨hck, rfl, hkc⟩ := keyOk_sound (P := P) (w := w) (e := false) hk hok
          have hg := run_getObj (P := P) hw (fun c e f he => by cases he)
          split at hu
          · rename_i i pv hf
            split at hu
            · rename_i hsb
              simp only [Option.some.injEq] at hu
              subst hu
              obtain ⟨res', g1, g2⟩ := findKey_sound (P := P) (w := w) hkc hok hve hf
              cases res' with
              | none => exact g1.elim
              | some p =>
                obtain ⟨i', v0⟩ := p
                obtain ⟨e1, _, _, e, e', h1, h2, _, h4, _⟩ := g1
                simp only [Nat.sub_zero] at h1 h2
                subst e1
                have hces : ces[i]? = some e' := by simpa using h2
                have hs : Instr.sameBits 10000 e'.key k' = true := by rw [h4]; simpa [h1] using hsb
                have hks : (Instr.keyThatStays (((ces[i]?).map (·.key)).getD k') k').run P w = .ok k' w := by
                  simp [Instr.keyThatStays, hces, hs]
                refine ⟨_, ?_, hR.setMap hJ hb htg (ces2 := ces.modify i fun e => { e with key := k', val := v' }) ?_⟩
                · simp only [Instr.mapUpdate, Sem.run_bind, run_und hun, Result.andThen_ok, hg, hck, g2, hks]
                  exact run_setObj hw (fun c e f he => by cases he)
                · have hl := hve.1
                  refine ⟨by simpa using hl, fun j a c => ?_⟩
                  have a' : j < es.length := by simpa using a
                  have c' : j < ces.toList.length := by simpa using c
                  have := hve.2 j a' c'
                  simp only [List.getElem_modify, Array.toList_modify]
                  split
                  · exact ⟨VR.closed hkc, hv, this.2.2⟩
                  · exact this
            · cases hu
          · rename_i hf
            simp only [Option.some.injEq] at hu
            subst hu
            obtain ⟨res', g1, g2⟩ := findKey_sound (P := P) (w := w) hkc hok hve hf
            cases res' with
            | some p => exact g1.elim
            | none =>
              refine ⟨_, ?_, hR.setMap hJ hb htg (ces2 := ces.push { key := k', val := v', born := clock }) ?_⟩
              · simp only [Instr.mapUpdate, Sem.run_bind, run_und hun, Result.andThen_ok, hg, hck, g2]
                exact run_setObj hw (fun c e f he => by cases he)
              · have hl := hve.1
                refine ⟨by simpa using hl, fun j a c => ?_⟩
                simp only [Array.toList_push]
                by_cases hj : j < es.length
                · have hj' : j < ces.toList.length := by omega
                  rw [List.getElem_append_left hj, List.getElem_append_left hj']
                  exact hve.2 j hj hj'
                · have hj2 : j = es.length := by simp at a; omega
                  subst hj2
                  simp only [List.getElem_append_right (Nat.le_refl _), Nat.sub_self, List.getElem_cons_zero]
                  rw [List.getElem_append_right (by omega)]
                  simp only [hl, Nat.sub_self, List.getElem_cons_zero]
                  exact ⟨VR.closed hkc, hv, by simp⟩
          · cases hu
        · cases hu
      · cases hu
    · cases hu
  · cases hu

theorem delete_sound (hJ : Stays J B) (hR : R J B r h w) {t : TypeId} {ts : Array TypeId} (hts : ts[0]? = some t) {ty : TypeId} {x x' k k' : V} {h' : AHeap} (hx : VR r x x') (hk : VR r k k') (hu : aDelete P t x k h = some h') :
    ∃ w', (Builtin.delete_ ts ty #[x', k']).run P w = .ok (.tuple #[]) w' ∧ R J B r h' w' ∧ Ext r h w r h' w' := by
  unfold aDelete at hu
  split at hu
  · rename_i kt et hun
    split at hu
    · rename_i hok
      split at hu
      · cases hx
        simp only [Option.some.injEq] at hu
        subst hu
        obtain ⟨hck, rfl, hkc⟩ := keyOk_sound (P := P) (w := w) (e := true) hk hok
        exact ⟨w, by simp [Builtin.delete_, hts, run_und hun, hck], hR, Ext.refl _ _ _⟩
      · rename_i b
        cases hx with
        | @map _ tg htg =>
        split at hu
        · rename_i es clock hb
          obtain ⟨t', ces, ht', _, hw, hve⟩ := hR.map hb
          rw [htg] at ht'; cases ht'
          obtain ⟨hck, rfl, hkc⟩ := keyOk_sound (P := P) (w := w) (e := ces.isEmpty) hk hok
          have hg := run_getObj (P := P) hw (fun c e f he => by cases he)
          split at hu
          · rename_i i pv hf
            simp only [Option.some.injEq] at hu
            subst hu
            obtain ⟨res', g1, g2⟩ := findKey_sound (P := P) (w := w) hkc hok hve hf
            cases res' with
            | none => exact g1.elim
            | some p =>
              obtain ⟨i', v0⟩ := p
              obtain ⟨e1, _, _, e, e', h1, h2, _⟩ := g1
              simp only [Nat.sub_zero] at h1 h2
              subst e1
              have hl := hve.1
              have hi : i < ces.size := by obtain ⟨hlt, _⟩ := List.getElem?_eq_some_iff.1 h2; simpa using hlt
              refine ⟨_, ?_, hR.setMap hJ hb htg (ces2 := ces.eraseIdxIfInBounds i) ?_⟩
              · simp [Builtin.delete_, hts, run_und hun, hg, hck, g2, run_setObj (P := P) hw (fun c e f he => by cases he)]
              · have e2 : (ces.eraseIdxIfInBounds i).toList = ces.toList.eraseIdx i := by simp [Array.eraseIdxIfInBounds, hi]
                rw [e2]
                refine ⟨by simp [List.length_eraseIdx, hl], fun j a c => ?_⟩
                simp only [List.getElem_eraseIdx]
                split
                · exact hve.2 j _ _
                · exact hve.2 (j + 1) _ _
          · rename_i hf
            simp only [Option.some.injEq] at hu
            subst hu
            obtain ⟨res', g1, g2⟩ := findKey_sound (P := P) (w := w) hkc hok hve hf
            cases res' with
            | some p => exact g1.elim
            | none =>
              refine ⟨_, ?_, hR.setMap hJ hb htg (ces2 := ces) hve⟩
              simp [Builtin.delete_, hts, run_und hun, hg, hck, g2, run_setObj (P := P) hw (fun c e f he => by cases he)]
          · cases hu
        · cases hu
      · cases hu
    · cases hu
  · cases hu

theorem range_sound (hJ : Stays J B) (hR : R J B r h w) {t : TypeId} {x x' v : V} {h' : AHeap} (hx : VR r x x') (hr : aRange P t x h = some (v, h')) :
    ∃ r' v' w', (Instr.range t x').run P w = .ok v' w' ∧ R J B r' h' w' ∧ Ext r h w r' h' w' ∧ VR r' v v' := by
  unfold aRange at hr
  have go : ∀ (o : AObj) (o' : Obj), OR B (r.upd h.next ⟨w.heap.size, 0, 0⟩) (w.alloc o') ⟨w.heap.size, 0, 0⟩ o →
      ∃ r' v' w', (do pure (.pointer (some ⟨← newObj o', 0, none⟩)) : Sem V).run P w = .ok v' w' ∧ R J B r' (h.new o) w' ∧ Ext r h w r' (h.new o) w' ∧ VR r' (.pointer (some ⟨h.next, 0, none⟩)) v' := by
    intro o o' hO
    obtain ⟨h1, h2⟩ := hR.alloc hJ o o' ⟨w.heap.size, 0, 0⟩ rfl hO
    exact ⟨_, _, _, rfl, h1, h2, .ptr (Ren.upd_same _ _ _)⟩
  split at hr
  · rename_i s hu
    cases hx
    simp only [Option.some.injEq, Prod.mk.injEq] at hr
    obtain ⟨rfl, rfl⟩ := hr
    obtain ⟨r', v', w', h1, h2⟩ := go (.siter s 0) (.stringIter s 0) ⟨hR.base, heap_alloc_new⟩
    exact ⟨r', v', w', by simpa only [Instr.range, Sem.run_bind, run_und hu, Result.andThen_ok, Sem.run_pure] using h1, h2⟩
  · rename_i hu
    cases hx
    simp only [Option.some.injEq, Prod.mk.injEq] at hr
    obtain ⟨rfl, rfl⟩ := hr
    obtain ⟨r', v', w', h1, h2⟩ := go (.miter none 0 #[] 0) (.mapIter none 0 #[] 0) ⟨hR.base, heap_alloc_new⟩
    exact ⟨r', v', w', by simpa only [Instr.range, Sem.run_bind, run_und hu, Result.andThen_ok, Sem.run_pure] using h1, h2⟩
  · rename_i b hu
    cases hx with
    | @map _ tg htg =>
    split at hr
    · rename_i es clock hb
      simp only [Option.some.injEq, Prod.mk.injEq] at hr
      obtain ⟨rfl, rfl⟩ := hr
      obtain ⟨t', ces, ht', _, hw, hve⟩ := hR.map hb
      rw [htg] at ht'; cases ht'
      obtain ⟨r', v', w', h1, h2⟩ := go (.miter (some b) clock #[] clock) (.mapIter (some tg.blk) clock #[] clock) ⟨hR.base, tg, hR.le_upd _ _ _ htg, heap_alloc_new⟩
      refine ⟨r', v', w', ?_, h2⟩
      simpa only [Instr.range, Sem.run_bind, run_und hu, Result.andThen_ok, Sem.run_pure, run_getObj hw (fun c e f he => by cases he)] using h1
    · cases hr
  · cases hr

theorem filter_born {es : List MapEntry} {ces : List MapEntry} (h : VRe r es ces) (p : Nat → Bool) : VRe r (es.filter fun e => p e.born) (ces.filter fun e => p e.born) := by
  induction es generalizing ces with
  | nil =>
    cases ces with
    | nil => exact ⟨rfl, fun i a => by simp at a⟩
    | cons e ces => have := h.1; simp at this
  | cons e es ih =>
    cases ces with
    | nil => have := h.1; simp at this
    | cons e' ces =>
      have h0 := h.2 0 (by simp) (by simp)
      simp only [List.getElem_cons_zero] at h0
      have ht := ih h.tail
      simp only [List.filter_cons, h0.2.2]
      split
      · refine ⟨by simp [ht.1], fun i a c => ?_⟩
        cases i with
        | zero => exact h0
        | succ i => exact ht.2 i (by simpa using a) (by simpa using c)
      · exact ht

theorem VRe.append {a b a' b' : List MapEntry} (h : VRe r a b) (k : VRe r a' b') : VRe r (a ++ a') (b ++ b') := by
  refine ⟨by simp [h.1, k.1], fun i h1 h2 => ?_⟩
  have hl := h.1
  by_cases hi : i < a.length
  · rw [List.getElem_append_left hi, List.getElem_append_left (by omega)]; exact h.2 i hi _
  · rw [List.getElem_append_right (by omega), List.getElem_append_right (by omega)]
    simp only [hl]
    exact k.2 _ _ _

theorem VRe.born {es ces : List MapEntry} (h : VRe r es ces) : ces.map (·.born) = es.map (·.born) := by
  refine List.ext_getElem (by simp [h.1]) fun i h1 h2 => ?_
  simp only [List.getElem_map]
  exact (h.2 i (by simpa using h2) (by simpa using h1)).2.2

theorem VRe.all {es ces : List MapEntry} (h : VRe r es ces) (p : Nat → Bool) : (ces.all fun e => p e.born) = es.all fun e => p e.born := by
  have e1 : (ces.all fun e => p e.born) = (ces.map (·.born)).all p := by simp [List.all_map, Function.comp_def]
  have e2 : (es.all fun e => p e.born) = (es.map (·.born)).all p := by simp [List.all_map, Function.comp_def]
  rw [e1, e2, h.born]

theorem VRe.isEmpty {es ces : List MapEntry} (h : VRe r es ces) : ces.isEmpty = es.isEmpty := by
  have := h.1
  cases es <;> cases ces <;> simp_all

/-- Two candidates. -/
def CandR (r : Ren) : Option MapEntry → Option MapEntry → Prop
  | none, none => True
  | some e, some e' => VR r e.key e'.key ∧ VR r e.val e'.val ∧ e'.born = e.born
  | _, _ => False

theorem cands_sound {es ces : List MapEntry} (h : VRe r es ces) (since : Nat) (seen : Array Nat) {c' : Option MapEntry} (hc : c' ∈ cands ces since seen) : ∃ c ∈ cands es since seen, CandR r c c' := by
  have hl := filter_born h (fun n => !seen.contains n)
  have ho := filter_born hl (fun n => decide (n < since))
  have hn := filter_born hl (fun n => decide (n ≥ since))
  have hon := ho.append hn
  simp only [cands] at hc ⊢
  rw [List.mem_append] at hc
  rcases hc with hc | hc
  · refine ⟨none, ?_, ?_⟩
    · rw [List.mem_append]
      left
      split at hc
      · rename_i hh
        have he := ho.isEmpty
        simp only [hh] at he
        rw [if_pos he.symm]; exact List.mem_singleton.2 rfl
      · cases hc
    · split at hc
      · simp at hc; subst hc; trivial
      · cases hc
  · obtain ⟨e', he', rfl⟩ := List.mem_map.1 hc
    obtain ⟨i, hi, rfl⟩ := List.getElem_of_mem he'
    have hi2 := hon.1
    refine ⟨some _, List.mem_append.2 (.inr (List.mem_map.2 ⟨_, List.getElem_mem (by omega : i < _), rfl⟩)), hon.2 i (by omega) hi⟩

theorem run_iter {P : Program} {w : World} {es : Array MapEntry} {since : Nat} {seen : Array Nat} :
    ∃ c w', (do
      let left := es.filter fun e => !seen.contains e.born
      let old := left.filter (·.born < since)
      let new := left.filter (·.born ≥ since)
      let candidates : Array (Option MapEntry) := (if old.isEmpty then #[none] else #[]) ++ (old ++ new).map some
      pure candidates[← choose (.mapNext candidates.size)]? : Sem (Option (Option MapEntry))).run P w = .ok (some c) w' ∧ (w' = w ∨ w' = w.drew) ∧ c ∈ cands es.toList since seen := by
  have e : ((if (((es.filter fun e => !seen.contains e.born).filter (·.born < since)).isEmpty) then #[none] else #[]) ++ (((es.filter fun e => !seen.contains e.born).filter (·.born < since)) ++ ((es.filter fun e => !seen.contains e.born).filter (·.born ≥ since))).map some : Array (Option MapEntry)).toList = cands es.toList since seen := by
    simp only [cands, Array.toList_append, Array.toList_map, Array.toList_filter]
    congr 1
    rw [← Array.isEmpty_toList]
    simp only [Array.toList_filter]
    split <;> rfl
  generalize hA : ((if (((es.filter fun e => !seen.contains e.born).filter (·.born < since)).isEmpty) then #[none] else #[]) ++ (((es.filter fun e => !seen.contains e.born).filter (·.born < since)) ++ ((es.filter fun e => !seen.contains e.born).filter (·.born ≥ since))).map some : Array (Option MapEntry)) = A at e
  have hne : 0 < A.size := by
    rw [← hA]
    simp only [Array.size_append, Array.size_map]
    split
    · simp; omega
    · rename_i hh
      have : 0 < ((es.filter fun e => !seen.contains e.born).filter (·.born < since)).size := by
        rcases Nat.eq_zero_or_pos ((es.filter fun e => !seen.contains e.born).filter (·.born < since)).size with h0 | h0
        · exact absurd (by unfold Array.isEmpty; exact decide_eq_true h0) hh
        · exact h0
      omega
  simp only [hA, Sem.run_bind, run_choose]
  split
  · refine ⟨A[0], w, ?_, .inl rfl, ?_⟩
    · simp [Array.getElem?_eq_getElem hne]
    · rw [← e]; simp
  · have hlt : (Question.mapNext A.size).cut (w.tape w.drawn (.mapNext A.size)) < A.size := Nat.mod_lt _ hne
    refine ⟨A[(Question.mapNext A.size).cut (w.tape w.drawn (.mapNext A.size))], w.drew, ?_, .inr rfl, ?_⟩
    · simp [Array.getElem?_eq_getElem hlt]
    · rw [← e]; simp

theorem next_sound (hJ : Stays J B) (hR : R J B r h w) {x x' : V} {s : Bool} {t : TypeId} {K : V → AHeap → Prop} (hx : VR r x x') (hn : aNext x s h K) :
    ∃ v h' v' w', (Instr.next x' s t).run P w = .ok v' w' ∧ K v h' ∧ R J B r h' w' ∧ Ext r h w r h' w' ∧ VR r v v' := by
  have over : VR r (.tuple #[.bool false]) (.tuple #[.bool false]) :=
    .tuple rfl fun i a c => by
      have : i = 0 := by simp at a; omega
      subst this; exact .bool _
  have tri : ∀ {a b a' b' : V}, VR r a a' → VR r b b' → VR r (.tuple #[.bool true, a, b]) (.tuple #[.bool true, a', b']) := by
    intro a b a' b' h1 h2
    refine .tuple rfl fun i a c => ?_
    have : i = 0 ∨ i = 1 ∨ i = 2 := by simp at a; omega
    rcases this with rfl | rfl | rfl
    · exact .bool _
    · exact h1
    · exact h2
  unfold aNext at hn
  split at hn
  · rename_i b
    cases hx with
    | @ptr _ _ tg htg =>
    split at hn
    · rename_i str pos hb
      obtain ⟨t', ht', hB, hw⟩ := hR.live _ _ hb
      rw [htg] at ht'; cases ht'
      have hg := run_getObj (P := P) hw (fun c e f he => by cases he)
      split at hn
      · rename_i hp
        have hT := turned_setObj (w := w) (o := .stringIter str (pos + (Utf8.decode str pos).2)) (hR.lt _ _ htg).1
        obtain ⟨h1, h2⟩ := hR.turn hJ hb (fun c e he => by cases he) htg hT (o2 := .siter str (pos + (Utf8.decode str pos).2)) ⟨hB, hT.here⟩ (fun c e he => by cases he)
        refine ⟨_, _, _, _, ?_, hn, h1, h2, tri (.int _ _) (.int _ _)⟩
        simp only [Instr.next, Sem.run_bind, hg, Result.andThen_ok, if_pos hp, run_setObj (P := P) hw (fun c e f he => by cases he), Sem.run_pure, goInt]
      · rename_i hp
        refine ⟨_, _, .tuple #[.bool false], w, ?_, hn, hR, Ext.refl _ _ _, over⟩
        simp only [Instr.next, Sem.run_bind, hg, Result.andThen_ok, if_neg hp, Sem.run_pure]
    · rename_i a1 a2 a3 hb
      obtain ⟨t', ht', hB, hw⟩ := hR.live _ _ hb
      rw [htg] at ht'; cases ht'
      have hg := run_getObj (P := P) hw (fun c e f he => by cases he)
      refine ⟨_, _, .tuple #[.bool false], w, ?_, hn, hR, Ext.refl _ _ _, over⟩
      simp only [Instr.next, Sem.run_bind, hg, Result.andThen_ok, Sem.run_pure]
    · rename_i m since seen last hb
      obtain ⟨t', ht', hB, tm, htm, hw⟩ := hR.live _ _ hb
      rw [htg] at ht'; cases ht'
      have hg := run_getObj (P := P) hw (fun c e f he => by cases he)
      split at hn
      · rename_i es clock hm
        obtain ⟨hcond, hK⟩ := hn
        obtain ⟨t', ces, ht', _, hwm, hve⟩ := hR.map hm
        rw [htm] at ht'; cases ht'
        have hgm := run_getObj (P := P) hwm (fun c e f he => by cases he)
        have hc : (!seen.isEmpty && !ces.isEmpty && ces.all fun e => decide (e.born ≥ last)) = false := by
          rw [← hcond]
          have e1 : (ces.all fun e => decide (e.born ≥ last)) = es.all fun e => decide (e.born ≥ last) := by
            rw [← Array.all_toList]; exact hve.all (fun n => decide (n ≥ last))
          have e2 : ces.isEmpty = es.isEmpty := by rw [← Array.isEmpty_toList]; exact hve.isEmpty
          rw [e1, e2]
        obtain ⟨c', w', hrun, hw', hmem⟩ := run_iter (P := P) (w := w) (es := ces) (since := since) (seen := seen)
        obtain ⟨c, hcm, hcr⟩ := cands_sound hve since seen hmem
        have hk := hK c hcm
        have hR' : R J B r h w' := by
          rcases hw' with rfl | rfl
          · exact hR
          · exact hR.drew hJ
        have hE' : Ext r h w r h w' := by
          rcases hw' with rfl | rfl
          · exact Ext.refl _ _ _
          · exact Ext.drew
        have hw2 : w'.heap = w.heap := by rcases hw' with rfl | rfl <;> rfl
        have split1 : (Instr.next (.pointer (some ⟨tg.blk, 0, none⟩)) false t).run P w = ((match some c' with
            | some (some e) => do setObj tg.blk (.mapIter (some tm.blk) since (seen.push e.born) clock); pure (.tuple #[.bool true, e.key, e.val])
            | some none => pure (.tuple #[.bool false])
            | none => stuck "Next: no such candidate" : Sem V).run P w') := by
          simp only [Sem.run_bind, Sem.run_pure] at hrun
          simp only [Instr.next, Sem.run_bind, hg, Result.andThen_ok, hgm, hc, Bool.false_eq_true, if_false]
          revert hrun
          generalize (choose _).run P w = q
          intro hrun
          cases q with
          | halt x y => simp at hrun
          | ok i w1 =>
            simp only [Result.andThen_ok, Result.ok.injEq] at hrun ⊢
            obtain ⟨hrun, rfl⟩ := hrun
            rw [hrun]
            rfl
        cases c with
        | none =>
          cases c' with
          | some e' => exact hcr.elim
          | none =>
            simp only at hk
            exact ⟨_, _, _, _, by rw [split1]; rfl, hk, hR', hE', over⟩
        | some e =>
          cases c' with
          | none => exact hcr.elim
          | some e' =>
            obtain ⟨hk1, hk2, hk3⟩ := hcr
            simp only at hk
            have hwb : w'.heap[tg.blk]? = some (.mapIter (some tm.blk) since seen last) := by rw [hw2]; exact hw
            have hT := turned_setObj (w := w') (o := .mapIter (some tm.blk) since (seen.push e.born) clock) (hR'.lt _ _ htg).1
            obtain ⟨h1, h2⟩ := hR'.turn hJ hb (fun c e he => by cases he) htg hT (o2 := .miter (some m) since (seen.push e.born) clock) ⟨hB, tm, htm, hT.here⟩ (fun c e he => by cases he)
            refine ⟨_, _, _, _, ?_, hk, h1, hE'.trans h2, tri hk1 hk2⟩
            rw [split1]
            simp only [Sem.run_bind, hk3, run_setObj (P := P) hwb (fun c e f he => by cases he), Result.andThen_ok, Sem.run_pure]
      · cases hn
    · cases hn
  · cases hn

theorem entry_sound (hR : R J B r h w) {x x' v : V} (hx : VR r x x') (he : aEntry x h = some v) : ∃ v', (Instr.entry x').run P w = .ok v' w ∧ VR r v v' := by
  unfold aEntry at he
  split at he
  · rename_i b
    cases hx with
    | @ptr _ _ tg htg =>
    split at he
    · rename_i m s0 seen stepped hb
      obtain ⟨t', ht', hB, tm, htm, hw⟩ := hR.live _ _ hb
      rw [htg] at ht'; cases ht'
      have hg := run_getObj (P := P) hw (fun c e f he => by cases he)
      split at he
      · rename_i stamp es clock hs hm
        obtain ⟨t', ces, ht', _, hwm, hve⟩ := hR.map hm
        rw [htm] at ht'; cases ht'
        have hgm := run_getObj (P := P) hwm (fun c e f he => by cases he)
        split at he
        · rename_i hcl
          subst hcl
          cases hf : es.find? (·.born == stamp) with
          | none => simp [hf] at he
          | some e =>
            simp only [hf, Option.map_some, Option.some.injEq] at he
            subst he
            have key : ∀ (es ces : List MapEntry), VRe r es ces → es.find? (·.born == stamp) = some e → ∃ e', ces.find? (·.born == stamp) = some e' ∧ VR r e.key e'.key ∧ VR r e.val e'.val := by
              intro es
              induction es with
              | nil => intro ces _ h; simp at h
              | cons a es ih =>
                intro ces hv hf
                cases ces with
                | nil => have := hv.1; simp at this
                | cons a' ces =>
                  have h0 := hv.2 0 (by simp) (by simp)
                  simp only [List.getElem_cons_zero] at h0
                  simp only [List.find?_cons, h0.2.2] at hf ⊢
                  split at hf
                  · simp at hf; subst hf; exact ⟨a', rfl, h0.1, h0.2.1⟩
                  · exact ih ces hv.tail hf
            obtain ⟨e', h1, h2, h3⟩ := key es ces.toList hve hf
            have hfa : ces.find? (·.born == stamp) = some e' := by rw [← Array.find?_toList]; exact h1
            refine ⟨.tuple #[e'.key, e'.val], ?_, ?_⟩
            · simp [Instr.entry, hg, hs, hgm, hfa]
            · refine .tuple rfl fun i a c => ?_
              have : i = 0 ∨ i = 1 := by simp at a; omega
              rcases this with rfl | rfl
              · exact h2
              · exact h3
        · cases he
      · cases he
    · cases he
  · cases he

end
end Go.Abs

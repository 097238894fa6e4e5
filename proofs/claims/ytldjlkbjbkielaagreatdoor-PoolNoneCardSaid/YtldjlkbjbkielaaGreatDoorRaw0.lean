/- A map is looked at, in the model's worlds, whatever its keys: one step. No program in sight. -/
import Derived.Test.YtldjlkbjbkielaaGreatDoorAbs10
import Derived.Sort.MapsRangeIn
import Derived.RangeFuncGives
set_option linter.unusedSimpArgs false
set_option linter.unusedVariables false
namespace Go.Abs
open Go Go.RowKit

variable {P : Program} {W : World} {b r clk : Nat} {ces : Array MapEntry} {seen : Array Nat}

theorem raw_range {t kt et : TypeId} (ht : P.underlying t = some (.map kt et)) (hm : W.heap[b]? = some (.map ces clk)) :
    (Instr.range t (.map (some b))).run P W = .ok (.pointer (some ⟨W.heap.size, 0, none⟩)) (W.alloc (.mapIter (some b) clk #[] clk)) := by
  simp only [Instr.range, Sem.run_bind, run_und ht, Result.andThen_ok, Sem.run_pure, run_getObj hm (fun c e f he => by cases he)]
  rfl

/-- One step. -/
theorem raw_next {t : TypeId} (hlt : ∀ e ∈ ces.toList, e.born < clk) (hm : W.heap[b]? = some (.map ces clk)) (hr : W.heap[r]? = some (.mapIter (some b) clk seen clk)) :
    ((∀ e ∈ ces.toList, e.born ∈ seen) ∧ ∃ w0, w0.heap = W.heap ∧ w0.os = W.os ∧ w0.tape = W.tape ∧ w0.output = W.output ∧ (Instr.next (.pointer (some ⟨r, 0, none⟩)) false t).run P W = .ok (.tuple #[.bool false]) w0) ∨
    ∃ e ∈ ces.toList, e.born ∉ seen ∧ ∃ w1, (Instr.next (.pointer (some ⟨r, 0, none⟩)) false t).run P W = .ok (.tuple #[.bool true, e.key, e.val]) w1 ∧ W.grownBy w1 (some r) ∧ w1.heap.size = W.heap.size ∧
      w1.heap[r]? = some (.mapIter (some b) clk (seen.push e.born) clk) := by
  have hg := run_getObj (P := P) hr (fun c e f he => by cases he)
  have hgm := run_getObj (P := P) hm (fun c e f he => by cases he)
  have hc : (!seen.isEmpty && !ces.isEmpty && ces.all fun e => decide (e.born ≥ clk)) = false := by
    cases hl : ces.toList with
    | nil =>
      have : ces.isEmpty = true := by rw [← Array.isEmpty_toList, hl]; rfl
      simp [this]
    | cons a l =>
      have h1 := hlt a (by simp [hl])
      have : (ces.all fun e => decide (e.born ≥ clk)) = false := by
        rw [← Array.all_toList, hl]
        have : ¬ a.born ≥ clk := by omega
        simp [this]
      simp [this]
  obtain ⟨c', w', hrun, hw', hmem⟩ := run_iter (P := P) (w := W) (es := ces) (since := clk) (seen := seen)
  have split1 : (Instr.next (.pointer (some ⟨r, 0, none⟩)) false t).run P W = ((match some c' with
      | some (some e) => do setObj r (.mapIter (some b) clk (seen.push e.born) clk); pure (.tuple #[.bool true, e.key, e.val])
      | some none => pure (.tuple #[.bool false])
      | none => stuck "Next: no such candidate" : Sem V).run P w') := by
    simp only [Sem.run_bind, Sem.run_pure] at hrun
    simp only [Instr.next, Sem.run_bind, hg, Result.andThen_ok, hgm, hc, Bool.false_eq_true, if_false]
    revert hrun
    generalize (choose _).run P W = q
    intro hrun
    cases q with
    | halt x y => simp at hrun
    | ok i w1 =>
      simp only [Result.andThen_ok, Result.ok.injEq] at hrun ⊢
      obtain ⟨hrun, rfl⟩ := hrun
      rw [hrun]
      rfl
  have hsame : w'.heap = W.heap ∧ w'.os = W.os ∧ w'.tape = W.tape ∧ w'.output = W.output := by
    rcases hw' with rfl | rfl <;> exact ⟨rfl, rfl, rfl, rfl⟩
  have old : ∀ l : List MapEntry, (∀ e ∈ l, e.born < clk) → l.filter (·.born < clk) = l ∧ l.filter (·.born ≥ clk) = [] := by
    intro l hl
    refine ⟨List.filter_eq_self.2 fun e he => by simpa using hl e he, List.filter_eq_nil_iff.2 fun e he => ?_⟩
    have := hl e he
    simp; omega
  obtain ⟨o1, o2⟩ := old (ces.toList.filter fun e => !seen.contains e.born) fun e he => hlt e ((List.mem_filter.1 he).1)
  simp only [cands, o1, o2, List.append_nil] at hmem
  rcases List.mem_append.1 hmem with hc | hc
  · left
    split at hc
    · rename_i hem
      simp only [List.mem_singleton] at hc
      subst hc
      refine ⟨fun e he => ?_, w', hsame.1, hsame.2.1, hsame.2.2.1, hsame.2.2.2, by rw [split1]; rfl⟩
      rw [List.isEmpty_iff] at hem
      have := List.filter_eq_nil_iff.1 hem e he
      simpa using this
    · simp at hc
  · right
    obtain ⟨e, he, rfl⟩ := List.mem_map.1 hc
    obtain ⟨he1, he2⟩ := List.mem_filter.1 he
    have hwb : w'.heap[r]? = some (.mapIter (some b) clk seen clk) := by rw [hsame.1]; exact hr
    have hlt' : r < w'.heap.size := (Array.getElem?_eq_some_iff.1 hwb).1
    refine ⟨e, he1, by simpa using he2, { w' with heap := w'.heap.setIfInBounds r (.mapIter (some b) clk (seen.push e.born) clk) }, ?_, ⟨hsame.2.1, hsame.2.2.1, hsame.2.2.2, ?_, fun k hk hkr => ?_⟩, ?_, ?_⟩
    · rw [split1]
      simp only [Sem.run_bind, run_setObj (P := P) hwb (fun c e f he => by cases he), Result.andThen_ok, Sem.run_pure]
    · simp [hsame.1]
    · have : r ≠ k := fun e => hkr (by rw [e])
      simp [Array.getElem?_setIfInBounds_ne this, hsame.1]
    · simp [hsame.1]
    · simp [hlt']

theorem raw_entry {e : MapEntry} (hn : (ces.toList.map (·.born)).Nodup) (he : e ∈ ces.toList) (hm : W.heap[b]? = some (.map ces clk)) (hr : W.heap[r]? = some (.mapIter (some b) clk (seen.push e.born) clk)) :
    (Instr.entry (.pointer (some ⟨r, 0, none⟩))).run P W = .ok (.tuple #[e.key, e.val]) W := by
  have hg := run_getObj (P := P) hr (fun c e f he => by cases he)
  have hgm := run_getObj (P := P) hm (fun c e f he => by cases he)
  have hf : ces.find? (·.born == e.born) = some e := by
    rw [← Array.find?_toList]
    revert hn he
    generalize ces.toList = l
    intro hn he
    induction l with
    | nil => simp at he
    | cons a l ih =>
      simp only [List.map_cons, List.nodup_cons] at hn
      rcases List.mem_cons.1 he with rfl | he'
      · simp
      · have : a.born ≠ e.born := fun h => hn.1 (List.mem_map.2 ⟨e, he', h.symm⟩)
        rw [List.find?_cons_of_neg (by simpa using this)]
        exact ih hn.2 he'
  simp [Instr.entry, hg, hgm, hf]

section
variable {F : Fence} {n : Nat} {ops : Array Oper} {rest : List Oper} {o : Oper} {a : Act} {Q : Exit → Act → World → Prop}

theorem wpListIn_range_raw (hg : o.guard = none) (m : Operand) (t : TypeId) (hop : o.op = Op.range t m) (kt et : TypeId) (ht : P.underlying t = some (.map kt et)) (hm : a.eval m = .map (some b)) (hb : W.heap[b]? = some (.map ces clk))
    (hK : wpListIn F n P ops Q rest (a.put o.dst (.pointer (some ⟨W.heap.size, 0, none⟩))) (W.alloc (.mapIter (some b) clk #[] clk))) : wpListIn F n P ops Q (o :: rest) a W := by
  refine wpListIn_plain hg fun K' hK' => ?_
  unfold Oper.wpIn
  refine ⟨by simp [Oper.about, hop], ?_⟩
  rw [Oper.semAt_plain F _ _ (by rw [hop]; intro c hc'; cases hc')]
  simp [execOp, hop, hm, raw_range (P := P) ht hb, Result.andThen]
  exact hK' _ _ hK

theorem wpListIn_next_raw (hg : o.guard = none) (it : Operand) (hop : o.op = Op.next it false) (hit : a.eval it = .pointer (some ⟨r, 0, none⟩)) (hlt : ∀ e ∈ ces.toList, e.born < clk)
    (hm : W.heap[b]? = some (.map ces clk)) (hr : W.heap[r]? = some (.mapIter (some b) clk seen clk))
    (hDone : (∀ e ∈ ces.toList, e.born ∈ seen) → ∀ w0, W.grownBy w0 none → wpListIn F n P ops Q rest (a.put o.dst (.tuple #[.bool false])) w0)
    (hMore : ∀ e ∈ ces.toList, e.born ∉ seen → ∀ w1, W.grownBy w1 (some r) → w1.heap.size = W.heap.size → w1.heap[r]? = some (.mapIter (some b) clk (seen.push e.born) clk) →
      wpListIn F n P ops Q rest (a.put o.dst (.tuple #[.bool true, e.key, e.val])) w1) : wpListIn F n P ops Q (o :: rest) a W := by
  refine wpListIn_plain hg fun K' hK' => ?_
  unfold Oper.wpIn
  refine ⟨by simp [Oper.about, hop], ?_⟩
  rw [Oper.semAt_plain F _ _ (by rw [hop]; intro c hc'; cases hc')]
  rcases raw_next (P := P) (t := o.type) hlt hm hr with ⟨h0, w0, e1, e2, e3, e4, hrun⟩ | ⟨e, he, hne, w1, hrun, h1, h2, h3⟩
  · simp [execOp, hop, hit, hrun, Result.andThen]
    exact hK' _ _ (hDone h0 w0 ⟨e2, e3, e4, by rw [e1]; exact Nat.le_refl _, fun k _ _ => by rw [e1]⟩)
  · simp [execOp, hop, hit, hrun, Result.andThen]
    exact hK' _ _ (hMore e he hne w1 h1 h2 h3)
end

end Go.Abs

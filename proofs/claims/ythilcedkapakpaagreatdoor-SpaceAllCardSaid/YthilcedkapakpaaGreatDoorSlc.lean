/- Operations on spaces that were handed in, from the model's worlds to abstract heaps. No program in sight. -/
import Derived.Test.YthilcedkapakpaaGreatDoorSla
import Derived.Test.YthilcedkapakpaaGreatDoorRepE
import Derived.SizedLaws
set_option linter.unusedSimpArgs false
set_option linter.unusedVariables false
namespace Go.Abs
open Go Go.RowKit

/-- What the fields of an operation on a space are. -/
def qField (i : Nat) : TypeDesc := if i = 0 ∨ i = 4 then .int .i64 else .string

theorem open_oq {H : Type} {enc : TypeId × Value → H} {P : Program} {w : World} {base : Nat} {spare : Nat → Bool} {held : Bool} {fuel : Nat} {e : TypeId} {fs : Array Field} {cs : List V} {x : DataW H × List MemPlace}
    (he : P.underlying e = some (.struct fs)) (ce : P.cellsOf e = 5) (hf : ∀ i, i < 5 → ∃ f, fs[i]? = some f ∧ f.offset = i ∧ P.cellsOf f.type = 1 ∧ P.underlying f.type = some (qField i)) (hn : fs.size = 5)
    (h : DataW.trod enc P w base spare held fuel e cs = some x) : ∃ o : Oq, cs = o.cells ∧ (o.key.size ≤ maxLen ∧ o.val.size ≤ maxLen) ∧ ∀ R, (∀ n ∈ x.1.weights P e, n ≤ R) → o.key.size ≤ R ∧ o.val.size ≤ R := by
  obtain ⟨xs, n, _, hx1, hl, hxs, hr⟩ := DataW.trod_struct he h
  rw [ce] at hl
  have get : ∀ i, i < 5 → ∃ v y, cs[i]? = some v ∧ xs[i]? = some y ∧ ∃ f : Field, fs[i]? = some f ∧ P.underlying f.type = some (qField i) ∧ DataW.trod enc P w base spare held n f.type [v] = some y := by
    intro i hi
    obtain ⟨f, h1, h2, h3, h4⟩ := hf i hi
    have h5 := hr i f h1
    rw [h2, h3] at h5
    have hci : i < cs.length := by omega
    have hxi : i < xs.length := by omega
    refine ⟨cs[i], xs[i], List.getElem?_eq_getElem hci, List.getElem?_eq_getElem hxi, f, h1, h4, ?_⟩
    have h6 : (cs.drop i).take 1 = [cs[i]] := by rw [List.drop_eq_getElem_cons hci]; rfl
    rw [h6] at h5
    rw [h5, List.getElem?_eq_getElem hxi]
  have int : ∀ i, i < 5 → qField i = .int .i64 → ∃ m : Int, cs[i]? = some (i64 m) := by
    intro i hi ho
    obtain ⟨v, y, h1, _, f, _, h2, h3⟩ := get i hi
    rw [ho] at h2
    obtain ⟨m, h4, _⟩ := DataW.trod_int h2 h3
    simp only [List.cons.injEq, and_true] at h4
    exact ⟨m, by rw [h1, h4]⟩
  have txt : ∀ i, i < 5 → qField i = .string → ∃ s : ByteArray, cs[i]? = some (str s) ∧ s.size ≤ maxLen ∧ ∀ R, (∀ n ∈ x.1.weights P e, n ≤ R) → s.size ≤ R := by
    intro i hi ho
    obtain ⟨v, y, h1, hy, f, hff, h2, h3⟩ := get i hi
    rw [ho] at h2
    obtain ⟨m, h4, hyv, h5⟩ := DataW.trod_string h2 h3
    simp only [List.cons.injEq, and_true] at h4
    refine ⟨m, by rw [h1, h4], h5, fun R hR => ?_⟩
    have hlen : m.data.toList.length = m.size := by rw [Array.length_toList]; rfl
    rw [← hlen]
    refine hR _ ?_
    rw [hx1]
    simp only [DataW.weights, he]
    refine DataW.weights_mem_each (j := i) (t := f.type) (d := .lit (.string m.data.toList)) ?_ ?_ _ (by simp [DataW.weights])
    · rw [List.getElem?_map, Array.getElem?_toList, hff]; rfl
    · rw [List.getElem?_map, hy, hyv]; rfl
  obtain ⟨a0, e0⟩ := int 0 (by decide) rfl
  obtain ⟨a1, e1, _⟩ := txt 1 (by decide) rfl
  obtain ⟨a2, e2, z2, w2⟩ := txt 2 (by decide) rfl
  obtain ⟨a3, e3, z3, w3⟩ := txt 3 (by decide) rfl
  obtain ⟨a4, e4⟩ := int 4 (by decide) rfl
  refine ⟨⟨a0, a1, a2, a3, a4⟩, ?_, ⟨z2, z3⟩, fun R hR => ⟨w2 R hR, w3 R hR⟩⟩
  match cs, hl with
  | [c0, c1, c2, c3, c4], _ =>
    simp only [List.getElem?_cons_zero, List.getElem?_cons_succ, Option.some.injEq] at e0 e1 e2 e3 e4
    simp [Oq.cells, e0, e1, e2, e3, e4]

/-- **An operation that was handed in.** -/
theorem open_oq1 {H : Type} {enc : TypeId × Value → H} {P : Program} {W : World} {held : Bool} {base : Nat} {t : TypeId} {fs : Array Field} {v : V} {d : DataW H} {p : List MemPlace}
    (he : P.underlying t = some (.struct fs)) (ce : P.cellsOf t = 5) (hf : ∀ i, i < 5 → ∃ f, fs[i]? = some f ∧ f.offset = i ∧ P.cellsOf f.type = 1 ∧ P.underlying f.type = some (qField i)) (hn : fs.size = 5)
    (hval : Value.okWide P W .any base t v) (hd : DataW.Trod enc P W 0 (fun _ => true) held t v d p) (hR : ∀ n ∈ d.weights P t, n ≤ reachBytes) :
    ∃ o : Oq, v = o.agg ∧ (o.key.size ≤ maxLen ∧ o.val.size ≤ maxLen) ∧ o.key.size ≤ reachBytes ∧ o.val.size ≤ reachBytes := by
  obtain ⟨fuel, hd⟩ := hd
  obtain ⟨cs, rfl, _⟩ := WideShapes.okWide_struct he hval
  obtain ⟨o, h1, h2, h3⟩ := open_oq he ce hf hn hd
  refine ⟨o, ?_, h2, h3 _ hR⟩
  have : cs.toList = o.cells := h1
  obtain ⟨cs⟩ := cs
  simp only at this
  rw [this]
  rfl

theorem weights_all {H : Type} {P : Program} {e : TypeId} {d : DataW H} : ∀ {l : List (DataW H)}, d ∈ l → ∀ n ∈ d.weights P e, n ∈ DataW.weightsAll P e l
  | [], h, _, _ => by simp at h
  | a :: l, h, n, hn => by
    simp only [DataW.weightsAll, List.mem_append]
    rcases List.mem_cons.1 h with rfl | h
    · exact .inl hn
    · exact .inr (weights_all h n hn)

def Oqs (N : Nat) (h : AHeap) (v : V) (l : List Oq) : Prop := Ro N h v 5 l.length (l.flatMap Oq.cells)

theorem oqs_cells : ∀ (l : List Oq) (i : Nat) (o : Oq), l[i]? = some o → ∀ j, j < 5 → (l.flatMap Oq.cells)[i * 5 + j]? = o.cells[j]?
  | [], i, o, h, _, _ => by simp at h
  | a :: l, 0, o, h, j, hj => by
    simp only [List.getElem?_cons_zero, Option.some.injEq] at h
    subst h
    rw [List.flatMap_cons, List.getElem?_append_left (by simp [Oq.cells]; omega)]
    simp
  | a :: l, i + 1, o, h, j, hj => by
    rw [List.getElem?_cons_succ] at h
    rw [List.flatMap_cons, List.getElem?_append_right (by simp [Oq.cells]; omega), ← oqs_cells l i o h j hj]
    congr 1
    simp [Oq.cells]
    omega

/-- **A list of operations that was handed in.** -/
theorem open_oqs {H : Type} {enc : TypeId × Value → H} {P : Program} {J : World → Prop} {W : World} {held : Bool} {base : Nat} {t e : TypeId} {fs : Array Field} {v : V} {d : DataW H} {p : List MemPlace}
    (ht : P.underlying t = some (.slice e)) (he : P.underlying e = some (.struct fs)) (ce : P.cellsOf e = 5) (hf : ∀ i, i < 5 → ∃ f, fs[i]? = some f ∧ f.offset = i ∧ P.cellsOf f.type = 1 ∧ P.underlying f.type = some (qField i))
    (hn : fs.size = 5) (hJ : J W) (hval : Value.okWide P W .any base t v) (hd : DataW.Trod enc P W 0 (fun _ => true) held t v d p) (hR : ∀ n ∈ d.weights P t, n ≤ reachBytes) :
    ∃ (l : List Oq) (r : Ren) (h : AHeap) (v' : V), R J W.heap.size r h W ∧ VR r v' v ∧ Oqs h.next h v' l ∧ l.length ≤ maxLen ∧ ∀ o ∈ l, o.key.size ≤ reachBytes ∧ o.val.size ≤ reachBytes := by
  obtain ⟨fuel, hd⟩ := hd
  obtain ⟨a, len, cap, rfl⟩ := WideShapes.okWide_slice ht hval
  rcases Deep.open_slice ht hd with ⟨h1, _⟩ | ⟨a', len', cap', m, n, D, Pl, h1, _, hlc, hcap, hm, hx, hr⟩
  · simp only [Value.cells, List.cons.injEq, Value.slice.injEq, and_true] at h1
    obtain ⟨rfl, rfl, rfl⟩ := h1
    obtain ⟨r, h, v', hR, hv, hro⟩ := R.ofNil (W := W) hJ 5
    exact ⟨[], r, h, v', hR, hv, hro, by simp, by simp⟩
  · simp only [Value.cells, List.cons.injEq, Value.slice.injEq, and_true] at h1
    obtain ⟨h11, h12, h13⟩ := h1
    subst h11
    simp only [if_true] at hm
    have hd1 : d = .slice ((List.range len').map D) ((List.range (m - len')).map fun j => D (len' + j)) := congrArg Prod.fst hx
    rw [← h12] at hd1
    rw [← h12, ← h13] at hlc
    rw [← h13] at hcap hm
    rw [hm] at hr
    clear h12 h13 hm hx
    obtain ⟨hs, cc, el, fr, hb, ho⟩ := okWide_slice_at ht hval
    rw [ce] at hr
    have hadd : ∀ k, a'.add k = ⟨a'.block, a'.off + k, none⟩ := by
      intro k
      obtain ⟨bb, oo, ss⟩ := a'
      simp only at hs
      subst hs
      exact addr_add _ _ _
    have each : ∀ i, i < cap → ∃ o : Oq, (∀ j, j < 5 → cc[a'.off + (i * 5 + j)]? = o.cells[j]?) ∧ (i < len → o.key.size ≤ reachBytes ∧ o.val.size ≤ reachBytes) := by
      intro i hi
      obtain ⟨cs', h2, h3⟩ := hr i hi
      obtain ⟨o, rfl, _, hz⟩ := open_oq he ce hf hn h3
      obtain ⟨_, _, h4⟩ := World.cells?_some h2
      refine ⟨o, fun j hj => ?_, fun hil => hz reachBytes fun n hn => hR n ?_⟩
      · rw [← h4 j hj, hadd, addr_add]
        rw [cell_of_block hb, Nat.add_assoc]
      · rw [hd1]
        simp only [DataW.weights, ht, List.mem_cons, List.mem_append]
        right
        left
        exact weights_all (d := D i) (List.mem_map.2 ⟨i, List.mem_range.2 hil, rfl⟩) n hn
    have hsz : a'.off + cap * 5 ≤ cc.size := by
      by_cases hc0 : cap = 0
      · omega
      · obtain ⟨o, h5, _⟩ := each (cap - 1) (by omega)
        have h6 := h5 4 (by decide)
        have h7 : o.cells[4]? = some (i64 o.n) := rfl
        rw [h7] at h6
        have := (Array.getElem?_eq_some_iff.1 h6).1
        omega
    obtain ⟨O, hO⟩ := Deep.choose_lt (n := len) (p := fun i (o : Oq) => (∀ j, j < 5 → cc[a'.off + (i * 5 + j)]? = o.cells[j]?) ∧ (i < len → o.key.size ≤ reachBytes ∧ o.val.size ≤ reachBytes)) fun i hi => each i (by omega)
    have hlen : ∀ l : List Oq, (l.flatMap Oq.cells).length = l.length * 5 := by
      intro l
      induction l with
      | nil => rfl
      | cons o l ih => simp [List.flatMap_cons, ih, Oq.cells]; omega
    have hc1 : (((List.range len).map O).flatMap Oq.cells).length = len * 5 := by rw [hlen, List.length_map, List.length_range]
    have hc2 : ∀ j, j < len * 5 → cc[a'.off + j]? = (((List.range len).map O).flatMap Oq.cells)[j]? := by
      intro j hj
      have h1 : j / 5 < len := by omega
      have h2 := oqs_cells ((List.range len).map O) (j / 5) (O (j / 5)) (by simp [h1]) (j % 5) (by omega)
      rw [show j / 5 * 5 + j % 5 = j by omega] at h2
      rw [h2, ← (hO (j / 5) h1).1 (j % 5) (by omega), show j / 5 * 5 + j % 5 = j by omega]
    have hc3 : ∀ u ∈ ((List.range len).map O).flatMap Oq.cells, closedV u = true := by
      intro u hu
      simp only [List.mem_flatMap] at hu
      obtain ⟨o, _, hu⟩ := hu
      simp only [Oq.cells, List.mem_cons, List.not_mem_nil, or_false] at hu
      rcases hu with rfl | rfl | rfl | rfl | rfl <;> rfl
    obtain ⟨r, h, v', hR, hv, hro⟩ := R.ofSlice (J := J) hJ (es := 5) hs hb hsz hlc hc1 hc2 hc3
    refine ⟨(List.range len).map O, r, h, v', hR, hv, ?_, by simp; omega, fun o ho => ?_⟩
    rotate_left
    · obtain ⟨i, hi, rfl⟩ := List.mem_map.1 ho
      have hi' : i < len := by simpa using hi
      exact (hO i hi').2 hi'
    unfold Oqs
    rw [List.length_map, List.length_range]
    exact hro

theorem oq_closed (o : Oq) : closedV o.agg = true := by
  simp [closedV, closed0]

theorem reach_BB : reachBytes ≤ 1152921504606846976 := by decide

/-- The form's own reach, parameter by parameter. -/
theorem sizes_of {H : Type} {P : Program} {ts ts' : List TypeId} {ds gs : List (DataW H)} (h : (DataW.weightsEach P (ts ++ ts') (ds ++ gs)).all (· ≤ reachBytes) = true) :
    ∀ (j : Nat) t d, ts[j]? = some t → ds[j]? = some d → ∀ n ∈ d.weights P t, n ≤ reachBytes := by
  intro j t d ht hd n hn
  have h1 : (ts ++ ts')[j]? = some t := by rw [List.getElem?_append_left (List.getElem?_eq_some_iff.1 ht).1, ht]
  have h2 : (ds ++ gs)[j]? = some d := by rw [List.getElem?_append_left (List.getElem?_eq_some_iff.1 hd).1, hd]
  exact of_decide_eq_true (List.all_eq_true.1 h n (DataW.weights_mem_each h1 h2 n hn))

end Go.Abs

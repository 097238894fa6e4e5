/- Lists that were handed in, from the model's worlds to abstract heaps. No program in sight. -/
import Derived.Test.YthilcedkapakpaaGreatDoorRepB
import Derived.Test.YthilcedkapakpaaGreatDoorAbs25
import Derived.Deep.Slices
set_option linter.unusedSimpArgs false
set_option linter.unusedVariables false
namespace Go.Abs
open Go Go.RowKit

/-- A row's place lies in its block. -/
theorem rowAt_off {P : Program} {fits : TypeId → Bool} {d : Nat} {e : TypeId} {count off n : Nat} (h : rowAt P fits d e count off n = true) : off ≤ count * P.cellsOf e := by
  cases d with
  | zero => simp [rowAt] at h
  | succ d =>
    unfold rowAt at h
    simp only at h
    split at h
    · cases h
    · rename_i hs
      have hm := Nat.div_add_mod off (P.cellsOf e)
      have hl := Nat.mod_lt off (Nat.pos_of_ne_zero hs)
      rw [Bool.or_eq_true] at h
      rcases h with h | h
      · simp only [Bool.and_eq_true, beq_iff_eq, decide_eq_true_eq] at h
        have : P.cellsOf e * (off / P.cellsOf e) ≤ P.cellsOf e * count := Nat.mul_le_mul_left _ (by omega)
        rw [Nat.mul_comm count]
        omega
      · rw [Bool.and_eq_true, decide_eq_true_eq] at h
        have : P.cellsOf e * (off / P.cellsOf e + 1) ≤ P.cellsOf e * count := Nat.mul_le_mul_left _ (by omega)
        rw [Nat.mul_add, Nat.mul_one] at this
        rw [Nat.mul_comm count]
        omega

theorem lies_off {P : Program} : ∀ {d : Nat} {e : TypeId} {count off : Nat} {u : TypeId} {n : Nat}, liesAt P d e count off u n = true → off ≤ count * P.cellsOf e
  | 0, _, _, _, _, _, h => by simp [liesAt] at h
  | d + 1, e, count, off, u, n, h => by
    unfold liesAt at h
    rw [Bool.or_eq_true] at h
    rcases h with h | h
    · exact rowAt_off h
    · split at h
      · exact lies_off h
      · cases h

/-- Where a slice lies. -/
theorem okWide_slice_at {P : Program} {w : World} {base : Nat} {t e : TypeId} {a : Addr} {len cap : Nat} (ht : P.underlying t = some (.slice e)) (h : Value.okWide P w .any base t (.slice (some a) len cap)) :
    a.spot = none ∧ ∃ cc el fr, w.heap[a.block]? = some (.cells cc el fr) ∧ a.off ≤ cc.size := by
  simp only [Value.okWide, ht, Cell.okWide] at h
  have h' : w.has P .any base a e cap := by
    simp only [Cell.ok, ht] at h
    first | exact h | exact h.2 | exact h.2.2 | exact h.1 | exact h.2.1
  obtain ⟨_, hs, row, cells, hsh, hl⟩ := h'
  refine ⟨hs, ?_⟩
  unfold World.shape? at hsh
  split at hsh
  · rename_i c el fr hb
    simp only [Option.some.injEq, Prod.mk.injEq] at hsh
    obtain ⟨rfl, rfl⟩ := hsh
    refine ⟨c, _, fr, hb, Nat.le_trans (lies_off hl) (Nat.div_mul_le_self _ _)⟩
  · cases hsh

/-- A row that is read: an abstract heap of it alone. -/
theorem R.ofSlice {J : World → Prop} {W : World} (hJ : J W) {a : Addr} {len cap es : Nat} (hs : a.spot = none) {cc : Array V} {el : TypeId} {fr : Nat × Nat} (hb : W.heap[a.block]? = some (.cells cc el fr))
    (hsz : a.off + cap * es ≤ cc.size) (hlc : len ≤ cap) {cs : List V} (hcs : cs.length = len * es) (hc : ∀ j, j < len * es → cc[a.off + j]? = cs[j]?) (hcl : ∀ v ∈ cs, closedV v = true) :
    ∃ r h v, R J W.heap.size r h W ∧ VR r v (.slice (some a) len cap) ∧ Ro h.next h v es len cs := by
  obtain ⟨blk, off, spot⟩ := a
  simp only at hs hb hsz hc
  subst hs
  have hlt : blk < W.heap.size := (Array.getElem?_eq_some_iff.1 hb).1
  have hm : len * es ≤ cap * es := Nat.mul_le_mul_right _ hlc
  refine ⟨fun x => if x = 0 then some ⟨blk, cc.size, es⟩ else none, ⟨fun x => if x = 0 then some (.cells (List.replicate off junk ++ cs) es .ro) else none, 1⟩, .slice (some ⟨0, off, none⟩) len (2 * len + 1), ?_, ?_, ?_⟩
  · refine ⟨Nat.le_refl _, ?_, ?_, ?_, hJ⟩
    · intro b t h
      split at h
      · cases h; subst_vars; exact ⟨hlt, by simp⟩
      · cases h
    · intro b o h
      simp only at h
      split at h
      · rename_i hb0
        cases h
        refine ⟨_, if_pos hb0, rfl, ⟨cc, el, fr, hb, rfl, by simp; omega, fun i h1 h2 => ?_, fun hk => absurd rfl hk, fun hk => by cases hk⟩, fun hk => absurd rfl hk⟩
        rw [List.getElem_append]
        split
        · rw [List.getElem_replicate]; exact .junk _
        · rename_i hi
          simp only [List.length_replicate] at hi
          have hj : i - off < cs.length := by simp at h1; omega
          have := hc (i - off) (by omega)
          rw [show off + (i - off) = i by omega, Array.getElem?_eq_getElem h2, List.getElem?_eq_getElem hj, Option.some.injEq] at this
          simp only [List.length_replicate]
          rw [this]
          exact VR.closed (hcl _ (List.getElem_mem _))
      · cases h
    · intro b b' o o' t t' h h' _ _ _
      simp only at h h'
      split at h <;> split at h' <;> first | (subst_vars; exact .inl rfl) | (cases h; done) | (cases h'; done)
  · exact VR.slice (b := 0) (o := off) (n := len) (c := 2 * len + 1) (c' := cap) (t := ⟨blk, cc.size, es⟩) (if_pos rfl) ⟨by omega, fun he => by omega⟩ (by omega) hsz
  · refine ⟨hcs, Nat.le_refl _, .inr ⟨0, off, 2 * len + 1, List.replicate off junk ++ cs, rfl, by simp, by omega, by simp, ?_⟩⟩
    rw [List.drop_append, List.drop_of_length_le (by simp)]
    simp [← hcs]

theorem R.ofNil {J : World → Prop} {W : World} (hJ : J W) (es : Nat) :
    ∃ r h v, R J W.heap.size r h W ∧ VR r v (.slice none 0 0) ∧ Ro h.next h v es 0 [] :=
  ⟨fun _ => none, ⟨fun _ => none, 0⟩, .slice none 0 0, ⟨Nat.le_refl _, fun _ _ h => (by cases h), fun _ _ h => (by cases h), fun _ _ _ _ _ _ h => (by cases h), hJ⟩, .sliceNil, by simp, Nat.le_refl _, .inl ⟨rfl, rfl⟩⟩

/-- **From a spec to a call:** arguments that an abstract heap speaks of. -/
theorem SoundF.callsR {P : Program} {J : World → Prop} {f : FuncId} {s : Spec} (hs : SoundF P J f s) (hcall : ∀ (args : Array V) (w : World), (callFunc f args).run P w = .ok (.enter f args) w)
    {w : World} (hJ : Stays J w.heap.size) {r : Ren} {h : AHeap} (hR : R J w.heap.size r h w) {l : List V} {l' : Array V} (hl : VRl r l l'.toList) {v0 : V} (h0 : closedV v0 = true) (hq : s l h fun v _ => v = v0) :
    Calls P f l' w fun e w' => e = .returned v0 ∧ Below w.heap.size w w' := by
  obtain ⟨n, w1, h1, h2⟩ := hs _ hJ _ _ w l l' _ hq hR hl
  rw [hcall] at h1
  cases h1
  refine Calls.mono h2 ?_
  rintro e w' ⟨v', rfl, r', v, h', rfl, hR', hE, hv⟩
  exact ⟨by rw [VR.eq_of_closed h0 hv], hE.below hR⟩

/-- What the fields of the laws' operation are. -/
def opField (i : Nat) : TypeDesc := if i = 1 ∨ i = 2 then .string else .int .i64

theorem open_op {H : Type} {enc : TypeId × Value → H} {P : Program} {w : World} {base : Nat} {spare : Nat → Bool} {held : Bool} {fuel : Nat} {e : TypeId} {fs : Array Field} {cs : List V} {x : DataW H × List MemPlace}
    (he : P.underlying e = some (.struct fs)) (ce : P.cellsOf e = 6) (hf : ∀ i, i < 6 → ∃ f, fs[i]? = some f ∧ f.offset = i ∧ P.cellsOf f.type = 1 ∧ P.underlying f.type = some (opField i)) (hn : fs.size = 6)
    (h : DataW.trod enc P w base spare held fuel e cs = some x) : ∃ o : OpA, cs = o.cells ∧ o.key.size ≤ maxLen ∧ o.val.size ≤ maxLen := by
  obtain ⟨xs, n, _, _, hl, hxs, hr⟩ := DataW.trod_struct he h
  rw [ce] at hl
  have get : ∀ i, i < 6 → ∃ v y, cs[i]? = some v ∧ ∃ f : Field, P.underlying f.type = some (opField i) ∧ DataW.trod enc P w base spare held n f.type [v] = some y := by
    intro i hi
    obtain ⟨f, h1, h2, h3, h4⟩ := hf i hi
    have h5 := hr i f h1
    rw [h2, h3] at h5
    have hci : i < cs.length := by omega
    have hxi : i < xs.length := by omega
    refine ⟨cs[i], xs[i], List.getElem?_eq_getElem hci, f, h4, ?_⟩
    have h6 : (cs.drop i).take 1 = [cs[i]] := by rw [List.drop_eq_getElem_cons hci]; rfl
    rw [h6] at h5
    rw [h5, List.getElem?_eq_getElem hxi]
  have int : ∀ i, i < 6 → opField i = .int .i64 → ∃ m : Int, cs[i]? = some (i64 m) := by
    intro i hi ho
    obtain ⟨v, y, h1, f, h2, h3⟩ := get i hi
    rw [ho] at h2
    obtain ⟨m, h4, _⟩ := DataW.trod_int h2 h3
    simp only [List.cons.injEq, and_true] at h4
    exact ⟨m, by rw [h1, h4]⟩
  have txt : ∀ i, i < 6 → opField i = .string → ∃ s : ByteArray, cs[i]? = some (str s) ∧ s.size ≤ maxLen := by
    intro i hi ho
    obtain ⟨v, y, h1, f, h2, h3⟩ := get i hi
    rw [ho] at h2
    obtain ⟨m, h4, _, h5⟩ := DataW.trod_string h2 h3
    simp only [List.cons.injEq, and_true] at h4
    exact ⟨m, by rw [h1, h4], h5⟩
  obtain ⟨a0, e0⟩ := int 0 (by decide) rfl
  obtain ⟨a1, e1, z1⟩ := txt 1 (by decide) rfl
  obtain ⟨a2, e2, z2⟩ := txt 2 (by decide) rfl
  obtain ⟨a3, e3⟩ := int 3 (by decide) rfl
  obtain ⟨a4, e4⟩ := int 4 (by decide) rfl
  obtain ⟨a5, e5⟩ := int 5 (by decide) rfl
  refine ⟨⟨a0, a1, a2, a3, a4, a5⟩, ?_, z1, z2⟩
  match cs, hl with
  | [c0, c1, c2, c3, c4, c5], _ =>
    simp only [List.getElem?_cons_zero, List.getElem?_cons_succ, Option.some.injEq] at e0 e1 e2 e3 e4 e5
    simp [OpA.cells, e0, e1, e2, e3, e4, e5]

/-- **A list of the laws' operations that was handed in.** -/
theorem open_ops {H : Type} {enc : TypeId × Value → H} {P : Program} {J : World → Prop} {W : World} {held : Bool} {base : Nat} {t e : TypeId} {fs : Array Field} {v : V} {d : DataW H} {p : List MemPlace}
    (ht : P.underlying t = some (.slice e)) (he : P.underlying e = some (.struct fs)) (ce : P.cellsOf e = 6) (hf : ∀ i, i < 6 → ∃ f, fs[i]? = some f ∧ f.offset = i ∧ P.cellsOf f.type = 1 ∧ P.underlying f.type = some (opField i))
    (hn : fs.size = 6) (hJ : J W) (hval : Value.okWide P W .any base t v) (hd : DataW.Trod enc P W 0 (fun _ => true) held t v d p) :
    ∃ (l : List OpA) (r : Ren) (h : AHeap) (v' : V), R J W.heap.size r h W ∧ VR r v' v ∧ Ops h.next h v' l ∧ l.length ≤ maxLen ∧ ∀ o ∈ l, o.key.size ≤ maxLen ∧ o.val.size ≤ maxLen := by
  obtain ⟨fuel, hd⟩ := hd
  obtain ⟨a, len, cap, rfl⟩ := WideShapes.okWide_slice ht hval
  rcases Deep.open_slice ht hd with ⟨h1, _⟩ | ⟨a', len', cap', m, n, D, Pl, h1, _, hlc, hcap, hm, _, hr⟩
  · simp only [Value.cells, List.cons.injEq, Value.slice.injEq, and_true] at h1
    obtain ⟨rfl, rfl, rfl⟩ := h1
    obtain ⟨r, h, v', hR, hv, hro⟩ := R.ofNil (W := W) hJ 6
    exact ⟨[], r, h, v', hR, hv, hro, by simp, by simp⟩
  · simp only [Value.cells, List.cons.injEq, Value.slice.injEq, and_true] at h1
    obtain ⟨h11, h12, h13⟩ := h1
    subst h11
    simp only [if_true] at hm
    rw [← h12, ← h13] at hlc
    rw [← h13] at hcap hm
    rw [hm] at hr
    clear h12 h13 hm
    obtain ⟨hs, cc, el, fr, hb, ho⟩ := okWide_slice_at ht hval
    rw [ce] at hr
    have hadd : ∀ k, a'.add k = ⟨a'.block, a'.off + k, none⟩ := by
      intro k
      obtain ⟨bb, oo, ss⟩ := a'
      simp only at hs
      subst hs
      exact addr_add _ _ _
    have each : ∀ i, i < cap → ∃ o : OpA, (∀ j, j < 6 → cc[a'.off + (i * 6 + j)]? = o.cells[j]?) ∧ o.key.size ≤ maxLen ∧ o.val.size ≤ maxLen := by
      intro i hi
      obtain ⟨cs', h2, h3⟩ := hr i hi
      obtain ⟨o, rfl, hz⟩ := open_op he ce hf hn h3
      obtain ⟨_, _, h4⟩ := World.cells?_some h2
      refine ⟨o, fun j hj => ?_, hz⟩
      rw [← h4 j hj, hadd, addr_add]
      rw [cell_of_block hb, Nat.add_assoc]
    have hsz : a'.off + cap * 6 ≤ cc.size := by
      by_cases hc0 : cap = 0
      · omega
      · obtain ⟨o, h5, _⟩ := each (cap - 1) (by omega)
        have h6 := h5 5 (by decide)
        have h7 : o.cells[5]? = some (i64 o.now) := rfl
        rw [h7] at h6
        have := (Array.getElem?_eq_some_iff.1 h6).1
        omega
    obtain ⟨O, hO⟩ := Deep.choose_lt (n := len) (p := fun i (o : OpA) => (∀ j, j < 6 → cc[a'.off + (i * 6 + j)]? = o.cells[j]?) ∧ o.key.size ≤ maxLen ∧ o.val.size ≤ maxLen) fun i hi => each i (by omega)
    have hlen : ∀ l : List OpA, (l.flatMap OpA.cells).length = l.length * 6 := by
      intro l
      induction l with
      | nil => rfl
      | cons o l ih => simp [List.flatMap_cons, ih, OpA.cells]; omega
    have hc1 : (((List.range len).map O).flatMap OpA.cells).length = len * 6 := by rw [hlen, List.length_map, List.length_range]
    have hc2 : ∀ j, j < len * 6 → cc[a'.off + j]? = (((List.range len).map O).flatMap OpA.cells)[j]? := by
      intro j hj
      have h1 : j / 6 < len := by omega
      have h2 := ops_cells ((List.range len).map O) (j / 6) (O (j / 6)) (by simp [h1]) (j % 6) (by omega)
      rw [show j / 6 * 6 + j % 6 = j by omega] at h2
      rw [h2, ← (hO (j / 6) h1).1 (j % 6) (by omega), show j / 6 * 6 + j % 6 = j by omega]
    have hc3 : ∀ u ∈ ((List.range len).map O).flatMap OpA.cells, closedV u = true := by
      intro u hu
      simp only [List.mem_flatMap] at hu
      obtain ⟨o, _, hu⟩ := hu
      simp only [OpA.cells, List.mem_cons, List.not_mem_nil, or_false] at hu
      rcases hu with rfl | rfl | rfl | rfl | rfl | rfl <;> rfl
    obtain ⟨r, h, v', hR, hv, hro⟩ := R.ofSlice (J := J) hJ (es := 6) hs hb hsz hlc hc1 hc2 hc3
    refine ⟨(List.range len).map O, r, h, v', hR, hv, ?_, by simp; omega, fun o ho => ?_⟩
    rotate_left
    · obtain ⟨i, hi, rfl⟩ := List.mem_map.1 ho
      exact (hO i (by simpa using hi)).2
    unfold Ops
    rw [List.length_map, List.length_range]
    exact hro

end Go.Abs

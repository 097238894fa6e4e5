/- Two lists that were handed in; they may share a block. From the model's worlds to abstract heaps. No program in sight. -/
import Derived.Test.YthilcedkapakpaaGreatDoorSlc
import Derived.Test.YthilcedkapakpaaGreatDoorRep43
set_option linter.unusedSimpArgs false
set_option linter.unusedVariables false
namespace Go.Abs
open Go Go.RowKit

/-- A heap of which all that is said is only read. -/
def AllRo (h : AHeap) : Prop := ∀ b o, h.get b = some o → o.isRo

/-- Of a list that was handed in its row alone is asked. -/
theorem Ro.only {N : Nat} {h : AHeap} {v : V} {es n : Nat} {cs : List V} (s : Ro N h v es n cs) : ∃ h', Sub h' h ∧ h'.next = h.next ∧ AllRo h' ∧ Ro N h' v es n cs := by
  obtain ⟨h0, h1, ⟨rfl, rfl⟩ | ⟨b, o, c, all, rfl, hb, hc, hg, ha⟩⟩ := s
  · exact ⟨h.bare, Sub.bare h, rfl, (fun b o hb => by cases hb), h0, h1, .inl ⟨rfl, rfl⟩⟩
  · refine ⟨⟨fun x => if x = b then h.get b else none, h.next⟩, ⟨Nat.le_refl _, fun x o' hx => ?_⟩, rfl, fun x o' hx => ?_, h0, h1, .inr ⟨b, o, c, all, rfl, hb, hc, ?_, ha⟩⟩
    · simp only at hx
      split at hx
      · rename_i e; rw [e]; exact hx
      · cases hx
    · simp only at hx
      split at hx
      · rw [hg] at hx; cases hx; exact ⟨_, _, rfl⟩
      · cases hx
    · simp only [if_true]
      exact hg

/-- What was there is there. -/
structure More (r : Ren) (h : AHeap) (r' : Ren) (h' : AHeap) : Prop where
  ren : r.le r'
  next : h.next ≤ h'.next
  get : ∀ b, b < h.next → h'.get b = h.get b

theorem Ro.more {r r' : Ren} {h h' : AHeap} {v : V} {es n : Nat} {cs : List V} (m : More r h r' h') (s : Ro h.next h v es n cs) : Ro h'.next h' v es n cs := by
  obtain ⟨h0, h1, ⟨rfl, rfl⟩ | ⟨b, o, c, all, rfl, hb, hc, hg, ha⟩⟩ := s
  · exact ⟨h0, Nat.le_refl _, .inl ⟨rfl, rfl⟩⟩
  · exact ⟨h0, Nat.le_refl _, .inr ⟨b, o, c, all, rfl, Nat.lt_of_lt_of_le hb m.next, hc, by rw [m.get b hb, hg], ha⟩⟩

/-- One more row that is read. -/
theorem R.addSlice {J : World → Prop} {W : World} {r : Ren} {h : AHeap} (hR : R J W.heap.size r h W) (hro : AllRo h) {a : Addr} {len cap es : Nat} (hs : a.spot = none) {cc : Array V} {el : TypeId} {fr : Nat × Nat}
    (hb : W.heap[a.block]? = some (.cells cc el fr)) (hsz : a.off + cap * es ≤ cc.size) (hlc : len ≤ cap) {cs : List V} (hcs : cs.length = len * es) (hc : ∀ j, j < len * es → cc[a.off + j]? = cs[j]?) (hcl : ∀ v ∈ cs, closedV v = true) :
    ∃ r' h' v, R J W.heap.size r' h' W ∧ VR r' v (.slice (some a) len cap) ∧ Ro h'.next h' v es len cs ∧ More r h r' h' := by
  obtain ⟨blk, off, spot⟩ := a
  simp only at hs hb hsz hc
  subst hs
  have hlt : blk < W.heap.size := (Array.getElem?_eq_some_iff.1 hb).1
  have hm : len * es ≤ cap * es := Nat.mul_le_mul_right _ hlc
  have hle := hR.le_upd ⟨blk, cc.size, es⟩
  have old : ∀ b o1, (h.new (.cells (List.replicate off junk ++ cs) es .ro)).get b = some o1 → (b = h.next ∧ o1 = .cells (List.replicate off junk ++ cs) es .ro) ∨ (b ≠ h.next ∧ h.get b = some o1) := by
    intro b o1 hb
    by_cases e : b = h.next
    · subst e; simp [AHeap.new] at hb; exact .inl ⟨rfl, hb.symm⟩
    · exact .inr ⟨e, by simpa [AHeap.new, e] using hb⟩
  refine ⟨r.upd h.next ⟨blk, cc.size, es⟩, h.new (.cells (List.replicate off junk ++ cs) es .ro), .slice (some ⟨h.next, off, none⟩) len (2 * len + 1), ?_, ?_, ?_, hle, Nat.le_succ _, fun b hb => ?_⟩
  · refine ⟨Nat.le_refl _, ?_, ?_, ?_, hR.inv⟩
    · intro b t' hb
      by_cases e : b = h.next
      · subst e; rw [Ren.upd_same] at hb; cases hb; exact ⟨hlt, by simp [AHeap.new]⟩
      · rw [Ren.upd_ne _ _ e] at hb
        have := hR.lt b t' hb
        refine ⟨this.1, ?_⟩
        simp [AHeap.new]; omega
    · intro b o1 hb1
      rcases old b o1 hb1 with ⟨rfl, rfl⟩ | ⟨e, hb'⟩
      · refine ⟨_, Ren.upd_same _ _ _, rfl, ⟨cc, el, fr, hb, rfl, by simp; omega, fun i h1 h2 => ?_, fun hk => absurd rfl hk, fun hk => by cases hk⟩, fun hk => absurd rfl hk⟩
        rw [List.getElem_append]
        split
        · rw [List.getElem_replicate]; exact .junk _
        · rename_i hi
          simp only [List.length_replicate] at hi
          have hj : i - off < cs.length := by simp at h1; omega
          have := hc (i - off) (by omega)
          rw [show off + (i - off) = i by omega, Array.getElem?_eq_getElem h2, List.getElem?_eq_getElem hj, Option.some.injEq] at this
          simp only [List.length_replicate]
          rw [this]
          exact VR.closed (hcl _ (List.getElem_mem _))
      · obtain ⟨t', h3, h4⟩ := hR.live b o1 hb'
        exact ⟨t', hle _ _ h3, h4.mono hle⟩
    · intro b b' o1 o1' t1 t1' hb hb' g1 g1' e
      rcases old b o1 hb with ⟨rfl, rfl⟩ | ⟨e1, hb⟩ <;> rcases old b' o1' hb' with ⟨rfl, rfl⟩ | ⟨e2, hb'⟩
      · exact .inl rfl
      · exact .inr ⟨⟨_, _, rfl⟩, hro _ _ hb'⟩
      · exact .inr ⟨hro _ _ hb, _, _, rfl⟩
      · rw [Ren.upd_ne _ _ e1] at g1; rw [Ren.upd_ne _ _ e2] at g1'
        exact hR.inj b b' o1 o1' t1 t1' hb hb' g1 g1' e
  · exact VR.slice (b := h.next) (o := off) (n := len) (c := 2 * len + 1) (c' := cap) (t := ⟨blk, cc.size, es⟩) (Ren.upd_same _ _ _) ⟨by omega, fun he => by omega⟩ (by omega) hsz
  · refine ⟨hcs, Nat.le_refl _, .inr ⟨h.next, off, 2 * len + 1, List.replicate off junk ++ cs, rfl, by simp [AHeap.new], by omega, by simp [AHeap.new], ?_⟩⟩
    rw [List.drop_append, List.drop_of_length_le (by simp)]
    simp [← hcs]
  · have : b ≠ h.next := by omega
    simp [AHeap.new, this]

theorem More.refl (r : Ren) (h : AHeap) : More r h r h := ⟨Ren.le_refl r, Nat.le_refl _, fun _ _ => rfl⟩

/-- **A list of numbers that was handed in, besides.** -/
theorem open_i64s {H : Type} {enc : TypeId × Value → H} {P : Program} {J : World → Prop} {W : World} {held : Bool} {base : Nat} {t e : TypeId} {v : V} {d : DataW H} {p : List MemPlace}
    (ht : P.underlying t = some (.slice e)) (he : P.underlying e = some (.int .i64)) (ce : P.cellsOf e = 1) {r : Ren} {h : AHeap} (hR : R J W.heap.size r h W) (hro : AllRo h)
    (hval : Value.okWide P W .any base t v) (hd : DataW.Trod enc P W 0 (fun _ => true) held t v d p) :
    ∃ (l : List Int) (r' : Ren) (h' : AHeap) (v' : V), R J W.heap.size r' h' W ∧ VR r' v' v ∧ Ints h'.next h' v' l ∧ More r h r' h' := by
  obtain ⟨fuel, hd⟩ := hd
  obtain ⟨a, len, cap, rfl⟩ := WideShapes.okWide_slice ht hval
  rcases Deep.open_slice ht hd with ⟨h1, _⟩ | ⟨a', len', cap', m, n, D, Pl, h1, _, hlc, hcap, hm, hx, hr⟩
  · simp only [Value.cells, List.cons.injEq, Value.slice.injEq, and_true] at h1
    obtain ⟨rfl, rfl, rfl⟩ := h1
    exact ⟨[], r, h, .slice none 0 0, hR, .sliceNil, ⟨rfl, Nat.le_refl _, .inl ⟨rfl, rfl⟩⟩, More.refl r h⟩
  · simp only [Value.cells, List.cons.injEq, Value.slice.injEq, and_true] at h1
    obtain ⟨h11, h12, h13⟩ := h1
    subst h11
    simp only [if_true] at hm
    rw [← h12, ← h13] at hlc
    rw [← h13] at hcap hm
    rw [hm] at hr
    clear h12 h13 hm hx
    obtain ⟨hs, cc, el, fr, hb, ho⟩ := okWide_slice_at ht hval
    rw [ce] at hr
    have hadd : ∀ k, a'.add k = ⟨a'.block, a'.off + k, none⟩ := by
      intro k
      obtain ⟨bb, oo, ss⟩ := a'
      simp only at hs
      subst hs
      exact addr_add _ _ _
    have each : ∀ i, i < cap → ∃ x : Int, cc[a'.off + i]? = some (i64 x) := by
      intro i hi
      obtain ⟨cs', h2, h3⟩ := hr i hi
      obtain ⟨h5, _, h4⟩ := World.cells?_some h2
      obtain ⟨c0, rfl⟩ : ∃ c0, cs' = [c0] := by
        match cs', h5 with
        | [c0], _ => exact ⟨c0, rfl⟩
      obtain ⟨x, h6, _⟩ := DataW.trod_int he h3
      simp only [List.cons.injEq, and_true] at h6
      have h7 := h4 0 (by decide)
      refine ⟨x, ?_⟩
      rw [hadd, addr_add, cell_of_block hb, Nat.add_zero, Nat.mul_one] at h7
      rw [h7, h6]
      rfl
    have hsz : a'.off + cap * 1 ≤ cc.size := by
      by_cases hc0 : cap = 0
      · omega
      · obtain ⟨x, h5⟩ := each (cap - 1) (by omega)
        have := (Array.getElem?_eq_some_iff.1 h5).1
        omega
    obtain ⟨X, hX⟩ := Deep.choose_lt (n := len) (p := fun i (x : Int) => cc[a'.off + i]? = some (i64 x)) fun i hi => each i (by omega)
    have hc1 : (((List.range len).map X).map i64).length = len * 1 := by simp
    have hc2 : ∀ j, j < len * 1 → cc[a'.off + j]? = (((List.range len).map X).map i64)[j]? := by
      intro j hj
      rw [hX j (by omega)]
      simp [show j < len by omega]
    have hc3 : ∀ u ∈ ((List.range len).map X).map i64, closedV u = true := by
      intro u hu
      obtain ⟨s, _, rfl⟩ := List.mem_map.1 hu
      rfl
    obtain ⟨r', h', v', hR', hv, hro', hm⟩ := R.addSlice hR hro (es := 1) hs hb hsz hlc hc1 hc2 hc3
    refine ⟨(List.range len).map X, r', h', v', hR', hv, ?_, hm⟩
    unfold Ints
    rw [List.length_map, List.length_range]
    exact hro'

/-- Operations and numbers. -/
theorem open_oqs_i64s {H : Type} {enc : TypeId × Value → H} {P : Program} {J : World → Prop} {W : World} {held : Bool} {base : Nat} {t e : TypeId} {v : V} {d : DataW H} {p : List MemPlace}
    (ht : P.underlying t = some (.slice e)) (he : P.underlying e = some (.int .i64)) (ce : P.cellsOf e = 1) {r : Ren} {h : AHeap} {vo vo' : V} {l : List Oq} (hR : R J W.heap.size r h W) (hv : VR r vo' vo) (ho : Oqs h.next h vo' l)
    (hval : Value.okWide P W .any base t v) (hd : DataW.Trod enc P W 0 (fun _ => true) held t v d p) :
    ∃ (ns : List Int) (r' : Ren) (h' : AHeap) (v' : V), R J W.heap.size r' h' W ∧ VR r' vo' vo ∧ Oqs h'.next h' vo' l ∧ VR r' v' v ∧ Ints h'.next h' v' ns := by
  obtain ⟨h0, hs, hn, hro, hq⟩ := Ro.only ho
  have hR0 := hR.sub hs
  obtain ⟨ns, r', h', v', hR', hv', hi, hm⟩ := open_i64s ht he ce hR0 hro hval hd
  rw [← hn] at hq
  exact ⟨ns, r', h', v', hR', hv.mono hm.ren, Ro.more hm hq, hv', hi⟩

end Go.Abs

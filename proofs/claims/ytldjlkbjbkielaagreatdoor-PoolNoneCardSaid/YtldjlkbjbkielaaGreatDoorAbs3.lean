/- Our own abstract machine, part 3: new blocks, stores, loads. -/
import Derived.Test.YtldjlkbjbkielaaGreatDoorAbs2
set_option linter.unusedSimpArgs false
set_option linter.unusedVariables false
namespace Go.Abs
open Go Go.RowKit

def Ren.upd (r : Ren) (b : Nat) (t : Tgt) : Ren := fun x => if x = b then some t else r x

theorem Ren.upd_same (r : Ren) (b : Nat) (t : Tgt) : r.upd b t b = some t := if_pos rfl
theorem Ren.upd_ne (r : Ren) {b x : Nat} (t : Tgt) (h : x ≠ b) : r.upd b t x = r x := if_neg h

theorem R.fresh {J B r h w} (hR : R J B r h w) : r h.next = none := by
  cases hb : r h.next with
  | none => rfl
  | some t => exact absurd (hR.lt _ _ hb).2 (Nat.lt_irrefl _)

theorem R.fresh_get {J B r h w} (hR : R J B r h w) : h.get h.next = none := by
  cases hb : h.get h.next with
  | none => rfl
  | some o => obtain ⟨t, ht, _⟩ := hR.live _ _ hb; rw [hR.fresh] at ht; cases ht

theorem R.le_upd {J B r h w} (hR : R J B r h w) (t : Tgt) : r.le (r.upd h.next t) := by
  intro b t' hb
  have : b ≠ h.next := Nat.ne_of_lt (hR.lt b t' hb).2
  rw [Ren.upd_ne _ _ this]; exact hb

theorem heap_alloc_lt {w : World} {o : Obj} {k : Nat} (h : k < w.heap.size) : (w.alloc o).heap[k]? = w.heap[k]? := Below.heap_alloc w o k h
theorem heap_alloc_new {w : World} {o : Obj} : (w.alloc o).heap[w.heap.size]? = some o := by
  show (w.heap.push o)[w.heap.size]? = some o
  simp

/-- A new block. -/
theorem R.alloc {J B r h w} (hJ : Stays J B) (hR : R J B r h w) (o : AObj) (o' : Obj) (t : Tgt) (ht : t.blk = w.heap.size)
    (hO : OR B (r.upd h.next t) (w.alloc o') t o) : R J B (r.upd h.next t) (h.new o) (w.alloc o') ∧ Ext r h w (r.upd h.next t) (h.new o) (w.alloc o') := by
  have hle := hR.le_upd t
  have old : ∀ b o1, (h.new o).get b = some o1 → (b = h.next ∧ o1 = o) ∨ (b ≠ h.next ∧ h.get b = some o1) := by
    intro b o1 hb
    by_cases e : b = h.next
    · subst e; simp [AHeap.new] at hb; exact .inl ⟨rfl, hb.symm⟩
    · exact .inr ⟨e, by simpa [AHeap.new, e] using hb⟩
  refine ⟨⟨?_, ?_, ?_, ?_, ?_⟩, ⟨hle, Nat.le_succ _, rfl, rfl, rfl, by simp, ?_, ?_⟩⟩
  · have := hR.base; simp; omega
  · intro b t' hb
    by_cases e : b = h.next
    · subst e; rw [Ren.upd_same] at hb; cases hb; simp [AHeap.new, ht]
    · rw [Ren.upd_ne _ _ e] at hb
      have := hR.lt b t' hb
      simp [AHeap.new]; omega
  · intro b o1 hb
    rcases old b o1 hb with ⟨rfl, rfl⟩ | ⟨e, hb'⟩
    · exact ⟨t, Ren.upd_same _ _ _, hO⟩
    · obtain ⟨t', h1, h2⟩ := hR.live b o1 hb'
      exact ⟨t', hle _ _ h1, (h2.of_block (heap_alloc_lt (hR.lt _ _ h1).1)).mono hle⟩
  · intro b b' o1 o1' t1 t1' hb hb' h1 h1' e
    rcases old b o1 hb with ⟨rfl, rfl⟩ | ⟨e1, hb⟩ <;> rcases old b' o1' hb' with ⟨rfl, rfl⟩ | ⟨e2, hb'⟩
    · exact .inl rfl
    · rw [Ren.upd_same] at h1; cases h1
      rw [Ren.upd_ne _ _ e2] at h1'
      have := (hR.lt _ _ h1').1; exfalso; omega
    · rw [Ren.upd_same] at h1'; cases h1'
      rw [Ren.upd_ne _ _ e1] at h1
      have := (hR.lt _ _ h1).1; exfalso; omega
    · rw [Ren.upd_ne _ _ e1] at h1; rw [Ren.upd_ne _ _ e2] at h1'
      exact hR.inj b b' o1 o1' t1 t1' hb hb' h1 h1' e
  · exact hJ _ _ hR.inv ((Below.refl _ _).alloc hR.base _) (Nat.le_refl _)
  · intro k hk _; exact heap_alloc_lt hk
  · rintro k hk ⟨b, t', ⟨o1, hb, hw⟩, h1, rfl⟩
    rcases old b o1 hb with ⟨rfl, rfl⟩ | ⟨e, hb⟩
    · rw [Ren.upd_same] at h1; cases h1; omega
    · rw [Ren.upd_ne _ _ e] at h1
      exact ⟨b, t', ⟨o1, hb, hw⟩, h1, rfl⟩

/-- A world that differs at one block alone. -/
structure Turned (w w' : World) (k : Nat) (o : Obj) : Prop where
  os : w'.os = w.os
  tape : w'.tape = w.tape
  output : w'.output = w.output
  size : w'.heap.size = w.heap.size
  here : w'.heap[k]? = some o
  else_ : ∀ j, j ≠ k → w'.heap[j]? = w.heap[j]?
  drawn : w'.drawn = w.drawn

theorem Turned.below {w w' k o} (h : Turned w w' k o) {B : Nat} (hB : B ≤ k) : Below B w w' :=
  ⟨h.os, h.tape, h.output, Nat.le_of_eq h.size.symm, fun j hj => h.else_ j (by omega)⟩

/-- A live writable block is turned. -/
theorem R.turn {J B r h w w'} (hJ : Stays J B) (hR : R J B r h w) {b : Nat} {o o2 : AObj} {o' : Obj} {t : Tgt} (hb : h.get b = some o) (hw : ∀ c e, o ≠ .cells c e .ro)
    (ht : r b = some t) (hT : Turned w w' t.blk o') (hO : OR B r w' t o2) (_hw2 : ∀ c e, o2 ≠ .cells c e .ro) :
    R J B r (h.put b o2) w' ∧ Ext r h w r (h.put b o2) w' := by
  have hfoot : foot r h t.blk := ⟨b, t, ⟨o, hb, hw⟩, ht, rfl⟩
  have old : ∀ b1 o1, (h.put b o2).get b1 = some o1 → (b1 = b ∧ o1 = o2) ∨ (b1 ≠ b ∧ h.get b1 = some o1) := by
    intro b1 o1 hb1
    by_cases e : b1 = b
    · subst e; simp [AHeap.put] at hb1; exact .inl ⟨rfl, hb1.symm⟩
    · exact .inr ⟨e, by simpa [AHeap.put, e] using hb1⟩
  have was : ∀ b1 o1, (h.put b o2).get b1 = some o1 → ∃ o0, h.get b1 = some o0 := fun b1 o1 hb1 => by
    rcases old b1 o1 hb1 with ⟨rfl, _⟩ | ⟨_, h1⟩
    · exact ⟨o, hb⟩
    · exact ⟨o1, h1⟩
  refine ⟨⟨?_, ?_, ?_, ?_, ?_⟩, ⟨Ren.le_refl r, Nat.le_refl _, hT.os, hT.tape, hT.output, Nat.le_of_eq hT.size.symm, ?_, ?_⟩⟩
  · rw [hT.size]; exact hR.base
  · intro b1 t1 h1; rw [hT.size]; exact hR.lt b1 t1 h1
  · intro b1 o1 hb1
    rcases old b1 o1 hb1 with ⟨rfl, rfl⟩ | ⟨e, h1⟩
    · exact ⟨t, ht, hO⟩
    · obtain ⟨t1, h2, h3⟩ := hR.live b1 o1 h1
      refine ⟨t1, h2, h3.of_block (hT.else_ _ fun e1 => e (hR.inj_w h1 hb h2 ht e1 hw))⟩
  · intro b1 b2 o1 o2' t1 t2 h1 h2 k1 k2 e
    rcases old _ _ h1 with ⟨rfl, rfl⟩ | ⟨e1, q1⟩ <;> rcases old _ _ h2 with ⟨rfl, rfl⟩ | ⟨e2, q2⟩
    · exact .inl rfl
    · exact .inl (hR.inj_w q2 hb k2 k1 e.symm hw).symm
    · exact .inl (hR.inj_w q1 hb k1 k2 e hw)
    · exact hR.inj b1 b2 o1 o2' t1 t2 q1 q2 k1 k2 e
  · exact hJ _ _ hR.inv (hT.below (hR.foot_ge hfoot)) (Nat.le_of_eq hT.drawn.symm)
  · intro k _ hf; exact hT.else_ k fun e => hf (e ▸ hfoot)
  · rintro k hk ⟨b1, t1, ⟨o1, hb1, hw1⟩, h1, rfl⟩
    rcases old b1 o1 hb1 with ⟨rfl, rfl⟩ | ⟨e, h2⟩
    · rw [ht] at h1; cases h1; exact hfoot
    · exact ⟨b1, t1, ⟨o1, h2, hw1⟩, h1, rfl⟩

/-- A live writable row is turned, and goes by another number from now on. -/
theorem R.rename {J B r h w w'} (hJ : Stays J B) (hR : R J B r h w) {b : Nat} {o o2 : AObj} {o' : Obj} {t : Tgt} (hb : h.get b = some o) (hw : ∀ c e, o ≠ .cells c e .ro)
    (ht : r b = some t) (hT : Turned w w' t.blk o') (hO : OR B (r.upd h.next t) w' t o2) :
    R J B (r.upd h.next t) ((h.kill b).new o2) w' ∧ Ext r h w (r.upd h.next t) ((h.kill b).new o2) w' := by
  have hfoot : foot r h t.blk := ⟨b, t, ⟨o, hb, hw⟩, ht, rfl⟩
  have hle := hR.le_upd t
  have hbn : b ≠ h.next := Nat.ne_of_lt (hR.lt b t ht).2
  have old : ∀ b1 o1, ((h.kill b).new o2).get b1 = some o1 → (b1 = h.next ∧ o1 = o2) ∨ (b1 ≠ h.next ∧ b1 ≠ b ∧ h.get b1 = some o1) := by
    intro b1 o1 hb1
    by_cases e : b1 = h.next
    · subst e; simp [AHeap.new, AHeap.kill] at hb1; exact .inl ⟨rfl, hb1.symm⟩
    · by_cases e2 : b1 = b
      · subst e2; simp [AHeap.new, AHeap.kill, e] at hb1
      · exact .inr ⟨e, e2, by simpa [AHeap.new, AHeap.kill, e, e2] using hb1⟩
  refine ⟨⟨?_, ?_, ?_, ?_, ?_⟩, ⟨hle, Nat.le_succ _, hT.os, hT.tape, hT.output, Nat.le_of_eq hT.size.symm, ?_, ?_⟩⟩
  · rw [hT.size]; exact hR.base
  · intro b1 t1 h1
    rw [hT.size]
    by_cases e : b1 = h.next
    · subst e; rw [Ren.upd_same] at h1; cases h1; exact ⟨(hR.lt b t ht).1, by simp [AHeap.new, AHeap.kill]⟩
    · rw [Ren.upd_ne _ _ e] at h1
      have := hR.lt b1 t1 h1
      exact ⟨this.1, by simp [AHeap.new, AHeap.kill]; omega⟩
  · intro b1 o1 hb1
    rcases old b1 o1 hb1 with ⟨rfl, rfl⟩ | ⟨e, e2, h1⟩
    · exact ⟨t, Ren.upd_same _ _ _, hO⟩
    · obtain ⟨t1, h2, h3⟩ := hR.live b1 o1 h1
      refine ⟨t1, hle _ _ h2, (h3.of_block (hT.else_ _ fun e1 => e2 (hR.inj_w h1 hb h2 ht e1 hw))).mono hle⟩
  · intro b1 b2 o1 o2' t1 t2 h1 h2 k1 k2 e
    rcases old b1 o1 h1 with ⟨rfl, rfl⟩ | ⟨e1, f1, h1⟩ <;> rcases old b2 o2' h2 with ⟨rfl, rfl⟩ | ⟨e2, f2, h2⟩
    · exact .inl rfl
    · rw [Ren.upd_same] at k1; cases k1
      rw [Ren.upd_ne _ _ e2] at k2
      exact absurd (hR.inj_w h2 hb k2 ht e.symm hw) f2
    · rw [Ren.upd_same] at k2; cases k2
      rw [Ren.upd_ne _ _ e1] at k1
      exact absurd (hR.inj_w (by assumption) hb k1 ht e hw) f1
    · rw [Ren.upd_ne _ _ e1] at k1; rw [Ren.upd_ne _ _ e2] at k2
      exact hR.inj b1 b2 o1 o2' t1 t2 h1 h2 k1 k2 e
  · exact hJ _ _ hR.inv (hT.below (hR.foot_ge hfoot)) (Nat.le_of_eq hT.drawn.symm)
  · intro k _ hf; exact hT.else_ k fun e => hf (e ▸ hfoot)
  · rintro k hk ⟨b1, t1, ⟨o1, hb1, hw1⟩, h1, rfl⟩
    rcases old b1 o1 hb1 with ⟨rfl, rfl⟩ | ⟨e, e2, h2⟩
    · rw [Ren.upd_same] at h1; cases h1; exact hfoot
    · rw [Ren.upd_ne _ _ e] at h1; exact ⟨b1, t1, ⟨o1, h2, hw1⟩, h1, rfl⟩

/-- A block is no longer spoken of. -/
theorem R.kill {J B r h w} (hR : R J B r h w) (b : Nat) : R J B r (h.kill b) w ∧ Ext r h w r (h.kill b) w := by
  have old : ∀ b1 o1, (h.kill b).get b1 = some o1 → h.get b1 = some o1 := by
    intro b1 o1 hb1
    by_cases e : b1 = b
    · subst e; simp [AHeap.kill] at hb1
    · simpa [AHeap.kill, e] using hb1
  refine ⟨⟨hR.base, hR.lt, fun b1 o1 h1 => hR.live _ _ (old _ _ h1), fun b1 b2 o1 o2 t1 t2 h1 h2 => hR.inj b1 b2 o1 o2 t1 t2 (old _ _ h1) (old _ _ h2), hR.inv⟩,
    ⟨Ren.le_refl r, Nat.le_refl _, rfl, rfl, rfl, Nat.le_refl _, fun _ _ _ => rfl, ?_⟩⟩
  rintro k hk ⟨b1, t1, ⟨o1, hb1, hw1⟩, h1, rfl⟩
  exact ⟨b1, t1, ⟨o1, old _ _ hb1, hw1⟩, h1, rfl⟩

/-! ### Stores of several cells -/

def setList (c : List V) (o : Nat) : List V → List V
  | [] => c
  | v :: vs => setList (c.set o v) (o + 1) vs

theorem setList_length (c : List V) (o : Nat) (vs : List V) : (setList c o vs).length = c.length := by
  induction vs generalizing c o with
  | nil => rfl
  | cons v vs ih => simp [setList, ih]

def setArr (c : Array V) (o : Nat) : List V → Array V
  | [] => c
  | v :: vs => setArr (c.setIfInBounds o v) (o + 1) vs

theorem setArr_size (c : Array V) (o : Nat) (vs : List V) : (setArr c o vs).size = c.size := by
  induction vs generalizing c o with
  | nil => rfl
  | cons v vs ih => simp [setArr, ih]

theorem addr_add (b o i : Nat) : (⟨b, o, none⟩ : Addr).add i = ⟨b, o + i, none⟩ := by
  unfold Addr.add
  split
  · simp_all
  · rfl

theorem cell_of_block {w : World} {b : Nat} {cc : Array V} {el : TypeId} {fr : Nat × Nat} (h : w.heap[b]? = some (.cells cc el fr)) (o : Nat) : w.cell? ⟨b, o, none⟩ = cc[o]? := by
  simp [World.cell?, h]

theorem frozen_of_block {w : World} {b : Nat} {cc : Array V} {el : TypeId} {fr : Nat × Nat} (h : w.heap[b]? = some (.cells cc el fr)) (o : Nat) : w.frozen? ⟨b, o, none⟩ = (decide (fr.1 ≤ o) && decide (o < fr.2)) := by
  obtain ⟨lo, hi⟩ := fr
  simp [World.frozen?, h]

theorem turned_setCell {w : World} {b : Nat} {cc : Array V} {el : TypeId} {fr : Nat × Nat} (h : w.heap[b]? = some (.cells cc el fr)) (o : Nat) (v : V) :
    Turned w (w.setCell ⟨b, o, none⟩ v) b (.cells (cc.setIfInBounds o v) el fr) := by
  refine ⟨rfl, rfl, rfl, by simp [World.setCell], ?_, fun j hj => ?_, rfl⟩
  · simp [World.setCell, Array.getElem?_modify, h]
  · simp [World.setCell, Array.getElem?_modify, Ne.symm hj]

theorem Turned.trans {w w1 w2 k o1 o2} (a : Turned w w1 k o1) (b : Turned w1 w2 k o2) : Turned w w2 k o2 :=
  ⟨b.os.trans a.os, b.tape.trans a.tape, b.output.trans a.output, b.size.trans a.size, b.here, fun j hj => (b.else_ j hj).trans (a.else_ j hj), b.drawn.trans a.drawn⟩

theorem Turned.same {w : World} {k : Nat} {o : Obj} (h : w.heap[k]? = some o) : Turned w w k o := ⟨rfl, rfl, rfl, rfl, h, fun _ _ => rfl, rfl⟩

theorem run_storeCells {P : Program} {b : Nat} {el : TypeId} {fr : Nat × Nat} {o : Nat} : ∀ (vs : List V) (i : Nat) (w : World) (cc : Array V), w.heap[b]? = some (.cells cc el fr) →
    (∀ v ∈ vs, v.oneCell' = true) → o + i + vs.length ≤ cc.size → (∀ j, o + i ≤ j → j < o + i + vs.length → ¬ (fr.1 ≤ j ∧ j < fr.2)) →
    ∃ w', (storeCells ⟨b, o, none⟩ vs i).run P w = .ok () w' ∧ Turned w w' b (.cells (setArr cc (o + i) vs) el fr)
  | [], i, w, cc, h, _, _, _ => ⟨w, rfl, Turned.same h⟩
  | v :: vs, i, w, cc, h, h1, hl, hf => by
    have hlt : o + i < cc.size := by simp only [List.length_cons] at hl; omega
    have hc : w.cell? ⟨b, o + i, none⟩ = some cc[o + i] := by rw [cell_of_block h]; exact Array.getElem?_eq_getElem hlt
    have hfz : w.frozen? ⟨b, o + i, none⟩ = false := by
      rw [frozen_of_block h]
      have := hf (o + i) (Nat.le_refl _) (by simp)
      simp only [Bool.and_eq_false_iff, decide_eq_false_iff_not]
      omega
    have hT := turned_setCell h (o + i) v
    obtain ⟨w', hr, hT'⟩ := run_storeCells (P := P) (o := o) vs (i + 1) (w.setCell ⟨b, o + i, none⟩ v) _ hT.here (fun u hu => h1 u (List.mem_cons_of_mem _ hu))
      (by simp at hl ⊢; omega) (fun j a c => hf j (by omega) (by simp at c ⊢; omega))
    refine ⟨w', ?_, hT.trans hT'⟩
    simp only [storeCells, Sem.run_bind, addr_add]
    rw [run_store P w _ v .plain (h1 v (List.mem_cons_self ..)), hc]
    simp only [hfz, Bool.false_eq_true, if_false, Result.andThen_ok]
    exact hr

theorem run_loadCellsFrom {P : Program} {w : World} {b : Nat} {cc : Array V} {el : TypeId} {fr : Nat × Nat} (h : w.heap[b]? = some (.cells cc el fr)) {o : Nat} :
    ∀ (n i : Nat) (acc : Array V), o + i + n ≤ cc.size → (loadCellsFrom ⟨b, o, none⟩ i n acc).run P w = .ok (acc ++ cc.extract (o + i) (o + i + n)) w
  | 0, i, acc, _ => by simp [loadCellsFrom]; omega
  | n + 1, i, acc, hl => by
    have hc : w.cell? ⟨b, o + i, none⟩ = some cc[o + i] := by rw [cell_of_block h]; exact Array.getElem?_eq_getElem (by omega)
    simp only [loadCellsFrom, Sem.run_bind, addr_add, run_load, hc, Result.andThen_ok]
    rw [run_loadCellsFrom h n (i + 1) _ (by omega)]
    congr 1
    apply Array.ext'
    simp only [Array.toList_append, Array.toList_push, List.append_assoc, Array.toList_extract]
    congr 1
    have e : o + i < cc.toList.length := by simp; omega
    have : (cc.toList.extract (o + i) (o + i + (n + 1))) = cc[o + i] :: cc.toList.extract (o + i + 1) (o + i + 1 + n) := by
      simp only [List.extract_eq_take_drop]
      rw [show o + i + (n + 1) - (o + i) = n + 1 from by omega, show o + i + 1 + n - (o + i + 1) = n from by omega]
      rw [List.drop_eq_getElem_cons e]
      simp
    rw [this]
    simp [Nat.add_assoc]

theorem run_loadCells {P : Program} {w : World} {b : Nat} {cc : Array V} {el : TypeId} {fr : Nat × Nat} (h : w.heap[b]? = some (.cells cc el fr)) {o n : Nat} (hl : o + n ≤ cc.size) :
    (loadCells ⟨b, o, none⟩ n).run P w = .ok (cc.extract o (o + n)) w := by
  unfold loadCells
  rw [run_loadCellsFrom h n 0 #[] (by omega)]
  simp

end Go.Abs

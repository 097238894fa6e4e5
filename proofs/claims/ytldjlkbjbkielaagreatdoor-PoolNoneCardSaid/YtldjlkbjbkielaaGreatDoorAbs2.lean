/- Our own abstract machine, part 2: when an abstract heap speaks of a world. -/
import Derived.Test.YtldjlkbjbkielaaGreatDoorAbs1
set_option linter.unusedSimpArgs false
set_option linter.unusedVariables false
namespace Go.Abs
open Go Go.RowKit

/-- What one abstract object says of its block. -/
def OR (B : Nat) (r : Ren) (w : World) (t : Tgt) : AObj → Prop
  | .cells c esz k => t.esz = esz ∧ (∃ cc el fr, w.heap[t.blk]? = some (.cells cc el fr) ∧ cc.size = t.sz ∧ c.length ≤ cc.size ∧
      (∀ (i : Nat) (h : i < c.length) (h' : i < cc.size), VR r c[i] cc[i]) ∧
      (k ≠ .ro → ∀ o, o < cc.size → ¬ (fr.1 ≤ o ∧ o < fr.2)) ∧ (k = .rw → fr.1 = fr.2)) ∧ (k ≠ .ro → B ≤ t.blk)
  | .map es clock => B ≤ t.blk ∧ ∃ ces, w.heap[t.blk]? = some (.map ces clock) ∧ ces.size = es.length ∧
      (∀ (i : Nat) (h : i < es.length) (h' : i < ces.size), VR r es[i].key ces[i].key ∧ VR r es[i].val ces[i].val ∧ ces[i].born = es[i].born)
  | .siter s pos => B ≤ t.blk ∧ w.heap[t.blk]? = some (.stringIter s pos)
  | .miter none since seen last => B ≤ t.blk ∧ w.heap[t.blk]? = some (.mapIter none since seen last)
  | .miter (some m) since seen last => B ≤ t.blk ∧ ∃ tm, r m = some tm ∧ w.heap[t.blk]? = some (.mapIter (some tm.blk) since seen last)

/-- It speaks of its own block alone. -/
theorem OR.of_block {B r w w' t o} (h : OR B r w t o) (hb : w'.heap[t.blk]? = w.heap[t.blk]?) : OR B r w' t o := by
  cases o with
  | cells c e k => simpa only [OR, hb] using h
  | map es c => simpa only [OR, hb] using h
  | siter s p => simpa only [OR, hb] using h
  | miter m a b c => cases m <;> simpa only [OR, hb] using h

theorem OR.drew {B r w t o} (h : OR B r w t o) : OR B r w.drew t o := h.of_block rfl

theorem OR.mono {B r r' w t o} (hr : r.le r') (h : OR B r w t o) : OR B r' w t o := by
  cases o with
  | cells c e k =>
    obtain ⟨h0, ⟨cc, el, fr, h1, h2, h3, h4, h5⟩, h6⟩ := h
    exact ⟨h0, ⟨cc, el, fr, h1, h2, h3, fun i hi hi' => (h4 i hi hi').mono hr, h5⟩, h6⟩
  | map es c =>
    obtain ⟨h0, ces, h1, h2, h3⟩ := h
    exact ⟨h0, ces, h1, h2, fun i hi hi' => ⟨(h3 i hi hi').1.mono hr, (h3 i hi hi').2.1.mono hr, (h3 i hi hi').2.2⟩⟩
  | siter s p => exact h
  | miter m a b c =>
    cases m with
    | none => exact h
    | some m => obtain ⟨h0, tm, h1, h2⟩ := h; exact ⟨h0, tm, hr _ _ h1, h2⟩

def writable (h : AHeap) (b : Nat) : Prop := ∃ o, h.get b = some o ∧ ∀ c e, o ≠ .cells c e .ro

/-- A row that is only read. -/
def AObj.isRo (o : AObj) : Prop := ∃ c e, o = .cells c e .ro

structure R (J : World → Prop) (B : Nat) (r : Ren) (h : AHeap) (w : World) : Prop where
  base : B ≤ w.heap.size
  lt : ∀ b t, r b = some t → t.blk < w.heap.size ∧ b < h.next
  live : ∀ b o, h.get b = some o → ∃ t, r b = some t ∧ OR B r w t o
  inj : ∀ b b' o o' t t', h.get b = some o → h.get b' = some o' → r b = some t → r b' = some t' → t.blk = t'.blk → b = b' ∨ (o.isRo ∧ o'.isRo)
  inv : J w

theorem R.inj_w {J B r h w} (hR : R J B r h w) {b b' o o' t t'} (hb : h.get b = some o) (hb' : h.get b' = some o') (ht : r b = some t) (ht' : r b' = some t') (e : t.blk = t'.blk)
    (hw : ∀ c e, o' ≠ .cells c e .ro) : b = b' := by
  rcases hR.inj b b' o o' t t' hb hb' ht ht' e with h | ⟨_, c, e, h⟩
  · exact h
  · exact absurd h (hw c e)

/-- The blocks that may have been written. -/
def foot (r : Ren) (h : AHeap) (k : Nat) : Prop := ∃ b t, writable h b ∧ r b = some t ∧ t.blk = k

structure Ext (r : Ren) (h : AHeap) (w : World) (r' : Ren) (h' : AHeap) (w' : World) : Prop where
  ren : r.le r'
  next : h.next ≤ h'.next
  os : w'.os = w.os
  tape : w'.tape = w.tape
  output : w'.output = w.output
  size : w.heap.size ≤ w'.heap.size
  block : ∀ k, k < w.heap.size → ¬ foot r h k → w'.heap[k]? = w.heap[k]?
  feet : ∀ k, k < w.heap.size → foot r' h' k → foot r h k

theorem Ext.refl (r : Ren) (h : AHeap) (w : World) : Ext r h w r h w :=
  ⟨Ren.le_refl r, Nat.le_refl _, rfl, rfl, rfl, Nat.le_refl _, fun _ _ _ => rfl, fun _ _ h => h⟩

theorem Ext.trans {r h w r1 h1 w1 r2 h2 w2} (a : Ext r h w r1 h1 w1) (b : Ext r1 h1 w1 r2 h2 w2) : Ext r h w r2 h2 w2 :=
  ⟨Ren.le_trans a.ren b.ren, Nat.le_trans a.next b.next, b.os.trans a.os, b.tape.trans a.tape, b.output.trans a.output, Nat.le_trans a.size b.size,
   fun k hk hf => (b.block k (Nat.lt_of_lt_of_le hk a.size) fun hf1 => hf (a.feet k hk hf1)).trans (a.block k hk hf),
   fun k hk hf => a.feet k hk (b.feet k (Nat.lt_of_lt_of_le hk a.size) hf)⟩

theorem R.foot_ge {J B r h w} (hR : R J B r h w) {k : Nat} (hk : foot r h k) : B ≤ k := by
  obtain ⟨b, t, ⟨o, ho, hw⟩, ht, rfl⟩ := hk
  obtain ⟨t', ht', hO⟩ := hR.live b o ho
  rw [ht] at ht'; cases ht'
  cases o with
  | cells c e k =>
    refine hO.2.2 ?_
    rintro rfl
    exact hw c e rfl
  | map es c => exact hO.1
  | siter s p => exact hO.1
  | miter m a b c => cases m <;> exact hO.1

theorem Ext.below {J B r h w r' h' w'} (hR : R J B r h w) (e : Ext r h w r' h' w') : Below B w w' :=
  ⟨e.os, e.tape, e.output, e.size, fun k hk => e.block k (Nat.lt_of_lt_of_le hk hR.base) fun hf => by have := hR.foot_ge hf; omega⟩

/-- An invariant that stays while what lies below B stays. -/
def Stays (J : World → Prop) (B : Nat) : Prop := ∀ w w', J w → Below B w w' → w.drawn ≤ w'.drawn → J w'

/-- One that does not look at how often was drawn. -/
def DF (J : World → Prop) : Prop := ∀ (w : World) (n : Nat), J w → J { w with drawn := n }

theorem Stays.free {J : World → Prop} {B : Nat} (hJ : Stays J B) (hD : DF J) {w w' : World} (h : J w) (hb : Below B w w') : J w' :=
  hD { w' with drawn := w.drawn } w'.drawn (hJ w { w' with drawn := w.drawn } h ⟨hb.os, hb.tape, hb.output, hb.size, hb.block⟩ (Nat.le_refl _))

/-- R speaks of next, get and the heap alone: a draw turns nothing. -/
theorem R.drew {J B r h w} (hJ : Stays J B) (hR : R J B r h w) : R J B r h w.drew :=
  ⟨hR.base, hR.lt, fun b o ho => (hR.live b o ho).imp fun t h => ⟨h.1, h.2.drew⟩, hR.inj, hJ _ _ hR.inv (Below.drew (Below.refl _ _)) (Nat.le_succ _)⟩

theorem Ext.drew {r h w} : Ext r h w r h w.drew :=
  ⟨Ren.le_refl r, Nat.le_refl _, rfl, rfl, rfl, Nat.le_refl _, fun _ _ _ => rfl, fun _ _ h => h⟩

end Go.Abs

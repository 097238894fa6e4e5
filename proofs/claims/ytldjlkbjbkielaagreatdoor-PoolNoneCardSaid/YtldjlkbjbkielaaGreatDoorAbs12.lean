/- Our own abstract machine, part 12: append, copy, len, clear, min and max. -/
import Derived.Test.YtldjlkbjbkielaaGreatDoorAbs11
set_option linter.unusedSimpArgs false
set_option linter.unusedVariables false
namespace Go.Abs
open Go Go.RowKit

section
variable {P : Program} {J : World → Prop} {B : Nat} {r : Ren} {h : AHeap} {w : World}

theorem lenOf_sound {x x' : V} {n : Nat} (hx : VR r x x') (hn : aLenOf x = some n) : (Builtin.lenOf x').run P w = .ok n w := by
  unfold aLenOf at hn
  split at hn
  · cases hx; simp only [Option.some.injEq] at hn; subst hn; rfl
  · cases hx; simp only [Option.some.injEq] at hn; subst hn; rfl
  · cases hx with
    | slice => simp only [Option.some.injEq] at hn; subst hn; rfl
  · cases hx; simp only [Option.some.injEq] at hn; subst hn; rfl
  · cases hn

theorem src_sound (hR : R J B r h w) {size n : Nat} {x x' : V} {l : List V} (hx : VR r x x') (hn : aLenOf x = some n) (hs : aSrc size x h = some l) :
    ∃ l', (Builtin.firstCells size n x').run P w = .ok l' w ∧ VRl r l l'.toList ∧ l.length = n * size := by
  unfold aSrc at hs
  split at hs
  · rename_i s
    cases hx
    split at hs
    · rename_i h1
      subst h1
      simp only [Option.some.injEq] at hs
      subst hs
      simp only [aLenOf, Option.some.injEq] at hn
      subst hn
      refine ⟨_, rfl, ?_, by simp⟩
      have : s.extract 0 s.size = s := by
        apply ByteArray.ext
        simp
      rw [this]
      simp only [Array.toList_map]
      refine ⟨rfl, fun i a b => ?_⟩
      simp only [List.getElem_map]
      exact .int _ _
    · cases hs
  · unfold sliceCells at hs
    split at hs
    · cases hx
      simp only [Option.some.injEq] at hs
      subst hs
      simp only [aLenOf, Option.some.injEq] at hn
      subst hn
      exact ⟨#[], rfl, VRl.nil r, by simp⟩
    · rename_i b o m c _
      simp only [aLenOf, Option.some.injEq] at hn
      subst hn
      cases hx with
      | @slice _ _ _ _ c' tg htg hc hn hz =>
      obtain ⟨l', h1, h2, h3, h4⟩ := rdN_sound (P := P) hR htg hs
      exact ⟨l', h1, h2, h3⟩
    · cases hs

theorem growBy_le (n : Nat) : ∀ (k c : Nat), Builtin.growBy n k c ≤ max c (n + (n + 768) / 4)
  | 0, c => by simp only [Builtin.growBy]; omega
  | k + 1, c => by
    simp only [Builtin.growBy]
    split
    · omega
    · have := growBy_le n k (c + (c + 768) / 4)
      omega

theorem nextslicecap_le {n c : Nat} (h : c < n) : Builtin.nextslicecap n c ≤ 2 * n + 512 := by
  unfold Builtin.nextslicecap
  split
  · omega
  · split
    · omega
    · have := growBy_le n 4 c; omega

theorem srcT_und {t : TypeId} (h : srcT P t = true) : (∃ e, P.underlying t = some (.slice e)) ∨ P.underlying t = some .string := by
  unfold srcT at h
  split at h
  · exact .inl ⟨_, by assumption⟩
  · exact .inr (by assumption)
  · cases h

theorem run_append_fits {ts : Array TypeId} {ty st xt e : TypeId} {size : Nat} (h0 : ts[0]? = some st) (h1 : ts[1]? = some xt) (hus : P.underlying st = some (.slice e)) (hux : srcT P xt = true) (hsz : szT P e = some size)
    {base : Option Addr} {m c n : Nat} {x : V} {nl : Array V} {w' : World} (hn : ∀ w, (Builtin.lenOf x).run P w = .ok n w) (hle : m + n ≤ c) (hnew : (Builtin.firstCells size n x).run P w = .ok nl w)
    (hst : match base with | some a => (storeCells (a.add (m * size)) nl.toList).run P w = .ok () w' | none => w' = w) :
    (Builtin.append_ ts ty #[.slice base m c, x]).run P w = .ok (.slice base (m + n) c) w' := by
  rcases srcT_und hux with ⟨e2, hu2⟩ | hu2 <;> cases base <;> simp [Builtin.append_, h0, h1, run_und hus, run_und hu2, run_sizeOf hsz, hn, hle, hnew] <;> simp at hst <;> simp [hst]

theorem run_append_grows {ts : Array TypeId} {ty st xt e : TypeId} {i : TypeInfo} (h0 : ts[0]? = some st) (h1 : ts[1]? = some xt) (hus : P.underlying st = some (.slice e)) (hux : srcT P xt = true) (hi : P.info? e = some i)
    {base : Option Addr} {m c n : Nat} {x zv : V} {ol nl : Array V} (hn : ∀ w, (Builtin.lenOf x).run P w = .ok n w) (hlt : c < m + n) (hmax : m + n ≤ 1099511627776) (hb : i.bytes ≤ 64)
    (hold : ∀ w', w'.heap = w.heap → (Builtin.firstCells i.size m (.slice base m c)).run P w' = .ok ol w') (hnew : ∀ w', w'.heap = w.heap → (Builtin.firstCells i.size n x).run P w' = .ok nl w')
    (hz : ∀ w', (zeroValue e).run P w' = .ok zv w') (hz1 : zv.cells.size = i.size) (hol : ol.size + nl.size = (m + n) * i.size) :
    ∃ cells newCap, (Builtin.append_ ts ty #[.slice base m c, x]).run P w = .ok (.slice (some ⟨w.heap.size, 0, none⟩) (m + n) newCap) (w.drew.alloc (.cells cells e)) ∧
      m + n ≤ newCap ∧ cells.size = newCap * i.size ∧ ∃ rest, cells = ol ++ nl ++ rest := by
  have hsz : ∀ w', (sizeOf e).run P w' = .ok i.size w' := fun w' => by simp [sizeOf, run_typeInfo hi]
  have hnle : ¬ (m + n ≤ c) := by omega
  have h63 : ¬ ((9223372036854775807 : Int) < ((m : Int) + (n : Int))) := by omega
  have hmx : IntKind.i64.max = 9223372036854775807 := by rfl
  have h48 : ¬ (281474976710656 < Builtin.nextslicecap (m + n) c * i.bytes) := by
    have := nextslicecap_le hlt
    have h3 : Builtin.nextslicecap (m + n) c * i.bytes ≤ (2 * 1099511627776 + 512) * 64 := Nat.mul_le_mul (by omega) hb
    omega
  generalize hcap : (Question.appendCap (m + n) c e).cut (w.tape w.drawn (.appendCap (m + n) c e)) = nc
  have hge : m + n ≤ nc := by rw [← hcap]; simp only [Question.cut]; omega
  have e1 := hold w.drew rfl
  have e2 := hnew w.drew rfl
  refine ⟨ol ++ nl ++ Builtin.zeroCells zv.cells (nc - (m + n)), nc, ?_, hge, ?_, _, rfl⟩
  · rcases srcT_und hux with ⟨e3, hu2⟩ | hu2 <;>
      simp [Builtin.append_, h0, h1, run_und hus, run_und hu2, hsz, hn, hnle, h63, run_typeInfo hi, hmx, h48, Question.forced, hcap, e1, e2, hz, newRow]
  · simp only [Array.size_append, Builtin.zeroCells, Array.size_map, Array.size_range, hz1, hol, ← Nat.add_mul]
    congr 1
    omega

/-- The row that a value's cells are taken from. -/
def rowOf (w : World) (m : Nat) : V → Prop
  | .slice (some ⟨b, o, none⟩) _ _ => ∃ cc el fr, w.heap[b]? = some (.cells cc el fr) ∧ o + m ≤ cc.size
  | .slice (some _) _ _ => False
  | _ => True

theorem firstCells_heap {w w' : World} (hw : w'.heap = w.heap) {size n : Nat} {x : V} {l : Array V} (h : (Builtin.firstCells size n x).run P w = .ok l w)
    (hx : rowOf w (n * size) x) : (Builtin.firstCells size n x).run P w' = .ok l w' := by
  cases x with
  | slice a m c =>
    cases a with
    | none => simp only [Builtin.firstCells, Sem.run_pure, Result.ok.injEq, and_true] at h ⊢; exact h
    | some a =>
      obtain ⟨b, o, sp⟩ := a
      cases sp with
      | some s => exact hx.elim
      | none =>
        obtain ⟨cc, el, fr, h1, h2⟩ := hx
        simp only [Builtin.firstCells] at h ⊢
        rw [run_loadCells h1 h2] at h
        rw [run_loadCells (by rw [hw]; exact h1) h2]
        simp only [Result.ok.injEq, and_true] at h
        rw [h]
  | string s => simp only [Builtin.firstCells, Sem.run_pure, Result.ok.injEq, and_true] at h ⊢; exact h
  | _ => simp [Builtin.firstCells] at h

theorem src_row (hR : R J B r h w) {size n : Nat} {x x' : V} {l : List V} (hx : VR r x x') (hn : aLenOf x = some n) (hs : aSrc size x h = some l) :
    rowOf w (n * size) x' := by
  unfold aSrc at hs
  split at hs
  · cases hx; trivial
  · unfold sliceCells at hs
    split at hs
    · cases hx; trivial
    · rename_i b o m c _
      simp only [aLenOf, Option.some.injEq] at hn
      subst hn
      cases hx with
      | @slice _ _ _ _ c' tg htg hc hn hz =>
      unfold AHeap.rdN at hs
      split at hs
      · rename_i c e k hb
        split at hs
        · rename_i hlen
          obtain ⟨t', cc, el, fr, ht', _, h1, h2, h3, _⟩ := hR.row hb
          rw [htg] at ht'; cases ht'
          exact ⟨cc, el, fr, h1, by omega⟩
        · cases hs
      · cases hs
    · cases hs

theorem firstCells_zero {x' : V} (hx : (∃ a n c, x' = .slice a n c) ∨ ∃ s, x' = .string s) (size : Nat) : (Builtin.firstCells size 0 x').run P w = .ok #[] w := by
  rcases hx with ⟨a, n, c, rfl⟩ | ⟨s, rfl⟩
  · cases a with
    | none => rfl
    | some a => simp only [Builtin.firstCells, Nat.zero_mul]; rfl
  · simp only [Builtin.firstCells]
    have : s.extract 0 0 = ByteArray.empty := by apply ByteArray.ext; simp
    rw [this]; simp [ByteArray.empty, ByteArray.emptyWithCapacity]; rfl

theorem lenOf_shape {x x' : V} {n : Nat} (hx : VR r x x') (hn : aLenOf x = some n) : (∃ a n c, x' = .slice a n c) ∨ ∃ s, x' = .string s := by
  unfold aLenOf at hn
  split at hn
  · cases hx; exact .inl ⟨_, _, _, rfl⟩
  · cases hx; exact .inl ⟨_, _, _, rfl⟩
  · cases hx; exact .inl ⟨_, _, _, rfl⟩
  · cases hx; exact .inr ⟨_, rfl⟩
  · cases hn

theorem lenOf_all {x x' : V} {n : Nat} (hx : VR r x x') (hn : aLenOf x = some n) : ∀ w, (Builtin.lenOf x').run P w = .ok n w := fun _ => lenOf_sound hx hn

theorem ext_toList_append {ol nl : List V} {a b : Array V} (h1 : VRl r ol a.toList) (h2 : VRl r nl b.toList) : VRl r (ol ++ nl) (a ++ b).toList := by
  rw [Array.toList_append]; exact h1.append h2

/-- A grown row: what is known is its first part. -/
theorem grown_sound (hJ : Stays J B) (hR : R J B r h w) {e : TypeId} {l : List V} {known rest : Array V} {esz : Nat} {k : BK} (hl : VRl r l known.toList) :
    R J B (r.upd h.next ⟨w.heap.size, (known ++ rest).size, esz⟩) (h.new (.cells l esz k)) (w.alloc (.cells (known ++ rest) e)) ∧
      Ext r h w (r.upd h.next ⟨w.heap.size, (known ++ rest).size, esz⟩) (h.new (.cells l esz k)) (w.alloc (.cells (known ++ rest) e)) := by
  have hlen := hl.1
  simp only [Array.length_toList] at hlen
  refine hR.alloc hJ _ _ _ rfl ⟨rfl, ⟨known ++ rest, e, (0, 0), heap_alloc_new, rfl, by simp; omega, fun i a b => ?_, fun _ o _ => by simp, fun _ => rfl⟩, fun _ => hR.base⟩
  have hi : i < known.size := by omega
  have := (hl.mono (hR.le_upd ⟨w.heap.size, (known ++ rest).size, esz⟩)).2 i a (by simpa using hi)
  rw [Array.getElem_append_left hi]
  simpa using this

theorem setArr_lt : ∀ (vs : List V) (c : Array V) (o j : Nat), j < o → (setArr c o vs)[j]? = c[j]?
  | [], _, _, _, _ => rfl
  | v :: vs, c, o, j, h => by
    simp only [setArr]
    rw [setArr_lt vs _ (o + 1) j (by omega), Array.getElem?_setIfInBounds_ne (by omega)]

theorem setArr_ge : ∀ (vs : List V) (c : Array V) (o j : Nat), o ≤ j → j < o + vs.length → j < c.size → (setArr c o vs)[j]? = vs[j - o]?
  | [], _, _, _, h1, h2, _ => by simp at h2; omega
  | v :: vs, c, o, j, h1, h2, h3 => by
    simp only [setArr]
    by_cases hj : j = o
    · subst hj
      rw [setArr_lt vs _ (j + 1) j (by omega)]
      simp [h3]
    · rw [setArr_ge vs _ (o + 1) j (by omega) (by simp at h2; omega) (by simpa using h3)]
      rw [show j - o = (j - (o + 1)) + 1 from by omega]
      simp

theorem append_sound (hJ : Stays J B) (hR : R J B r h w) {ts : Array TypeId} {ty : TypeId} {s s' x x' v : V} {h' : AHeap} (hs : VR r s s') (hx : VR r x x') (ha : aAppend P ts s x h = some (v, h')) :
    ∃ r' v' w', (Builtin.append_ ts ty #[s', x']).run P w = .ok v' w' ∧ R J B r' h' w' ∧ Ext r h w r' h' w' ∧ VR r' v v' := by
  unfold aAppend at ha
  split at ha
  case h_2 => cases ha
  rename_i e xt he hxt
  split at ha
  case h_2 => cases ha
  rename_i i n z hi hn hz
  split at ha
  case isFalse => cases ha
  rename_i hcond
  obtain ⟨hux, hsp, hbs, hzn⟩ := hcond
  obtain ⟨st, hst⟩ : ∃ st, ts[0]? = some st := by
    cases h0 : ts[0]? with
    | none => simp [h0] at he
    | some st => exact ⟨st, rfl⟩
  simp only [hst, Option.bind_some] at he
  have hus := eltT_und he
  have hszT : szT P e = some i.size := by simp [szT, hi]
  obtain ⟨zv, hzv, hzl⟩ : ∃ zv, (∀ w', (zeroValue e).run P w' = .ok zv w') ∧ VRl r z zv.cells.toList := by
    cases hz0 : zeroOf P e with
    | none => simp [hz0] at hz
    | some zv =>
      simp only [hz0, Option.bind_some] at hz
      exact ⟨zv, fun w' => (run_zeroValue (w := w') hz0).1, (VR.closed (run_zeroValue (w := w) hz0).2).cells hz⟩
  have hz1 : zv.cells.size = i.size := by have := hzl.1; simp at this; omega
  have hlen := lenOf_all (P := P) hx hn
  split at ha
  · -- a nil slice
    cases hs
    split at ha
    · rename_i hn0
      subst hn0
      simp only [Option.some.injEq, Prod.mk.injEq] at ha
      obtain ⟨rfl, rfl⟩ := ha
      refine ⟨r, _, w, run_append_fits (P := P) (w := w) (w' := w) (nl := #[]) hst hxt hus hux hszT hlen (Nat.le_refl 0) (firstCells_zero (lenOf_shape hx hn) _) rfl, hR, Ext.refl _ _ _, .sliceNil⟩
    · rename_i hn0
      split at ha
      · rename_i hmax
        cases hsrc : aSrc i.size x h with
        | none => simp [hsrc] at ha
        | some new =>
          simp only [hsrc, Option.map_some, Option.some.injEq, Prod.mk.injEq] at ha
          obtain ⟨rfl, rfl⟩ := ha
          obtain ⟨nl, g1, g2, g3⟩ := src_sound (P := P) hR hx hn hsrc
          have grow := run_append_grows (P := P) (w := w) (ty := ty) (base := none) (m := 0) (c := 0) (ol := #[]) (nl := nl) hst hxt hus hux hi hlen (by omega) (by omega) hbs
            (fun w' _ => rfl) (fun w' hw => firstCells_heap hw g1 (src_row hR hx hn hsrc)) hzv hz1 (by have := g2.1; simp at this; simp; omega)
          obtain ⟨cells, nc, a1, a2, a3, rest, a4⟩ := grow
          subst a4
          have hR1 := hR.drew hJ
          have e0 : (#[] : Array V) ++ nl = nl := by simp
          rw [e0] at a1 a3
          obtain ⟨b1, b2⟩ := grown_sound (e := e) (rest := rest) (esz := i.size) hJ hR1 g2
          simp only [Nat.zero_add] at a1 a2
          exact ⟨_, _, _, a1, b1, Ext.drew.trans b2, .slice (Ren.upd_same _ _ _) ⟨by omega, fun h0 => by omega⟩ (by omega) (by simp only [Nat.zero_add]; omega)⟩
      · cases ha
  · rename_i b o m c
    cases hs with
    | @slice _ _ _ _ c' tg htg hc hnm hsz =>
    have hc1 := hc.1
    split at ha
    · rename_i hn0
      subst hn0
      simp only [Option.some.injEq, Prod.mk.injEq] at ha
      obtain ⟨rfl, rfl⟩ := ha
      exact ⟨r, _, w, run_append_fits (P := P) (w := w) (w' := w) (nl := #[]) hst hxt hus hux hszT hlen (by omega) (firstCells_zero (lenOf_shape hx hn) _) rfl, hR, Ext.refl _ _ _, .slice htg hc hnm hsz⟩
    · rename_i hn0
      split at ha
      · rename_i hfit
        split at ha
        · rename_i new c0 esz k hsrc hb
          split at ha
          · rename_i hone
            obtain ⟨he1, hone⟩ := hone
            cases hwr : h.wr b (o + m * i.size) new with
            | none => simp [hwr] at ha
            | some h2 =>
              simp only [hwr, Option.map_some, Option.some.injEq, Prod.mk.injEq] at ha
              obtain ⟨rfl, rfl⟩ := ha
              obtain ⟨nl, g1, g2, g3⟩ := src_sound (P := P) hR hx hn hsrc
              obtain ⟨w', s1, s2, s3⟩ := wr_sound (P := P) hJ hR htg g2 (oneCells g2 hone) hwr
              refine ⟨r, _, w', run_append_fits (P := P) (w := w) (w' := w') (nl := nl) hst hxt hus hux hszT hlen (by omega) g1 ?_, s2, s3, .slice htg hc hfit hsz⟩
              simp only [addr_add]
              exact s1
          · cases ha
        · cases ha
      · rename_i hnfit
        split at ha
        · rename_i hmax
          split at ha
          · rename_i new old hsrc hold
            obtain ⟨nl, g1, g2, g3⟩ := src_sound (P := P) hR hx hn hsrc
            obtain ⟨ol, k1, k2, k3, k4⟩ := rdN_sound (P := P) hR htg hold
            have holdrow : ∃ cc el fr, w.heap[tg.blk]? = some (.cells cc el fr) ∧ o + m * i.size ≤ cc.size := by
              unfold AHeap.rdN at hold
              split at hold
              · rename_i c1 e1 k1 hb1
                split at hold
                · obtain ⟨t', cc, el, fr, ht', _, q1, q2, q3, _⟩ := hR.row hb1
                  rw [htg] at ht'; cases ht'
                  exact ⟨cc, el, fr, q1, by omega⟩
                · cases hold
              · cases hold
            have hsum : ol.size + nl.size = (m + n) * i.size := by have := g2.1; simp at this; rw [Nat.add_mul]; omega
            -- it grows
            have growing : c' < m + n → ∃ cells newCap rest, (Builtin.append_ ts ty #[.slice (some ⟨tg.blk, o, none⟩) m c', x']).run P w = .ok (.slice (some ⟨w.heap.size, 0, none⟩) (m + n) newCap) (w.drew.alloc (.cells cells e)) ∧
                m + n ≤ newCap ∧ cells.size = newCap * i.size ∧ cells = ol ++ nl ++ rest := by
              intro hlt
              obtain ⟨cells, nc, a1, a2, a3, rest, a4⟩ := run_append_grows (P := P) (w := w) (ty := ty) (base := some ⟨tg.blk, o, none⟩) (m := m) (c := c') (ol := ol) (nl := nl) hst hxt hus hux hi hlen hlt hmax hbs
                (fun w' hw => firstCells_heap hw (by simpa only [Builtin.firstCells] using k1) holdrow) (fun w' hw => firstCells_heap hw g1 (src_row hR hx hn hsrc)) hzv hz1 hsum
              exact ⟨cells, nc, rest, a1, a2, a3, a4⟩
            split at ha
            · rename_i heven
              simp only [Option.some.injEq, Prod.mk.injEq] at ha
              obtain ⟨rfl, rfl⟩ := ha
              have hce := hc.2 heven
              obtain ⟨cells, nc, rest, a1, a2, a3, a4⟩ := growing (by omega)
              subst a4
              obtain ⟨b1, b2⟩ := grown_sound (e := e) (rest := rest) (esz := i.size) hJ (hR.drew hJ) (ext_toList_append k2 g2)
              exact ⟨_, _, _, a1, b1, Ext.drew.trans b2, .slice (Ren.upd_same _ _ _) ⟨by omega, fun h0 => by omega⟩ (by omega) (by simp only [Nat.zero_add]; omega)⟩
            · split at ha
              · rename_i c0 esz k hb
                split at ha
                · rename_i hcnd
                  obtain ⟨ho, hesz, hkro, hone⟩ := hcnd
                  simp only [Option.some.injEq, Prod.mk.injEq] at ha
                  obtain ⟨rfl, rfl⟩ := ha
                  subst ho
                  by_cases hlt : c' < m + n
                  · obtain ⟨cells, nc, rest, a1, a2, a3, a4⟩ := growing hlt
                    subst a4
                    obtain ⟨d1, d2⟩ := (hR.drew hJ).kill b
                    obtain ⟨b1, b2⟩ := grown_sound (e := e) (rest := rest) (esz := i.size) (k := k) hJ d1 (ext_toList_append k2 g2)
                    exact ⟨_, _, _, a1, b1, Ext.drew.trans (d2.trans b2), .slice (Ren.upd_same _ _ _) ⟨by omega, fun h0 => by omega⟩ (by omega) (by simp only [Nat.zero_add]; omega)⟩
                  · obtain ⟨t', cc, el, fr, ht', he1, q1, q2, q3, q4, q5, q6, q7⟩ := hR.row hb
                    rw [htg] at ht'; cases ht'
                    have hroom : (m + n) * i.size ≤ cc.size := by
                      have : (m + n) * i.size ≤ c' * i.size := Nat.mul_le_mul_right _ (by omega)
                      rw [q2]
                      rw [he1, hesz] at hsz
                      omega
                    have hgl : nl.toList.length = n * i.size := by have := g2.1; omega
                    rw [Nat.add_mul] at hroom
                    obtain ⟨w', s1, hT⟩ := run_storeCells (P := P) (o := m * i.size) nl.toList 0 w cc q1 (oneCells g2 hone) (by omega) (fun j a c => q5 hkro j (by omega))
                    simp only [Nat.add_zero] at hT
                    have hold2 : old.length = m * i.size ∧ ∀ j (hj : j < old.length) (hj' : j < cc.size), VR r old[j] cc[j] := by
                      refine ⟨k3, fun j hj hj' => ?_⟩
                      unfold AHeap.rdN at hold
                      rw [hb] at hold
                      simp only at hold
                      split at hold
                      · simp only [Option.some.injEq] at hold
                        subst hold
                        simp only [Nat.zero_add, List.drop_zero, List.getElem_take]
                        exact q4 j _ hj'
                      · cases hold
                    obtain ⟨b1, b2⟩ := hR.rename hJ hb (fun c e he => by cases he; exact hkro rfl) htg hT (o2 := .cells (old ++ new) i.size k)
                      ⟨by rw [he1, hesz], ⟨_, el, fr, hT.here, by rw [setArr_size, q2], by rw [setArr_size]; simp; omega, fun j a c => by
                          rw [setArr_size] at c
                          by_cases hj : j < old.length
                          · have e1 := setArr_lt nl.toList cc (m * i.size) j (by omega)
                            rw [Array.getElem?_eq_getElem (by rw [setArr_size]; exact c), Array.getElem?_eq_getElem c] at e1
                            simp only [Option.some.injEq] at e1
                            rw [e1, List.getElem_append_left hj]
                            exact (hold2.2 j hj c).mono (hR.le_upd _)
                          · have hj2 : j < old.length + new.length := by simpa using a
                            have e1 := setArr_ge nl.toList cc (m * i.size) j (by omega) (by omega) c
                            have hjn : j - m * i.size < nl.toList.length := by omega
                            rw [Array.getElem?_eq_getElem (by rw [setArr_size]; exact c), List.getElem?_eq_getElem hjn] at e1
                            simp only [Option.some.injEq] at e1
                            rw [e1, List.getElem_append_right (by omega)]
                            have := (g2.mono (hR.le_upd tg)).2 (j - old.length) (by omega) (by omega)
                            simp only [hold2.1] at this ⊢
                            exact this, fun hk o' ho' => by rw [setArr_size] at ho'; exact q5 hk o' ho', q6⟩, q7⟩
                    refine ⟨_, .slice (some ⟨tg.blk, 0, none⟩) (m + n) c', w', run_append_fits (P := P) (w := w) (w' := w') (nl := nl) hst hxt hus hux hszT hlen (by omega) g1 ?_, b1, b2, .slice (Ren.upd_same _ _ _) ⟨by omega, fun h0 => by omega⟩ (by omega) hsz⟩
                    simp only [addr_add, Nat.zero_add]
                    exact s1
                · cases ha
              · cases ha
          · cases ha
        · cases ha
  · cases ha

end
end Go.Abs

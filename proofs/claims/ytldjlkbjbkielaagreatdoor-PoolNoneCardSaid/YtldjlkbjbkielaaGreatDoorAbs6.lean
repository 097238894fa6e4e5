/- Our own abstract machine, part 6: loads, stores, new variables, structs: they speak truly of the model. -/
import Derived.Test.YtldjlkbjbkielaaGreatDoorAbs5
set_option linter.unusedSimpArgs false
set_option linter.unusedVariables false
namespace Go.Abs
open Go Go.RowKit

section
variable {P : Program} {w : World}

theorem run_und {t : TypeId} {d : TypeDesc} (h : P.underlying t = some d) : (underlying t).run P w = .ok d w := by
  simp [underlying, h]

theorem run_isAgg {t : TypeId} {b : Bool} (h : aggT P t = some b) : (isAgg t).run P w = .ok b w := by
  unfold aggT at h
  cases hu : P.underlying t with
  | none => simp [hu] at h
  | some d =>
    simp only [hu] at h
    simp only [isAgg, Sem.run_bind, run_und hu, Result.andThen_ok]
    cases d <;> simp at h <;> subst h <;> rfl

theorem info_of_szT {t : TypeId} {n : Nat} (h : szT P t = some n) : ∃ i, P.info? t = some i ∧ i.size = n := by
  unfold szT at h
  cases hi : P.info? t with
  | none => simp [hi] at h
  | some i => simp [hi] at h; exact ⟨i, rfl, h⟩

theorem run_typeInfo {t : TypeId} {i : TypeInfo} (h : P.info? t = some i) : (typeInfo t).run P w = .ok i w := by
  simp [typeInfo, h]

theorem run_sizeOf {t : TypeId} {n : Nat} (h : szT P t = some n) : (sizeOf t).run P w = .ok n w := by
  obtain ⟨i, hi, rfl⟩ := info_of_szT h
  simp [sizeOf, run_typeInfo hi]

theorem run_zeroValue {t : TypeId} {z : V} (h : zeroOf P t = some z) : (zeroValue t).run P w = .ok z w ∧ closedV z = true := by
  unfold zeroOf at h
  cases hi : P.info? t with
  | none => simp [hi] at h
  | some i =>
    simp only [hi, Option.bind_some] at h
    cases hz : i.zero with
    | none => simp [hz] at h
    | some z' =>
      simp only [hz] at h
      split at h
      · simp at h; subst h; rename_i hc; exact ⟨by simp [zeroValue, run_typeInfo hi, hz], hc⟩
      · simp at h
end

theorem cellsOf_eq {v : V} {c : List V} (h : cellsOf v = some c) : v.cells.toList = c := by
  cases v <;> simp_all [cellsOf, Value.cells]

section
variable {P : Program} {J : World → Prop} {B : Nat} {r : Ren} {h : AHeap} {w : World}

/-- What a live row says. -/
theorem R.row (hR : R J B r h w) {b : Nat} {c : List V} {e : Nat} {k : BK} (hb : h.get b = some (.cells c e k)) :
    ∃ t cc el fr, r b = some t ∧ t.esz = e ∧ w.heap[t.blk]? = some (.cells cc el fr) ∧ cc.size = t.sz ∧ c.length ≤ cc.size ∧
      (∀ (i : Nat) (h : i < c.length) (h' : i < cc.size), VR r c[i] cc[i]) ∧ (k ≠ .ro → ∀ o, o < cc.size → ¬ (fr.1 ≤ o ∧ o < fr.2)) ∧ (k = .rw → fr.1 = fr.2) ∧ (k ≠ .ro → B ≤ t.blk) := by
  obtain ⟨t, ht, h0, ⟨cc, el, fr, h1, h2, h3, h4, h5, h6⟩, h7⟩ := hR.live b _ hb
  exact ⟨t, cc, el, fr, ht, h0, h1, h2, h3, h4, h5, h6, h7⟩

theorem rd_sound (hR : R J B r h w) {b o : Nat} {v : V} {t : Tgt} (ht : r b = some t) (hl : h.rd b o = some v) : ∃ v', w.cell? ⟨t.blk, o, none⟩ = some v' ∧ VR r v v' := by
  unfold AHeap.rd at hl
  split at hl
  · rename_i c e k hb
    obtain ⟨t', cc, el, fr, ht', _, h1, h2, h3, h4, _⟩ := hR.row hb
    rw [ht] at ht'; cases ht'
    obtain ⟨hlt, rfl⟩ := List.getElem?_eq_some_iff.1 hl
    refine ⟨cc[o], ?_, h4 o hlt (by omega)⟩
    rw [cell_of_block h1]; exact Array.getElem?_eq_getElem (by omega)
  · cases hl

theorem rdN_sound (hR : R J B r h w) {b o n : Nat} {l : List V} {t : Tgt} (ht : r b = some t) (hl : h.rdN b o n = some l) :
    ∃ c, (loadCells ⟨t.blk, o, none⟩ n).run P w = .ok c w ∧ VRl r l c.toList ∧ l.length = n ∧ c.size = n := by
  unfold AHeap.rdN at hl
  split at hl
  · rename_i c e k hb
    split at hl
    · rename_i hlen
      obtain ⟨t', cc, el, fr, ht', _, h1, h2, h3, h4, _⟩ := hR.row hb
      rw [ht] at ht'; cases ht'
      simp only [Option.some.injEq] at hl
      subst hl
      refine ⟨_, run_loadCells h1 (by omega), ⟨?_, fun i a1 a2 => ?_⟩, ?_, ?_⟩
      · simp; omega
      · simp only [Array.toList_extract, List.extract_eq_take_drop, List.getElem_take, List.getElem_drop]
        have : i < n := by simp at a1; omega
        exact h4 (o + i) (by omega) (by omega)
      · simp; omega
      · simp; omega
    · cases hl
  · cases hl

theorem load_sound (hR : R J B r h w) {t : TypeId} {x x' v : V} (hx : VR r x x') (hl : aLoad P t x h = some v) :
    ∃ v', (Instr.loadAt t x').run P w = .ok v' w ∧ VR r v v' := by
  unfold aLoad at hl
  split at hl
  · rename_i b o
    cases hx with
    | @ptr _ _ tg htg =>
    simp only [Instr.loadAt, Instr.sureAddr, Sem.run_bind, Sem.run_pure, Result.andThen_ok, loadVar]
    split at hl
    · rename_i n hag hsz
      rw [run_isAgg hag]
      simp only [Result.andThen_ok, if_true, Sem.run_bind, run_sizeOf hsz]
      cases hr : h.rdN b o n with
      | none => simp [hr] at hl
      | some l =>
        simp only [hr, Option.map_some, Option.some.injEq] at hl
        subst hl
        obtain ⟨c, h1, h2, _⟩ := rdN_sound (P := P) hR htg hr
        rw [h1]
        exact ⟨.agg c, rfl, by have := h2.agg; simpa using this⟩
    · rename_i hag
      rw [run_isAgg hag]
      obtain ⟨v', h1, h2⟩ := rd_sound hR htg hl
      refine ⟨v', ?_, h2⟩
      simp [h1]
    · cases hl
  · cases hl

/-- The cells of a row behind a store. -/
theorem VR_setList : ∀ (vs vs' : List V) (c : List V) (cc : Array V) (o : Nat), VRl r vs vs' →
    (∀ (i : Nat) (h : i < c.length) (h' : i < cc.size), VR r c[i] cc[i]) → ∀ (i : Nat) (h : i < (setList c o vs).length) (h' : i < (setArr cc o vs').size), VR r (setList c o vs)[i] (setArr cc o vs')[i]
  | [], [], c, cc, o, _, hc => hc
  | [], _ :: _, c, cc, o, h, _ => by have := h.1; simp at this
  | _ :: _, [], c, cc, o, h, _ => by have := h.1; simp at this
  | v :: vs, v' :: vs', c, cc, o, h, hc => by
    have h0 : VR r v v' := h.2 0 (by simp) (by simp)
    have h1 : VRl r vs vs' := ⟨by have := h.1; simpa using this, fun i a b => h.2 (i + 1) (by simpa using a) (by simpa using b)⟩
    refine VR_setList vs vs' (c.set o v) (cc.setIfInBounds o v') (o + 1) h1 fun i a b => ?_
    have b' : i < cc.size := by simpa using b
    rw [List.getElem_set, Array.getElem_setIfInBounds b']
    split
    · exact h0
    · exact hc i (by simpa using a) b'

theorem wr_sound (hJ : Stays J B) (hR : R J B r h w) {b o : Nat} {vs vs' : List V} {t : Tgt} {h' : AHeap} (ht : r b = some t) (hv : VRl r vs vs') (h1 : ∀ v ∈ vs', v.oneCell' = true)
    (hw : h.wr b o vs = some h') : ∃ w', (storeCells ⟨t.blk, o, none⟩ vs').run P w = .ok () w' ∧ R J B r h' w' ∧ Ext r h w r h' w' := by
  unfold AHeap.wr at hw
  split at hw
  · rename_i c e k hb
    split at hw
    · rename_i hcond
      obtain ⟨hk, hlen⟩ := hcond
      simp only [Option.some.injEq] at hw
      subst hw
      obtain ⟨t', cc, el, fr, ht', he, hh, hs, hl, hc, hf, hf2, hB⟩ := hR.row hb
      rw [ht] at ht'; cases ht'
      have hvl := hv.1
      obtain ⟨w', hrun, hT⟩ := run_storeCells (P := P) (o := o) vs' 0 w cc hh h1 (by omega) (fun j a c => hf hk j (by omega))
      refine ⟨w', hrun, ?_⟩
      refine hR.turn hJ hb (fun c' e' he' => by cases he'; exact hk rfl) ht hT ?_ (fun c' e' he' => by cases he'; exact hk rfl)
      refine ⟨he, ⟨_, el, fr, hT.here, by rw [setArr_size, hs], by rw [setArr_size, setList_length]; exact hl, ?_, ?_, ?_⟩, hB⟩
      · exact VR_setList vs vs' c cc (o + 0) hv hc
      · intro hk o' ho'; rw [setArr_size] at ho'; exact hf hk o' ho'
      · exact hf2
    · cases hw
  · cases hw

theorem oneCells {vs vs' : List V} (hv : VRl r vs vs') (h : vs.all oneCell = true) : ∀ v ∈ vs', v.oneCell' = true := by
  intro v hvm
  obtain ⟨i, hi, rfl⟩ := List.getElem_of_mem hvm
  have hi2 : i < vs.length := by have := hv.1; omega
  exact (hv.2 i hi2 hi).oneCell (List.all_eq_true.1 h _ (List.getElem_mem hi2))

theorem store_sound (hJ : Stays J B) (hR : R J B r h w) {t : TypeId} {x x' v v' : V} {h' : AHeap} (hx : VR r x x') (hv : VR r v v') (hs : aStore P t x v h = some h') :
    ∃ w', (Instr.storeAt t x' v').run P w = .ok () w' ∧ R J B r h' w' ∧ Ext r h w r h' w' := by
  unfold aStore at hs
  split at hs
  · rename_i b o
    cases hx with
    | @ptr _ _ tg htg =>
    split at hs
    · rename_i n vs hsz hcs
      split at hs
      · rename_i hcond
        have hvl := hv.cells hcs
        obtain ⟨w', h1, h2⟩ := wr_sound (P := P) hJ hR htg hvl (oneCells hvl hcond.2) hs
        refine ⟨w', ?_, h2⟩
        simp only [Instr.storeAt, Instr.sureAddr, Sem.run_bind, Sem.run_pure, Result.andThen_ok, storeVar, run_sizeOf hsz]
        have : v'.cells.size = n := by have := hvl.1; simp at this; omega
        simp only [this, ne_eq, not_true_eq_false, if_false, Sem.run_bind, Sem.run_pure, Result.andThen_ok]
        exact h1
      · cases hs
    · cases hs
  · cases hs

theorem new_sound (hJ : Stays J B) (hR : R J B r h w) {t : TypeId} {v v' x : V} {h' : AHeap} (hv : VR r v v') (hn : aNew P t v h = some (x, h')) :
    ∃ r' x' w', (newVar t v').run P w = .ok x' w' ∧ R J B r' h' w' ∧ Ext r h w r' h' w' ∧ VR r' x (.pointer (some x')) := by
  unfold aNew at hn
  split at hn
  · rename_i vs hcs
    simp only [Option.some.injEq, Prod.mk.injEq] at hn
    obtain ⟨rfl, rfl⟩ := hn
    have hvl := hv.cells hcs
    have hrun : (newVar t v').run P w = .ok ⟨w.heap.size, 0, none⟩ (w.alloc (.cells v'.cells t)) := by simp [newVar, newRow]
    have hlen : vs.length = v'.cells.size := by have := hvl.1; simpa using this
    obtain ⟨h1, h2⟩ := hR.alloc hJ (.cells vs (eszOf P t vs.length) .rw) (.cells v'.cells t) ⟨w.heap.size, v'.cells.size, eszOf P t vs.length⟩ rfl
      ⟨rfl, ⟨v'.cells, t, (0, 0), heap_alloc_new, rfl, by omega, fun i a b => by
        have := (hvl.mono (hR.le_upd ⟨w.heap.size, v'.cells.size, eszOf P t vs.length⟩)).2 i a (by simpa using b)
        simpa using this, fun _ o _ => by simp, fun _ => rfl⟩, fun _ => hR.base⟩
    refine ⟨_, _, _, hrun, h1, h2, .ptr (Ren.upd_same _ _ _)⟩
  · cases hn

end
end Go.Abs

/- Library functions: slices.Sorted at what maps.Keys handed back, as a spec. No program in sight. -/
import Derived.Test.YtldjlkbjbkielaaGreatDoorAbs25
import Derived.Shelf.SlIter.Nil
set_option linter.unusedSimpArgs false
set_option linter.unusedVariables false
namespace Go.Abs
open Go Go.RowKit Go.Proofs

def keyB : V → List UInt8
  | .string s => s.data.toList
  | _ => []

/-- A map's keys, sorted. -/
def srtK (es : List MapEntry) : List (List UInt8) := (es.map fun e => keyB e.key).mergeSort fun x y => decide (x ≤ y)

def sortV (ks : List (List UInt8)) (h : AHeap) : V := if ks = [] then .slice none 0 0 else .slice (some ⟨h.next, 0, none⟩) ks.length (2 * ks.length + 1)
def sortH (ks : List (List UInt8)) (h : AHeap) : AHeap := if ks = [] then h else h.new (.cells (ks.map encStr) 1 .rw)

def L.Sorted (ok : FuncId → Prop) : Spec := fun args h K => match args with
  | [.func (.func g) f c] => f = #[] ∧ ok g ∧ ∃ b m es clk e k, c = #[.pointer (some ⟨b, 0, none⟩)] ∧ h.get b = some (.cells [.map (some m)] e k) ∧ h.get m = some (.map es clk) ∧ es.length ≤ 1000 ∧
      (∀ x ∈ es, (∃ s, x.key = .string s ∧ s.size ≤ maxLen) ∧ x.born < clk) ∧ (es.map (·.born)).Nodup ∧ (es.map (·.key)).Nodup ∧ K (sortV (srtK es) h) (sortH (srtK es) h)
  | _ => False

/-- A call that leaves what was there, and makes one block that is told of. -/
theorem R.belowNew {J : World → Prop} {B : Nat} (hJ : Stays J B) (hD : DF J) {r : Ren} {h : AHeap} {w w' : World} (hR : R J B r h w) (hb : Below w.heap.size w w') (o : AObj) (t : Tgt) (h1 : w.heap.size ≤ t.blk) (h2 : t.blk < w'.heap.size)
    (hO : OR B (r.upd h.next t) w' t o) : R J B (r.upd h.next t) (h.new o) w' ∧ Ext r h w (r.upd h.next t) (h.new o) w' := by
  obtain ⟨hR', hE⟩ := hR.below hJ hD hb
  have hle := hR.le_upd t
  have old : ∀ b o1, (h.new o).get b = some o1 → (b = h.next ∧ o1 = o) ∨ (b ≠ h.next ∧ h.get b = some o1) := by
    intro b o1 hb
    by_cases e : b = h.next
    · subst e; simp [AHeap.new] at hb; exact .inl ⟨rfl, hb.symm⟩
    · exact .inr ⟨e, by simpa [AHeap.new, e] using hb⟩
  refine ⟨⟨hR'.base, ?_, ?_, ?_, hR'.inv⟩, ⟨hle, Nat.le_succ _, hE.os, hE.tape, hE.output, hE.size, ?_, ?_⟩⟩
  · intro b t' hb
    by_cases e : b = h.next
    · subst e; rw [Ren.upd_same] at hb; cases hb; exact ⟨h2, by simp [AHeap.new]⟩
    · rw [Ren.upd_ne _ _ e] at hb
      have := hR'.lt b t' hb
      refine ⟨this.1, ?_⟩
      simp [AHeap.new]; omega
  · intro b o1 hb
    rcases old b o1 hb with ⟨rfl, rfl⟩ | ⟨e, hb'⟩
    · exact ⟨t, Ren.upd_same _ _ _, hO⟩
    · obtain ⟨t', h3, h4⟩ := hR'.live b o1 hb'
      exact ⟨t', hle _ _ h3, h4.mono hle⟩
  · intro b b' o1 o1' t1 t1' hb hb' g1 g1' e
    rcases old b o1 hb with ⟨rfl, rfl⟩ | ⟨e1, hb⟩ <;> rcases old b' o1' hb' with ⟨rfl, rfl⟩ | ⟨e2, hb'⟩
    · exact .inl rfl
    · rw [Ren.upd_same] at g1; cases g1
      rw [Ren.upd_ne _ _ e2] at g1'
      have := (hR.lt _ _ g1').1; exfalso; omega
    · rw [Ren.upd_same] at g1'; cases g1'
      rw [Ren.upd_ne _ _ e1] at g1
      have := (hR.lt _ _ g1).1; exfalso; omega
    · rw [Ren.upd_ne _ _ e1] at g1; rw [Ren.upd_ne _ _ e2] at g1'
      exact hR.inj b b' o1 o1' t1 t1' hb hb' g1 g1' e
  · intro k hk _; exact hb.block k hk
  · rintro k hk ⟨b, t', ⟨o1, hb, hw⟩, g1, rfl⟩
    rcases old b o1 hb with ⟨rfl, rfl⟩ | ⟨e, hb⟩
    · rw [Ren.upd_same] at g1; cases g1; omega
    · rw [Ren.upd_ne _ _ e] at g1
      exact ⟨b, t', ⟨o1, hb, hw⟩, g1, rfl⟩

/-- A reader that reads whatever value alike. -/
def anyR (_ : V) : Option (DataW Unit × List MemPlace) := some (.nil, [])

theorem VR.str_inv {r : Ren} {s : ByteArray} {x : V} (h : VR r (.string s) x) : x = .string s := VR.eq_of_closed (by rfl) h

theorem VR.func_inv {r : Ren} {g : Fn} {f c : Array V} {x : V} (h : VR r (.func g f c) x) : ∃ f' c', x = .func g f' c' ∧ f.size = f'.size ∧ c.size = c'.size ∧ ∀ (i : Nat) (h1 : i < c.size) (h2 : i < c'.size), VR r c[i] c'[i] := by
  cases h with
  | func _ hf hfe hc hce => exact ⟨_, _, rfl, hf, hc, hce⟩

theorem VR.ptr_inv {r : Ren} {b o : Nat} {x : V} {t : Tgt} (h : VR r (.pointer (some ⟨b, o, none⟩)) x) (ht : r b = some t) : x = .pointer (some ⟨t.blk, o, none⟩) := by
  cases h with
  | ptr h1 => rw [ht] at h1; cases h1; rfl

/-- **slices.Sorted(maps.Keys(m)).** -/
theorem L.Sorted_sound {P : Program} {J : World → Prop} (hD : DF J) {f : FuncId} {ok : FuncId → Prop} {kt : TypeId} (hkt : P.underlying kt = some .string) (hcall : ∀ (args : Array V) (w : World), (callFunc f args).run P w = .ok (.enter f args) w)
    (hrun : ∀ g, ok g → ∀ (bm : Nat) (w : World) (b nn : Nat) (D0 : DataW Unit), bm < w.heap.size → w.cell? ⟨bm, 0, none⟩ = some (.map (some b)) → w.ownsMap P kt anyR b nn D0 → Maps.size D0 ≤ maxLen → Maps.size D0 * 16 ≤ 140737488355328 →
      Calls P f #[.func (.func g) #[] #[.pointer (some ⟨bm, 0, none⟩)]] w fun e w' => ∃ (v : Value) (ss : List (List UInt8)), e = .returned v ∧ ss.Perm (strKeys D0) ∧
        w'.ownsRow w.heap.size kt 1 v ss.length ((ss.mergeSort (fun x y => decide (x ≤ y))).map encStr) ∧ (v = .slice none 0 0 ↔ ss = []) ∧ Below w.heap.size w w') : SoundF P J f (L.Sorted ok) := by
  refine SoundF.of_calls hcall fun B hJ r hp w args args' Q hs hR ha => ?_
  unfold L.Sorted at hs
  split at hs
  · rename_i g ff c
    obtain ⟨rfl, hg, b, m, es, clk, e, k, rfl, hb, hm, hn, hk, hnb, hnk, hq⟩ := hs
    obtain ⟨t, ht, hO⟩ := hR.live b _ hb
    obtain ⟨_, ⟨cc, el, fr, hcc, hsz, hle, hv, _⟩, _⟩ := hO
    obtain ⟨tm, htm, hOm⟩ := hR.live m _ hm
    obtain ⟨hBm, ces, hces, hcs, hent⟩ := hOm
    have hargs : args' = #[.func (.func g) #[] #[.pointer (some ⟨t.blk, 0, none⟩)]] := by
      have hl := ha.1
      obtain ⟨l⟩ := args'
      match l, hl with
      | [x], _ =>
        have h0 := ha.2 0 (by simp) (by simp)
        simp only [List.getElem_cons_zero] at h0
        obtain ⟨f', c', rfl, hf, hc, hce⟩ := h0.func_inv
        have e1 : f' = #[] := Array.eq_empty_of_size_eq_zero hf.symm
        obtain ⟨ys⟩ := c'
        match ys, hc with
        | [y], _ =>
          have h1 := hce 0 (by simp) (by simp)
          simp only [List.getElem_toArray, List.getElem_cons_zero] at h1
          rw [e1, h1.ptr_inv ht]
    subst hargs
    have h0 : 0 < cc.size := by simp at hle; omega
    have hcell : w.cell? ⟨t.blk, 0, none⟩ = some (.map (some tm.blk)) := by
      have h1 := hv 0 (by simp) h0
      simp only [List.getElem_cons_zero] at h1
      simp only [World.cell?, hcc]
      rw [Array.getElem?_eq_getElem h0]
      generalize cc[0] = x at h1
      cases h1 with
      | map h1 =>
        rw [htm] at h1
        cases h1
        rfl
    have hkey : ∀ (i : Nat) (h : i < es.length) (h' : i < ces.size), ces[i].key = es[i].key := by
      intro i h h'
      obtain ⟨⟨s, h1, _⟩, _⟩ := hk es[i] (List.getElem_mem h)
      have h2 := (hent i h h').1
      rw [h1] at h2 ⊢
      exact h2.str_inv
    have hkeys : ces.toList.map (·.key) = es.map (·.key) := by
      refine List.ext_getElem (by simp [hcs]) fun i h1 h2 => ?_
      simp only [List.getElem_map, Array.getElem_toList]
      exact hkey i (by simpa using h2) (by simpa using h1)
    have hborns : ces.toList.map (·.born) = es.map (·.born) := by
      refine List.ext_getElem (by simp [hcs]) fun i h1 h2 => ?_
      simp only [List.getElem_map, Array.getElem_toList]
      exact (hent i (by simpa using h2) (by simpa using h1)).2.2
    have hmem : ∀ x ∈ ces.toList, (∃ s, x.key = .string s ∧ s.size ≤ maxLen) ∧ x.born < clk := by
      intro x hx
      obtain ⟨i, hi, rfl⟩ := List.getElem_of_mem hx
      have h1 : i < ces.size := by simpa using hi
      have h2 : i < es.length := by omega
      obtain ⟨⟨s, h3, h4⟩, h5⟩ := hk es[i] (List.getElem_mem h2)
      simp only [Array.getElem_toList]
      exact ⟨⟨s, (hkey i h2 h1).trans h3, h4⟩, by rw [(hent i h2 h1).2.2]; exact h5⟩
    have hrd : ∀ x ∈ ces.toList, WideElems.rd P kt anyR x = some (.string (keyB x.key), .nil) := by
      intro x hx
      obtain ⟨⟨s, h1, h2⟩, _⟩ := hmem x hx
      simp only [WideElems.rd, h1, WideMaps.keyOf_string_mk hkt h2, anyR, Option.bind_some, Option.map_some, keyB]
    have hfit : WideElems.Fit P kt anyR ces clk := by
      refine ⟨by rw [hcs]; simp only [maxLen]; omega, ⟨fun x hx => (hmem x hx).2, by rw [hborns]; exact hnb, by rw [hkeys]; exact hnk⟩, fun x hx => ⟨_, hrd x hx⟩⟩
    have hown : w.ownsMap P kt anyR tm.blk ces.size (.map ((ces.toList.map (WideElems.rg P kt anyR)).foldr DataW.insert [])) := ⟨ces, clk, hces, hfit, Nat.le_refl _, rfl⟩
    have hrg : ces.toList.map (WideElems.rg P kt anyR) = es.map fun x => (Lit.string (keyB x.key), DataW.nil) := by
      have h1 : ces.toList.map (WideElems.rg P kt anyR) = (ces.toList.map (·.key)).map fun v => (Lit.string (keyB v), DataW.nil) := by
        rw [List.map_map]
        refine List.map_congr_left fun x hx => ?_
        simp only [WideElems.rg, hrd x hx, Option.getD_some, Function.comp]
      rw [h1, hkeys, List.map_map]
      rfl
    rw [hrg] at hown
    have hsize : Maps.size (H := Unit) (.map ((es.map fun x => (Lit.string (keyB x.key), DataW.nil)).foldr DataW.insert [])) = es.length := by
      show ((es.map fun x => (Lit.string (keyB x.key), DataW.nil)).foldr DataW.insert []).length = _
      rw [DataW.length_sorted, List.length_map]
    have hsk : (strKeys (H := Unit) (.map ((es.map fun x => (Lit.string (keyB x.key), DataW.nil)).foldr DataW.insert []))).Perm (es.map fun x => keyB x.key) := by
      show (List.map (fun (p : Lit × DataW Unit) => strOf p.1) _).Perm _
      refine ((WideShapes.sorted_perm _).map _).trans ?_
      rw [List.map_map]
      exact List.Perm.refl _
    refine (hrun g hg t.blk w tm.blk ces.size _ (hR.lt b t ht).1 hcell hown (by rw [hsize]; simp only [maxLen]; omega) (by rw [hsize]; omega)).mono ?_
    rintro e' w' ⟨v, ss, rfl, hperm, hrow, hnil, hbel⟩
    have hp2 := hperm.trans hsk
    have hsort : ss.mergeSort (fun x y => decide (x ≤ y)) = srtK es := mergeSort_of_perm hp2
    have hlen : ss.length = (srtK es).length := by rw [← hsort, List.length_mergeSort]
    rw [hsort] at hrow
    by_cases hz : srtK es = []
    · have hss : ss = [] := List.eq_nil_of_length_eq_zero (by rw [hlen, hz]; rfl)
      obtain rfl := hnil.2 hss
      rw [sortV, sortH, if_pos hz, if_pos hz] at hq
      obtain ⟨hR', hE⟩ := hR.below hJ hD hbel
      exact ⟨_, rfl, r, _, hp, hq, hR', hE, .sliceNil⟩
    · rw [sortV, sortH, if_neg hz, if_neg hz] at hq
      rcases hrow.2 with ⟨rfl, hz'⟩ | ⟨gb, cap, cur, rfl, hbase, hgb, r1, r2, r3, r4⟩
      · exact absurd (List.eq_nil_of_length_eq_zero (by rw [← hlen]; exact hz')) hz
      · have hgl : gb < w'.heap.size := (Array.getElem?_eq_some_iff.1 hgb).1
        have hc : cur.size = cap := by omega
        have hcells : ∀ r' : Ren, ∀ (i : Nat) (h1 : i < ((srtK es).map encStr).length) (h2 : i < cur.size), VR r' ((srtK es).map encStr)[i] cur[i] := by
          intro r' i h1 h2
          have h3 : ((srtK es).map encStr)[i]? = cur[i]? := by
            rw [← r4, List.getElem?_take, if_pos (by rw [List.length_map, ← hlen] at h1; omega), Array.getElem?_toList]
          rw [List.getElem?_eq_getElem h1, Array.getElem?_eq_getElem h2, Option.some.injEq] at h3
          rw [← h3, List.getElem_map]
          exact .string _
        obtain ⟨hR', hE⟩ := hR.belowNew hJ hD hbel (.cells ((srtK es).map encStr) 1 .rw) ⟨gb, cur.size, 1⟩ hbase hgl
          ⟨rfl, ⟨cur, kt, (0, 0), hgb, rfl, by rw [List.length_map, ← hlen]; omega, hcells _, fun _ o _ ho => by omega, fun _ => rfl⟩, fun _ => Nat.le_trans hR.base hbase⟩
        refine ⟨_, rfl, _, _, _, hq, hR', hE, ?_⟩
        rw [← hlen]
        exact .slice (b := hp.next) (o := 0) (t := ⟨gb, cur.size, 1⟩) (Ren.upd_same _ _ _) ⟨by omega, fun he => by omega⟩ (by omega) (by simp; omega)
  · exact hs.elim

end Go.Abs

/- slices.Collect(maps.Keys(m)) of maps keyed by transactions' names, as a spec. No program in sight. -/
import Derived.Test.YtldjlkbjbkielaaGreatDoorLib3
import Derived.Test.YtldjlkbjbkielaaGreatDoorRep44
set_option linter.unusedSimpArgs false
set_option linter.unusedVariables false
namespace Go.Abs
open Go Go.RowKit

def colV (ks : List IdM) (h : AHeap) : V := if ks = [] then .slice none 0 0 else .slice (some ⟨h.next, 0, none⟩) ks.length (2 * ks.length + 1)
def colH (ks : List IdM) (h : AHeap) : AHeap := if ks = [] then h else h.new (.cells (flatI ks) 2 .rw)

/-- **slices.Collect(maps.Keys(m)):** the keys, each once, in some order. -/
def L.CollectId (ok : FuncId → Prop) : Spec := fun args h K => match args with
  | [.func (.func g) ff c] => ff = #[] ∧ ok g ∧ ∃ (b m : Nat) (t : List (Eg IdM)) (clk e : Nat) (k : BK), c = #[ptr b 0] ∧ h.get b = some (.cells [.map (some m)] e k) ∧ h.get m = some (.map (t.map kdId.me) clk) ∧ t.length ≤ 1000000 ∧
      (t.map (·.b)).Nodup ∧ (∀ e ∈ t, e.b < clk) ∧ ∀ ks : List IdM, ks.Perm (keysG t) → K (colV ks h) (colH ks h)
  | _ => False

theorem perm_agg {a b : List IdM} (h : (a.map IdM.agg).Perm (b.map IdM.agg)) : a.Perm b := by
  have inv : ∀ l : List IdM, (l.map IdM.agg).map (fun v => match v with | .agg cs => (match cs.toList with | [.int .i64 x, .int .i64 y] => (⟨x, y⟩ : IdM) | _ => default) | _ => default) = l := by
    intro l
    rw [List.map_map]
    conv => rhs; rw [← List.map_id l]
    exact List.map_congr_left fun i _ => rfl
  have := h.map (fun v => match v with | .agg cs => (match cs.toList with | [.int .i64 x, .int .i64 y] => (⟨x, y⟩ : IdM) | _ => default) | _ => default)
  rwa [inv, inv] at this

theorem L.CollectId_sound {P : Program} {J : World → Prop} (hD : DF J) {f : FuncId} {ok : FuncId → Prop} {et : TypeId} (hcall : ∀ (args : Array V) (w : World), (callFunc f args).run P w = .ok (.enter f args) w)
    (hrun : ∀ g, ok g → ∀ (bm b : Nat) (ces : Array MapEntry) (clk : Nat), (∀ e ∈ ces.toList, e.born < clk) → (ces.toList.map (·.born)).Nodup → (∀ e ∈ ces.toList, ∃ i : IdM, e.key = i.agg) → ces.size ≤ maxLen → ces.size * 16 ≤ 140737488355328 →
      ∀ (w : World), bm < w.heap.size → w.cell? ⟨bm, 0, none⟩ = some (.map (some b)) → w.heap[b]? = some (.map ces clk) →
      Calls P f #[.func (.func g) #[] #[.pointer (some ⟨bm, 0, none⟩)]] w fun e w' => ∃ (v : Value) (ss : List IdM), e = .returned v ∧ (ss.map IdM.agg).Perm (ces.toList.map (·.key)) ∧
        w'.ownsRow w.heap.size et 2 v ss.length (flatI ss) ∧ (v = .slice none 0 0 ↔ ss = []) ∧ Below w.heap.size w w') : SoundF P J f (L.CollectId ok) := by
  refine SoundF.of_calls hcall fun B hJ r hp w args args' Q hs hR ha => ?_
  unfold L.CollectId at hs
  split at hs
  · rename_i g ff c
    obtain ⟨rfl, hg, b, m, es, clk, e, k, rfl, hb, hm, hn, hnb, hk, hq⟩ := hs
    obtain ⟨t, ht, hO⟩ := hR.live b _ hb
    obtain ⟨_, ⟨cc, el, fr, hcc, hsz, hle, hv, _⟩, _⟩ := hO
    obtain ⟨tm, htm, hOm⟩ := hR.live m _ hm
    obtain ⟨hBm, ces, hces, hcs, hent⟩ := hOm
    have hargs : args' = #[.func (.func g) #[] #[.pointer (some ⟨t.blk, 0, none⟩)]] := by
      have hl := ha.1
      obtain ⟨l⟩ := args'
      match l, hl with
      | [x], _ =>
        have h0 := ha.2 0 (by simp) (by simp)
        simp only [List.getElem_cons_zero] at h0
        obtain ⟨f', c', rfl, hf, hc, hce⟩ := h0.func_inv
        have e1 : f' = #[] := Array.eq_empty_of_size_eq_zero hf.symm
        obtain ⟨ys⟩ := c'
        match ys, hc with
        | [y], _ =>
          have h1 := hce 0 (by simp) (by simp)
          simp only [List.getElem_toArray, List.getElem_cons_zero] at h1
          rw [e1, h1.ptr_inv ht]
    subst hargs
    have h0 : 0 < cc.size := by simp at hle; omega
    have hcell : w.cell? ⟨t.blk, 0, none⟩ = some (.map (some tm.blk)) := by
      have h1 := hv 0 (by simp) h0
      simp only [List.getElem_cons_zero] at h1
      simp only [World.cell?, hcc]
      rw [Array.getElem?_eq_getElem h0]
      generalize cc[0] = x at h1
      cases h1 with
      | map h1 =>
        rw [htm] at h1
        cases h1
        rfl
    have hcs' : ces.size = es.length := by simpa using hcs
    have hkey : ∀ (i : Nat) (h : i < es.length) (h' : i < ces.size), ces[i].key = es[i].k.agg ∧ ces[i].born = es[i].b := by
      intro i h h'
      have h2 := hent i (by simpa using h) h'
      simp only [List.getElem_map] at h2
      exact ⟨VR.eq_of_closed (kdId.closed _) h2.1, h2.2.2⟩
    have hkeys : ces.toList.map (·.key) = (keysG es).map IdM.agg := by
      refine List.ext_getElem (by simp [hcs', keysG]) fun i h1 h2 => ?_
      simp only [List.getElem_map, Array.getElem_toList, keysG]
      exact (hkey i (by simpa [keysG] using h2) (by simpa using h1)).1
    have hborns : ces.toList.map (·.born) = es.map (·.b) := by
      refine List.ext_getElem (by simp [hcs']) fun i h1 h2 => ?_
      simp only [List.getElem_map, Array.getElem_toList]
      exact (hkey i (by simpa using h2) (by simpa using h1)).2
    have hmem : ∀ x ∈ ces.toList, (∃ i : IdM, x.key = i.agg) ∧ x.born < clk := by
      intro x hx
      obtain ⟨i, hi, rfl⟩ := List.getElem_of_mem hx
      have h1 : i < ces.size := by simpa using hi
      have h2 : i < es.length := by omega
      simp only [Array.getElem_toList]
      exact ⟨⟨_, (hkey i h2 h1).1⟩, by rw [(hkey i h2 h1).2]; exact hk _ (List.getElem_mem h2)⟩
    refine (hrun g hg t.blk tm.blk ces clk (fun x hx => (hmem x hx).2) (by rw [hborns]; exact hnb) (fun x hx => (hmem x hx).1) (by simp only [maxLen]; omega) (by omega) w (hR.lt b t ht).1 hcell hces).mono ?_
    rintro e' w' ⟨v, ss, rfl, hperm, hrow, hnil, hbel⟩
    rw [hkeys] at hperm
    have hq := hq ss (perm_agg hperm)
    have hlen : ss.length = es.length := by
      have := hperm.length_eq
      simpa [keysG] using this
    by_cases hz : ss = []
    · obtain rfl := hnil.2 hz
      rw [colV, colH, if_pos hz, if_pos hz] at hq
      obtain ⟨hR', hE⟩ := hR.below hJ hD hbel
      exact ⟨_, rfl, r, _, hp, hq, hR', hE, .sliceNil⟩
    · rw [colV, colH, if_neg hz, if_neg hz] at hq
      rcases hrow.2 with ⟨rfl, hz'⟩ | ⟨gb, cap, cur, rfl, hbase, hgb, r1, r2, r3, r4⟩
      · exact absurd (List.eq_nil_of_length_eq_zero hz') hz
      · have hgl : gb < w'.heap.size := (Array.getElem?_eq_some_iff.1 hgb).1
        have hfl := flatI_len ss
        have hcells : ∀ r' : Ren, ∀ (i : Nat) (h1 : i < (flatI ss).length) (h2 : i < cur.size), VR r' (flatI ss)[i] cur[i] := by
          intro r' i h1 h2
          have h3 : (flatI ss)[i]? = cur[i]? := by
            rw [← r4, List.getElem?_take, if_pos (by omega), Array.getElem?_toList]
          rw [List.getElem?_eq_getElem h1, Array.getElem?_eq_getElem h2, Option.some.injEq] at h3
          rw [← h3]
          exact VR.closed (flatI_closed _ (List.getElem_mem h1))
        obtain ⟨hR', hE⟩ := hR.belowNew hJ hD hbel (.cells (flatI ss) 2 .rw) ⟨gb, cur.size, 2⟩ hbase hgl
          ⟨rfl, ⟨cur, et, (0, 0), hgb, rfl, by omega, hcells _, fun _ o _ ho => by omega, fun _ => rfl⟩, fun _ => Nat.le_trans hR.base hbase⟩
        refine ⟨_, rfl, _, _, _, hq, hR', hE, ?_⟩
        exact .slice (b := hp.next) (o := 0) (t := ⟨gb, cur.size, 2⟩) (Ren.upd_same _ _ _) ⟨by omega, fun he => by omega⟩ (by omega) (by simp; omega)
  · exact hs.elim

end Go.Abs

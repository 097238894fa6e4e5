/- Specs on abstract heaps, part 39: spaces that are compared, whichever they are. -/
import Derived.Test.YthhegdifbnghpaaGreatDoorVba
import Derived.Test.YthhegdifbnghpaaGreatDoorVat
import Derived.Test.YthhegdifbnghpaaGreatDoorVam
import Derived.Deep.Slices
import Derived.Test.YthhegdifbnghpaaGreatDoorVaw
import Derived.SizedLaws
import Derived.Test.YthhegdifbnghpaaGreatDoorVaz
import Derived.Test.YthhegdifbnghpaaGreatDoorVau
import Derived.Test.YthhegdifbnghpaaGreatDoorVav
import Derived.Test.YthhegdifbnghpaaGreatDoorVas
set_option linter.unusedSimpArgs false
set_option linter.unusedVariables false
namespace Go.Abs
open Go Go.Proofs
variable {E E1 : FE} {h h' : AHeap} {p q : V}
def txt (k : ByteArray) (g : List En) : ByteArray := match getE k g with | some (.string s) => s | _ => ⟨#[]⟩
end Go.Abs
namespace Go.Abs
open Go Go.RowKit
theorem rowAt_off {P : Program} {fits : TypeId → Bool} {d : Nat} {e : TypeId} {count off n : Nat} (h : rowAt P fits d e count off n = true) : off ≤ count * P.cellsOf e := by
 cases d with
 | zero => simp [rowAt] at h
 | succ d =>
  unfold rowAt at h
  simp only at h
  split at h
  · cases h
  · rename_i hs
    have hm := Nat.div_add_mod off (P.cellsOf e)
    have hl := Nat.mod_lt off (Nat.pos_of_ne_zero hs)
    rw [Bool.or_eq_true] at h
    rcases h with h | h
    · simp only [Bool.and_eq_true, beq_iff_eq, decide_eq_true_eq] at h
      have : P.cellsOf e * (off / P.cellsOf e) ≤ P.cellsOf e * count := Nat.mul_le_mul_left _ (by omega)
      rw [Nat.mul_comm count]
      omega
    · rw [Bool.and_eq_true, decide_eq_true_eq] at h
      have : P.cellsOf e * (off / P.cellsOf e + 1) ≤ P.cellsOf e * count := Nat.mul_le_mul_left _ (by omega)
      rw [Nat.mul_add, Nat.mul_one] at this
      rw [Nat.mul_comm count]
      omega
theorem lies_off {P : Program} : ∀ {d : Nat} {e : TypeId} {count off : Nat} {u : TypeId} {n : Nat}, liesAt P d e count off u n = true → off ≤ count * P.cellsOf e
 | 0, _, _, _, _, _, h => by simp [liesAt] at h
 | d + 1, e, count, off, u, n, h => by
  unfold liesAt at h
  rw [Bool.or_eq_true] at h
  rcases h with h | h
  · exact rowAt_off h
  · split at h
    · exact lies_off h
    · cases h
theorem okWide_slice_at {P : Program} {w : World} {base : Nat} {t e : TypeId} {a : Addr} {len cap : Nat} (ht : P.underlying t = some (.slice e)) (h : Value.okWide P w .any base t (.slice (some a) len cap)) :
 a.spot = none ∧ ∃ cc el fr, w.heap[a.block]? = some (.cells cc el fr) ∧ a.off ≤ cc.size := by
 simp only [Value.okWide, ht, Cell.okWide] at h
 have h' : w.has P .any base a e cap := by
  simp only [Cell.ok, ht] at h
  first | exact h | exact h.2 | exact h.2.2 | exact h.1 | exact h.2.1
 obtain ⟨_, hs, row, cells, hsh, hl⟩ := h'
 refine ⟨hs, ?_⟩
 unfold World.shape? at hsh
 split at hsh
 · rename_i c el fr hb
   simp only [Option.some.injEq, Prod.mk.injEq] at hsh
   obtain ⟨rfl, rfl⟩ := hsh
   refine ⟨c, _, fr, hb, Nat.le_trans (lies_off hl) (Nat.div_mul_le_self _ _)⟩
 · cases hsh
theorem R.ofNil {J : World → Prop} {W : World} (hJ : J W) (es : Nat) :
 ∃ r h v, R J W.heap.size r h W ∧ VR r v (.slice none 0 0) ∧ Ro h.next h v es 0 [] :=
 ⟨fun _ => none, ⟨fun _ => none, 0⟩, .slice none 0 0, ⟨Nat.le_refl _, fun _ _ h => (by cases h), fun _ _ h => (by cases h), fun _ _ _ _ _ _ h => (by cases h), hJ⟩, .sliceNil, by simp, Nat.le_refl _, .inl ⟨rfl, rfl⟩⟩
theorem SoundF.callsR {P : Program} {J : World → Prop} {f : FuncId} {s : Spec} (hs : SoundF P J f s) (hcall : ∀ (args : Array V) (w : World), (callFunc f args).run P w = .ok (.enter f args) w)
 {w : World} (hJ : Stays J w.heap.size) {r : Ren} {h : AHeap} (hR : R J w.heap.size r h w) {l : List V} {l' : Array V} (hl : VRl r l l'.toList) {v0 : V} (h0 : closedV v0 = true) (hq : s l h fun v _ => v = v0) :
 Calls P f l' w fun e w' => e = .returned v0 ∧ Below w.heap.size w w' := by
 obtain ⟨n, w1, h1, h2⟩ := hs _ hJ _ _ w l l' _ hq hR hl
 rw [hcall] at h1
 cases h1
 refine Calls.mono h2 ?_
 rintro e w' ⟨v', rfl, r', v, h', rfl, hR', hE, hv⟩
 exact ⟨by rw [VR.eq_of_closed h0 hv], hE.below hR⟩
end Go.Abs
namespace Go.Abs
open Go Go.RowKit
def qField (i : Nat) : TypeDesc := if i = 0 ∨ i = 4 then .int .i64 else .string
theorem open_oq {H : Type} {enc : TypeId × Value → H} {P : Program} {w : World} {base : Nat} {spare : Nat → Bool} {held : Bool} {fuel : Nat} {e : TypeId} {fs : Array Field} {cs : List V} {x : DataW H × List MemPlace}
 (he : P.underlying e = some (.struct fs)) (ce : P.cellsOf e = 5) (hf : ∀ i, i < 5 → ∃ f, fs[i]? = some f ∧ f.offset = i ∧ P.cellsOf f.type = 1 ∧ P.underlying f.type = some (qField i)) (hn : fs.size = 5)
 (h : DataW.trod enc P w base spare held fuel e cs = some x) : ∃ o : Oq, cs = o.cells ∧ (o.key.size ≤ maxLen ∧ o.val.size ≤ maxLen) ∧ ∀ R, (∀ n ∈ x.1.weights P e, n ≤ R) → o.key.size ≤ R ∧ o.val.size ≤ R := by
 obtain ⟨xs, n, _, hx1, hl, hxs, hr⟩ := DataW.trod_struct he h
 rw [ce] at hl
 have get : ∀ i, i < 5 → ∃ v y, cs[i]? = some v ∧ xs[i]? = some y ∧ ∃ f : Field, fs[i]? = some f ∧ P.underlying f.type = some (qField i) ∧ DataW.trod enc P w base spare held n f.type [v] = some y := by
  intro i hi
  obtain ⟨f, h1, h2, h3, h4⟩ := hf i hi
  have h5 := hr i f h1
  rw [h2, h3] at h5
  have hci : i < cs.length := by omega
  have hxi : i < xs.length := by omega
  refine ⟨cs[i], xs[i], List.getElem?_eq_getElem hci, List.getElem?_eq_getElem hxi, f, h1, h4, ?_⟩
  have h6 : (cs.drop i).take 1 = [cs[i]] := by rw [List.drop_eq_getElem_cons hci]; rfl
  rw [h6] at h5
  rw [h5, List.getElem?_eq_getElem hxi]
 have int : ∀ i, i < 5 → qField i = .int .i64 → ∃ m : Int, cs[i]? = some (i64 m) := by
  intro i hi ho
  obtain ⟨v, y, h1, _, f, _, h2, h3⟩ := get i hi
  rw [ho] at h2
  obtain ⟨m, h4, _⟩ := DataW.trod_int h2 h3
  simp only [List.cons.injEq, and_true] at h4
  exact ⟨m, by rw [h1, h4]⟩
 have txt : ∀ i, i < 5 → qField i = .string → ∃ s : ByteArray, cs[i]? = some (str s) ∧ s.size ≤ maxLen ∧ ∀ R, (∀ n ∈ x.1.weights P e, n ≤ R) → s.size ≤ R := by
  intro i hi ho
  obtain ⟨v, y, h1, hy, f, hff, h2, h3⟩ := get i hi
  rw [ho] at h2
  obtain ⟨m, h4, hyv, h5⟩ := DataW.trod_string h2 h3
  simp only [List.cons.injEq, and_true] at h4
  refine ⟨m, by rw [h1, h4], h5, fun R hR => ?_⟩
  have hlen : m.data.toList.length = m.size := by rw [Array.length_toList]; rfl
  rw [← hlen]
  refine hR _ ?_
  rw [hx1]
  simp only [DataW.weights, he]
  refine DataW.weights_mem_each (j := i) (t := f.type) (d := .lit (.string m.data.toList)) ?_ ?_ _ (by simp [DataW.weights])
  · rw [List.getElem?_map, Array.getElem?_toList, hff]; rfl
  · rw [List.getElem?_map, hy, hyv]; rfl
 obtain ⟨a0, e0⟩ := int 0 (by decide) rfl
 obtain ⟨a1, e1, _⟩ := txt 1 (by decide) rfl
 obtain ⟨a2, e2, z2, w2⟩ := txt 2 (by decide) rfl
 obtain ⟨a3, e3, z3, w3⟩ := txt 3 (by decide) rfl
 obtain ⟨a4, e4⟩ := int 4 (by decide) rfl
 refine ⟨⟨a0, a1, a2, a3, a4⟩, ?_, ⟨z2, z3⟩, fun R hR => ⟨w2 R hR, w3 R hR⟩⟩
 match cs, hl with
 | [c0, c1, c2, c3, c4], _ =>
  simp only [List.getElem?_cons_zero, List.getElem?_cons_succ, Option.some.injEq] at e0 e1 e2 e3 e4
  simp [Oq.cells, e0, e1, e2, e3, e4]
def Oqs (N : Nat) (h : AHeap) (v : V) (l : List Oq) : Prop := Ro N h v 5 l.length (l.flatMap Oq.cells)
theorem oqs_cells : ∀ (l : List Oq) (i : Nat) (o : Oq), l[i]? = some o → ∀ j, j < 5 → (l.flatMap Oq.cells)[i * 5 + j]? = o.cells[j]?
 | [], i, o, h, _, _ => by simp at h
 | a :: l, 0, o, h, j, hj => by
  simp only [List.getElem?_cons_zero, Option.some.injEq] at h
  subst h
  rw [List.flatMap_cons, List.getElem?_append_left (by simp [Oq.cells]; omega)]
  simp
 | a :: l, i + 1, o, h, j, hj => by
  rw [List.getElem?_cons_succ] at h
  rw [List.flatMap_cons, List.getElem?_append_right (by simp [Oq.cells]; omega), ← oqs_cells l i o h j hj]
  congr 1
  simp [Oq.cells]
  omega
end Go.Abs
namespace Go.Abs
open Go Go.Proofs
variable {E E0 E1 : FE} {h h' : AHeap} {p : V}
def SpSt.kind : SpSt → Int
 | .tab _ => 1
 | .qu .. => 2
 | .to .. => 3
theorem SpS.lt {S : SpSt} {fp : List Nat} (s : SpS h fp p S) : ∀ x ∈ fp, x < h.next := by
 obtain ⟨pt, s⟩ := s
 exact s.lt
theorem SpS.same {S : SpSt} {fp : List Nat} (s : SpS h fp p S) (hl : h.next ≤ h'.next) (hs : ∀ x ∈ fp, h'.get x = h.get x) : SpS h' fp p S := by
 obtain ⟨pt, s⟩ := s
 exact ⟨pt, s.same hl hs⟩
end Go.Abs
namespace Go.Abs
open Go Go.Proofs
variable {E E1 : FE} {h h' : AHeap} {p q : V} {fa fb : List Nat} {k : Nat}
theorem Prs.agg {v : V} {l : List Pr} {fp : List Nat} (c : Prs h fp v l) {i : Nat} {q : Pr} (hi : l[i]? = some q) :
 ∃ b, indexAddrD (.slice 3) v (i64 i) = some (ptr b (i * 3)) ∧ ldD (.agg 3) (ptr b (i * 3)) h = some q.agg := by
 have hil : i < l.length := (List.getElem?_eq_some_iff.1 hi).1
 have hq : l[i] = q := (List.getElem?_eq_some_iff.1 hi).2
 obtain ⟨h0, ⟨rfl, h1, rfl⟩ | ⟨b, cp, all, rfl, rfl, hb, hc, h2, h3, h4⟩⟩ := c
 · omega
 have hall : l.length * 3 ≤ all.length := Nat.le_trans (Nat.mul_le_mul_right _ hc) h3
 have b1 : (0 : Int) ≤ (i : Int) ∧ (i : Int) < (l.length : Nat) := by omega
 refine ⟨b, by simp only [indexAddrD, if_pos b1, Int.toNat_natCast, Nat.zero_add], ?_⟩
 have hrow : (all.drop (i * 3)).take 3 = q.cells := by
  have e := fm_drop Pr.cells 3 prc_len l i
  rw [List.drop_eq_getElem_cons hil, List.flatMap_cons, hq, ← h4, List.drop_take] at e
  have e2 := congrArg (List.take 3) e
  rw [List.take_take, Nat.min_eq_left (by omega)] at e2
  rw [e2]
  rfl
 rw [ld_agg, rdN_of h2, if_pos (by omega), hrow]
 rfl
end Go.Abs
namespace Go.Abs
open Go Go.Proofs
variable {E E0 E1 : FE} {h h' : AHeap} {p q : V} {k : Nat}
def Ints (N : Nat) (h : AHeap) (v : V) (l : List Int) : Prop := Ro N h v 1 l.length (l.map i64)
theorem Ints.row {N : Nat} {v : V} {l : List Int} (s : Ints N h v l) {i : Nat} {x : Int} (hi : l[i]? = some x) : ∃ b off, indexAddrD (.slice 1) v (i64 i) = some (ptr b off) ∧ h.rd b off = some (i64 x) := by
 obtain ⟨hlt, hx⟩ := List.getElem?_eq_some_iff.1 hi
 obtain ⟨b, off, e, hr⟩ := Ro.at s hlt
 refine ⟨b, off, e, ?_⟩
 have := hr 0 (by decide)
 rw [Nat.add_zero] at this
 rw [this]
 simp [hi]
end Go.Abs
namespace Go.Abs
open Go
/-! ### Lists of pairs as maps -/
section
variable {κ α : Type} [DecidableEq κ]
def lkp (k : κ) : List (κ × α) → Option α
 | [] => none
 | (a, v) :: l => if a = k then some v else lkp k l
def ins (k : κ) (v : α) : List (κ × α) → List (κ × α)
 | [] => [(k, v)]
 | (a, u) :: l => if a = k then (k, v) :: l else (a, u) :: ins k v l
@[simp] theorem lkp_ins (k k' : κ) (v : α) : ∀ l : List (κ × α), lkp k (ins k' v l) = if k' = k then some v else lkp k l
 | [] => by simp [ins, lkp]
 | (a, u) :: l => by
  simp only [ins]
  by_cases h : a = k'
  · subst h
    simp only [if_true, lkp]
    split <;> rfl
  · simp only [if_neg h, lkp, lkp_ins k k' v l]
    by_cases h2 : a = k
    · subst h2
      have : ¬ k' = a := fun e => h e.symm
      simp [this]
    · simp [h2]
def keysL (l : List (κ × α)) : List κ := l.map (·.1)
theorem lkp_none {k : κ} : ∀ {l : List (κ × α)}, lkp k l = none ↔ k ∉ keysL l
 | [] => by simp [lkp, keysL]
 | (a, u) :: l => by
  simp only [lkp, keysL, List.map_cons, List.mem_cons, not_or]
  by_cases h : a = k
  · simp [h]
  · simp only [if_neg h, lkp_none (l := l), keysL]
    exact ⟨fun hh => ⟨fun e => h e.symm, hh⟩, fun hh => hh.2⟩
theorem lkp_mem {k : κ} {v : α} : ∀ {l : List (κ × α)}, lkp k l = some v → (k, v) ∈ l
 | [], h => by simp [lkp] at h
 | (a, u) :: l, h => by
  simp only [lkp] at h
  split at h
  · rename_i e; cases h; subst e; simp
  · exact List.mem_cons_of_mem _ (lkp_mem h)
theorem lkp_of {k : κ} {v : α} : ∀ {l : List (κ × α)}, (keysL l).Nodup → (k, v) ∈ l → lkp k l = some v
 | [], _, h => by simp at h
 | (a, u) :: l, hn, h => by
  simp only [keysL, List.map_cons, List.nodup_cons] at hn
  simp only [lkp]
  rcases List.mem_cons.1 h with h | h
  · cases h; simp
  · have : a ≠ k := fun e => hn.1 (e ▸ List.mem_map.2 ⟨(k, v), h, rfl⟩)
    rw [if_neg this]
    exact lkp_of hn.2 h
theorem keys_ins (k : κ) (v : α) : ∀ l : List (κ × α), keysL (ins k v l) = if lkp k l = none then keysL l ++ [k] else keysL l
 | [] => by simp [ins, keysL, lkp]
 | (a, u) :: l => by
  simp only [ins, lkp]
  by_cases h : a = k
  · simp [h, keysL]
  · have := keys_ins k v l
    simp only [if_neg h, keysL, List.map_cons] at *
    rw [this]
    split <;> rfl
theorem nodup_ins {k : κ} {v : α} {l : List (κ × α)} (h : (keysL l).Nodup) : (keysL (ins k v l)).Nodup := by
 rw [keys_ins]
 split
 · rename_i hg
   have := lkp_none.1 hg
   rw [List.nodup_append]
   refine ⟨h, by simp, ?_⟩
   intro a ha b hb
   simp at hb
   subst hb
   exact fun e => this (e ▸ ha)
 · exact h
theorem ins_new {k : κ} {v : α} : ∀ {l : List (κ × α)}, lkp k l = none → ins k v l = l ++ [(k, v)]
 | [], _ => rfl
 | (a, u) :: l, h => by
  simp only [lkp] at h
  split at h
  · cases h
  · rename_i hk; simp only [ins, if_neg hk, ins_new h]; rfl
omit [DecidableEq κ] in
theorem keys_perm {l l' : List (κ × α)} (p : l.Perm l') : (keysL l).Perm (keysL l') := List.Perm.map Prod.fst p
theorem lkp_perm {l l' : List (κ × α)} (p : l.Perm l') (hn : (keysL l).Nodup) (k : κ) : lkp k l = lkp k l' := by
 have hn' : (keysL l').Nodup := (keys_perm p).nodup_iff.1 hn
 cases h : lkp k l with
 | some v => exact (lkp_of hn' (p.mem_iff.1 (lkp_mem h))).symm
 | none =>
  symm
  rw [lkp_none] at h ⊢
  exact fun hm => h ((keys_perm p).mem_iff.2 hm)
theorem perm_of_lkp {l l' : List (κ × α)} (hn : (keysL l).Nodup) (hn' : (keysL l').Nodup) (h : ∀ k, lkp k l = lkp k l') : l.Perm l' := by
 refine (List.perm_ext_iff_of_nodup (nodup_of_map hn) (nodup_of_map hn')).2 fun ⟨k, v⟩ => ⟨fun hm => ?_, fun hm => ?_⟩
 · exact lkp_mem ((h k).symm.trans (lkp_of hn hm))
 · exact lkp_mem ((h k).trans (lkp_of hn' hm))
theorem ins_perm {l l' : List (κ × α)} (p : l.Perm l') (hn : (keysL l).Nodup) (k : κ) (v : α) : (ins k v l).Perm (ins k v l') :=
 perm_of_lkp (nodup_ins hn) (nodup_ins ((keys_perm p).nodup_iff.1 hn)) fun x => by rw [lkp_ins, lkp_ins, lkp_perm p hn]
end
/-! ### Operations that may be; what they lock -/
def smallT (s : ByteArray) : Bool := s.data.toList.all fun c => decide (97 ≤ c.toNat) && decide (c.toNat ≤ 122)
def namesO (fn : Int) : Bool × Bool × Bool :=
 if fn = 1 ∨ fn = 8 ∨ fn = 11 then (true, false, true)
 else if fn = 3 ∨ fn = 5 then (true, false, false)
 else if fn = 4 then (true, true, false)
 else if fn = 6 ∨ fn = 10 then (false, true, false)
 else if fn = 7 then (false, false, true)
 else if fn = 12 then (true, true, true)
 else (false, false, false)
def digitK (s : ByteArray) : Bool := match s.data.toList with | [c] => decide (49 ≤ c.toNat) && decide (c.toNat ≤ 57) | _ => false
def makesO (o : Oq) : Bool := decide (1 ≤ o.n) && decide (o.n ≤ 3) && (digitK o.key || (decide (o.key.size = 0) && decide (o.n ≠ 2)))
def mayO (o : Oq) : Bool :=
 decide (1 ≤ o.fn) && decide (o.fn ≤ 12) && decide (1 ≤ o.space.size) && decide (o.space.size ≤ 20) && smallT o.space &&
 decide (o.key.size ≤ 20) && decide (o.val.size ≤ 100) && decide (0 ≤ o.n) && decide (o.n ≤ 1099511627776) &&
 ((namesO o.fn).1 || decide (o.key.size = 0)) && ((namesO o.fn).2.1 || decide (o.val.size = 0)) && ((namesO o.fn).2.2 || decide (o.n = 0)) &&
 (decide (o.fn ≠ 1) || makesO o)
def allO (l : List Oq) : Bool := decide (1 ≤ l.length) && decide (l.length ≤ 8) && l.all mayO
def lockOf (o : Oq) : KeyM := if 3 ≤ o.fn ∧ o.fn ≤ 5 then ⟨o.space, o.key, false⟩ else ⟨o.space, ⟨#[]⟩, true⟩
def meetK (a b : KeyM) : Bool := decide (a.space = b.space) && (a.all || b.all || decide (a.key = b.key))
/-! ### A vault -/
structure PartM where
 ops : List Oq
 vals : List ByteArray
 now : Int
 view : List (ByteArray × Option SpM)
structure VltM where
 sp : List (ByteArray × SpM)
 lk : List (KeyM × IdM)
 pt : List (IdM × PartM)
 ov : List IdM
def SpM.new (kind most : Int) : SpM := ⟨⟨#[]⟩, kind, [], max 1 (min most 9), [], [], 1⟩
end Go.Abs
namespace Go.Abs
open Go
theorem decode_lo {s : ByteArray} {i : Nat} (h : (s.get! i).toNat < 128) : Utf8.decode s i = ((s.get! i).toNat, 1) := by
 unfold Utf8.decode
 simp only [Nat.add_zero]
 rw [if_pos h]
theorem decode_hi {s : ByteArray} {i : Nat} (h : 128 ≤ (s.get! i).toNat) : 128 ≤ (Utf8.decode s i).1 := by
 have hr : 128 ≤ Utf8.runeError := by decide
 unfold Utf8.decode
 simp only [Nat.add_zero]
 rw [if_neg (by omega)]
 split
 · split
   · assumption
   · exact hr
 · split
   · split
     · rename_i hc
       simp only [ge_iff_le, Bool.and_eq_true, decide_eq_true_eq] at hc
       show 128 ≤ _
       omega
     · exact hr
   · split
     · split
       · rename_i hc
         simp only [ge_iff_le, Bool.and_eq_true, decide_eq_true_eq] at hc
         show 128 ≤ _
         omega
       · exact hr
     · exact hr
theorem get_data (s : ByteArray) {i : Nat} (h : i < s.size) : s.data.toList[i]? = some (s.get! i) := by
 have h1 : i < s.data.toList.length := by rw [Array.length_toList]; exact h
 rw [List.getElem?_eq_getElem h1]
 congr 1
 show s.data.toList[i] = s.data[i]!
 rw [getElem!_pos s.data i h]
 simp
def small1 (c : UInt8) : Bool := decide (97 ≤ c.toNat) && decide (c.toNat ≤ 122)
theorem smallT_eq (s : ByteArray) : smallT s = s.data.toList.all small1 := rfl
theorem rune_small {s : ByteArray} {i : Nat} : (97 ≤ (Utf8.decode s i).1 ∧ (Utf8.decode s i).1 ≤ 122) ↔ small1 (s.get! i) = true := by
 simp only [small1, Bool.and_eq_true, decide_eq_true_eq]
 by_cases h : (s.get! i).toNat < 128
 · rw [decode_lo h]
 · have := decode_hi (s := s) (i := i) (by omega)
   omega
theorem small_step {s : ByteArray} {i : Nat} (h : small1 (s.get! i) = true) : (Utf8.decode s i).2 = 1 := by
 simp only [small1, Bool.and_eq_true, decide_eq_true_eq] at h
 rw [decode_lo (by omega)]
end Go.Abs
namespace Go.Abs
open Go
variable {E : FE} {h : AHeap} {fp : List Nat} {v : V}
def dOp : EL Oq := ⟨5, Oq.cells, fun _ => rfl, fun _ => rfl, by decide⟩
theorem op_names (f : Int) : cl (F.op_names E) [i64 f] h fun r h' => r = .tuple #[.bool (namesO f).1, .bool (namesO f).2.1, .bool (namesO f).2.2] ∧ h' = h := by
 refine cl_of ?_
 simp only [F.op_names, bin_eql, kv_some]
 refine ⟨fun vs h' => vs = [.bool (decide (f = 1 ∨ f = 8 ∨ f = 11))] ∧ h' = h, ?_, ?_⟩
 · by_cases q1 : f = 1 <;> by_cases q2 : f = 8 <;> by_cases q3 : f = 11 <;> simp [q1, q2, q3, ifV_bool]
 rintro e1 h1 ⟨he, rfl⟩
 simp only [List.cons.injEq, and_true] at he
 simp only [he, ifV_bool, decide_eq_true_eq, namesO]
 by_cases q1 : f = 1 ∨ f = 8 ∨ f = 11
 · simp [q1]
 simp only [q1, if_false]
 refine ⟨fun vs h' => vs = [.bool (decide (f = 3 ∨ f = 5))] ∧ h' = h1, ?_, ?_⟩
 · by_cases q2 : f = 3 <;> by_cases q3 : f = 5 <;> simp [q2, q3, ifV_bool]
 rintro e2 h2 ⟨he, rfl⟩
 simp only [List.cons.injEq, and_true] at he
 simp only [he, ifV_bool, decide_eq_true_eq]
 by_cases q3 : f = 3 ∨ f = 5
 · simp [q3]
 simp only [q3, if_false, beq_iff_eq]
 by_cases q4 : f = 4
 · simp [q4]
 simp only [q4, if_false]
 refine ⟨fun vs h' => vs = [.bool (decide (f = 6 ∨ f = 10))] ∧ h' = h2, ?_, ?_⟩
 · by_cases q5 : f = 6 <;> by_cases q6 : f = 10 <;> simp [q5, q6, ifV_bool]
 rintro e3 h3 ⟨he, rfl⟩
 simp only [List.cons.injEq, and_true] at he
 simp only [he, ifV_bool, decide_eq_true_eq]
 by_cases q5 : f = 6 ∨ f = 10
 · simp [q5]
 simp only [q5, if_false, beq_iff_eq]
 by_cases q6 : f = 7
 · simp [q6]
 simp only [q6, if_false]
 by_cases q7 : f = 12 <;> simp [q7]
theorem ba_nil {s : ByteArray} : s = ⟨#[]⟩ ↔ s.size = 0 := by
 obtain ⟨⟨l⟩⟩ := s
 show (⟨⟨l⟩⟩ : ByteArray) = ⟨⟨[]⟩⟩ ↔ l.length = 0
 cases l <;> simp
theorem str_nil (k : EqK) (c : Bool) (s : ByteArray) : binD k .eql c (str s) (.string ⟨#[]⟩) h = some (.bool (decide (s.size = 0))) := by
 rw [str_eql]
 congr 2
 exact decide_eq_decide.2 ba_nil
theorem str_nonnil (k : EqK) (c : Bool) (s : ByteArray) : binD k .neq c (str s) (.string ⟨#[]⟩) h = some (.bool (!decide (s.size = 0))) := by
 rw [str_neq]
 congr 2
 rw [decide_eq_decide.2 ba_nil]
theorem index_str (s : ByteArray) (i : Nat) (hi : i < s.size) : indexD .str (str s) (i64 i) = some (.int .u8 (s.get! i).toNat) := by
 have h1 : s[i]? = some (s.get! i) := by
  rw [getElem?_pos s i hi]
  congr 1
  show s.data[i] = s.data[i]!
  rw [getElem!_pos s.data i hi]
 simp only [indexD, if_pos (show (0 : Int) ≤ i by omega), Int.toNat_natCast, h1]
theorem digit_eq {s : ByteArray} (hs : s.size = 1) : digitK s = (decide (49 ≤ (s.get! 0).toNat) && decide ((s.get! 0).toNat ≤ 57)) := by
 obtain ⟨⟨l⟩⟩ := s
 match l, hs with
 | [c], _ => rfl
theorem digit_no {s : ByteArray} (hs : s.size ≠ 1) : digitK s = false := by
 obtain ⟨⟨l⟩⟩ := s
 match l, hs with
 | [], _ => rfl
 | [c], hs => exact absurd rfl hs
 | _ :: _ :: _, _ => rfl
theorem op_makes (o : Oq) : cl (F.op_makes E) [o.agg] h fun r h' => r = .bool (makesO o) ∧ Mod h [] h' [] := by
 refine cl_of ?_
 simp only [F.op_makes, new5, kP_some]
 generalize hh : h.new (.cells o.cells 5 .rw) = h1
 have m1 : Mod h [] h1 [] := by
  rw [← hh]
  exact ⟨by simp, fun x hx _ => by have : x ≠ h.next := by omega
                                   simp [this], by simp, by simp⟩
 have g : h1.get h.next = some (.cells o.cells 5 .rw) := by rw [← hh]; simp
 have r4 : h1.rd h.next 4 = some (i64 o.n) := rd_of g 4
 have r2 : h1.rd h.next 2 = some (str o.key) := rd_of g 2
 have ln : ∀ (x : ByteArray) (h : AHeap), lenD .str (str x) h = some (i64 (x.size : Nat)) := fun _ _ => rfl
 have hsn : aStr .eql o.key ⟨#[]⟩ = some (.bool (decide (o.key.size = 0))) := str_nil (h := h1) .bad true o.key
 by_cases n1 : o.n < 1
 · have e : makesO o = false := by simp [makesO, show ¬ 1 ≤ o.n by omega]
   simp [r4, r2, ln, n1, e, pickV_bool, ifV_bool, m1, gdV_bool]
 by_cases n3 : o.n > 3
 · have e : makesO o = false := by simp [makesO, show ¬ o.n ≤ 3 by omega]
   simp [r4, r2, ln, n1, n3, e, pickV_bool, ifV_bool, m1, gdV_bool, bin_gtr]
 have n3' : ¬ 3 < o.n := by omega
 by_cases k1 : o.key.size = 1
 · have hb : ((o.key.size : Nat) : Int) = 1 := by omega
   have hi := index_str o.key 0 (by omega)
   have hi : indexD .str (str o.key) (.int .i64 0) = _ := hi
   have k0 : ¬ o.key.size = 0 := by omega
   have e : makesO o = (decide (49 ≤ (o.key.get! 0).toNat) && decide ((o.key.get! 0).toNat ≤ 57)) := by
    simp [makesO, digit_eq k1, show 1 ≤ o.n by omega, show o.n ≤ 3 by omega, k0]
   rw [e]
   by_cases c1 : 49 ≤ (o.key.get! 0).toNat
   · have c1' : (49 : Int) ≤ (((o.key.get! 0).toNat : Nat) : Int) := by omega
     by_cases c2 : (o.key.get! 0).toNat ≤ 57
     · have c2' : (((o.key.get! 0).toNat : Nat) : Int) ≤ 57 := by omega
       simp [r4, r2, ln, n1, n3', hb, hi, c1, c2, c1', c2', gdV_bool, pickV_bool, m1]
     · have c2' : ¬ (((o.key.get! 0).toNat : Nat) : Int) ≤ 57 := by omega
       simp [r4, r2, ln, n1, n3', hb, hi, c1, c2, c1', c2', gdV_bool, pickV_bool, m1, k0, hsn]
   · have c1' : ¬ (49 : Int) ≤ (((o.key.get! 0).toNat : Nat) : Int) := by omega
     simp [r4, r2, ln, n1, n3', hb, hi, c1, c1', gdV_bool, pickV_bool, m1, k0, hsn]
 · have hb : ¬ ((o.key.size : Nat) : Int) = 1 := by omega
   have e : makesO o = (decide (o.key.size = 0) && decide (o.n ≠ 2)) := by
    simp [makesO, digit_no k1, show 1 ≤ o.n by omega, show o.n ≤ 3 by omega]
   rw [e]
   by_cases k0 : o.key.size = 0 <;> by_cases n2 : o.n = 2 <;> simp [r4, r2, ln, n1, n3', hb, gdV_bool, pickV_bool, k0, n2, m1, bin_neq, hsn]
end Go.Abs
namespace Go.Abs
open Go
variable {E : FE} {h : AHeap} {fp : List Nat} {v : V}
theorem op_May_1 (r : Int) : cl (F.op_May_1 E) [.int .i32 r] h fun x h' => x = .bool (!(decide (97 ≤ r) && decide (r ≤ 122))) ∧ h' = h := by
 refine cl_of ?_
 by_cases h1 : r < 97
 · simp [F.op_May_1, h1, show ¬ 97 ≤ r by omega, gdV_bool, pickV_bool]
 · by_cases h2 : 122 < r
   · simp [F.op_May_1, h1, h2, show ¬ r ≤ 122 by omega, gdV_bool, pickV_bool]
   · simp [F.op_May_1, h1, h2, show r ≤ 122 by omega, show 97 ≤ r by omega, gdV_bool, pickV_bool]
theorem smallT_of {s : ByteArray} (hs : ∀ i, i < s.size → small1 (s.get! i) = true) : smallT s = true := by
 rw [smallT_eq, List.all_eq_true]
 intro c hc
 obtain ⟨i, hi, rfl⟩ := List.mem_iff_getElem.1 hc
 have hi' : i < s.size := by rw [Array.length_toList] at hi; exact hi
 have := get_data s hi'
 rw [List.getElem?_eq_getElem hi, Option.some.injEq] at this
 rw [this]
 exact hs i hi'
theorem smallT_not {s : ByteArray} {i : Nat} (hi : i < s.size) (hn : small1 (s.get! i) = false) : smallT s = false := by
 have h1 := get_data s hi
 cases hc : smallT s with
 | false => rfl
 | true =>
  rw [smallT_eq, List.all_eq_true] at hc
  have := hc _ (List.mem_of_getElem? h1)
  rw [hn] at this
  cases this
theorem contains_small {E1 : FE} (hM : MonoI E.I) (hE : E.I (E.k 7) = some (cl (F.op_May_1 E1))) (s : ByteArray) (hsz : s.size ≤ maxLen) :
 cl (F.strings_ContainsFunc E) [str s, .func (.func (E.k 7)) #[] #[]] h fun r h' => r = .bool (!smallT s) ∧ Mod h [] h' [] := by
 refine cl_of ?_
 simp only [F.strings_ContainsFunc]
 suffices hi : cl (F.strings_IndexFunc E) [str s, .func (.func (E.k 7)) #[] #[]] h fun r h' => ∃ k : Int, r = i64 k ∧ (0 ≤ k ↔ smallT s = false) ∧ Mod h [] h' [] by
  refine cl_then hi ?_
  rintro r h1 ⟨k, rfl, hk, m⟩
  simp only [bin_geq, kv_some]
  refine ⟨?_, m⟩
  congr 1
  cases hs : smallT s with
  | true =>
   have : ¬ 0 ≤ k := fun hh => by rw [hk, hs] at hh; cases hh
   simp [this]
  | false =>
   have : 0 ≤ k := hk.2 hs
   simp [this]
 refine cl_of ?_
 simp only [F.strings_IndexFunc]
 suffices hi : cl (F.strings_indexFunc E) [str s, .func (.func (E.k 7)) #[] #[], .bool true] h fun r h' => ∃ k : Int, r = i64 k ∧ (0 ≤ k ↔ smallT s = false) ∧ Mod h [] h' [] by
  exact cl_then hi fun r h1 hh => hh
 refine cl_of ?_
 have er : rangeD .str (str s) h = some (ptr h.next 0, h.new (.siter s 0)) := rfl
 simp only [F.strings_indexFunc, er, kP_some]
 refine ⟨fun n vs h' => ∃ pos : Nat, n = s.size - pos ∧ pos ≤ s.size ∧ h'.get h.next = some (.siter s pos) ∧ (∀ i, i < pos → small1 (s.get! i) = true) ∧ Mod h [] h' [] ∧ h.next < h'.next, s.size,
  ⟨0, by omega, by omega, by simp, by simp, Mod.newBox (by simp), by simp⟩, ?_⟩
 rintro n e h1 ⟨pos, rfl, hp, hg, hs, m1, hn1⟩
 unfold aNext
 simp only [hg]
 by_cases hlt : pos < s.size
 · rw [if_pos hlt]
   generalize hd : Utf8.decode s pos = d
   have hput : Mod h [] (h1.put h.next (.siter s (pos + d.2))) [] := ⟨by simpa using m1.next, fun x hx _ => by
    have : x ≠ h.next := by omega
    simp [this, m1.same x hx (by simp)], by simp, by simp⟩
   simp only [extract_tuple, List.getElem?_toArray, List.getElem?_cons_zero, List.getElem?_cons_succ, kv_some, ifV_bool, if_true]
   unfold aCall
   simp only [hE]
   refine cl_then (op_May_1 _) ?_
   rintro r h2 ⟨rfl, rfl⟩
   have hr := @rune_small s pos
   rw [hd] at hr
   simp only [bin_bool_eq, kv_some, ifV_bool]
   by_cases hsm : small1 (s.get! pos) = true
   · have h3 := hr.2 hsm
     have h4 : (97 : Int) ≤ (d.1 : Int) ∧ (d.1 : Int) ≤ 122 := by omega
     have hst := small_step hsm
     rw [hd] at hst
     simp only [h4.1, h4.2, decide_true, Bool.and_self, Bool.not_true, Bool.false_eq_true, beq_iff_eq, if_false]
     refine ⟨s.size - (pos + 1), by omega, pos + 1, rfl, by omega, by simp [hst], fun i hi => ?_, hput, by simpa using hn1⟩
     by_cases hip : i = pos
     · rw [hip]; exact hsm
     · exact hs i (by omega)
   · have h4 : (decide ((97 : Int) ≤ (d.1 : Int)) && decide ((d.1 : Int) ≤ 122)) = false := by
      cases hb : (decide ((97 : Int) ≤ (d.1 : Int)) && decide ((d.1 : Int) ≤ 122)) with
      | false => rfl
      | true =>
       simp only [Bool.and_eq_true, decide_eq_true_eq] at hb
       exact absurd (hr.1 (by omega)) hsm
     simp only [h4, Bool.not_false, beq_self_eq_true, if_true]
     refine ⟨pos, rfl, ⟨fun _ => smallT_not hlt (by simpa using hsm), fun _ => by omega⟩, hput⟩
 · rw [if_neg hlt]
   simp only [extract_tuple, List.getElem?_toArray, List.getElem?_cons_zero, kv_some, ifV_bool, Bool.false_eq_true, if_false]
   refine ⟨-1, rfl, ⟨fun hh => by omega, fun hh => ?_⟩, m1⟩
   rw [smallT_of fun i hi => hs i (by omega)] at hh
   cases hh
def bad1 (o : Oq) : Bool := !(decide (1 ≤ o.fn) && decide (o.fn ≤ 12)) || !(decide (1 ≤ o.space.size) && decide (o.space.size ≤ 20) && smallT o.space)
def bad2 (o : Oq) : Bool := !(decide (o.key.size ≤ 20) && decide (o.val.size ≤ 100) && decide (0 ≤ o.n) && decide (o.n ≤ 1099511627776))
def bad3 (o : Oq) : Bool := !(((namesO o.fn).1 || decide (o.key.size = 0)) && ((namesO o.fn).2.1 || decide (o.val.size = 0)) && ((namesO o.fn).2.2 || decide (o.n = 0)))
theorem mayO_eq (o : Oq) : mayO o = (!bad1 o && !(bad2 o || bad3 o) && (decide (o.fn ≠ 1) || makesO o)) := by
 simp only [mayO, bad1, bad2, bad3, Bool.not_or, Bool.not_not, Bool.and_assoc]
theorem op_May {E1 : FE} (hM : MonoI E.I) (hE : E.I (E.k 7) = some (cl (F.op_May_1 E1))) (o : Oq) (hsz : o.space.size ≤ maxLen) :
 cl (F.op_May E) [o.agg] h fun r h' => r = .bool (mayO o) ∧ Mod h [] h' [] := by
 refine cl_of ?_
 simp only [F.op_May, new5, kP_some]
 have hb0 := Mod.newBox (h := h) (fp := []) (o := .cells o.cells 5 .rw) (by simp)
 have g0 : (h.new (.cells o.cells 5 .rw)).get h.next = some (.cells o.cells 5 .rw) := by simp
 have n0 : h.next < (h.new (.cells o.cells 5 .rw)).next := by simp
 generalize h.new (.cells o.cells 5 .rw) = h1 at hb0 g0 n0 ⊢
 generalize hbx : h.next = bx at g0 n0 ⊢
 have ln : ∀ (x : ByteArray) (h : AHeap), lenD .str (str x) h = some (i64 (x.size : Nat)) := fun _ _ => rfl
 have rd : ∀ {h' : AHeap}, h'.get bx = some (.cells o.cells 5 .rw) → h'.rd bx 0 = some (i64 o.fn) ∧ h'.rd bx 1 = some (str o.space) ∧ h'.rd bx 2 = some (str o.key) ∧ h'.rd bx 3 = some (str o.val) ∧ h'.rd bx 4 = some (i64 o.n) :=
  fun g => ⟨rd_of g 0, rd_of g 1, rd_of g 2, rd_of g 3, rd_of g 4⟩
 obtain ⟨r0, r1, r2, r3, r4⟩ := rd g0
 simp only [fieldAddr_ptr, kv_some, ld_one, Nat.zero_add, r0]
 refine cl_then (op_names _) ?_
 rintro r h2 ⟨rfl, rfl⟩
 simp only [extract_tuple, List.getElem?_toArray, List.getElem?_cons_zero, List.getElem?_cons_succ, kv_some, r0, bin_lss]
 have hfn : ∀ X : V → Prop, X (.bool (!(decide (1 ≤ o.fn) && decide (o.fn ≤ 12)))) → kv (gdV (.bool (decide (o.fn < 1))) false (some (ptr bx 0))) fun v19 => kv (gdV (.bool (decide (o.fn < 1))) false (ldD .one v19 h2)) fun v20 =>
  kv (gdV (.bool (decide (o.fn < 1))) false (binD .bad .gtr true v20 (.int .i64 12) h2)) fun v21 => kv (pickV (.bool (decide (o.fn < 1))) (.bool true) v21) X := by
  intro X hX
  by_cases f1 : o.fn < 1
  · have : ¬ 1 ≤ o.fn := by omega
    simp only [this, decide_false, Bool.false_and, Bool.not_false] at hX
    simp [f1, gdV_bool, pickV_bool, hX]
  · have h1 : 1 ≤ o.fn := by omega
    by_cases f2 : 12 < o.fn
    · have : ¬ o.fn ≤ 12 := by omega
      simp only [this, decide_false, Bool.and_false, Bool.not_false] at hX
      simp [f1, f2, gdV_bool, pickV_bool, hX, r0]
    · have : o.fn ≤ 12 := by omega
      simp only [this, h1, decide_true, Bool.and_true, Bool.not_true] at hX
      simp [f1, f2, gdV_bool, pickV_bool, hX, r0]
 refine hfn _ ?_
 clear hfn
 refine ⟨fun vs h' => vs = [.bool (bad1 o)] ∧ Mod h2 [] h' [] ∧ h'.get bx = some (.cells o.cells 5 .rw), ?_, ?_⟩
 · simp only [ifV_bool]
   by_cases hk : (decide (1 ≤ o.fn) && decide (o.fn ≤ 12)) = true
   case neg =>
    have hk' : (decide (1 ≤ o.fn) && decide (o.fn ≤ 12)) = false := by simpa using hk
    simp only [hk', Bool.not_false, if_true]
    refine ⟨by simp [bad1, hk'], Mod.refl (by simp), g0⟩
   simp only [hk, Bool.not_true, Bool.false_eq_true, if_false, r1, kv_some, str_nil]
   have fin : ∀ (b : Bool) h', b = bad1 o → Mod h2 [] h' [] → h'.get bx = some (.cells o.cells 5 .rw) → ([.bool b] : List V) = [.bool (bad1 o)] ∧ Mod h2 [] h' [] ∧ h'.get bx = some (.cells o.cells 5 .rw) := fun b h' e m g => ⟨by rw [e], m, g⟩
   by_cases s0 : o.space.size = 0
   · have e : bad1 o = true := by simp [bad1, s0]
     simp only [s0, decide_true, gdV_bool, Bool.true_eq_false, if_false, kv_some, pickV_bool, if_true, gdV_gone]
     refine gdC_no (by simp) ?_
     try simp only [pickV_bool, if_true, kv_some]
     exact fin _ _ e.symm (Mod.refl (by simp)) g0
   have s0' : ¬ ((o.space.size : Nat) : Int) = 0 := by omega
   simp only [s0, decide_false, gdV_bool, if_true, kv_some, ld_one, r1, ln, bin_gtr, pickV_bool, Bool.false_eq_true, if_false]
   by_cases s20 : ((o.space.size : Nat) : Int) > 20
   · have e : bad1 o = true := by simp [bad1, show ¬ o.space.size ≤ 20 by omega]
     simp only [s20, decide_true, gdV_bool, Bool.true_eq_false, if_false, kv_some, gdV_gone]
     refine gdC_no (by simp) ?_
     try simp only [pickV_bool, if_true, kv_some]
     exact fin _ _ e.symm (Mod.refl (by simp)) g0
   simp only [s20, decide_false, gdV_bool, if_true, kv_some, ld_one, r1]
   refine gdC_yes rfl ?_
   refine cl_then (contains_small hM hE o.space hsz) ?_
   rintro r h3 ⟨rfl, m3⟩
   try simp only [pickV_bool, Bool.false_eq_true, if_false, kv_some]
   refine fin _ _ ?_ m3 ?_
   · simp [bad1, hk, show 1 ≤ o.space.size by omega, show o.space.size ≤ 20 by omega]
   · rw [m3.same bx (by omega) (by simp)]; exact g0
 rintro e14 h3 ⟨he, m3, g3⟩
 simp only [List.cons.injEq, and_true] at he
 clear r0 r1 r2 r3 r4
 obtain ⟨r0, r1, r2, r3, r4⟩ := rd g3
 have mfin : Mod h [] h3 [] := hb0.trans m3
 simp only [he, ifV_bool]
 by_cases b1 : bad1 o = true
 · rw [if_pos b1]
   exact ⟨by rw [mayO_eq, b1]; rfl, mfin⟩
 rw [if_neg b1]
 have b1' : bad1 o = false := by simpa using b1
 have hlong : ∀ X : V → Prop, X (.bool (bad2 o)) → kv (gdV (.bool (decide (((o.key.size : Nat) : Int) > 20))) false (some (ptr bx 3))) fun v44_33 => kv (gdV (.bool (decide (((o.key.size : Nat) : Int) > 20))) false (ldD .one v44_33 h3)) fun v45_34 =>
  kv (gdV (.bool (decide (((o.key.size : Nat) : Int) > 20))) false (lenD .str v45_34 h3)) fun v46_35 => kv (gdV (.bool (decide (((o.key.size : Nat) : Int) > 20))) false (binD .bad .gtr true v46_35 (.int .i64 100) h3)) fun v47_36 =>
  kv (pickV (.bool (decide (((o.key.size : Nat) : Int) > 20))) (.bool true) v47_36) fun v48_37 => kv (gdV v48_37 false (some (ptr bx 4))) fun v50_38 => kv (gdV v48_37 false (ldD .one v50_38 h3)) fun v51_39 =>
  kv (gdV v48_37 false (binD .bad .lss true v51_39 (.int .i64 0) h3)) fun v52_40 => kv (pickV v48_37 (.bool true) v52_40) fun v53_41 => kv (gdV v53_41 false (some (ptr bx 4))) fun v55_42 => kv (gdV v53_41 false (ldD .one v55_42 h3)) fun v56_43 =>
  kv (gdV v53_41 false (binD .bad .gtr true v56_43 (.int .i64 1099511627776) h3)) fun v57_44 => kv (pickV v53_41 (.bool true) v57_44) X := by
  intro X hX
  by_cases k1 : 20 < ((o.key.size : Nat) : Int)
  · have e : bad2 o = true := by simp [bad2, show ¬ o.key.size ≤ 20 by omega]
    rw [e] at hX
    simp [k1, gdV_bool, pickV_bool, hX]
  by_cases k2 : 100 < ((o.val.size : Nat) : Int)
  · have e : bad2 o = true := by simp [bad2, show ¬ o.val.size ≤ 100 by omega]
    rw [e] at hX
    simp [k1, k2, gdV_bool, pickV_bool, hX, r3, ln]
  by_cases k3 : o.n < 0
  · have e : bad2 o = true := by simp [bad2, show ¬ 0 ≤ o.n by omega]
    rw [e] at hX
    simp [k1, k2, k3, gdV_bool, pickV_bool, hX, r3, r4, ln]
  by_cases k4 : 1099511627776 < o.n
  · have e : bad2 o = true := by simp [bad2, show ¬ o.n ≤ 1099511627776 by omega]
    rw [e] at hX
    simp [k1, k2, k3, k4, gdV_bool, pickV_bool, hX, r3, r4, ln]
  · have e : bad2 o = false := by simp [bad2, show o.key.size ≤ 20 by omega, show o.val.size ≤ 100 by omega, show 0 ≤ o.n by omega, show o.n ≤ 1099511627776 by omega]
    rw [e] at hX
    simp [k1, k2, k3, k4, gdV_bool, pickV_bool, hX, r3, r4, ln]
 simp only [r2, kv_some, ln, bin_gtr]
 refine hlong _ ?_
 clear hlong
 refine ⟨fun vs h' => vs = [.bool (bad2 o || bad3 o)] ∧ h' = h3, ?_, ?_⟩
 · simp only [ifV_bool, not_bool, kv_some, str_nonnil]
   by_cases b2 : bad2 o = true
   · simp [b2]
   have b2' : bad2 o = false := by simpa using b2
   simp only [b2', Bool.false_eq_true, if_false, Bool.false_or]
   have hk := str_nonnil (h := h3) .bad true o.key
   have hv := str_nonnil (h := h3) .bad true o.val
   rw [bin_str] at hk hv
   unfold bad3
   cases n1 : (namesO o.fn).1 <;> cases n2 : (namesO o.fn).2.1 <;> cases n3 : (namesO o.fn).2.2 <;> by_cases k1 : o.key.size = 0 <;> by_cases k2 : o.val.size = 0 <;> by_cases k3 : o.n = 0 <;>
    simp [n1, n2, n3, k1, k2, k3, gdV_bool, pickV_bool, ifV_bool, r2, r3, r4, hk, hv]
 rintro e46 h4 ⟨he2, rfl⟩
 simp only [List.cons.injEq, and_true] at he2
 simp only [he2, ifV_bool]
 by_cases b2 : (bad2 o || bad3 o) = true
 · rw [if_pos b2]
   exact ⟨by rw [mayO_eq, b2]; simp, mfin⟩
 rw [if_neg b2]
 have b2' : (bad2 o || bad3 o) = false := by simpa using b2
 simp only [r0, kv_some, bin_neq]
 have hmay : mayO o = (decide (o.fn ≠ 1) || makesO o) := by rw [mayO_eq, b1', b2']; simp
 by_cases f1 : o.fn = 1
 · have e1 : (o.fn != 1) = false := by simp [f1]
   have hl : ldD (.agg 5) (ptr bx 0) h4 = some o.agg := by
    rw [ld_agg, rdN_of g3]; rfl
   simp only [e1, gdV_bool, if_true, hl, kv_some]
   refine gdC_yes rfl ?_
   refine cl_then (op_makes o) ?_
   rintro r h5 ⟨rfl, m5⟩
   try simp only [pickV_bool, Bool.false_eq_true, if_false, kv_some]
   exact ⟨by rw [hmay]; simp [f1], mfin.trans m5⟩
 · have e1 : (o.fn != 1) = true := by simp [f1]
   simp only [e1, gdV_bool, Bool.true_eq_false, if_false, kv_some]
   refine gdC_no (by simp) ?_
   try simp only [pickV_bool, if_true, kv_some]
   exact ⟨by rw [hmay]; simp [f1], mfin⟩
end Go.Abs
namespace Go.Abs
open Go
variable {E : FE} {h : AHeap} {fp : List Nat} {v : V}
theorem SlE.mod {α : Type} {D : EL α} {l : List α} {h' : AHeap} {fq fq' : List Nat} (s : SlE D h fp v l) (m : Mod h fq h' fq') (hd : ∀ x ∈ fp, x ∉ fq) : SlE D h' fp v l := s.same m.next fun x hx => m.same x (s.lt x hx) (hd x hx)
theorem containsFunc_op {f : V} {l : List Oq} (hM : MonoI E.I) (s : SlE dOp h fp v l) (hsz : l.length ≤ 1000000) (P : Oq → Bool)
 (hf : ∀ h' o, o ∈ l → aCall E.I f [o.agg] h' fun r h'' => r = .bool (P o) ∧ Mod h' [] h'' []) :
 cl (F.slices_ContainsFunc_Sapi_Op_api_Op E) [v, f] h fun r h' => r = .bool (l.any P) ∧ Mod h [] h' [] := by
 refine cl_of ?_
 simp only [F.slices_ContainsFunc_Sapi_Op_api_Op]
 suffices hi : cl (F.slices_IndexFunc_Sapi_Op_api_Op E) [v, f] h fun r h' => ∃ k : Int, r = i64 k ∧ (0 ≤ k ↔ l.any P = true) ∧ Mod h [] h' [] by
  refine cl_then hi ?_
  rintro r h1 ⟨k, rfl, hk, m⟩
  simp only [bin_geq, kv_some]
  refine ⟨?_, m⟩
  congr 1
  cases hs : l.any P with
  | true => simp [hk.2 hs]
  | false =>
   have : ¬ 0 ≤ k := fun hh => by rw [hk, hs] at hh; cases hh
   simp [this]
 refine cl_of ?_
 simp only [F.slices_IndexFunc_Sapi_Op_api_Op, s.len, kv_some]
 refine ⟨fun n vs h' => ∃ i : Nat, vs = [i64 i] ∧ n = l.length - i ∧ i ≤ l.length ∧ Mod h [] h' [] ∧ ∀ j o, j < i → l[j]? = some o → P o = false, l.length, ⟨0, rfl, by omega, by omega, Mod.refl (by simp), fun j o hj => by omega⟩, ?_⟩
 rintro n e h1 ⟨i, he, rfl, hi, m1, hno⟩
 simp only [List.cons.injEq, and_true] at he
 simp only [he, bin_lss, kv_some, ifV_bool, decide_eq_true_eq]
 rcases Nat.lt_or_ge i l.length with hx | hx
 · rw [if_pos (show ((i : Nat) : Int) < (l.length : Nat) by omega)]
   have hg : l[i]? = some l[i] := List.getElem?_eq_getElem hx
   obtain ⟨b, i1, i2⟩ := (s.keep m1).ld hg
   have i1 : indexAddrD (.slice 5) _ _ = _ := i1
   have i2 : ldD (.agg 5) _ _ = _ := i2
   simp only [i1, kv_some, i2]
   refine aCall_mono hM ?_ (hf h1 l[i] (List.getElem_mem hx))
   rintro r h2 ⟨rfl, m2⟩
   have m3 : Mod h [] h2 [] := m1.trans m2
   simp only [ifV_bool]
   cases hp : P l[i] with
   | true =>
    simp only [if_true]
    exact ⟨i, rfl, ⟨fun _ => List.any_eq_true.2 ⟨l[i], List.getElem_mem hx, hp⟩, fun _ => by omega⟩, m3⟩
   | false =>
    simp only [Bool.false_eq_true, if_false]
    rw [add_i64 _ 1 (by omega) (by omega), kv_some]
    refine ⟨l.length - (i + 1), by omega, i + 1, by simp, rfl, by omega, m3, fun j o hj ho => ?_⟩
    by_cases hji : j = i
    · subst hji
      rw [hg] at ho
      cases ho
      exact hp
    · exact hno j o (by omega) ho
 · rw [if_neg (show ¬ ((i : Nat) : Int) < (l.length : Nat) by omega)]
   refine ⟨-1, rfl, ⟨fun hh => by omega, fun hh => ?_⟩, m1⟩
   obtain ⟨o, ho, hp⟩ := List.any_eq_true.1 hh
   obtain ⟨j, hj, rfl⟩ := List.mem_iff_getElem.1 ho
   rw [hno j l[j] (by omega) (List.getElem?_eq_getElem hj)] at hp
   cases hp
structure OpE (E : FE) : Prop where
 mono : MonoI E.I
 all1 : ∃ E1 : FE, E.I (E.k 6) = some (cl (F.op_All_1 E1)) ∧ MonoI E1.I ∧ ∃ E2 : FE, E1.I (E1.k 7) = some (cl (F.op_May_1 E2))
 may1 : ∃ E1 : FE, E.I (E.k 7) = some (cl (F.op_May_1 E1))
theorem op_All (oe : OpE E) {l : List Oq} (s : SlE dOp h fp v l) (hsz : l.length ≤ 1000000) (hz : ∀ o ∈ l, o.space.size ≤ maxLen) :
 cl (F.op_All E) [v] h fun r h' => r = .bool (allO l) ∧ Mod h [] h' [] := by
 refine cl_of ?_
 simp only [F.op_All, s.len, kv_some, bin_geq, bin_leq, gdV_bool, s.len]
 by_cases h1 : ((l.length : Nat) : Int) ≥ 1
 case neg =>
  have e : allO l = false := by simp [allO, show ¬ 1 ≤ l.length by omega]
  simp only [h1, decide_false, Bool.false_eq_true, if_false, kv_some, pickV_bool, gdV_bool]
  refine gdC_no (by simp) ?_
  try simp only [gdV_bool, Bool.false_eq_true, if_false, kv_some, pickV_bool]
  exact ⟨by rw [e], Mod.refl (by simp)⟩
 simp only [h1, decide_true, if_true, kv_some, s.len, bin_leq, pickV_bool, gdV_bool]
 by_cases h8 : ((l.length : Nat) : Int) ≤ 8
 case neg =>
  have e : allO l = false := by simp [allO, show ¬ l.length ≤ 8 by omega]
  simp only [h8, decide_false, Bool.false_eq_true, if_false, kv_some, gdV_bool]
  refine gdC_no (by simp) ?_
  try simp only [gdV_bool, Bool.false_eq_true, if_false, kv_some, pickV_bool]
  exact ⟨by rw [e], Mod.refl (by simp)⟩
 simp only [h8, decide_true, if_true, kv_some]
 obtain ⟨E1, hE1, hM1, E2, hE2⟩ := oe.all1
 refine gdC_yes rfl (cl_then (containsFunc_op oe.mono s hsz (fun o => !mayO o) fun h' o ho => ?_) ?_)
 · unfold aCall
   simp only [hE1]
   refine cl_of ?_
   simp only [F.op_All_1, List.nil_append, List.append_nil, List.cons_append, new5, kP_some]
   have g0 : (h'.new (.cells o.cells 5 .rw)).get h'.next = some (.cells o.cells 5 .rw) := by simp
   have m0 := Mod.newBox (h := h') (fp := []) (o := .cells o.cells 5 .rw) (by simp)
   generalize h'.new (.cells o.cells 5 .rw) = h2 at g0 m0 ⊢
   have hl : ldD (.agg 5) (ptr h'.next 0) h2 = some o.agg := by rw [ld_agg, rdN_of g0]; rfl
   try simp only [hl, kv_some]
   refine cl_then (op_May hM1 hE2 o (hz o ho)) ?_
   rintro r h3 ⟨rfl, m3⟩
   simp only [not_bool, kv_some]
   exact ⟨trivial, m0.trans m3⟩
 · rintro r h2 ⟨rfl, m2⟩
   simp only [gdV_bool, if_true, not_bool, kv_some, pickV_bool]
   refine ⟨?_, m2⟩
   congr 1
   simp only [allO, show 1 ≤ l.length by omega, show l.length ≤ 8 by omega, decide_true, Bool.true_and]
   cases hb : (l.all mayO) with
   | true =>
    rw [List.all_eq_true] at hb
    have : l.any (fun o => !mayO o) = false := by
     rw [List.any_eq_false]
     intro o ho
     simp [hb o ho]
    rw [this]; rfl
   | false =>
    rw [List.all_eq_false] at hb
    obtain ⟨o, ho, hn⟩ := hb
    have : l.any (fun o => !mayO o) = true := List.any_eq_true.2 ⟨o, ho, by simpa using hn⟩
    rw [this]; rfl
end Go.Abs
namespace Go.Abs
open Go Go.RowKit
def AllRo (h : AHeap) : Prop := ∀ b o, h.get b = some o → o.isRo
structure More (r : Ren) (h : AHeap) (r' : Ren) (h' : AHeap) : Prop where
 ren : r.le r'
 next : h.next ≤ h'.next
 get : ∀ b, b < h.next → h'.get b = h.get b
theorem Ro.more {r r' : Ren} {h h' : AHeap} {v : V} {es n : Nat} {cs : List V} (m : More r h r' h') (s : Ro h.next h v es n cs) : Ro h'.next h' v es n cs := by
 obtain ⟨h0, h1, ⟨rfl, rfl⟩ | ⟨b, o, c, all, rfl, hb, hc, hg, ha⟩⟩ := s
 · exact ⟨h0, Nat.le_refl _, .inl ⟨rfl, rfl⟩⟩
 · exact ⟨h0, Nat.le_refl _, .inr ⟨b, o, c, all, rfl, Nat.lt_of_lt_of_le hb m.next, hc, by rw [m.get b hb, hg], ha⟩⟩
theorem R.addSlice {J : World → Prop} {W : World} {r : Ren} {h : AHeap} (hR : R J W.heap.size r h W) (hro : AllRo h) {a : Addr} {len cap es : Nat} (hs : a.spot = none) {cc : Array V} {el : TypeId} {fr : Nat × Nat}
 (hb : W.heap[a.block]? = some (.cells cc el fr)) (hsz : a.off + cap * es ≤ cc.size) (hlc : len ≤ cap) {cs : List V} (hcs : cs.length = len * es) (hc : ∀ j, j < len * es → cc[a.off + j]? = cs[j]?) (hcl : ∀ v ∈ cs, closedV v = true) :
 ∃ r' h' v, R J W.heap.size r' h' W ∧ VR r' v (.slice (some a) len cap) ∧ Ro h'.next h' v es len cs ∧ More r h r' h' := by
 obtain ⟨blk, off, spot⟩ := a
 simp only at hs hb hsz hc
 subst hs
 have hlt : blk < W.heap.size := (Array.getElem?_eq_some_iff.1 hb).1
 have hm : len * es ≤ cap * es := Nat.mul_le_mul_right _ hlc
 have hle := hR.le_upd ⟨blk, cc.size, es, 0⟩
 have old : ∀ b o1, (h.new (.cells (List.replicate off junk ++ cs) es .ro)).get b = some o1 → (b = h.next ∧ o1 = .cells (List.replicate off junk ++ cs) es .ro) ∨ (b ≠ h.next ∧ h.get b = some o1) := by
  intro b o1 hb
  by_cases e : b = h.next
  · subst e; simp [AHeap.new] at hb; exact .inl ⟨rfl, hb.symm⟩
  · exact .inr ⟨e, by simpa [AHeap.new, e] using hb⟩
 refine ⟨r.upd h.next ⟨blk, cc.size, es, 0⟩, h.new (.cells (List.replicate off junk ++ cs) es .ro), .slice (some ⟨h.next, off, none⟩) len (2 * len + 1), ?_, ?_, ?_, hle, Nat.le_succ _, fun b hb => ?_⟩
 · refine ⟨Nat.le_refl _, ?_, ?_, ?_, hR.inv⟩
   · intro b t' hb
     by_cases e : b = h.next
     · subst e; rw [Ren.upd_same] at hb; cases hb; exact ⟨hlt, by simp [AHeap.new]⟩
     · rw [Ren.upd_ne _ _ e] at hb
       have := hR.lt b t' hb
       refine ⟨this.1, ?_⟩
       simp [AHeap.new]; omega
   · intro b o1 hb1
     rcases old b o1 hb1 with ⟨rfl, rfl⟩ | ⟨e, hb'⟩
     · refine ⟨_, Ren.upd_same _ _ _, rfl, ⟨cc, el, fr, hb, rfl, by simp; omega, fun i h1 h2 => ?_, fun hk => absurd rfl hk, fun hk => by cases hk⟩, fun hk => absurd rfl hk, fun _ => rfl⟩
       have h2 : i < cc.size := h2
       show VR _ _ cc[i]
       rw [List.getElem_append]
       split
       · rw [List.getElem_replicate]; exact .junk _
       · rename_i hi
         simp only [List.length_replicate] at hi
         have hj : i - off < cs.length := by simp at h1; omega
         have := hc (i - off) (by omega)
         rw [show off + (i - off) = i by omega, Array.getElem?_eq_getElem h2, List.getElem?_eq_getElem hj, Option.some.injEq] at this
         simp only [List.length_replicate]
         rw [this]
         exact VR.closed (hcl _ (List.getElem_mem _))
     · obtain ⟨t', h3, h4⟩ := hR.live b o1 hb'
       exact ⟨t', hle _ _ h3, h4.mono hle⟩
   · intro b b' o1 o1' t1 t1' hb hb' g1 g1' e
     rcases old b o1 hb with ⟨rfl, rfl⟩ | ⟨e1, hb⟩ <;> rcases old b' o1' hb' with ⟨rfl, rfl⟩ | ⟨e2, hb'⟩
     · exact .inl rfl
     · exact .inr ⟨⟨_, _, rfl⟩, hro _ _ hb'⟩
     · exact .inr ⟨hro _ _ hb, _, _, rfl⟩
     · rw [Ren.upd_ne _ _ e1] at g1; rw [Ren.upd_ne _ _ e2] at g1'
       exact hR.inj b b' o1 o1' t1 t1' hb hb' g1 g1' e
 · exact VR.slice (b := h.next) (o := off) (n := len) (c := 2 * len + 1) (c' := cap) (t := ⟨blk, cc.size, es, 0⟩) (Ren.upd_same _ _ _) ⟨by omega, fun he => by omega⟩ (by omega) hsz
 · refine ⟨hcs, Nat.le_refl _, .inr ⟨h.next, off, 2 * len + 1, List.replicate off junk ++ cs, rfl, by simp [AHeap.new], by omega, by simp [AHeap.new], ?_⟩⟩
   rw [List.drop_append, List.drop_of_length_le (by simp)]
   simp [← hcs]
 · have : b ≠ h.next := by omega
   simp [AHeap.new, this]
theorem More.refl (r : Ren) (h : AHeap) : More r h r h := ⟨Ren.le_refl r, Nat.le_refl _, fun _ _ => rfl⟩
theorem open_i64s {H : Type} {enc : TypeId × Value → H} {P : Program} {J : World → Prop} {W : World} {held : Bool} {base : Nat} {t e : TypeId} {v : V} {d : DataW H} {p : List MemPlace}
 (ht : P.underlying t = some (.slice e)) (he : P.underlying e = some (.int .i64)) (ce : P.cellsOf e = 1) {r : Ren} {h : AHeap} (hR : R J W.heap.size r h W) (hro : AllRo h)
 (hval : Value.okWide P W .any base t v) (hd : DataW.Trod enc P W 0 (fun _ => true) held t v d p) :
 ∃ (l : List Int) (r' : Ren) (h' : AHeap) (v' : V), R J W.heap.size r' h' W ∧ VR r' v' v ∧ Ints h'.next h' v' l ∧ More r h r' h' := by
 obtain ⟨fuel, hd⟩ := hd
 obtain ⟨a, len, cap, rfl⟩ := WideShapes.okWide_slice ht hval
 rcases Deep.open_slice ht hd with ⟨h1, _⟩ | ⟨a', len', cap', m, n, D, Pl, h1, _, hlc, hcap, hm, hx, hr⟩
 · simp only [Value.cells, List.cons.injEq, Value.slice.injEq, and_true] at h1
   obtain ⟨rfl, rfl, rfl⟩ := h1
   exact ⟨[], r, h, .slice none 0 0, hR, .sliceNil, ⟨rfl, Nat.le_refl _, .inl ⟨rfl, rfl⟩⟩, More.refl r h⟩
 · simp only [Value.cells, List.cons.injEq, Value.slice.injEq, and_true] at h1
   obtain ⟨h11, h12, h13⟩ := h1
   subst h11
   simp only [if_true] at hm
   rw [← h12, ← h13] at hlc
   rw [← h13] at hcap hm
   rw [hm] at hr
   clear h12 h13 hm hx
   obtain ⟨hs, cc, el, fr, hb, ho⟩ := okWide_slice_at ht hval
   rw [ce] at hr
   have hadd : ∀ k, a'.add k = ⟨a'.block, a'.off + k, none⟩ := by
    intro k
    obtain ⟨bb, oo, ss⟩ := a'
    simp only at hs
    subst hs
    exact addr_add _ _ _
   have each : ∀ i, i < cap → ∃ x : Int, cc[a'.off + i]? = some (i64 x) := by
    intro i hi
    obtain ⟨cs', h2, h3⟩ := hr i hi
    obtain ⟨h5, _, h4⟩ := World.cells?_some h2
    obtain ⟨c0, rfl⟩ : ∃ c0, cs' = [c0] := by
     match cs', h5 with
     | [c0], _ => exact ⟨c0, rfl⟩
    obtain ⟨x, h6, _⟩ := DataW.trod_int he h3
    simp only [List.cons.injEq, and_true] at h6
    have h7 := h4 0 (by decide)
    refine ⟨x, ?_⟩
    rw [hadd, addr_add, cell_of_block hb, Nat.add_zero, Nat.mul_one] at h7
    rw [h7, h6]
    rfl
   have hsz : a'.off + cap * 1 ≤ cc.size := by
    by_cases hc0 : cap = 0
    · omega
    · obtain ⟨x, h5⟩ := each (cap - 1) (by omega)
      have := (Array.getElem?_eq_some_iff.1 h5).1
      omega
   obtain ⟨X, hX⟩ := Deep.choose_lt (n := len) (p := fun i (x : Int) => cc[a'.off + i]? = some (i64 x)) fun i hi => each i (by omega)
   have hc1 : (((List.range len).map X).map i64).length = len * 1 := by simp
   have hc2 : ∀ j, j < len * 1 → cc[a'.off + j]? = (((List.range len).map X).map i64)[j]? := by
    intro j hj
    rw [hX j (by omega)]
    simp [show j < len by omega]
   have hc3 : ∀ u ∈ ((List.range len).map X).map i64, closedV u = true := by
    intro u hu
    obtain ⟨s, _, rfl⟩ := List.mem_map.1 hu
    rfl
   obtain ⟨r', h', v', hR', hv, hro', hm⟩ := R.addSlice hR hro (es := 1) hs hb hsz hlc hc1 hc2 hc3
   refine ⟨(List.range len).map X, r', h', v', hR', hv, ?_, hm⟩
   unfold Ints
   rw [List.length_map, List.length_range]
   exact hro'
end Go.Abs
namespace Go.Abs
open Go Go.RowKit
theorem R.start {J : World → Prop} {W : World} (hJ : J W) : ∃ r h, R J W.heap.size r h W := by
 obtain ⟨r, h, _, hR, _, _⟩ := R.ofNil (W := W) hJ 1
 exact ⟨r, h, hR⟩
def AHeap.ros (h : AHeap) : AHeap := ⟨fun x => match h.get x with | some (.cells c e .ro) => some (.cells c e .ro) | _ => none, h.next⟩
theorem ros_get {h : AHeap} {b : Nat} {o : AObj} (hb : h.ros.get b = some o) : ∃ c e, h.get b = some (.cells c e .ro) ∧ o = .cells c e .ro := by
 simp only [AHeap.ros] at hb
 split at hb
 · rename_i c e he
   cases hb
   exact ⟨c, e, he, rfl⟩
 · cases hb
theorem R.roOnly {J : World → Prop} {B : Nat} {r : Ren} {h : AHeap} {W : World} (hR : R J B r h W) : R J B r h.ros W ∧ AllRo h.ros :=
 ⟨hR.sub ⟨Nat.le_refl _, fun b o hb => by
  obtain ⟨c, e, h1, rfl⟩ := ros_get hb
  exact h1⟩, fun b o hb => by
  obtain ⟨c, e, _, rfl⟩ := ros_get hb
  exact ⟨_, _, rfl⟩⟩
theorem Ro.ros {N : Nat} {h : AHeap} {v : V} {es n : Nat} {cs : List V} (s : Ro N h v es n cs) : Ro N h.ros v es n cs := by
 obtain ⟨h0, h1, ⟨rfl, rfl⟩ | ⟨b, o, c, all, rfl, hb, hc, hg, ha⟩⟩ := s
 · exact ⟨h0, h1, .inl ⟨rfl, rfl⟩⟩
 · exact ⟨h0, h1, .inr ⟨b, o, c, all, rfl, hb, hc, by simp only [AHeap.ros, hg], ha⟩⟩
theorem oq_space {H : Type} {enc : TypeId × Value → H} {P : Program} {w : World} {base : Nat} {spare : Nat → Bool} {held : Bool} {fuel : Nat} {e : TypeId} {fs : Array Field} {cs : List V} {x : DataW H × List MemPlace}
 (he : P.underlying e = some (.struct fs)) (ce : P.cellsOf e = 5) (hf : ∀ i, i < 5 → ∃ f, fs[i]? = some f ∧ f.offset = i ∧ P.cellsOf f.type = 1 ∧ P.underlying f.type = some (qField i)) (hn : fs.size = 5)
 (h : DataW.trod enc P w base spare held fuel e cs = some x) {o : Oq} (ho : cs = o.cells) : o.space.size ≤ maxLen := by
 obtain ⟨xs, n, _, hx1, hl, hxs, hr⟩ := DataW.trod_struct he h
 obtain ⟨f, h1, h2, h3, h4⟩ := hf 1 (by decide)
 have h5 := hr 1 f h1
 rw [h2, h3] at h5
 have h6 : (cs.drop 1).take 1 = [str o.space] := by rw [ho]; rfl
 rw [h6] at h5
 rw [ce] at hl
 have hxi : 1 < xs.length := by omega
 rw [List.getElem?_eq_getElem hxi] at h5
 obtain ⟨m, h7, _, h8⟩ := DataW.trod_string (show P.underlying f.type = some .string from h4) h5
 simp only [List.cons.injEq, Value.string.injEq, and_true] at h7
 rw [h7]
 exact h8
theorem open_opsX {H : Type} {enc : TypeId × Value → H} {P : Program} {J : World → Prop} {W : World} {held : Bool} {base : Nat} {t e : TypeId} {fs : Array Field} {v : V} {d : DataW H} {p : List MemPlace}
 (ht : P.underlying t = some (.slice e)) (he : P.underlying e = some (.struct fs)) (ce : P.cellsOf e = 5) (hf : ∀ i, i < 5 → ∃ f, fs[i]? = some f ∧ f.offset = i ∧ P.cellsOf f.type = 1 ∧ P.underlying f.type = some (qField i)) (hn : fs.size = 5)
 {r : Ren} {h : AHeap} (hR : R J W.heap.size r h W) (hval : Value.okWide P W .any base t v) (hd : DataW.Trod enc P W 0 (fun _ => true) held t v d p) :
 ∃ (l : List Oq) (r' : Ren) (h' : AHeap) (v' : V), R J W.heap.size r' h' W ∧ VR r' v' v ∧ Oqs h'.next h' v' l ∧ More r h.ros r' h' ∧ ∀ o ∈ l, o.space.size ≤ maxLen := by
 obtain ⟨hR0, hro⟩ := hR.roOnly
 obtain ⟨fuel, hd⟩ := hd
 obtain ⟨a, len, cap, rfl⟩ := WideShapes.okWide_slice ht hval
 rcases Deep.open_slice ht hd with ⟨h1, _⟩ | ⟨a', len', cap', m, n, D, Pl, h1, _, hlc, hcap, hm, hx, hr⟩
 · simp only [Value.cells, List.cons.injEq, Value.slice.injEq, and_true] at h1
   obtain ⟨rfl, rfl, rfl⟩ := h1
   exact ⟨[], r, h.ros, .slice none 0 0, hR0, .sliceNil, ⟨rfl, Nat.le_refl _, .inl ⟨rfl, rfl⟩⟩, More.refl r h.ros, by simp⟩
 · simp only [Value.cells, List.cons.injEq, Value.slice.injEq, and_true] at h1
   obtain ⟨h11, h12, h13⟩ := h1
   subst h11
   simp only [if_true] at hm
   rw [← h12, ← h13] at hlc
   rw [← h13] at hcap hm
   rw [hm] at hr
   clear h12 h13 hm hx
   obtain ⟨hs, cc, el, fr, hb, ho⟩ := okWide_slice_at ht hval
   rw [ce] at hr
   have hadd : ∀ k, a'.add k = ⟨a'.block, a'.off + k, none⟩ := by
    intro k
    obtain ⟨bb, oo, ss⟩ := a'
    simp only at hs
    subst hs
    exact addr_add _ _ _
   have each : ∀ i, i < cap → ∃ o : Oq, (∀ j, j < 5 → cc[a'.off + (i * 5 + j)]? = o.cells[j]?) ∧ o.space.size ≤ maxLen := by
    intro i hi
    obtain ⟨cs', h2, h3⟩ := hr i hi
    obtain ⟨o, hoc, _, hz⟩ := open_oq he ce hf hn h3
    have hsp := oq_space he ce hf hn h3 hoc
    subst hoc
    obtain ⟨_, _, h4⟩ := World.cells?_some h2
    refine ⟨o, fun j hj => ?_, hsp⟩
    rw [← h4 j hj, hadd, addr_add]
    rw [cell_of_block hb, Nat.add_assoc]
   have hsz : a'.off + cap * 5 ≤ cc.size := by
    by_cases hc0 : cap = 0
    · omega
    · obtain ⟨o, h5, _⟩ := each (cap - 1) (by omega)
      have h6 := h5 4 (by decide)
      have h7 : o.cells[4]? = some (i64 o.n) := rfl
      rw [h7] at h6
      have := (Array.getElem?_eq_some_iff.1 h6).1
      omega
   obtain ⟨O, hO⟩ := Deep.choose_lt (n := len) (p := fun i (o : Oq) => (∀ j, j < 5 → cc[a'.off + (i * 5 + j)]? = o.cells[j]?) ∧ o.space.size ≤ maxLen) fun i hi => each i (by omega)
   have hlen : ∀ l : List Oq, (l.flatMap Oq.cells).length = l.length * 5 := by
    intro l
    induction l with
    | nil => rfl
    | cons o l ih => simp [List.flatMap_cons, ih, Oq.cells]; omega
   have hc1 : (((List.range len).map O).flatMap Oq.cells).length = len * 5 := by rw [hlen, List.length_map, List.length_range]
   have hc2 : ∀ j, j < len * 5 → cc[a'.off + j]? = (((List.range len).map O).flatMap Oq.cells)[j]? := by
    intro j hj
    have h1 : j / 5 < len := by omega
    have h2 := oqs_cells ((List.range len).map O) (j / 5) (O (j / 5)) (by simp [h1]) (j % 5) (by omega)
    rw [show j / 5 * 5 + j % 5 = j by omega] at h2
    rw [h2, ← (hO (j / 5) h1).1 (j % 5) (by omega), show j / 5 * 5 + j % 5 = j by omega]
   have hc3 : ∀ u ∈ ((List.range len).map O).flatMap Oq.cells, closedV u = true := by
    intro u hu
    simp only [List.mem_flatMap] at hu
    obtain ⟨o, _, hu⟩ := hu
    simp only [Oq.cells, List.mem_cons, List.not_mem_nil, or_false] at hu
    rcases hu with rfl | rfl | rfl | rfl | rfl <;> rfl
   obtain ⟨r', h', v', hR', hv, hro', hm⟩ := R.addSlice hR0 hro (es := 5) hs hb hsz hlc hc1 hc2 hc3
   refine ⟨(List.range len).map O, r', h', v', hR', hv, ?_, hm, fun o ho => ?_⟩
   · unfold Oqs
     rw [List.length_map, List.length_range]
     exact hro'
   · obtain ⟨i, hi, rfl⟩ := List.mem_map.1 ho
     exact (hO i (by simpa using hi)).2
theorem open_intsX {H : Type} {enc : TypeId × Value → H} {P : Program} {J : World → Prop} {W : World} {held : Bool} {base : Nat} {t e : TypeId} {v : V} {d : DataW H} {p : List MemPlace}
 (ht : P.underlying t = some (.slice e)) (he : P.underlying e = some (.int .i64)) (ce : P.cellsOf e = 1) {r : Ren} {h : AHeap} (hR : R J W.heap.size r h W)
 (hval : Value.okWide P W .any base t v) (hd : DataW.Trod enc P W 0 (fun _ => true) held t v d p) :
 ∃ (l : List Int) (r' : Ren) (h' : AHeap) (v' : V), R J W.heap.size r' h' W ∧ VR r' v' v ∧ Ints h'.next h' v' l ∧ More r h.ros r' h' :=
 have h1 := hR.roOnly
 open_i64s ht he ce h1.1 h1.2 hval hd
theorem Ro.on {r r' : Ren} {h h' : AHeap} {v : V} {es n : Nat} {cs : List V} (m : More r h.ros r' h') (s : Ro h.next h v es n cs) : Ro h'.next h' v es n cs := Ro.more (h := h.ros) m (Ro.ros (h := h) s)
end Go.Abs
set_option linter.unusedSectionVars false
namespace Go.Abs
open Go
structure Et (κ α : Type) where
 k : κ
 v : V
 b : Nat
 x : α
section
variable {κ α : Type} [DecidableEq κ]
def Et.g (e : Et κ α) : Eg κ := ⟨e.k, e.v, e.b⟩
def Et.m (D : KD κ) (e : Et κ α) : MapEntry := D.me e.g
def Et.p (A : κ → V → α → Pl) (e : Et κ α) : Pl := A e.k e.v e.x
def absE (t : List (Et κ α)) : List (κ × α) := t.map fun e => (e.k, e.x)
structure OkE (t : List (Et κ α)) (clk : Nat) (l : List (κ × α)) : Prop where
 perm : (absE t).Perm l
 nd : (keysL l).Nodup
 bn : (t.map (·.b)).Nodup
 lt : ∀ e ∈ t, e.b < clk
theorem absE_keys (t : List (Et κ α)) : keysL (absE t) = t.map (·.k) := by simp [absE, keysL]
theorem keysG_g (t : List (Et κ α)) : keysG (t.map Et.g) = t.map (·.k) := by simp [keysG, Et.g]
variable {t : List (Et κ α)} {clk : Nat} {l : List (κ × α)}
theorem OkE.ndt (p : OkE t clk l) : (keysL (absE t)).Nodup := (keys_perm p.perm).nodup_iff.2 p.nd
theorem OkE.lkp (p : OkE t clk l) (k : κ) : lkp k (absE t) = Go.Abs.lkp k l := lkp_perm p.perm p.ndt k
theorem split_abs {k : κ} {x : α} : ∀ {t : List (Et κ α)}, lkp k (absE t) = some x → ∃ t1 e t2, t = t1 ++ e :: t2 ∧ e.k = k ∧ e.x = x ∧ getG k (t.map Et.g) = some e.v ∧ ∀ e' ∈ t1, e'.k ≠ k
 | [], h => by simp [absE, lkp] at h
 | e :: t, h => by
  simp only [absE, List.map_cons, lkp] at h
  by_cases hk : e.k = k
  · rw [if_pos hk] at h
    cases h
    exact ⟨[], e, t, rfl, hk, rfl, by simp [getG, Et.g, hk], by simp⟩
  · rw [if_neg hk] at h
    obtain ⟨t1, e1, t2, rfl, h1, h2, h3, h4⟩ := split_abs (t := t) h
    refine ⟨e :: t1, e1, t2, rfl, h1, h2, ?_, ?_⟩
    · rw [List.map_cons, getG, if_neg (by exact hk), h3]
    · intro e' he'
      rcases List.mem_cons.1 he' with rfl | he'
      · exact hk
      · exact h4 e' he'
theorem get_of_none {k : κ} (h : lkp k (absE t) = none) : getG k (t.map Et.g) = none := by
 rw [lkp_none, absE_keys] at h
 rw [← getG_none, keysG_g]
 exact h
theorem putG_split {k : κ} {v : V} {c : Nat} {e : Eg κ} : ∀ {t1 t2 : List (Eg κ)}, (∀ e' ∈ t1, e'.k ≠ k) → e.k = k → putG k v c (t1 ++ e :: t2) = t1 ++ ⟨k, v, e.b⟩ :: t2
 | [], t2, _, he => by simp [putG, he]
 | a :: t1, t2, h, he => by
  rw [List.cons_append, putG, if_neg (h a (by simp)), putG_split (fun e' he' => h e' (by simp [he'])) he]
  rfl
variable (D : KD κ) (A : κ → V → α → Pl)
def plGM (m : Nat) (l : List (κ × α)) : Pl :=
 plEx fun (y : List (Et κ α) × Nat) => plAll (plPure (OkE y.1 y.2 l) :: plMap m (y.1.map (Et.m D)) y.2 :: y.1.map (Et.p A))
variable {D A} {F : Fr} {h : AHeap} {L : List Pl} {m : Nat} {z : V}
theorem Sep.openM (s : Sep F h (plGM D A m l :: L)) : ∃ t clk, OkE t clk l ∧ Sep F h (plMap m (t.map (Et.m D)) clk :: (t.map (Et.p A) ++ L)) := by
 obtain ⟨⟨t, clk⟩, s⟩ := s.ex
 have s1 := s.all
 obtain ⟨p, s2⟩ := Sep.pure (L := plMap m (t.map (Et.m D)) clk :: (t.map (Et.p A) ++ L)) s1
 exact ⟨t, clk, p, s2⟩
theorem Sep.closeM (p : OkE t clk l) (s : Sep F h (plMap m (t.map (Et.m D)) clk :: (t.map (Et.p A) ++ L))) : Sep F h (plGM D A m l :: L) :=
 Sep.mkEx (A := fun (y : List (Et κ α) × Nat) => plAll (plPure (OkE y.1 y.2 l) :: plMap m (y.1.map (Et.m D)) y.2 :: y.1.map (Et.p A))) (t, clk)
  (Sep.mkAll (L' := plPure (OkE t clk l) :: plMap m (t.map (Et.m D)) clk :: t.map (Et.p A)) (Sep.mkPure p s))
def holeP (k : κ) (v : V) (A : κ → V → α → Pl) : κ → V → α → Pl := fun k' v' x' => if k' = k then plPure (v' = v) else A k' v' x'
theorem hole_map {k : κ} {v : V} {tt : List (Et κ α)} (ht : ∀ e' ∈ tt, e'.k ≠ k) : tt.map (Et.p (holeP k v A)) = tt.map (Et.p A) :=
 List.map_congr_left fun e' he' => by simp only [Et.p, holeP, if_neg (ht e' he')]
theorem hole_at {k : κ} {v : V} {e : Et κ α} (he : e.k = k) : Et.p (holeP k v A) e = plPure (e.v = v) := by simp only [Et.p, holeP, if_pos he]
theorem Sep.newM (s : Sep F h L) : Sep F (h.new (.map [] 0)) (plGM D A h.next [] :: L) :=
 Sep.closeM (t := []) (clk := 0) ⟨List.Perm.refl _, by simp [keysL], by simp, by simp⟩ (s.newMap [] 0)
theorem map_meg (t : List (Et κ α)) : (t.map (Et.m D)) = (t.map Et.g).map D.me := by simp [Et.m]
theorem map_born (t : List (Et κ α)) : (t.map (Et.m D)).map (·.born) = t.map (·.b) := by
 rw [List.map_map]
 rfl
theorem Sep.lookNone (s : Sep F h (plGM D A m l :: L)) {k : κ} (hk : Go.Abs.lkp k l = none) (ok : Bool) :
 lookupD (some (D.kk, some z)) (.map (some m)) (D.enc k) ok h = some (if ok then .tuple #[z, .bool false] else z) := by
 obtain ⟨t, clk, p, s⟩ := s.openM
 have g := s.mapGet
 rw [map_meg] at g
 rw [lookup_G D g k ok, get_of_none ((p.lkp k).trans hk)]
 rfl
theorem Sep.lookSome (s : Sep F h (plGM D A m l :: L)) {k : κ} {x : α} (hk : Go.Abs.lkp k l = some x) (ok : Bool) :
 ∃ v, lookupD (some (D.kk, some z)) (.map (some m)) (D.enc k) ok h = some (if ok then .tuple #[v, .bool true] else v) ∧
  Sep F h (A k v x :: plGM D (holeP k v A) m l :: L) := by
 obtain ⟨t, clk, p, s⟩ := s.openM
 have g := s.mapGet
 rw [map_meg] at g
 obtain ⟨t1, e, t2, rfl, h1, h2, h3, h4⟩ := split_abs ((p.lkp k).trans hk)
 refine ⟨e.v, by rw [lookup_G D g k ok, h3]; rfl, ?_⟩
 have h5 : ∀ e' ∈ t2, e'.k ≠ k := by
  have := p.ndt
  rw [absE_keys, List.map_append, List.map_cons, List.nodup_append] at this
  have h6 := (List.nodup_cons.1 this.2.1).1
  intro e' he' hc
  exact h6 (List.mem_map.2 ⟨e', he', hc.trans h1.symm⟩)
 have s1 : Sep F h (A k e.v x :: plMap m ((t1 ++ e :: t2).map (Et.m D)) clk :: ((t1 ++ t2).map (Et.p A) ++ L)) := by
  refine s.perm ?_
  have ep : A k e.v x = Et.p A e := by rw [Et.p, h1, h2]
  rw [ep, List.map_append (f := Et.p A) (l₁ := t1), List.map_append (f := Et.p A) (l₁ := t1), List.map_cons]
  refine (List.Perm.cons _ ?_).trans (List.Perm.swap _ _ _)
  simp only [List.append_assoc, List.cons_append]
  exact List.perm_middle
 have s2 : Sep F h (plGM D (holeP k e.v A) m l :: (A k e.v x :: L)) := by
  refine Sep.closeM p ?_
  rw [List.map_append (f := Et.p (holeP k e.v A)), List.map_cons (f := Et.p (holeP k e.v A)), hole_map h4, hole_map h5, hole_at h1]
  have s3 := Sep.mkPure (φ := e.v = e.v) rfl s1
  refine s3.perm ?_
  rw [List.map_append (f := Et.p A)]
  simp only [List.append_assoc, List.cons_append]
  refine (((List.Perm.swap _ _ _).cons _).trans (List.Perm.swap _ _ _)).trans (List.Perm.cons _ ?_)
  refine List.Perm.trans ?_ List.perm_middle.symm
  refine List.Perm.cons _ ?_
  refine List.Perm.trans ?_ (List.Perm.append_left _ List.perm_middle.symm)
  exact List.perm_middle.symm
 exact s2.up1
theorem OkE.put (p : OkE t clk l) {t1 t2 : List (Et κ α)} {e : Et κ α} (ht : t = t1 ++ e :: t2) {k : κ} (he : e.k = k) (h1 : ∀ e' ∈ t1, e'.k ≠ k) (v : V) (x : α) : OkE (t1 ++ ⟨k, v, e.b, x⟩ :: t2) clk (ins k x l) := by
 subst ht
 refine ⟨?_, nodup_ins p.nd, ?_, fun e' he' => ?_⟩
 · refine List.Perm.trans ?_ (ins_perm p.perm p.ndt k x)
   have : ∀ tt : List (Et κ α), (∀ e' ∈ tt, e'.k ≠ k) → ins k x (absE (tt ++ e :: t2)) = absE (tt ++ ⟨k, v, e.b, x⟩ :: t2) := by
    intro tt htt
    induction tt with
    | nil => simp [absE, ins, he]
    | cons a tt ih =>
     have := ih fun e' he' => htt e' (by simp [he'])
     simp only [absE, List.cons_append, List.map_cons, ins] at this ⊢
     rw [if_neg (htt a (by simp)), this]
   rw [this t1 h1]
 · have := p.bn
   simpa using this
 · rcases List.mem_append.1 he' with h | h
   · exact p.lt e' (by simp [h])
   · rcases List.mem_cons.1 h with rfl | h
     · exact p.lt e (by simp)
     · exact p.lt e' (by simp [h])
theorem OkE.new (p : OkE t clk l) {k : κ} (hk : Go.Abs.lkp k l = none) (v : V) (x : α) : OkE (t ++ [⟨k, v, clk, x⟩]) (clk + 1) (ins k x l) := by
 have hk' := (p.lkp k).trans hk
 refine ⟨?_, nodup_ins p.nd, ?_, fun e' he' => ?_⟩
 · refine List.Perm.trans ?_ (ins_perm p.perm p.ndt k x)
   rw [ins_new hk']
   simp [absE]
 · rw [List.map_append, List.nodup_append]
   refine ⟨p.bn, by simp, fun a ha b hb => ?_⟩
   simp only [List.map_cons, List.map_nil, List.mem_singleton] at hb
   obtain ⟨e, he, rfl⟩ := List.mem_map.1 ha
   have := p.lt e he
   omega
 · rcases List.mem_append.1 he' with h | h
   · have := p.lt e' h; omega
   · simp only [List.mem_singleton] at h
     subst h
     simp
theorem Sep.dropL {L1 L2 : List Pl} (s : Sep F h (L1 ++ L2)) : Sep F h L2 := by
 induction L1 with
 | nil => exact s
 | cons a l ih => exact ih (Sep.drop s)
theorem Sep.insM {k : κ} {v : V} {x : α} (s : Sep F h (plGM D A m l :: A k v x :: L)) :
 ∃ h', mapUpdateD (some (D.kk, some z)) (.map (some m)) (D.enc k) v h = some h' ∧ Sep F h' (plGM D A m (ins k x l) :: L) := by
 obtain ⟨t, clk, p, s⟩ := s.openM
 have g := s.mapGet
 rw [map_meg] at g
 rw [update_G D g k v]
 refine ⟨_, rfl, ?_⟩
 cases hk : Go.Abs.lkp k l with
 | none =>
  have hg : getG k (t.map Et.g) = none := get_of_none ((p.lkp k).trans hk)
  rw [if_pos hg, putG_new k v clk _ hg]
  refine Sep.closeM (p.new hk v x) ?_
  have s1 := s.mapPut (es' := (t ++ [(⟨k, v, clk, x⟩ : Et κ α)]).map (Et.m D)) (clk' := clk + 1)
  have e1 : (List.map D.me (List.map Et.g t ++ [⟨k, v, clk⟩])) = (t ++ [(⟨k, v, clk, x⟩ : Et κ α)]).map (Et.m D) := by simp [Et.m, Et.g]
  rw [e1]
  refine s1.perm ?_
  simp only [List.map_append, List.map_cons, List.map_nil, List.append_assoc, List.cons_append, List.nil_append]
  exact List.Perm.refl _
 | some x0 =>
  obtain ⟨t1, e, t2, rfl, h1, h2, h3, h4⟩ := split_abs ((p.lkp k).trans hk)
  have hg : ¬ getG k ((t1 ++ e :: t2).map Et.g) = none := by rw [h3]; simp
  have e2 : putG k v clk ((t1 ++ e :: t2).map Et.g) = (t1 ++ ⟨k, v, e.b, x⟩ :: t2).map Et.g := by
   rw [List.map_append, List.map_cons, putG_split (fun e' he' => ?_) (by exact h1)]
   · simp [Et.g]
   · obtain ⟨a, ha, rfl⟩ := List.mem_map.1 he'
     exact h4 a ha
  rw [if_neg hg, e2]
  refine Sep.closeM (p.put rfl h1 h4 v x) ?_
  have s1 := s.mapPut (es' := (t1 ++ (⟨k, v, e.b, x⟩ : Et κ α) :: t2).map (Et.m D)) (clk' := clk)
  rw [← map_meg]
  have s2 : Sep F (h.put m (.map ((t1 ++ ⟨k, v, e.b, x⟩ :: t2).map (Et.m D)) clk)) (A e.k e.v e.x :: plMap m ((t1 ++ ⟨k, v, e.b, x⟩ :: t2).map (Et.m D)) clk :: ((t1 ++ ⟨k, v, e.b, x⟩ :: t2).map (Et.p A) ++ L)) := by
   refine s1.perm ?_
   simp only [List.map_append, List.map_cons, List.append_assoc, List.cons_append]
   refine (List.Perm.cons _ ?_).trans (List.Perm.swap _ _ _)
   refine List.perm_middle.trans (List.Perm.cons _ ?_)
   exact List.Perm.append_left _ List.perm_middle
  exact s2.drop
theorem Sep.backM {k : κ} {v : V} {x x' : α} (s : Sep F h (A k v x' :: plGM D (holeP k v A) m l :: L)) (hk : Go.Abs.lkp k l = some x) :
 Sep F h (plGM D A m (ins k x' l) :: L) := by
 obtain ⟨t, clk, p, s⟩ := s.up1.openM
 obtain ⟨t1, e, t2, rfl, h1, h2, h3, h4⟩ := split_abs ((p.lkp k).trans hk)
 have h5 : ∀ e' ∈ t2, e'.k ≠ k := by
  have := p.ndt
  rw [absE_keys, List.map_append, List.map_cons, List.nodup_append] at this
  have h6 := (List.nodup_cons.1 this.2.1).1
  intro e' he' hc
  exact h6 (List.mem_map.2 ⟨e', he', hc.trans h1.symm⟩)
 rw [List.map_append (f := Et.p (holeP k v A)), List.map_cons (f := Et.p (holeP k v A)), hole_map h4, hole_map h5, hole_at h1] at s
 have s1 : Sep F h (plPure (e.v = v) :: plMap m ((t1 ++ e :: t2).map (Et.m D)) clk :: (t1.map (Et.p A) ++ (t2.map (Et.p A) ++ (A k v x' :: L)))) := by
  refine s.perm ?_
  simp only [List.append_assoc, List.cons_append]
  exact (List.Perm.cons _ List.perm_middle).trans (List.Perm.swap _ _ _)
 obtain ⟨hv, s2⟩ := s1.pure
 have hp := p.put rfl h1 h4 v x'
 refine Sep.closeM hp ?_
 have e3 : ((t1 ++ e :: t2).map (Et.m D)) = (t1 ++ (⟨k, v, e.b, x'⟩ : Et κ α) :: t2).map (Et.m D) := by simp [Et.m, Et.g, hv, h1]
 rw [e3] at s2
 refine s2.perm (List.Perm.cons _ ?_)
 simp only [List.map_append, List.map_cons, List.append_assoc, List.cons_append]
 refine List.Perm.append_left _ ?_
 exact List.perm_middle
/-! ### A look at all of it -/
structure SeenT (t td : List (Et κ α)) (seen : Array Nat) : Prop where
 sub : ∀ e ∈ td, e ∈ t
 nd : (td.map (·.b)).Nodup
 eq : seen = (td.map (·.b)).toArray
theorem SeenT.nil (t : List (Et κ α)) : SeenT t [] #[] := ⟨by simp, by simp, rfl⟩
theorem Sep.nextT {it clk : Nat} {td : List (Et κ α)} {seen : Array Nat} (s : Sep F h (plIter it m clk seen :: plMap m (t.map (Et.m D)) clk :: L)) (hb : ∀ e ∈ t, e.b < clk) (hn : (t.map (·.b)).Nodup) (hs : SeenT t td seen)
 {K : V → AHeap → Prop}
 (hK : ∀ e ∈ t, e ∉ td → ∀ h', Sep F h' (plIter it m clk (seen.push e.b) :: plMap m (t.map (Et.m D)) clk :: L) → SeenT t (td ++ [e]) (seen.push e.b) → aEntry (ptr it 0) h' = some (.tuple #[D.enc e.k, e.v]) → td.length < t.length →
  K (.tuple #[.bool true, D.enc e.k, e.v]) h')
 (hE : t.Perm td → K (.tuple #[.bool false]) h) : aNext (ptr it 0) false h K := by
 have es : Seen (t.map (Et.m D)) (td.map (Et.m D)) seen := ⟨fun x hx => by
  obtain ⟨e, he, rfl⟩ := List.mem_map.1 hx
  exact List.mem_map.2 ⟨e, hs.sub e he, rfl⟩, by rw [map_born]; exact hs.nd, by rw [hs.eq, map_born]⟩
 refine s.next (fun x hx => ?_) (by rw [map_born]; exact hn) es (fun x hx hnx h' s' hs' he' hl' => ?_) (fun hp => hE ?_)
 · obtain ⟨e, he, rfl⟩ := List.mem_map.1 hx
   exact hb e he
 · obtain ⟨e, he, rfl⟩ := List.mem_map.1 hx
   refine hK e he (fun hm => hnx (List.mem_map.2 ⟨e, hm, rfl⟩)) h' s' ⟨fun a ha => ?_, ?_, ?_⟩ he' (by simpa using hl')
   · rcases List.mem_append.1 ha with ha | ha
     · exact hs.sub a ha
     · simp only [List.mem_singleton] at ha
       rw [ha]; exact he
   · have := hs'.nd
     rw [List.map_append, map_born] at this
     rw [List.map_append]
     exact this
   · have := hs'.eq
     rw [List.map_append, map_born] at this
     rw [List.map_append]
     exact this
 · have nt : t.Nodup := nodup_of_map hn
   have ntd : td.Nodup := nodup_of_map hs.nd
   have hlen := hp.length_eq
   simp only [List.length_map] at hlen
   refine (List.perm_ext_iff_of_nodup nt ntd).2 fun e => ⟨fun he => ?_, hs.sub e⟩
   have h1 : e.b ∈ (td.map (Et.m D)).map (·.born) := by
    have : e.b ∈ (t.map (Et.m D)).map (·.born) := by
     rw [map_born]
     exact List.mem_map.2 ⟨e, he, rfl⟩
    exact (hp.map (·.born)).mem_iff.1 this
   rw [map_born] at h1
   obtain ⟨e', he', hbe⟩ := List.mem_map.1 h1
   have hbe : e'.b = e.b := hbe
   have : ∀ (l : List (Et κ α)), (l.map (·.b)).Nodup → ∀ a ∈ l, ∀ b ∈ l, a.b = b.b → a = b := by
    intro l
    induction l with
    | nil => simp
    | cons c l ih =>
     intro hnd a ha b hb hab
     simp only [List.map_cons, List.nodup_cons] at hnd
     rcases List.mem_cons.1 ha with rfl | ha' <;> rcases List.mem_cons.1 hb with rfl | hb'
     · rfl
     · exact absurd (List.mem_map.2 ⟨b, hb', hab.symm⟩) hnd.1
     · exact absurd (List.mem_map.2 ⟨a, ha', hab⟩) hnd.1
     · exact ih hnd.2 a ha' b hb' hab
   rw [← this t hn e' (hs.sub e' he') e he hbe]
   exact he'
end
end Go.Abs
namespace Go.Abs
open Go
variable {E : FE} {h : AHeap} {fp : List Nat} {v : V}
theorem st5 {b : Nat} {c o : Oq} (hb : h.get b = some (.cells c.cells 5 .rw)) : stD (some 5) (ptr b 0) o.agg h = some (h.put b (.cells o.cells 5 .rw)) := by
 show h.wr b 0 o.cells = _
 simp only [AHeap.wr, hb]
 rw [if_pos ⟨by simp, by simp [Oq.cells]⟩]
 rfl
theorem newO0 : newD none (.agg #[(.int .i64 0), (.string ⟨#[]⟩), (.string ⟨#[]⟩), (.string ⟨#[]⟩), (.int .i64 0)]) h = some (ptr h.next 0, h.new (.cells (⟨0, ⟨#[]⟩, ⟨#[]⟩, ⟨#[]⟩, 0⟩ : Oq).cells 5 .rw)) := rfl
end Go.Abs
namespace Go.Abs
open Go
variable {E : FE} {F : Fr} {h : AHeap} {L : List Pl} {p v : V} {lk : List (KeyM × IdM)} {ks : List KeyM}
abbrev cId (i : IdM) : List V := [i64 i.client, i64 i.seq]
theorem new2 (i : IdM) : newD none i.agg h = some (ptr h.next 0, h.new (.cells (cId i) 2 .rw)) := rfl
theorem newI0 : newD none (.agg #[(.int .i64 0), (.int .i64 0)]) h = some (ptr h.next 0, h.new (.cells (cId ⟨0, 0⟩) 2 .rw)) := rfl
theorem ld2 {b : Nat} {i : IdM} (hb : h.get b = some (.cells (cId i) 2 .rw)) : ldD (.agg 2) (ptr b 0) h = some i.agg := by
 simp only [ld_agg, rdN_of hb]
 rfl
theorem st2 {b : Nat} {c k : IdM} (hb : h.get b = some (.cells (cId c) 2 .rw)) : stD (some 2) (ptr b 0) k.agg h = some (h.put b (.cells (cId k) 2 .rw)) := by
 show h.wr b 0 (cId k) = _
 simp only [AHeap.wr, hb]
 rw [if_pos ⟨by simp, by simp⟩]
 rfl
theorem id_eq (c : Bool) (a b : IdM) : binD (.struct [(0, .int), (1, .int)]) .eql c a.agg b.agg h = some (.bool (decide (a = b))) := by
 have := kdId.eq a b
 have e : eqD (.struct [(0, .int), (1, .int)]) c a.agg b.agg h = some (decide (a = b)) := this
 show (eqD (.struct [(0, .int), (1, .int)]) c _ _ h).map Value.bool = _
 rw [e]; rfl
end Go.Abs
namespace Go.Abs
open Go
variable {E : FE} {h : AHeap} {fp : List Nat} {v : V}
abbrev zOp : List V := [(.int .i64 0), (.string ⟨#[]⟩), (.string ⟨#[]⟩), (.string ⟨#[]⟩), (.int .i64 0)]
theorem clone_ops {l : List Oq} (s : SlE dOp h fp v l) (hsmall : l.length ≤ 1099511627776) :
 cl (F.slices_Clone_Sapi_Op_api_Op E) [v] h fun r h' => ∃ fp', SlE dOp h' fp' r l ∧ Mod h [] h' fp' := by
 refine cl_of ?_
 obtain ⟨b, hb, hnil⟩ := Sl.isNil s true
 simp only [F.slices_Clone_Sapi_Op_api_Op, hb, kv_some, ifV_bool]
 cases b with
 | true =>
  obtain ⟨h0, rfl⟩ := hnil rfl
  have : l = [] := List.eq_nil_of_length_eq_zero h0
  subst this
  simp only [if_true]
  exact ⟨[], SlE.nil (D := dOp), Mod.refl (by simp)⟩
 | false =>
  simp only [Bool.false_eq_true, if_false, buildSliceD]
  simp only [Nat.zero_mul, Nat.zero_le, List.length_cons, List.length_nil, and_self, and_true, true_and, if_true, aFill, Option.map_some, kP_some, zeros, Nat.mul_zero, List.range_zero, List.map_nil, show (0:Nat) < 5 from by decide]
  have s1 : Sl (h.new (.cells [] 5 .rw)) [h.next] (.slice (some ⟨h.next, 0, none⟩) 0 0) 5 0 [] := ⟨by simp, .inr ⟨h.next, 0, [], rfl, rfl, by simp, by simp, by simp, by simp, by simp⟩⟩
  have s2 : Sl (h.new (.cells [] 5 .rw)) fp v 5 l.length (dOp.flat l) := s.keep (Mod.newBox (fp := []) (by simp))
  obtain ⟨v', h', fp', e1, e2, e3⟩ := Sl.append s1 (bytes := 64) (z := zOp) rfl (by decide) (by decide) (Sl.src s2).1 (fun _ => (Sl.src s2).2) (by rw [dOp.flat_len]; rfl) (dOp.flat_one l) (by omega)
  simp only [zOp] at e1
  rw [e1]
  simp only [kP_some]
  refine ⟨fp', by rw [Nat.zero_add, List.nil_append] at e2; exact e2, by have := e3.next; simp at this; omega, fun x hx _ => ?_, fun x hx => ?_, e3.lt⟩
  · have hne : x ≠ h.next := by omega
    rw [e3.same x (by simp; omega) (by simpa using hne)]
    simp [hne]
  · rcases e3.new x hx with h1 | h1
    · simp at h1; right; omega
    · simp at h1; right; omega
end Go.Abs
namespace Go.Abs
open Go
variable {E : FE} {F : Fr} {h : AHeap} {L : List Pl} {p v : V}
theorem ins_same {κ α : Type} [DecidableEq κ] {k : κ} {x : α} : ∀ {l : List (κ × α)}, Go.Abs.lkp k l = some x → ins k x l = l
 | [], h => by simp [Go.Abs.lkp] at h
 | (a, u) :: l, h => by
  simp only [Go.Abs.lkp] at h
  by_cases hk : a = k
  · rw [if_pos hk] at h
    cases h
    rw [ins, if_pos hk, hk]
  · rw [if_neg hk] at h
    rw [ins, if_neg hk, ins_same h]
end Go.Abs
namespace Go.Abs
open Go
variable {E : FE} {F : Fr} {h : AHeap} {L : List Pl} {p v : V}
def plOps (v : V) (l : List Oq) : Pl := ⟨fun h f => SlE dOp h f v l, fun _ _ q => q.lt, fun _ _ _ q hl hs => SlE.same q hl hs⟩
def plStrs (v : V) (l : List ByteArray) : Pl := ⟨fun h f => Sl h f v 1 l.length (l.map str), fun _ _ q => q.lt, fun _ _ _ q hl hs => Sl.same q hl hs⟩
end Go.Abs
namespace Go.Abs
open Go
variable {κ α : Type} [DecidableEq κ] {t td : List (Et κ α)} {clk : Nat} {l : List (κ × α)}
theorem OkE.count (q : OkE t clk l) (hp : t.Perm td) (P : κ × α → Bool) : (td.filter fun e => P (e.k, e.x)).length = (l.filter P).length := by
 rw [← (hp.filter _).length_eq, ← (q.perm.filter P).length_eq, absE, List.filter_map, List.length_map]
 rfl
end Go.Abs
namespace Go.Abs
open Go
section
variable {F : Fr} {h : AHeap} {A B C D X Y Z W : Pl} {L : List Pl}
end
section
variable {κ α : Type} [DecidableEq κ] {D : KD κ} {A A' : κ → V → α → Pl} {F : Fr} {h : AHeap} {m : Nat} {l : List (κ × α)}
end
variable {F : Fr} {h : AHeap} {L : List Pl} {k k' : Nat}
structure MayF (o : Oq) : Prop where
 fn : 1 ≤ o.fn ∧ o.fn ≤ 12
 sp : 1 ≤ o.space.size ∧ o.space.size ≤ 20
 key : o.key.size ≤ 20
 val : o.val.size ≤ 100
 n : 0 ≤ o.n ∧ o.n ≤ 1099511627776
 make : o.fn = 1 → (1 ≤ o.n ∧ o.n ≤ 3) ∧ (digitK o.key = true ∨ o.key.size = 0)
theorem mayF {o : Oq} (h : mayO o = true) : MayF o := by
 simp only [mayO, makesO, Bool.and_eq_true, Bool.or_eq_true, decide_eq_true_eq] at h
 obtain ⟨⟨⟨⟨⟨⟨⟨⟨⟨⟨⟨⟨a, b⟩, c⟩, d⟩, _⟩, e⟩, f⟩, g⟩, i⟩, _⟩, _⟩, _⟩, j⟩ := h
 refine ⟨⟨a, b⟩, ⟨c, d⟩, e, f, ⟨g, i⟩, fun h1 => ?_⟩
 rcases j with j | ⟨⟨j1, j2⟩, j3⟩
 · exact absurd h1 j
 · exact ⟨⟨j1, j2⟩, j3.imp id fun x => x.1⟩
end Go.Abs
namespace Go.Abs
open Go
structure VInv (k : Nat) (st : VltM) : Prop where
 nsp : st.sp.length ≤ k
 npt : st.pt.length ≤ k
 nlk : st.lk.length ≤ k
 dsp : (keysL st.sp).Nodup
 dpt : (keysL st.pt).Nodup
 dlk : (keysL st.lk).Nodup
 may : ∀ e ∈ st.pt, allO e.2.ops = true
 own : ∀ e ∈ st.lk, ∃ p, lkp e.2 st.pt = some p ∧ e.1 ∈ p.ops.map lockOf
 has : ∀ e ∈ st.pt, ∀ o ∈ e.2.ops, lkp (lockOf o) st.lk = some e.1
 apart : ∀ e ∈ st.lk, ∀ e' ∈ st.lk, meetK e.1 e'.1 = true → e.2 = e'.2
 dvw : ∀ e ∈ st.pt, (keysL e.2.view).Nodup
 val8 : ∀ e ∈ st.pt, e.2.vals.length ≤ 8
 vw : ∀ e ∈ st.pt, ∀ x ∈ e.2.view, ∃ o ∈ e.2.ops, o.space = x.1
 tab : ∀ e ∈ st.pt, ∀ x ∈ e.2.view, (∀ o ∈ e.2.ops, o.space = x.1 → 3 ≤ o.fn ∧ o.fn ≤ 5) → ∃ s t, x.2 = some s ∧ s.kind = 1 ∧ lkp x.1 st.sp = some t ∧ t.kind = 1
 zsp : ∀ n ∈ keysL st.sp, n.size ≤ 20
theorem VInv.nil : VInv 0 ⟨[], [], [], []⟩ := ⟨by simp, by simp, by simp, by simp [keysL], by simp [keysL], by simp [keysL], by simp, by simp, by simp, by simp, by simp, by simp, by simp, by simp, by simp [keysL]⟩
variable {k : Nat} {st : VltM} {id : IdM}
theorem VInv.mono {k' : Nat} (i : VInv k st) (h : k ≤ k') : VInv k' st := { i with nsp := Nat.le_trans i.nsp h, npt := Nat.le_trans i.npt h, nlk := Nat.le_trans i.nlk h }
theorem allF {l : List Oq} (h : allO l = true) : 1 ≤ l.length ∧ l.length ≤ 8 ∧ ∀ o ∈ l, mayO o = true := by
 simp only [allO, Bool.and_eq_true, decide_eq_true_eq, List.all_eq_true] at h
 exact ⟨h.1.1, h.1.2, h.2⟩
end Go.Abs

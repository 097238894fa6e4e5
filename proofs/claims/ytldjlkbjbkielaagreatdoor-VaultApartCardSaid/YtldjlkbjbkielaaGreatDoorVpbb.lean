/- Specs on abstract heaps, part 39: spaces that are compared, whichever they are. -/
import Derived.Test.YtldjlkbjbkielaaGreatDoorVpba
import Derived.Test.YtldjlkbjbkielaaGreatDoorVpat
import Derived.Test.YtldjlkbjbkielaaGreatDoorVpal
import Derived.Deep.Slices
import Derived.Test.YtldjlkbjbkielaaGreatDoorVpaw
import Derived.SizedLaws
import Derived.Test.YtldjlkbjbkielaaGreatDoorVpaz
import Derived.Test.YtldjlkbjbkielaaGreatDoorVpau
import Derived.Test.YtldjlkbjbkielaaGreatDoorVpam
import Derived.Test.YtldjlkbjbkielaaGreatDoorVpas
import Derived.Test.YtldjlkbjbkielaaGreatDoorVpar
import Derived.KernelRfl
set_option linter.unusedSimpArgs false
set_option linter.unusedVariables false
namespace Go.Abs
open Go Go.Proofs
variable {E E1 : FE} {h h' : aA} {p q : V}
def EqP : bO → bO → Prop
 | .tab g1, .tab g2 => ∀ k, bE k g1 = bE k g2
 | .qu _ n1 i1 l1, .qu _ n2 i2 l2 => n1 = n2 ∧ i1 = i2 ∧ l1 = l2
 | .to l1 g1, .to l2 g2 => l1 = l2 ∧ ∀ k, bE k g1 = bE k g2
 | _, _ => False
theorem aJ6 {g1 g2 : List En} (n1 : (bY g1).Nodup) (n2 : (bY g2).Nodup) : gW g1 = gW g2 ↔ ∀ k, (bE k g1).isSome = (bE k g2).isSome := by
 have mem : ∀ (g : List En) k, k ∈ bY g ↔ (bE k g).isSome = true := by
  intro g k
  rw [Option.isSome_iff_ne_none, ne_eq, ← get_none]
  simp
 constructor
 · intro he k
   have h1 : k ∈ bY g1 ↔ k ∈ bY g2 := by rw [← (aFc g1).mem_iff, ← (aFc g2).mem_iff, he]
   rw [mem, mem] at h1
   exact Bool.eq_iff_iff.2 h1
 · intro hk
   have hp : (bY g1).Perm (bY g2) := (List.perm_ext_iff_of_nodup n1 n2).2 fun k => by rw [mem, mem, hk]
   have hb : ∀ g : List En, (g.map ME).map (fun e => gU e.key) = (bY g).map kl := by
    intro g
    rw [bY, List.map_map, List.map_map]
    rfl
   unfold gW eO
   rw [hb, hb, mergeSort_of_perm (hp.map kl)]
theorem aSa {g1 g2 : List En} (n1 : (bY g1).Nodup) (n2 : (bY g2).Nodup) {α : Type} (tx : ByteArray → List En → α) (htx : ∀ k, (bE k g1).isSome = true → (bE k g2).isSome = true → (tx k g1 = tx k g2 ↔ bE k g1 = bE k g2)) :
 (gW g1 = gW g2 ∧ ∀ k ∈ gW g1, tx k g1 = tx k g2) ↔ ∀ k, bE k g1 = bE k g2 := by
 have mem : ∀ k, k ∈ gW g1 ↔ (bE k g1).isSome = true := by
  intro k
  rw [(aFc g1).mem_iff, Option.isSome_iff_ne_none, ne_eq, ← get_none]
  simp
 constructor
 · rintro ⟨hk, ht⟩ k
   have hs := (aJ6 n1 n2).1 hk k
   cases hg : (bE k g1).isSome with
   | true => exact (htx k hg (by rw [← hs, hg])).1 (ht k ((mem k).2 hg))
   | false =>
    have h1 : bE k g1 = none := by simpa using hg
    have h2 : bE k g2 = none := by rw [hg] at hs; simpa using hs.symm
    rw [h1, h2]
 · intro he
   refine ⟨(aJ6 n1 n2).2 fun k => by rw [he], fun k hk => ?_⟩
   have h1 := (mem k).1 hk
   exact (htx k h1 (by rw [← he]; exact h1)).2 (he k)
def txt (k : ByteArray) (g : List En) : ByteArray := match bE k g with | some (.string s) => s | _ => ⟨#[]⟩
theorem aNr {g : List En} (hv : ∀ e ∈ g, ∃ s, e.v = str s) (k : ByteArray) : (bE k g).getD (str ⟨#[]⟩) = str (txt k g) := by
 unfold txt
 cases hk : bE k g with
 | none => rfl
 | some v =>
  obtain ⟨e, he, rfl⟩ := rY hk
  obtain ⟨s, hs⟩ := hv e he
  rw [hs]
  rfl
theorem aW8 {g1 g2 : List En} (h1 : ∀ e ∈ g1, ∃ s, e.v = str s) (h2 : ∀ e ∈ g2, ∃ s, e.v = str s) (k : ByteArray) (s1 : (bE k g1).isSome = true) (s2 : (bE k g2).isSome = true) : txt k g1 = txt k g2 ↔ bE k g1 = bE k g2 := by
 obtain ⟨v1, e1⟩ := Option.isSome_iff_exists.1 s1
 obtain ⟨v2, e2⟩ := Option.isSome_iff_exists.1 s2
 obtain ⟨x1, m1, rfl⟩ := rY e1
 obtain ⟨x2, m2, rfl⟩ := rY e2
 obtain ⟨t1, q1⟩ := h1 x1 m1
 obtain ⟨t2, q2⟩ := h2 x2 m2
 simp only [txt, e1, e2, q1, q2, Option.some.injEq, Value.string.injEq]
theorem aUk {l : List ByteArray} {P : ByteArray → Bool} : (!l.any P) = true ↔ ∀ k ∈ l, P k = false := by
 rw [Bool.not_eq_true', List.any_eq_false]
 simp
theorem aO4 {g1 g2 : List En} {fa fb : List Nat} (hM : aH E.I) (hE : E.I (E.k 2) = some (cl (Go.Abs.F.hZ E1))) (a : Tab h fa p g1) (b : Tab h fb q g2) (v1 : ∀ e ∈ g1, ∃ s, e.v = str s) (v2 : ∀ e ∈ g2, ∃ s, e.v = str s)
 (s1 : ∀ e ∈ g1, e.k.size ≤ maxLen) (s2 : ∀ e ∈ g2, e.k.size ≤ maxLen) (l1 : g1.length ≤ 1000) (l2 : g2.length ≤ 1000) :
 cl (Go.Abs.F.mZ E) [p, q] h fun r h' => (∃ x : Bool, r = .bool x ∧ (x = true ↔ ∀ k, bE k g1 = bE k g2)) ∧ Mod h [] h' [] := by
 have hge := aSa a.nd b.nd txt fun k => aW8 v1 v2 k
 refine aO ?_
 obtain ⟨pa, _⟩ := a.tI
 obtain ⟨pb, _⟩ := b.tI
 simp only [Go.Abs.F.mZ, aH4 p pa, aH4 q pb, bA]
 have m0 : Mod h [] ((h.new (.cells [p] 1 .rw)).new (.cells [q] 1 .rw)) [] := (Mod.oQ _).trans (Mod.oQ _)
 have g1' : ((h.new (.cells [p] 1 .rw)).new (.cells [q] 1 .rw)).get h.next = some (.cells [p] 1 .rw) := by simp
 have g2' : ((h.new (.cells [p] 1 .rw)).new (.cells [q] 1 .rw)).get (h.next + 1) = some (.cells [q] 1 .rw) := by simp
 have n1 : h.next < ((h.new (.cells [p] 1 .rw)).new (.cells [q] 1 .rw)).next := by simp; omega
 have n2 : h.next + 1 < ((h.new (.cells [p] 1 .rw)).new (.cells [q] 1 .rw)).next := by simp
 simp only [qZ]
 generalize (h.new (.cells [p] 1 .rw)).new (.cells [q] 1 .rw) = h0 at m0 g1' g2' n1 n2 ⊢
 have rp : ∀ {h'}, Mod h0 [] h' [] → h'.rd h.next 0 = some p := fun m => by rw [rC m n1]; exact aG g1' 0
 have rq : ∀ {h'}, Mod h0 [] h' [] → h'.rd (h.next + 1) 0 = some q := fun m => by rw [rC m n2]; exact aG g2' 0
 have keepA : ∀ {h'}, Mod h0 [] h' [] → Tab h' fa p g1 := fun m => a.same (m0.trans m).next fun x hx => (m0.trans m).same x (a.lt x hx) (by simp)
 have keepB : ∀ {h'}, Mod h0 [] h' [] → Tab h' fb q g2 := fun m => b.same (m0.trans m).next fun x hx => (m0.trans m).same x (b.lt x hx) (by simp)
 have mr : Mod h0 [] h0 [] := Mod.refl (by simp)
 simp only [bC, rp mr, rq mr, aB]
 refine aL (aGi (keepA mr) s1 l1) ?_
 rintro r1 h1 ⟨f1, t1, m1⟩
 have m1 := m1.nil
 simp only [bC, rq m1, true_and]
 refine aL (aGi (keepB m1) s2 l2) ?_
 rintro r2 h2 ⟨f2, t2, m2⟩
 have m2' := m1.trans m2.nil
 have t1' : Ts h2 f1 r1 (gW g1) := t1.same m2.next fun x hx => m2.same x (t1.lt x hx) (by simp)
 refine aL (aRp t1'.rdt t2.rdt (by rw [aFb]; omega)) ?_
 rintro r h3 ⟨e3, rfl⟩
 rw [e3]
 by_cases hk : gW g1 = gW g2
 · simp only [hk, decide_true, dB, Bool.not_true, aB, aF, Bool.false_eq_true, if_false, bC, rp m2']
   refine aL (aGi (keepA m2') s1 l1) ?_
   rintro r3 h4 ⟨f3, t3, m3⟩
   have m3' := m2'.trans m3.nil
   refine aL (aO9 hM t3.rdt (by rw [aFb]; omega) (fun k => !decide (txt k g1 = txt k g2)) fun s _ => ?_) ?_
   · simp only [cU, hE]
     refine aO ?_
     show Go.Abs.F.hZ E1 [str s, ptr h.next 0, ptr (h.next + 1) 0] h4 _
     simp only [Go.Abs.F.hZ, bC, rp m3', aB]
     refine aL (yY (keepA m3') v1 s) ?_
     rintro r h5 ⟨e5, rfl⟩
     rw [e5]
     simp only [bQ, List.getElem?_toArray, List.getElem?_cons_zero, List.getElem?_cons_succ, aB, bC, rq m3']
     refine aL (yY (keepB m3') v2 s) ?_
     rintro r h6 ⟨e6, rfl⟩
     rw [e6]
     simp only [bQ, List.getElem?_toArray, List.getElem?_cons_zero, List.getElem?_cons_succ, aB, aNr v1, aNr v2, wG]
     exact ⟨trivial, trivial⟩
   · rintro r h5 ⟨e5, rfl⟩
     rw [e5]
     simp only [dB, aB]
     refine ⟨⟨_, rfl, ?_⟩, m0.trans m3'⟩
     rw [aUk, ← hge]
     simp [hk]
 · simp only [hk, decide_false, dB, Bool.not_false, aB, aF, if_true]
   refine ⟨⟨false, rfl, ?_⟩, m0.trans m2'⟩
   rw [← hge]
   simp [hk]
end Go.Abs
namespace Go.Abs
open Go Go.RowKit
theorem aVq {P : Program} {fits : TypeId → Bool} {d : Nat} {e : TypeId} {count off n : Nat} (h : rowAt P fits d e count off n = true) : off ≤ count * P.cellsOf e := by
 cases d with
 | zero => simp [rowAt] at h
 | succ d =>
  unfold rowAt at h
  simp only at h
  split at h
  · cases h
  · rename_i hs
    have hm := Nat.div_add_mod off (P.cellsOf e)
    have hl := Nat.mod_lt off (Nat.pos_of_ne_zero hs)
    rw [Bool.or_eq_true] at h
    rcases h with h | h
    · simp only [Bool.and_eq_true, beq_iff_eq, decide_eq_true_eq] at h
      have : P.cellsOf e * (off / P.cellsOf e) ≤ P.cellsOf e * count := Nat.mul_le_mul_left _ (by omega)
      rw [Nat.mul_comm count]
      omega
    · rw [Bool.and_eq_true, decide_eq_true_eq] at h
      have : P.cellsOf e * (off / P.cellsOf e + 1) ≤ P.cellsOf e * count := Nat.mul_le_mul_left _ (by omega)
      rw [Nat.mul_add, Nat.mul_one] at this
      rw [Nat.mul_comm count]
      omega
theorem aKj {P : Program} : ∀ {d : Nat} {e : TypeId} {count off : Nat} {u : TypeId} {n : Nat}, liesAt P d e count off u n = true → off ≤ count * P.cellsOf e
 | 0, _, _, _, _, _, h => by simp [liesAt] at h
 | d + 1, e, count, off, u, n, h => by
  unfold liesAt at h
  rw [Bool.or_eq_true] at h
  rcases h with h | h
  · exact aVq h
  · split at h
    · exact aKj h
    · cases h
theorem aLp {P : Program} {w : World} {base : Nat} {t e : TypeId} {a : Addr} {len cap : Nat} (ht : P.underlying t = some (.slice e)) (h : Value.okWide P w .any base t (.slice (some a) len cap)) :
 a.spot = none ∧ ∃ cc el fr, w.heap[a.block]? = some (.cells cc el fr) ∧ a.off ≤ cc.size := by
 simp only [Value.okWide, ht, Cell.okWide] at h
 have h' : w.has P .any base a e cap := by
  simp only [Cell.ok, ht] at h
  first | exact h | exact h.2 | exact h.2.2 | exact h.1 | exact h.2.1
 obtain ⟨_, hs, row, cells, hsh, hl⟩ := h'
 refine ⟨hs, ?_⟩
 unfold World.shape? at hsh
 split at hsh
 · rename_i c el fr hb
   simp only [Option.some.injEq, Prod.mk.injEq] at hsh
   obtain ⟨rfl, rfl⟩ := hsh
   refine ⟨c, _, fr, hb, Nat.le_trans (aKj hl) (Nat.div_mul_le_self _ _)⟩
 · cases hsh
theorem R.aUo {J : World → Prop} {W : World} (hJ : J W) (es : Nat) :
 ∃ r h v, R J W.heap.size r h W ∧ VR r v (.slice none 0 0) ∧ Ro h.next h v es 0 [] :=
 ⟨fun _ => none, ⟨fun _ => none, 0⟩, .slice none 0 0, ⟨Nat.le_refl _, fun _ _ h => (by cases h), fun _ _ h => (by cases h), fun _ _ _ _ _ _ h => (by cases h), hJ⟩, .sliceNil, by simp, Nat.le_refl _, .inl ⟨rfl, rfl⟩⟩
theorem aD.aP5 {P : Program} {J : World → Prop} {f : FuncId} {s : Spec} (hs : aD P J f s) (hcall : ∀ (args : Array V) (w : World), (callFunc f args).run P w = .ok (.enter f args) w)
 {w : World} (hJ : cM J w.heap.size) {r : Ren} {h : aA} (hR : R J w.heap.size r h w) {l : List V} {l' : Array V} (hl : VRl r l l'.toList) {v0 : V} (h0 : bS v0 = true) (hq : s l h fun v _ => v = v0) :
 Calls P f l' w fun e w' => e = .returned v0 ∧ Below w.heap.size w w' := by
 obtain ⟨n, w1, h1, h2⟩ := hs _ hJ _ _ w l l' _ hq hR hl
 rw [hcall] at h1
 cases h1
 refine Calls.mono h2 ?_
 rintro e w' ⟨v', rfl, r', v, h', rfl, hR', hE, hv⟩
 exact ⟨by rw [VR.qP h0 hv], hE.below hR⟩
end Go.Abs
namespace Go.Abs
open Go Go.RowKit
def wB (i : Nat) : TypeDesc := if i = 0 ∨ i = 4 then .int .i64 else .string
theorem aUs {H : Type} {enc : TypeId × Value → H} {P : Program} {w : World} {base : Nat} {spare : Nat → Bool} {held : Bool} {fuel : Nat} {e : TypeId} {fs : Array Field} {cs : List V} {x : DataW H × List MemPlace}
 (he : P.underlying e = some (.struct fs)) (ce : P.cellsOf e = 5) (hf : ∀ i, i < 5 → ∃ f, fs[i]? = some f ∧ f.offset = i ∧ P.cellsOf f.type = 1 ∧ P.underlying f.type = some (wB i)) (hn : fs.size = 5)
 (h : DataW.trod enc P w base spare held fuel e cs = some x) : ∃ o : Oq, cs = o.cells ∧ (o.key.size ≤ maxLen ∧ o.val.size ≤ maxLen) ∧ ∀ R, (∀ n ∈ x.1.weights P e, n ≤ R) → o.key.size ≤ R ∧ o.val.size ≤ R := by
 obtain ⟨xs, n, _, hx1, hl, hxs, hr⟩ := DataW.trod_struct he h
 rw [ce] at hl
 have get : ∀ i, i < 5 → ∃ v y, cs[i]? = some v ∧ xs[i]? = some y ∧ ∃ f : Field, fs[i]? = some f ∧ P.underlying f.type = some (wB i) ∧ DataW.trod enc P w base spare held n f.type [v] = some y := by
  intro i hi
  obtain ⟨f, h1, h2, h3, h4⟩ := hf i hi
  have h5 := hr i f h1
  rw [h2, h3] at h5
  have hci : i < cs.length := by omega
  have hxi : i < xs.length := by omega
  refine ⟨cs[i], xs[i], List.getElem?_eq_getElem hci, List.getElem?_eq_getElem hxi, f, h1, h4, ?_⟩
  have h6 : (cs.drop i).take 1 = [cs[i]] := by rw [List.drop_eq_getElem_cons hci]; rfl
  rw [h6] at h5
  rw [h5, List.getElem?_eq_getElem hxi]
 have int : ∀ i, i < 5 → wB i = .int .i64 → ∃ m : Int, cs[i]? = some (i64 m) := by
  intro i hi ho
  obtain ⟨v, y, h1, _, f, _, h2, h3⟩ := get i hi
  rw [ho] at h2
  obtain ⟨m, h4, _⟩ := DataW.trod_int h2 h3
  simp only [List.cons.injEq, and_true] at h4
  exact ⟨m, by rw [h1, h4]⟩
 have txt : ∀ i, i < 5 → wB i = .string → ∃ s : ByteArray, cs[i]? = some (str s) ∧ s.size ≤ maxLen ∧ ∀ R, (∀ n ∈ x.1.weights P e, n ≤ R) → s.size ≤ R := by
  intro i hi ho
  obtain ⟨v, y, h1, hy, f, hff, h2, h3⟩ := get i hi
  rw [ho] at h2
  obtain ⟨m, h4, hyv, h5⟩ := DataW.trod_string h2 h3
  simp only [List.cons.injEq, and_true] at h4
  refine ⟨m, by rw [h1, h4], h5, fun R hR => ?_⟩
  have hlen : m.data.toList.length = m.size := by rw [Array.length_toList]; rfl
  rw [← hlen]
  refine hR _ ?_
  rw [hx1]
  simp only [DataW.weights, he]
  refine DataW.weights_mem_each (j := i) (t := f.type) (d := .lit (.string m.data.toList)) ?_ ?_ _ (by simp [DataW.weights])
  · rw [List.getElem?_map, Array.getElem?_toList, hff]; rfl
  · rw [List.getElem?_map, hy, hyv]; rfl
 obtain ⟨a0, e0⟩ := int 0 (by decide) rfl
 obtain ⟨a1, e1, _⟩ := txt 1 (by decide) rfl
 obtain ⟨a2, e2, z2, w2⟩ := txt 2 (by decide) rfl
 obtain ⟨a3, e3, z3, w3⟩ := txt 3 (by decide) rfl
 obtain ⟨a4, e4⟩ := int 4 (by decide) rfl
 refine ⟨⟨a0, a1, a2, a3, a4⟩, ?_, ⟨z2, z3⟩, fun R hR => ⟨w2 R hR, w3 R hR⟩⟩
 match cs, hl with
 | [c0, c1, c2, c3, c4], _ =>
  simp only [List.getElem?_cons_zero, List.getElem?_cons_succ, Option.some.injEq] at e0 e1 e2 e3 e4
  simp [Oq.cells, e0, e1, e2, e3, e4]
def Oqs (N : Nat) (h : aA) (v : V) (l : List Oq) : Prop := Ro N h v 5 l.length (l.flatMap Oq.cells)
theorem aL1 : ∀ (l : List Oq) (i : Nat) (o : Oq), l[i]? = some o → ∀ j, j < 5 → (l.flatMap Oq.cells)[i * 5 + j]? = o.cells[j]?
 | [], i, o, h, _, _ => by simp at h
 | a :: l, 0, o, h, j, hj => by
  simp only [List.getElem?_cons_zero, Option.some.injEq] at h
  subst h
  rw [List.flatMap_cons, List.getElem?_append_left (by simp [Oq.cells]; omega)]
  simp
 | a :: l, i + 1, o, h, j, hj => by
  rw [List.getElem?_cons_succ] at h
  rw [List.flatMap_cons, List.getElem?_append_right (by simp [Oq.cells]; omega), ← aL1 l i o h j hj]
  congr 1
  simp [Oq.cells]
  omega
end Go.Abs
namespace Go.Abs
open Go Go.Proofs
variable {E E0 E1 : FE} {h h' : aA} {p : V}
theorem SpS.lt {S : bO} {fp : List Nat} (s : SpS h fp p S) : ∀ x ∈ fp, x < h.next := by
 obtain ⟨pt, s⟩ := s
 exact s.lt
theorem SpS.same {S : bO} {fp : List Nat} (s : SpS h fp p S) (hl : h.next ≤ h'.next) (hs : ∀ x ∈ fp, h'.get x = h.get x) : SpS h' fp p S := by
 obtain ⟨pt, s⟩ := s
 exact ⟨pt, s.same hl hs⟩
def pD (p : V) (S : bO) : Pl := ⟨fun h f => SpS h f p S, fun _ _ q => q.lt, fun _ _ _ q hl hs => q.same hl hs⟩
def kindOf (fn : Int) : Int := if 3 ≤ fn ∧ fn ≤ 5 then 1 else if 6 ≤ fn ∧ fn ≤ 9 then 2 else if 10 ≤ fn ∧ fn ≤ 12 then 3 else 0
end Go.Abs
namespace Go.Abs
open Go Go.Proofs
variable {E E1 : FE} {h h' : aA} {p q pt qt : V} {fa fb : List Nat} {k : Nat}
theorem aN9 {g1 g2 : List En} (hM : aH E.I) (hE : E.I (E.k 2) = some (cl (Go.Abs.F.hZ E1))) (a : Spa h fa p (oR pt) (jS pt g1)) (b : Spa h fb q (oR qt) (jS qt g2)) (v1 : ∀ e ∈ g1, ∃ s, e.v = str s) (v2 : ∀ e ∈ g2, ∃ s, e.v = str s)
 (s1 : ∀ e ∈ g1, e.k.size ≤ maxLen) (s2 : ∀ e ∈ g2, e.k.size ≤ maxLen) (l1 : g1.length ≤ 1000) (l2 : g2.length ≤ 1000) :
 cl (Go.Abs.F.mX E) [p, q] h fun r h' => (∃ x : Bool, r = .bool x ∧ (x = true ↔ EqP (.tab g1) (.tab g2))) ∧ Mod h [] h' [] := by
 refine aO ?_
 obtain ⟨h0, x, ba, bb, f, f', rfl, rfl, e1, e2, m0, st, kA, kB⟩ := aRs a b
 have mr : Mod h0 [] h0 [] := Mod.refl (by simp)
 simp only [Go.Abs.F.mX, e1, e2, bA]
 simp only [bC, st.rp mr, st.rq mr, aB, dF, aT, if_true, aY, Bool.false_eq_true, if_false, bK, bH, Nat.zero_add, st.ra mr, st.rb mr, List.getElem?_cons_zero, List.getElem?_cons_succ, oO, bne_self_eq_false, aF, dS, beq_self_eq_true]
 refine aL (aO4 hM hE (kA mr) (kB mr) v1 v2 s1 s2 l1 l2) ?_
 rintro r h1 ⟨hx, m1⟩
 exact ⟨hx, m0.trans m1⟩
end Go.Abs
namespace Go.Abs
open Go Go.Proofs
variable {E E0 E1 : FE} {h h' : aA} {p q : V} {k : Nat}
def KI : bO → Prop
 | .to l g => (∀ v ∈ l, v.size ≤ 120) ∧ ∀ e ∈ g, e.k.size ≤ 30
 | _ => True
theorem KI.step {S : bO} (s : KI S) (o : Oq) (now : Int) (c : Nat) (hz : o.key.size ≤ 30 ∧ o.val.size ≤ 120) : KI (S.act o now c).2.2 := by
 cases S with
 | tab g =>
  simp only [bO.act, doT]
  split
  · split
    · trivial
    · split <;> trivial
  · trivial
 | qu a b i l =>
  simp only [bO.act, doQ]
  split
  · split
    · split <;> trivial
    · split
      · split <;> trivial
      · split
        · split
          · split <;> trivial
          · trivial
        · trivial
  · trivial
 | to l g =>
  have put : ∀ n : Int, KI (.to l (cK o.key (i64 n) c g)) := fun n => ⟨s.1, fun e he => by
   rcases wA he with ⟨h1, _⟩ | h1
   · rw [h1]; exact hz.1
   · exact s.2 e h1⟩
  simp only [bO.act, doP]
  split
  · split
    · split
      · refine ⟨fun v hv => ?_, s.2⟩
        rcases List.mem_append.1 hv with hv | hv
        · exact s.1 v hv
        · simp only [List.mem_singleton] at hv
          rw [hv]; exact hz.2
      · exact s
    · split
      · exact s
      · split
        · split
          · exact put _
          · exact s
        · exact s
  · exact s
theorem aUd (kd most : Int) (hk : kd = 1 ∨ kd = 2 ∨ kd = 3) : cl (Go.Abs.F.fU E) [i64 kd, i64 most] h fun r h' => ∃ S fp, SpS h' fp r S ∧ Mod h [] h' fp ∧ SI 0 S ∧ KI S ∧ nR S ⟨⟨#[]⟩, kd, [], max 1 (min most 9), [], [], 1⟩ := by
 rcases hk with rfl | rfl | rfl
 · refine aL (aV9 _) ?_
   rintro r h' ⟨pt, fp, s, m⟩
   exact ⟨.tab [], fp, ⟨pt, s⟩, m, ⟨by simp, by simp, by simp⟩, trivial, rfl, TG.nil, by simp [bY], rfl, rfl, by simp⟩
 · refine aL (aV8 most) ?_
   rintro r h' ⟨pt, fp, s, m⟩
   exact ⟨.qu (min (max most 1) 9) 1 [] [], fp, ⟨pt, s⟩, m, ⟨by omega, by omega, by simp, by simp, by simp⟩, trivial, rfl, rfl, (by show max 1 (min most 9) = min (max most 1) 9; omega), rfl, rfl, rfl⟩
 · refine aL (aWa _) ?_
   rintro r h' ⟨pt, fp, s, m⟩
   exact ⟨.to [] [], fp, ⟨pt, s⟩, m, ⟨by simp, by simp, by simp, by simp, by simp⟩, ⟨by simp, by simp⟩, rfl, TG.nil, by simp [bY], rfl, rfl, by simp⟩
def Ints (N : Nat) (h : aA) (v : V) (l : List Int) : Prop := Ro N h v 1 l.length (l.map i64)
end Go.Abs
namespace Go.Abs
open Go
variable {F : Fr} {h h' : aA} {A B C D : Pl} {L L' : List Pl}
theorem cY.low {N M : Nat} : ∀ {L : List Pl} {f : List Nat}, cY N h L f → (∀ x ∈ f, M ≤ x) → cY M h L f
 | [], _, s, _ => s
 | A :: L, _, ⟨a, r, e, s1, s2, s3, s4⟩, hf => by
  subst e
  exact ⟨a, r, rfl, s1, s2.low fun x hx => hf x (by simp [hx]), s3, fun x hx => hf x (by simp [hx])⟩
theorem cY.app {N : Nat} : ∀ {L' : List Pl} {L : List Pl} {f : List Nat}, cY N h (L' ++ L) f ↔ ∃ a r, f = a ++ r ∧ cY N h L' a ∧ cY N h L r ∧ ∀ x ∈ a, x ∉ r
 | [], L, f => ⟨fun s => ⟨[], f, rfl, rfl, s, by simp⟩, fun ⟨a, r, e, s1, s2, _⟩ => by
  have s1' : a = [] := s1
  subst s1' e
  simpa using s2⟩
 | A :: L', L, f => by
  constructor
  · rintro ⟨a, r, rfl, s1, s2, s3, s4⟩
    obtain ⟨a2, r2, rfl, t1, t2, t3⟩ := (cY.app (L' := L') (L := L)).1 s2
    refine ⟨a ++ a2, r2, by simp, ⟨a, a2, rfl, s1, t1, fun x hx hr => s3 x hx (by simp [hr]), s4⟩, t2, fun x hx hr => ?_⟩
    rcases List.mem_append.1 hx with hx | hx
    · exact s3 x hx (by simp [hr])
    · exact t3 x hx hr
  · rintro ⟨_, r, rfl, ⟨a, a2, rfl, s1, t1, s3, s4⟩, t2, t3⟩
    refine ⟨a, a2 ++ r, by simp, s1, (cY.app (L' := L') (L := L)).2 ⟨a2, r, rfl, t1, t2, fun x hx => t3 x (by simp [hx])⟩, fun x hx hr => ?_, s4⟩
    rcases List.mem_append.1 hr with hr | hr
    · exact s3 x hx hr
    · exact t3 x (by simp [hx]) hr
def dE (φ : Prop) : Pl := ⟨fun _ f => f = [] ∧ φ, fun _ _ ⟨e, _⟩ x hx => by subst e; simp at hx, fun _ _ _ p _ _ => p⟩
def kY (L : List Pl) : Pl := ⟨fun h f => cY 0 h L f, fun _ _ s => s.lt, fun _ _ _ s hl hs => s.same hl hs⟩
def sL {α : Type} (A : α → Pl) : Pl := ⟨fun h f => ∃ a, (A a).P h f, fun h f ⟨a, p⟩ => (A a).lt h f p, fun h h' f ⟨a, p⟩ hl hs => ⟨a, (A a).same h h' f p hl hs⟩⟩
def bM (b : Nat) (es : List MapEntry) (clk : Nat) : Pl :=
 ⟨fun h f => f = [b] ∧ b < h.next ∧ h.get b = some (.map es clk), fun h f ⟨e, hb, _⟩ x hx => by subst e; simp at hx; omega,
  fun h h' f ⟨e, hb, hg⟩ hl hs => ⟨e, by omega, by rw [hs b (by simp [e]), hg]⟩⟩
def cJ (b m since : Nat) (seen : Array Nat) : Pl :=
 ⟨fun h f => f = [b] ∧ b < h.next ∧ h.get b = some (.miter (some m) since seen since), fun h f ⟨e, hb, _⟩ x hx => by subst e; simp at hx; omega,
  fun h h' f ⟨e, hb, hg⟩ hl hs => ⟨e, by omega, by rw [hs b (by simp [e]), hg]⟩⟩
theorem Sep.ex {α : Type} {A : α → Pl} (s : Sep F h (sL A :: L)) : ∃ a, Sep F h (A a :: L) := by
 obtain ⟨s0, s1, f, a, r, rfl, ⟨x, p⟩, s3, s4, s5⟩ := s
 exact ⟨x, s0, s1, a ++ r, a, r, rfl, p, s3, s4, s5⟩
theorem Sep.vR {α : Type} {A : α → Pl} (x : α) (s : Sep F h (A x :: L)) : Sep F h (sL A :: L) := by
 obtain ⟨s0, s1, f, a, r, rfl, p, s3, s4, s5⟩ := s
 exact ⟨s0, s1, a ++ r, a, r, rfl, ⟨x, p⟩, s3, s4, s5⟩
theorem Sep.pure {φ : Prop} (s : Sep F h (dE φ :: L)) : φ ∧ Sep F h L := by
 obtain ⟨s0, s1, f, a, r, rfl, ⟨rfl, p⟩, s3, s4, s5⟩ := s
 exact ⟨p, s0, s1, r, s3⟩
theorem Sep.mkPure {φ : Prop} (p : φ) (s : Sep F h L) : Sep F h (dE φ :: L) := by
 obtain ⟨s0, s1, f, s3⟩ := s
 exact ⟨s0, s1, [] ++ f, [], f, rfl, ⟨rfl, p⟩, s3, by simp, by simp⟩
theorem Sep.all (s : Sep F h (kY L' :: L)) : Sep F h (L' ++ L) := by
 obtain ⟨s0, s1, f, a, r, rfl, p, s3, s4, s5⟩ := s
 exact ⟨s0, s1, a ++ r, cY.app.2 ⟨a, r, rfl, cY.low p s5, s3, s4⟩⟩
theorem Sep.vQ (s : Sep F h (L' ++ L)) : Sep F h (kY L' :: L) := by
 obtain ⟨s0, s1, f, s2⟩ := s
 obtain ⟨a, r, rfl, t1, t2, t3⟩ := cY.app.1 s2
 exact ⟨s0, s1, a ++ r, a, r, rfl, t1.low (by simp), t2, t3, t1.lo⟩
theorem Sep.qD {b clk : Nat} {es : List MapEntry} (s : Sep F h (bM b es clk :: L)) : h.get b = some (.map es clk) := by
 obtain ⟨_, ⟨_, _, e⟩, _⟩ := s.head
 exact e
theorem Sep.aJz {b m clk : Nat} {seen : Array Nat} (s : Sep F h (cJ b m clk seen :: L)) : h.get b = some (.miter (some m) clk seen clk) := by
 obtain ⟨_, ⟨_, _, e⟩, _⟩ := s.head
 exact e
theorem Sep.aBa {b clk clk' : Nat} {es es' : List MapEntry} (s : Sep F h (bM b es clk :: L)) : Sep F (h.put b (.map es' clk')) (bM b es' clk' :: L) := by
 obtain ⟨a, ⟨rfl, hb, _⟩, k⟩ := s.head
 refine k (a' := [b]) (bM b es' clk') ⟨by simp, fun x hx hn => ?_, fun x hx => .inl hx, fun x hx => by simp at hx; simp; omega⟩ ⟨rfl, hb, by simp⟩
 have : x ≠ b := by simpa using hn
 simp [this]
theorem Sep.aSt {b m clk : Nat} {seen seen' : Array Nat} (s : Sep F h (cJ b m clk seen :: L)) : Sep F (h.put b (.miter (some m) clk seen' clk)) (cJ b m clk seen' :: L) := by
 obtain ⟨a, ⟨rfl, hb, _⟩, k⟩ := s.head
 refine k (a' := [b]) (cJ b m clk seen') ⟨by simp, fun x hx hn => ?_, fun x hx => .inl hx, fun x hx => by simp at hx; simp; omega⟩ ⟨rfl, hb, by simp⟩
 have : x ≠ b := by simpa using hn
 simp [this]
theorem Sep.aUb (s : Sep F h L) (es : List MapEntry) (clk : Nat) : Sep F (h.new (.map es clk)) (bM h.next es clk :: L) :=
 s.alloc (a' := [h.next]) _ ⟨by simp, fun x hx _ => by have : x ≠ h.next := by omega
                                                       simp [this], by simp, by simp⟩ ⟨rfl, by simp, by simp⟩
theorem Sep.aUa (s : Sep F h L) (m clk : Nat) (seen : Array Nat) : Sep F (h.new (.miter (some m) clk seen clk)) (cJ h.next m clk seen :: L) :=
 s.alloc (a' := [h.next]) _ ⟨by simp, fun x hx _ => by have : x ≠ h.next := by omega
                                                       simp [this], by simp, by simp⟩ ⟨rfl, by simp, by simp⟩
theorem Sep.range {m clk : Nat} {es : List MapEntry} (s : Sep F h (bM m es clk :: L)) {K : V → aA → Prop}
 (hK : ∀ it h', Sep F h' (cJ it m clk #[] :: bM m es clk :: L) → K (ptr it 0) h') : kP (gJ .map (.map (some m)) h) K := by
 have g := s.qD
 have e1 : gJ .map (.map (some m)) h = some (.pointer (some ⟨h.next, 0, none⟩), h.new (.miter (some m) clk #[] clk)) := by simp only [gJ, g]
 rw [e1, bA]
 exact hK h.next _ (s.aUa m clk #[])
theorem Sep.next {it m clk : Nat} {es done : List MapEntry} {seen : Array Nat} (s : Sep F h (cJ it m clk seen :: bM m es clk :: L)) (hb : ∀ e ∈ es, e.born < clk) (hn : (es.map (·.born)).Nodup) (hs : Seen es done seen)
 {K : V → aA → Prop}
 (hK : ∀ e ∈ es, e ∉ done → ∀ h', Sep F h' (cJ it m clk (seen.push e.born) :: bM m es clk :: L) → Seen es (done ++ [e]) (seen.push e.born) → gO (ptr it 0) h' = some (.tuple #[e.key, e.val]) → done.length < es.length →
  K (.tuple #[.bool true, e.key, e.val]) h')
 (hE : es.Perm done → K (.tuple #[.bool false]) h) : dM (ptr it 0) false h K := by
 have g1 := s.aJz
 have g2 := s.up1.qD
 refine aUf hb g1 g2 (fun e he hne => ?_) (fun ha => hE (hs.all hn ha))
 have s' : Sep F (h.put it (.miter (some m) clk (seen.push e.born) clk)) (cJ it m clk (seen.push e.born) :: bM m es clk :: L) := s.aSt
 exact hK e he (hs.new hne) _ s' (hs.push he hne) (aRf hn he s'.aJz s'.up1.qD) (hs.lt he hne)
end Go.Abs
namespace Go.Abs
open Go Go.Proofs
variable {E E0 E1 : FE} {h h' : aA} {p q : V} {k : Nat}
def SpM.ofQ (s : SpM) : bO → SpM
 | .qu a b i l => { s with most := a, next := b, items := i, lost := l }
 | _ => s
def SpM.act (s : SpM) (o : Oq) (now : Int) : ByteArray × Int × SpM :=
 if s.kind = 1 then
  if 3 ≤ o.fn ∧ o.fn ≤ 5 then
   if o.fn = 4 then (⟨#[]⟩, 0, { s with bV := cG ⟨o.key, o.val, 0⟩ s.bV })
   else if o.fn = 5 then (if (bU o.key s.bV).isSome then ⟨#[61]⟩ else ⟨#[45]⟩, 0, { s with bV := iK o.key s.bV })
   else (match bU o.key s.bV with | some q => ⟨#[61]⟩ ++ q.val | none => ⟨#[45]⟩, 0, s)
  else (⟨#[]⟩, 1, s)
 else if s.kind = 2 then
  if 6 ≤ o.fn ∧ o.fn ≤ 9 then
   ((doQ s.most s.next s.items s.lost o now).1, (doQ s.most s.next s.items s.lost o now).2.1, s.ofQ (doQ s.most s.next s.items s.lost o now).2.2)
  else (⟨#[]⟩, 1, s)
 else
  if 10 ≤ o.fn ∧ o.fn ≤ 12 then
   if o.fn = 10 then if s.items.length < 64 then (jF s.items.length, 0, { s with items := s.items ++ [aC3 o.val] }) else (⟨#[]⟩, 6, s)
   else if o.fn = 11 then (pZ ⟨#[]⟩ (qR (s.items.map (·.val)) (aAs o.key s.bV) o.n), 0, s)
   else if iT o.val then
    if aAs o.key s.bV = hG o.val ∧ (hG o.val : Int) ≤ o.n ∧ o.n ≤ s.items.length ∧ ((bU o.key s.bV).isSome ∨ s.bV.length < 16) then (⟨#[]⟩, 0, { s with bV := cG ⟨o.key, ⟨#[]⟩, o.n⟩ s.bV }) else (⟨#[]⟩, 3, s)
   else (⟨#[]⟩, 1, s)
  else (⟨#[]⟩, 1, s)
theorem aRa (a b : Int) (i l : List Msg) (o : Oq) (now : Int) : ∃ a' b' i' l', (doQ a b i l o now).2.2 = .qu a' b' i' l' := by
 simp only [doQ]
 split
 · split <;> exact ⟨_, _, _, _, rfl⟩
 · split
   · split <;> exact ⟨_, _, _, _, rfl⟩
   · split
     · split
       · split <;> exact ⟨_, _, _, _, rfl⟩
       · exact ⟨_, _, _, _, rfl⟩
     · exact ⟨_, _, _, _, rfl⟩
theorem aMe {ps : List Pr} {x : Pr} {P : Pr → Prop} (h : ∀ q ∈ ps, P q) (hx : P x) : ∀ q ∈ cG x ps, P q := by
 induction ps with
 | nil => simpa [cG] using hx
 | cons a l ih =>
  have hl := fun q hq => h q (List.mem_cons_of_mem _ hq)
  intro q hq
  simp only [cG] at hq
  split at hq
  · rcases List.mem_cons.1 hq with rfl | hq
    · exact h _ (by simp)
    · exact ih hl q hq
  · split at hq
    · rcases List.mem_cons.1 hq with rfl | hq
      · exact hx
      · exact hl q hq
    · rcases List.mem_cons.1 hq with rfl | hq
      · exact hx
      · exact h q hq
theorem aQ4 {ps : List Pr} {x : ByteArray} {P : Pr → Prop} (h : ∀ q ∈ ps, P q) : ∀ q ∈ iK x ps, P q := by
 induction ps with
 | nil => simp [iK]
 | cons a l ih =>
  have hl := fun q hq => h q (List.mem_cons_of_mem _ hq)
  intro q hq
  simp only [iK] at hq
  split at hq
  · rcases List.mem_cons.1 hq with rfl | hq
    · exact h _ (by simp)
    · exact ih hl q hq
  · split at hq
    · exact hl q hq
    · exact h q hq
theorem aDs {S : bO} {s : SpM} (R : nR S s) (hi : SI k S) (o : Oq) (now : Int) (c : Nat) :
 (S.act o now c).1 = (s.act o now).1 ∧ (S.act o now c).2.1 = (s.act o now).2.1 ∧ nR (S.act o now c).2.2 (s.act o now).2.2 := by
 cases S with
 | tab g =>
  obtain ⟨hkd, tg, hn, hit, hlo, hat0⟩ := R
  simp only [bO.act, SpM.act, hkd, if_true]
  split
  · rename_i hf
    simp only [doT]
    split
    · exact ⟨rfl, rfl, (by first | rfl | exact hkd), tg.put ⟨o.key, o.val, 0⟩ c, aBq hn, hit, hlo, aMe hat0 rfl⟩
    · split
      · refine ⟨?_, rfl, (by first | rfl | exact hkd), tg.del hn o.key, ?_, hit, hlo, aQ4 hat0⟩
        · rw [tg.hit]
        · rw [aFd]; exact hn.erase _
      · refine ⟨?_, rfl, (by first | rfl | exact hkd), tg, hn, hit, hlo, hat0⟩
        rw [tg.same]
        cases bU o.key s.bV <;> rfl
  · exact ⟨rfl, rfl, (by first | rfl | exact hkd), tg, hn, hit, hlo, hat0⟩
 | qu a b i l =>
  obtain ⟨hkd, hp, rfl, rfl, rfl, rfl⟩ := R
  have h1 : ¬ s.kind = 1 := by omega
  simp only [bO.act, SpM.act, if_neg h1, hkd, if_true]
  split
  · obtain ⟨a', b', i', l', e⟩ := aRa s.most s.next s.items s.lost o now
    rw [e]
    exact ⟨rfl, rfl, (by first | rfl | exact hkd), hp, rfl, rfl, rfl, rfl⟩
  · exact ⟨rfl, rfl, (by first | rfl | exact hkd), hp, rfl, rfl, rfl, rfl⟩
 | to l g =>
  obtain ⟨hkd, tg, hn, hit, hlo, hval⟩ := R
  have h1 : ¬ s.kind = 1 := by omega
  have h2 : ¬ s.kind = 2 := by omega
  have hlen := tg.len hn
  have hil : s.items.length = l.length := by rw [hit]; simp
  have hg := aSe tg o.key
  have hmv : s.items.map (·.val) = l := by rw [hit, aT2]
  have same : nR (.to l g) s := ⟨hkd, tg, hn, hit, hlo, hval⟩
  simp only [bO.act, SpM.act, if_neg h1, if_neg h2]
  split
  · simp only [doP, hil, hg, hmv, ← hlen, ← tg.hit]
    split
    · split
      · refine ⟨rfl, rfl, (by first | rfl | exact hkd), tg, hn, ?_, hlo, hval⟩
        rw [hit]
        simp
      · exact ⟨rfl, rfl, same⟩
    · split
      · exact ⟨rfl, rfl, same⟩
      · split
        · split
          · exact ⟨rfl, rfl, (by first | rfl | exact hkd), tg.put ⟨o.key, ⟨#[]⟩, o.n⟩ c, aBq hn, hit, hlo, aMe hval rfl⟩
          · exact ⟨rfl, rfl, same⟩
        · exact ⟨rfl, rfl, same⟩
  · exact ⟨rfl, rfl, same⟩
end Go.Abs
namespace Go.Abs
open Go
/-! ### Lists of bV as maps -/
section
variable {κ α : Type} [DecidableEq κ]
def lkp (k : κ) : List (κ × α) → Option α
 | [] => none
 | (a, v) :: l => if a = k then some v else lkp k l
def ins (k : κ) (v : α) : List (κ × α) → List (κ × α)
 | [] => [(k, v)]
 | (a, u) :: l => if a = k then (k, v) :: l else (a, u) :: ins k v l
def rmv (k : κ) : List (κ × α) → List (κ × α)
 | [] => []
 | (a, u) :: l => if a = k then l else (a, u) :: rmv k l
@[simp] theorem lR (k k' : κ) (v : α) : ∀ l : List (κ × α), lkp k (ins k' v l) = if k' = k then some v else lkp k l
 | [] => by simp [ins, lkp]
 | (a, u) :: l => by
  simp only [ins]
  by_cases h : a = k'
  · subst h
    simp only [if_true, lkp]
    split <;> rfl
  · simp only [if_neg h, lkp, lR k k' v l]
    by_cases h2 : a = k
    · subst h2
      have : ¬ k' = a := fun e => h e.symm
      simp [this]
    · simp [h2]
def aX (l : List (κ × α)) : List κ := l.map (·.1)
theorem kR {k : κ} : ∀ {l : List (κ × α)}, lkp k l = none ↔ k ∉ aX l
 | [] => by simp [lkp, aX]
 | (a, u) :: l => by
  simp only [lkp, aX, List.map_cons, List.mem_cons, not_or]
  by_cases h : a = k
  · simp [h]
  · simp only [if_neg h, kR (l := l), aX]
    exact ⟨fun hh => ⟨fun e => h e.symm, hh⟩, fun hh => hh.2⟩
theorem iM {k : κ} {v : α} : ∀ {l : List (κ × α)}, lkp k l = some v → (k, v) ∈ l
 | [], h => by simp [lkp] at h
 | (a, u) :: l, h => by
  simp only [lkp] at h
  split at h
  · rename_i e; cases h; subst e; simp
  · exact List.mem_cons_of_mem _ (iM h)
theorem lS {k : κ} {v : α} : ∀ {l : List (κ × α)}, (aX l).Nodup → (k, v) ∈ l → lkp k l = some v
 | [], _, h => by simp at h
 | (a, u) :: l, hn, h => by
  simp only [aX, List.map_cons, List.nodup_cons] at hn
  simp only [lkp]
  rcases List.mem_cons.1 h with h | h
  · cases h; simp
  · have : a ≠ k := fun e => hn.1 (e ▸ List.mem_map.2 ⟨(k, v), h, rfl⟩)
    rw [if_neg this]
    exact lS hn.2 h
theorem aA0 (k : κ) (v : α) : ∀ l : List (κ × α), aX (ins k v l) = if lkp k l = none then aX l ++ [k] else aX l
 | [] => by simp [ins, aX, lkp]
 | (a, u) :: l => by
  simp only [ins, lkp]
  by_cases h : a = k
  · simp [h, aX]
  · have := aA0 k v l
    simp only [if_neg h, aX, List.map_cons] at *
    rw [this]
    split <;> rfl
theorem qF {k : κ} {v : α} {l : List (κ × α)} (h : (aX l).Nodup) : (aX (ins k v l)).Nodup := by
 rw [aA0]
 split
 · rename_i hg
   have := kR.1 hg
   rw [List.nodup_append]
   refine ⟨h, by simp, ?_⟩
   intro a ha b hb
   simp at hb
   subst hb
   exact fun e => this (e ▸ ha)
 · exact h
theorem aE8 {k : κ} {v : α} : ∀ {l : List (κ × α)}, lkp k l = none → ins k v l = l ++ [(k, v)]
 | [], _ => rfl
 | (a, u) :: l, h => by
  simp only [lkp] at h
  split at h
  · cases h
  · rename_i hk; simp only [ins, if_neg hk, aE8 h]; rfl
theorem aJ8 (k : κ) : ∀ l : List (κ × α), aX (rmv k l) = (aX l).erase k
 | [] => rfl
 | (a, u) :: l => by
  simp only [rmv, aX, List.map_cons, List.erase_cons]
  by_cases h : a = k
  · simp [h]
  · have := aJ8 k l
    simp only [aX] at this
    simp [h, this]
theorem tQ {k : κ} {l : List (κ × α)} (h : (aX l).Nodup) : (aX (rmv k l)).Nodup := by
 rw [aJ8]; exact h.erase _
theorem tK {k k' : κ} : ∀ {l : List (κ × α)}, (aX l).Nodup → lkp k (rmv k' l) = if k' = k then none else lkp k l
 | [], _ => by simp [rmv, lkp]
 | (a, u) :: l, h => by
  simp only [aX, List.map_cons, List.nodup_cons] at h
  simp only [rmv]
  by_cases hk : a = k'
  · subst hk
    simp only [if_true, lkp]
    by_cases h2 : a = k
    · subst h2; simp only [if_true]; exact kR.2 h.1
    · simp [h2]
  · simp only [if_neg hk, lkp]
    by_cases h2 : a = k
    · subst h2
      have : ¬ k' = a := fun e => hk e.symm
      simp [this]
    · simp only [if_neg h2]
      exact tK h.2
omit [DecidableEq κ] in
theorem keys_perm {l l' : List (κ × α)} (p : l.Perm l') : (aX l).Perm (aX l') := List.Perm.map Prod.fst p
theorem aA3 {l l' : List (κ × α)} (p : l.Perm l') (hn : (aX l).Nodup) (k : κ) : lkp k l = lkp k l' := by
 have hn' : (aX l').Nodup := (keys_perm p).nodup_iff.1 hn
 cases h : lkp k l with
 | some v => exact (lS hn' (p.mem_iff.1 (iM h))).symm
 | none =>
  symm
  rw [kR] at h ⊢
  exact fun hm => h ((keys_perm p).mem_iff.2 hm)
theorem aCe {l l' : List (κ × α)} (hn : (aX l).Nodup) (hn' : (aX l').Nodup) (h : ∀ k, lkp k l = lkp k l') : l.Perm l' := by
 refine (List.perm_ext_iff_of_nodup (sI hn) (sI hn')).2 fun ⟨k, v⟩ => ⟨fun hm => ?_, fun hm => ?_⟩
 · exact iM ((h k).symm.trans (lS hn hm))
 · exact iM ((h k).trans (lS hn' hm))
theorem aJw {l l' : List (κ × α)} (p : l.Perm l') (hn : (aX l).Nodup) (k : κ) (v : α) : (ins k v l).Perm (ins k v l') :=
 aCe (qF hn) (qF ((keys_perm p).nodup_iff.1 hn)) fun x => by rw [lR, lR, aA3 p hn]
theorem aVp {l l' : List (κ × α)} (p : l.Perm l') (hn : (aX l).Nodup) (k : κ) : (rmv k l).Perm (rmv k l') := by
 have hn' := (keys_perm p).nodup_iff.1 hn
 exact aCe (tQ hn) (tQ hn') fun x => by rw [tK hn, tK hn', aA3 p hn]
end
/-! ### Operations that may be; what they lock -/
def pK (s : ByteArray) : Bool := s.data.toList.all fun c => decide (97 ≤ c.toNat) && decide (c.toNat ≤ 122)
def kW (fn : Int) : Bool × Bool × Bool :=
 if fn = 1 ∨ fn = 8 ∨ fn = 11 then (true, false, true)
 else if fn = 3 ∨ fn = 5 then (true, false, false)
 else if fn = 4 then (true, true, false)
 else if fn = 6 ∨ fn = 10 then (false, true, false)
 else if fn = 7 then (false, false, true)
 else if fn = 12 then (true, true, true)
 else (false, false, false)
def xP (s : ByteArray) : Bool := match s.data.toList with | [c] => decide (49 ≤ c.toNat) && decide (c.toNat ≤ 57) | _ => false
def kS (o : Oq) : Bool := decide (1 ≤ o.n) && decide (o.n ≤ 3) && (xP o.key || (decide (o.key.size = 0) && decide (o.n ≠ 2)))
def jM (o : Oq) : Bool :=
 decide (1 ≤ o.fn) && decide (o.fn ≤ 12) && decide (1 ≤ o.space.size) && decide (o.space.size ≤ 20) && pK o.space &&
 decide (o.key.size ≤ 20) && decide (o.val.size ≤ 100) && decide (0 ≤ o.n) && decide (o.n ≤ 1099511627776) &&
 ((kW o.fn).1 || decide (o.key.size = 0)) && ((kW o.fn).2.1 || decide (o.val.size = 0)) && ((kW o.fn).2.2 || decide (o.n = 0)) &&
 (decide (o.fn ≠ 1) || kS o)
def gQ (l : List Oq) : Bool := decide (1 ≤ l.length) && decide (l.length ≤ 8) && l.all jM
def cA (o : Oq) : aZ := if 3 ≤ o.fn ∧ o.fn ≤ 5 then ⟨o.space, o.key, false⟩ else ⟨o.space, ⟨#[]⟩, true⟩
def eJ (a b : aZ) : Bool := decide (a.space = b.space) && (a.all || b.all || decide (a.key = b.key))
/-! ### A vault -/
structure bZ where
 ops : List Oq
 bN : List ByteArray
 now : Int
 view : List (ByteArray × Option SpM)
structure dL where
 sp : List (ByteArray × SpM)
 lk : List (aZ × IdM)
 pt : List (IdM × bZ)
 ov : List IdM
def SpM.new (kind most : Int) : SpM := ⟨⟨#[]⟩, kind, [], max 1 (min most 9), [], [], 1⟩
def gZ (l : List Oq) : Nat := (l.filter fun o => decide (o.fn = 1)).length
def rT (sp : List (ByteArray × SpM)) (pt : List (IdM × bZ)) (view : List (ByteArray × Option SpM)) : Nat :=
 (sp.filter fun e => match lkp e.1 view with | none => true | some x => x.isSome).length + (view.filter fun e => e.2.isSome && (lkp e.1 sp).isNone).length + (pt.map fun e => gZ e.2.ops).sum
def cN (sp : List (ByteArray × SpM)) (name : ByteArray) (view : List (ByteArray × Option SpM)) : Option SpM × List (ByteArray × Option SpM) :=
 match lkp name view with
 | some x => (x, view)
 | none => (lkp name sp, ins name (lkp name sp) view)
def fM (sp : List (ByteArray × SpM)) (pt : List (IdM × bZ)) (now : Int) (view : List (ByteArray × Option SpM)) (o : Oq) : ByteArray × Int × List (ByteArray × Option SpM) :=
 let s := (cN sp o.space view).1
 let view := (cN sp o.space view).2
 if o.fn = 1 then
  if s.isSome then (⟨#[]⟩, 3, view)
  else if 16 ≤ rT sp pt view then (⟨#[]⟩, 6, view)
  else (⟨#[]⟩, 0, ins o.space (some (SpM.new o.n (match o.key.data.toList with | c :: _ => (c.toNat : Int) - 48 | [] => 1))) view)
 else match s with
  | none => (⟨#[]⟩, 3, view)
  | some s =>
   if o.fn = 2 then (⟨#[]⟩, 0, ins o.space none view)
   else ((s.act o now).1, (s.act o now).2.1, ins o.space (some (s.act o now).2.2) view)
def oA (sp : List (ByteArray × SpM)) (pt : List (IdM × bZ)) (now : Int) : List Oq → List (ByteArray × Option SpM) → List ByteArray → Option (List ByteArray × List (ByteArray × Option SpM))
 | [], view, bN => some (bN, view)
 | o :: l, view, bN =>
  let r := fM sp pt now view o
  if r.2.1 = 0 then oA sp pt now l r.2.2 (bN ++ [r.1]) else none
def cF (id : IdM) (ks : List aZ) (lk : List (aZ × IdM)) : List (aZ × IdM) := ks.foldl (fun m k => ins k id m) lk
def blocked (id : IdM) (ks : List aZ) (lk : List (aZ × IdM)) : Bool := lk.any fun e => decide (e.2 ≠ id) && ks.any fun k => eJ k e.1
def cX (id : IdM) (lk : List (aZ × IdM)) : List (aZ × IdM) := lk.filter fun e => decide (e.2 ≠ id)
def cV (st : dL) (id : IdM) (ops : List Oq) (now : Int) : (List ByteArray × Bool) × dL :=
 if id ∈ st.ov ∨ gQ ops = false then (([], false), st)
 else match lkp id st.pt with
  | some p => ((p.bN, true), st)
  | none =>
   if blocked id (ops.map cA) st.lk then (([], false), st)
   else match oA st.sp st.pt now ops [] [] with
    | none => (([], false), { st with lk := cX id (cF id (ops.map cA) st.lk) })
    | some (bN, view) => ((bN, true), { st with lk := cF id (ops.map cA) st.lk, pt := ins id ⟨ops, bN, now, view⟩ st.pt })
def eU (name : ByteArray) (view : SpM) : List Oq → SpM → SpM
 | [], s => s
 | o :: l, s =>
  if o.space = name ∧ (o.fn = 4 ∨ o.fn = 5) then
   eU name view l (match bU o.key view.bV with | some q => { s with bV := cG ⟨o.key, q.val, 0⟩ s.bV } | none => { s with bV := iK o.key s.bV })
  else eU name view l s
def gX (p : bZ) (all : Bool) (name : ByteArray) (x : Option SpM) (sp : List (ByteArray × SpM)) : List (ByteArray × SpM) :=
 match all, x with
 | true, none => rmv name sp
 | true, some s => ins name s sp
 | false, some s => (match lkp name sp with | some t => ins name (eU name s p.ops t) sp | none => sp)
 | false, none => sp
def jG (st : dL) (id : IdM) (yes : Bool) : Bool × dL :=
 if id ∈ st.ov then (false, st)
 else match lkp id st.pt with
  | none => (true, { st with ov := id :: st.ov })
  | some p =>
   (true, ⟨if yes then p.view.foldl (fun sp e => gX p (st.lk.any fun x => decide (x.2 = id) && decide (x.1.space = e.1) && x.1.all) e.1 e.2 sp) st.sp else st.sp, cX id st.lk, rmv id st.pt, id :: st.ov⟩)
end Go.Abs
set_option linter.unusedSectionVars false
namespace Go.Abs
open Go
structure Et (κ α : Type) where
 k : κ
 v : V
 b : Nat
 x : α
section
variable {κ α : Type} [DecidableEq κ]
def Et.g (e : Et κ α) : Eg κ := ⟨e.k, e.v, e.b⟩
def Et.m (D : KD κ) (e : Et κ α) : MapEntry := D.me e.g
def Et.p (A : κ → V → α → Pl) (e : Et κ α) : Pl := A e.k e.v e.x
def cC (t : List (Et κ α)) : List (κ × α) := t.map fun e => (e.k, e.x)
structure OkE (t : List (Et κ α)) (clk : Nat) (l : List (κ × α)) : Prop where
 perm : (cC t).Perm l
 nd : (aX l).Nodup
 bn : (t.map (·.b)).Nodup
 lt : ∀ e ∈ t, e.b < clk
theorem oM (t : List (Et κ α)) : aX (cC t) = t.map (·.k) := by simp [cC, aX]
theorem aFa (t : List (Et κ α)) : gV (t.map Et.g) = t.map (·.k) := by simp [gV, Et.g]
variable {t : List (Et κ α)} {clk : Nat} {l : List (κ × α)}
theorem OkE.ndt (p : OkE t clk l) : (aX (cC t)).Nodup := (keys_perm p.perm).nodup_iff.2 p.nd
theorem OkE.lkp (p : OkE t clk l) (k : κ) : lkp k (cC t) = Go.Abs.lkp k l := aA3 p.perm p.ndt k
theorem yU {k : κ} {x : α} : ∀ {t : List (Et κ α)}, lkp k (cC t) = some x → ∃ t1 e t2, t = t1 ++ e :: t2 ∧ e.k = k ∧ e.x = x ∧ bX k (t.map Et.g) = some e.v ∧ ∀ e' ∈ t1, e'.k ≠ k
 | [], h => by simp [cC, lkp] at h
 | e :: t, h => by
  simp only [cC, List.map_cons, lkp] at h
  by_cases hk : e.k = k
  · rw [if_pos hk] at h
    cases h
    exact ⟨[], e, t, rfl, hk, rfl, by simp [bX, Et.g, hk], by simp⟩
  · rw [if_neg hk] at h
    obtain ⟨t1, e1, t2, rfl, h1, h2, h3, h4⟩ := yU (t := t) h
    refine ⟨e :: t1, e1, t2, rfl, h1, h2, ?_, ?_⟩
    · rw [List.map_cons, bX, if_neg (by exact hk), h3]
    · intro e' he'
      rcases List.mem_cons.1 he' with rfl | he'
      · exact hk
      · exact h4 e' he'
theorem aE1 {k : κ} (h : lkp k (cC t) = none) : bX k (t.map Et.g) = none := by
 rw [kR, oM] at h
 rw [← aEz, aFa]
 exact h
theorem aMd {k : κ} {v : V} {c : Nat} {e : Eg κ} : ∀ {t1 t2 : List (Eg κ)}, (∀ e' ∈ t1, e'.k ≠ k) → e.k = k → mG k v c (t1 ++ e :: t2) = t1 ++ ⟨k, v, e.b⟩ :: t2
 | [], t2, _, he => by simp [mG, he]
 | a :: t1, t2, h, he => by
  rw [List.cons_append, mG, if_neg (h a (by simp)), aMd (fun e' he' => h e' (by simp [he'])) he]
  rfl
theorem aIk {k : κ} {e : Eg κ} : ∀ {t1 t2 : List (Eg κ)}, (∀ e' ∈ t1, e'.k ≠ k) → e.k = k → lO k (t1 ++ e :: t2) = t1 ++ t2
 | [], t2, _, he => by simp [lO, he]
 | a :: t1, t2, h, he => by
  rw [List.cons_append, lO, if_neg (h a (by simp)), aIk (fun e' he' => h e' (by simp [he'])) he]
  rfl
variable (D : KD κ) (A : κ → V → α → Pl)
def aK (m : Nat) (l : List (κ × α)) : Pl :=
 sL fun (y : List (Et κ α) × Nat) => kY (dE (OkE y.1 y.2 l) :: bM m (y.1.map (Et.m D)) y.2 :: y.1.map (Et.p A))
variable {D A} {F : Fr} {h : aA} {L : List Pl} {m : Nat} {z : V}
theorem Sep.fD (s : Sep F h (aK D A m l :: L)) : ∃ t clk, OkE t clk l ∧ Sep F h (bM m (t.map (Et.m D)) clk :: (t.map (Et.p A) ++ L)) := by
 obtain ⟨⟨t, clk⟩, s⟩ := s.ex
 have s1 := s.all
 obtain ⟨p, s2⟩ := Sep.pure (L := bM m (t.map (Et.m D)) clk :: (t.map (Et.p A) ++ L)) s1
 exact ⟨t, clk, p, s2⟩
theorem Sep.fK (p : OkE t clk l) (s : Sep F h (bM m (t.map (Et.m D)) clk :: (t.map (Et.p A) ++ L))) : Sep F h (aK D A m l :: L) :=
 Sep.vR (A := fun (y : List (Et κ α) × Nat) => kY (dE (OkE y.1 y.2 l) :: bM m (y.1.map (Et.m D)) y.2 :: y.1.map (Et.p A))) (t, clk)
  (Sep.vQ (L' := dE (OkE t clk l) :: bM m (t.map (Et.m D)) clk :: t.map (Et.p A)) (Sep.mkPure p s))
def dT (k : κ) (v : V) (A : κ → V → α → Pl) : κ → V → α → Pl := fun k' v' x' => if k' = k then dE (v' = v) else A k' v' x'
theorem vC {k : κ} {v : V} {tt : List (Et κ α)} (ht : ∀ e' ∈ tt, e'.k ≠ k) : tt.map (Et.p (dT k v A)) = tt.map (Et.p A) :=
 List.map_congr_left fun e' he' => by simp only [Et.p, dT, if_neg (ht e' he')]
theorem aJm {k : κ} {v : V} {e : Et κ α} (he : e.k = k) : Et.p (dT k v A) e = dE (e.v = v) := by simp only [Et.p, dT, if_pos he]
theorem Sep.vT (s : Sep F h L) : Sep F (h.new (.map [] 0)) (aK D A h.next [] :: L) :=
 Sep.fK (t := []) (clk := 0) ⟨List.Perm.refl _, by simp [aX], by simp, by simp⟩ (s.aUb [] 0)
theorem qV (t : List (Et κ α)) : (t.map (Et.m D)) = (t.map Et.g).map D.me := by simp [Et.m]
theorem tL (t : List (Et κ α)) : (t.map (Et.m D)).map (·.born) = t.map (·.b) := by
 rw [List.map_map]
 rfl
theorem Sep.qT (s : Sep F h (aK D A m l :: L)) {k : κ} (hk : Go.Abs.lkp k l = none) (ok : Bool) :
 bT (some (D.kk, some z)) (.map (some m)) (D.enc k) ok h = some (if ok then .tuple #[z, .bool false] else z) := by
 obtain ⟨t, clk, p, s⟩ := s.fD
 have g := s.qD
 rw [qV] at g
 rw [aFk D g k ok, aE1 ((p.lkp k).trans hk)]
 rfl
theorem Sep.oW (s : Sep F h (aK D A m l :: L)) {k : κ} {x : α} (hk : Go.Abs.lkp k l = some x) (ok : Bool) :
 ∃ v, bT (some (D.kk, some z)) (.map (some m)) (D.enc k) ok h = some (if ok then .tuple #[v, .bool true] else v) ∧
  Sep F h (A k v x :: aK D (dT k v A) m l :: L) := by
 obtain ⟨t, clk, p, s⟩ := s.fD
 have g := s.qD
 rw [qV] at g
 obtain ⟨t1, e, t2, rfl, h1, h2, h3, h4⟩ := yU ((p.lkp k).trans hk)
 refine ⟨e.v, by rw [aFk D g k ok, h3]; rfl, ?_⟩
 have h5 : ∀ e' ∈ t2, e'.k ≠ k := by
  have := p.ndt
  rw [oM, List.map_append, List.map_cons, List.nodup_append] at this
  have h6 := (List.nodup_cons.1 this.2.1).1
  intro e' he' hc
  exact h6 (List.mem_map.2 ⟨e', he', hc.trans h1.symm⟩)
 have s1 : Sep F h (A k e.v x :: bM m ((t1 ++ e :: t2).map (Et.m D)) clk :: ((t1 ++ t2).map (Et.p A) ++ L)) := by
  refine s.perm ?_
  have ep : A k e.v x = Et.p A e := by rw [Et.p, h1, h2]
  rw [ep, List.map_append (f := Et.p A) (l₁ := t1), List.map_append (f := Et.p A) (l₁ := t1), List.map_cons]
  refine (List.Perm.cons _ ?_).trans (List.Perm.swap _ _ _)
  simp only [List.append_assoc, List.cons_append]
  exact List.perm_middle
 have s2 : Sep F h (aK D (dT k e.v A) m l :: (A k e.v x :: L)) := by
  refine Sep.fK p ?_
  rw [List.map_append (f := Et.p (dT k e.v A)), List.map_cons (f := Et.p (dT k e.v A)), vC h4, vC h5, aJm h1]
  have s3 := Sep.mkPure (φ := e.v = e.v) rfl s1
  refine s3.perm ?_
  rw [List.map_append (f := Et.p A)]
  simp only [List.append_assoc, List.cons_append]
  refine (((List.Perm.swap _ _ _).cons _).trans (List.Perm.swap _ _ _)).trans (List.Perm.cons _ ?_)
  refine List.Perm.trans ?_ List.perm_middle.symm
  refine List.Perm.cons _ ?_
  refine List.Perm.trans ?_ (List.Perm.append_left _ List.perm_middle.symm)
  exact List.perm_middle.symm
 exact s2.up1
theorem OkE.put (p : OkE t clk l) {t1 t2 : List (Et κ α)} {e : Et κ α} (ht : t = t1 ++ e :: t2) {k : κ} (he : e.k = k) (h1 : ∀ e' ∈ t1, e'.k ≠ k) (v : V) (x : α) : OkE (t1 ++ ⟨k, v, e.b, x⟩ :: t2) clk (ins k x l) := by
 subst ht
 refine ⟨?_, qF p.nd, ?_, fun e' he' => ?_⟩
 · refine List.Perm.trans ?_ (aJw p.perm p.ndt k x)
   have : ∀ tt : List (Et κ α), (∀ e' ∈ tt, e'.k ≠ k) → ins k x (cC (tt ++ e :: t2)) = cC (tt ++ ⟨k, v, e.b, x⟩ :: t2) := by
    intro tt htt
    induction tt with
    | nil => simp [cC, ins, he]
    | cons a tt ih =>
     have := ih fun e' he' => htt e' (by simp [he'])
     simp only [cC, List.cons_append, List.map_cons, ins] at this ⊢
     rw [if_neg (htt a (by simp)), this]
   rw [this t1 h1]
 · have := p.bn
   simpa using this
 · rcases List.mem_append.1 he' with h | h
   · exact p.lt e' (by simp [h])
   · rcases List.mem_cons.1 h with rfl | h
     · exact p.lt e (by simp)
     · exact p.lt e' (by simp [h])
theorem OkE.new (p : OkE t clk l) {k : κ} (hk : Go.Abs.lkp k l = none) (v : V) (x : α) : OkE (t ++ [⟨k, v, clk, x⟩]) (clk + 1) (ins k x l) := by
 have hk' := (p.lkp k).trans hk
 refine ⟨?_, qF p.nd, ?_, fun e' he' => ?_⟩
 · refine List.Perm.trans ?_ (aJw p.perm p.ndt k x)
   rw [aE8 hk']
   simp [cC]
 · rw [List.map_append, List.nodup_append]
   refine ⟨p.bn, by simp, fun a ha b hb => ?_⟩
   simp only [List.map_cons, List.map_nil, List.mem_singleton] at hb
   obtain ⟨e, he, rfl⟩ := List.mem_map.1 ha
   have := p.lt e he
   omega
 · rcases List.mem_append.1 he' with h | h
   · have := p.lt e' h; omega
   · simp only [List.mem_singleton] at h
     subst h
     simp
theorem OkE.del (p : OkE t clk l) {t1 t2 : List (Et κ α)} {e : Et κ α} (ht : t = t1 ++ e :: t2) {k : κ} (he : e.k = k) (h1 : ∀ e' ∈ t1, e'.k ≠ k) : OkE (t1 ++ t2) clk (rmv k l) := by
 subst ht
 refine ⟨?_, tQ p.nd, ?_, fun e' he' => ?_⟩
 · refine List.Perm.trans ?_ (aVp p.perm p.ndt k)
   have : ∀ tt : List (Et κ α), (∀ e' ∈ tt, e'.k ≠ k) → rmv k (cC (tt ++ e :: t2)) = cC (tt ++ t2) := by
    intro tt htt
    induction tt with
    | nil => simp [cC, rmv, he]
    | cons a tt ih =>
     have := ih fun e' he' => htt e' (by simp [he'])
     simp only [cC, List.cons_append, List.map_cons, rmv] at this ⊢
     rw [if_neg (htt a (by simp)), this]
   rw [this t1 h1]
 · have := p.bn
   rw [List.map_append, List.map_cons] at this
   rw [List.map_append]
   exact this.sublist (List.Sublist.append_left (List.sublist_cons_self _ _) _)
 · rcases List.mem_append.1 he' with h | h
   · exact p.lt e' (by simp [h])
   · exact p.lt e' (by simp [h])
theorem Sep.rW {L1 L2 : List Pl} (s : Sep F h (L1 ++ L2)) : Sep F h L2 := by
 induction L1 with
 | nil => exact s
 | cons a l ih => exact ih (Sep.drop s)
theorem Sep.tG {k : κ} {v : V} {x : α} (s : Sep F h (aK D A m l :: A k v x :: L)) :
 ∃ h', cQ (some (D.kk, some z)) (.map (some m)) (D.enc k) v h = some h' ∧ Sep F h' (aK D A m (ins k x l) :: L) := by
 obtain ⟨t, clk, p, s⟩ := s.fD
 have g := s.qD
 rw [qV] at g
 rw [aXa D g k v]
 refine ⟨_, rfl, ?_⟩
 cases hk : Go.Abs.lkp k l with
 | none =>
  have hg : bX k (t.map Et.g) = none := aE1 ((p.lkp k).trans hk)
  rw [if_pos hg, aF2 k v clk _ hg]
  refine Sep.fK (p.new hk v x) ?_
  have s1 := s.aBa (es' := (t ++ [(⟨k, v, clk, x⟩ : Et κ α)]).map (Et.m D)) (clk' := clk + 1)
  have e1 : (List.map D.me (List.map Et.g t ++ [⟨k, v, clk⟩])) = (t ++ [(⟨k, v, clk, x⟩ : Et κ α)]).map (Et.m D) := by simp [Et.m, Et.g]
  rw [e1]
  refine s1.perm ?_
  simp only [List.map_append, List.map_cons, List.map_nil, List.append_assoc, List.cons_append, List.nil_append]
  exact List.Perm.refl _
 | some x0 =>
  obtain ⟨t1, e, t2, rfl, h1, h2, h3, h4⟩ := yU ((p.lkp k).trans hk)
  have hg : ¬ bX k ((t1 ++ e :: t2).map Et.g) = none := by rw [h3]; simp
  have e2 : mG k v clk ((t1 ++ e :: t2).map Et.g) = (t1 ++ ⟨k, v, e.b, x⟩ :: t2).map Et.g := by
   rw [List.map_append, List.map_cons, aMd (fun e' he' => ?_) (by exact h1)]
   · simp [Et.g]
   · obtain ⟨a, ha, rfl⟩ := List.mem_map.1 he'
     exact h4 a ha
  rw [if_neg hg, e2]
  refine Sep.fK (p.put rfl h1 h4 v x) ?_
  have s1 := s.aBa (es' := (t1 ++ (⟨k, v, e.b, x⟩ : Et κ α) :: t2).map (Et.m D)) (clk' := clk)
  rw [← qV]
  have s2 : Sep F (h.put m (.map ((t1 ++ ⟨k, v, e.b, x⟩ :: t2).map (Et.m D)) clk)) (A e.k e.v e.x :: bM m ((t1 ++ ⟨k, v, e.b, x⟩ :: t2).map (Et.m D)) clk :: ((t1 ++ ⟨k, v, e.b, x⟩ :: t2).map (Et.p A) ++ L)) := by
   refine s1.perm ?_
   simp only [List.map_append, List.map_cons, List.append_assoc, List.cons_append]
   refine (List.Perm.cons _ ?_).trans (List.Perm.swap _ _ _)
   refine List.perm_middle.trans (List.Perm.cons _ ?_)
   exact List.Perm.append_left _ List.perm_middle
  exact s2.drop
theorem Sep.aEh {k : κ} (s : Sep F h (aK D A m l :: L)) :
 ∃ h', fZ (some (D.kk, some z)) (.map (some m)) (D.enc k) h = some h' ∧ Sep F h' (aK D A m (rmv k l) :: L) := by
 obtain ⟨t, clk, p, s⟩ := s.fD
 have g := s.qD
 rw [qV] at g
 rw [aQ6 D g k]
 refine ⟨_, rfl, ?_⟩
 cases hk : Go.Abs.lkp k l with
 | none =>
  have hg : bX k (t.map Et.g) = none := aE1 ((p.lkp k).trans hk)
  rw [aEg k _ hg, ← qV]
  have e1 : rmv k l = l := by
   have : ∀ l : List (κ × α), Go.Abs.lkp k l = none → rmv k l = l := by
    intro l
    induction l with
    | nil => intro _; rfl
    | cons a l ih =>
     intro h
     simp only [Go.Abs.lkp] at h
     split at h
     · cases h
     · rename_i hne
       simp only [rmv, if_neg hne, ih h]
   exact this l hk
  rw [e1]
  exact Sep.fK p s.aBa
 | some x0 =>
  obtain ⟨t1, e, t2, rfl, h1, h2, h3, h4⟩ := yU ((p.lkp k).trans hk)
  have e2 : lO k ((t1 ++ e :: t2).map Et.g) = (t1 ++ t2).map Et.g := by
   rw [List.map_append, List.map_cons, aIk (fun e' he' => ?_) (by exact h1)]
   · simp
   · obtain ⟨a, ha, rfl⟩ := List.mem_map.1 he'
     exact h4 a ha
  rw [e2, ← qV]
  refine Sep.fK (p.del rfl h1 h4) ?_
  have s1 := s.aBa (es' := (t1 ++ t2).map (Et.m D)) (clk' := clk)
  have s2 : Sep F (h.put m (.map ((t1 ++ t2).map (Et.m D)) clk)) (A e.k e.v e.x :: bM m ((t1 ++ t2).map (Et.m D)) clk :: ((t1 ++ t2).map (Et.p A) ++ L)) := by
   refine s1.perm ?_
   simp only [List.map_append, List.map_cons, List.append_assoc, List.cons_append]
   exact (List.Perm.cons _ List.perm_middle).trans (List.Perm.swap _ _ _)
  exact s2.drop
theorem Sep.sU {k : κ} {v : V} {x x' : α} (s : Sep F h (A k v x' :: aK D (dT k v A) m l :: L)) (hk : Go.Abs.lkp k l = some x) :
 Sep F h (aK D A m (ins k x' l) :: L) := by
 obtain ⟨t, clk, p, s⟩ := s.up1.fD
 obtain ⟨t1, e, t2, rfl, h1, h2, h3, h4⟩ := yU ((p.lkp k).trans hk)
 have h5 : ∀ e' ∈ t2, e'.k ≠ k := by
  have := p.ndt
  rw [oM, List.map_append, List.map_cons, List.nodup_append] at this
  have h6 := (List.nodup_cons.1 this.2.1).1
  intro e' he' hc
  exact h6 (List.mem_map.2 ⟨e', he', hc.trans h1.symm⟩)
 rw [List.map_append (f := Et.p (dT k v A)), List.map_cons (f := Et.p (dT k v A)), vC h4, vC h5, aJm h1] at s
 have s1 : Sep F h (dE (e.v = v) :: bM m ((t1 ++ e :: t2).map (Et.m D)) clk :: (t1.map (Et.p A) ++ (t2.map (Et.p A) ++ (A k v x' :: L)))) := by
  refine s.perm ?_
  simp only [List.append_assoc, List.cons_append]
  exact (List.Perm.cons _ List.perm_middle).trans (List.Perm.swap _ _ _)
 obtain ⟨hv, s2⟩ := s1.pure
 have hp := p.put rfl h1 h4 v x'
 refine Sep.fK hp ?_
 have e3 : ((t1 ++ e :: t2).map (Et.m D)) = (t1 ++ (⟨k, v, e.b, x'⟩ : Et κ α) :: t2).map (Et.m D) := by simp [Et.m, Et.g, hv, h1]
 rw [e3] at s2
 refine s2.perm (List.Perm.cons _ ?_)
 simp only [List.map_append, List.map_cons, List.append_assoc, List.cons_append]
 refine List.Perm.append_left _ ?_
 exact List.perm_middle
/-! ### A look at all of it -/
structure dV (t td : List (Et κ α)) (seen : Array Nat) : Prop where
 sub : ∀ e ∈ td, e ∈ t
 nd : (td.map (·.b)).Nodup
 eq : seen = (td.map (·.b)).toArray
theorem dV.nil (t : List (Et κ α)) : dV t [] #[] := ⟨by simp, by simp, rfl⟩
theorem Sep.sH {it clk : Nat} {td : List (Et κ α)} {seen : Array Nat} (s : Sep F h (cJ it m clk seen :: bM m (t.map (Et.m D)) clk :: L)) (hb : ∀ e ∈ t, e.b < clk) (hn : (t.map (·.b)).Nodup) (hs : dV t td seen)
 {K : V → aA → Prop}
 (hK : ∀ e ∈ t, e ∉ td → ∀ h', Sep F h' (cJ it m clk (seen.push e.b) :: bM m (t.map (Et.m D)) clk :: L) → dV t (td ++ [e]) (seen.push e.b) → gO (ptr it 0) h' = some (.tuple #[D.enc e.k, e.v]) → td.length < t.length →
  K (.tuple #[.bool true, D.enc e.k, e.v]) h')
 (hE : t.Perm td → K (.tuple #[.bool false]) h) : dM (ptr it 0) false h K := by
 have es : Seen (t.map (Et.m D)) (td.map (Et.m D)) seen := ⟨fun x hx => by
  obtain ⟨e, he, rfl⟩ := List.mem_map.1 hx
  exact List.mem_map.2 ⟨e, hs.sub e he, rfl⟩, by rw [tL]; exact hs.nd, by rw [hs.eq, tL]⟩
 refine s.next (fun x hx => ?_) (by rw [tL]; exact hn) es (fun x hx hnx h' s' hs' he' hl' => ?_) (fun hp => hE ?_)
 · obtain ⟨e, he, rfl⟩ := List.mem_map.1 hx
   exact hb e he
 · obtain ⟨e, he, rfl⟩ := List.mem_map.1 hx
   refine hK e he (fun hm => hnx (List.mem_map.2 ⟨e, hm, rfl⟩)) h' s' ⟨fun a ha => ?_, ?_, ?_⟩ he' (by simpa using hl')
   · rcases List.mem_append.1 ha with ha | ha
     · exact hs.sub a ha
     · simp only [List.mem_singleton] at ha
       rw [ha]; exact he
   · have := hs'.nd
     rw [List.map_append, tL] at this
     rw [List.map_append]
     exact this
   · have := hs'.eq
     rw [List.map_append, tL] at this
     rw [List.map_append]
     exact this
 · have nt : t.Nodup := sI hn
   have ntd : td.Nodup := sI hs.nd
   have hlen := hp.length_eq
   simp only [List.length_map] at hlen
   refine (List.perm_ext_iff_of_nodup nt ntd).2 fun e => ⟨fun he => ?_, hs.sub e⟩
   have h1 : e.b ∈ (td.map (Et.m D)).map (·.born) := by
    have : e.b ∈ (t.map (Et.m D)).map (·.born) := by
     rw [tL]
     exact List.mem_map.2 ⟨e, he, rfl⟩
    exact (hp.map (·.born)).mem_iff.1 this
   rw [tL] at h1
   obtain ⟨e', he', hbe⟩ := List.mem_map.1 h1
   have hbe : e'.b = e.b := hbe
   have : ∀ (l : List (Et κ α)), (l.map (·.b)).Nodup → ∀ a ∈ l, ∀ b ∈ l, a.b = b.b → a = b := by
    intro l
    induction l with
    | nil => simp
    | cons c l ih =>
     intro hnd a ha b hb hab
     simp only [List.map_cons, List.nodup_cons] at hnd
     rcases List.mem_cons.1 ha with rfl | ha' <;> rcases List.mem_cons.1 hb with rfl | hb'
     · rfl
     · exact absurd (List.mem_map.2 ⟨b, hb', hab.symm⟩) hnd.1
     · exact absurd (List.mem_map.2 ⟨a, ha', hab⟩) hnd.1
     · exact ih hnd.2 a ha' b hb' hab
   rw [← this t hn e' (hs.sub e' he') e he hbe]
   exact he'
end
end Go.Abs
namespace Go.Abs
open Go
structure EL (α : Type) where
 es : Nat
 enc : α → List V
 len : ∀ x, (enc x).length = es
 one : ∀ x, (enc x).all dC = true
 pos : 0 < es
section
variable {α : Type} (D : EL α)
def EL.flat (l : List α) : List V := l.flatMap D.enc
@[simp] theorem EL.aR0 : D.flat [] = [] := rfl
@[simp] theorem EL.rX (x : α) (l : List α) : D.flat (x :: l) = D.enc x ++ D.flat l := rfl
theorem EL.aI8 (a b : List α) : D.flat (a ++ b) = D.flat a ++ D.flat b := by simp [EL.flat]
theorem EL.qQ (l : List α) : (D.flat l).length = l.length * D.es := by
 induction l with
 | nil => simp
 | cons x l ih => rw [EL.rX, List.length_append, ih, D.len, List.length_cons, Nat.add_mul, Nat.one_mul, Nat.add_comm]
theorem EL.aR1 (l : List α) : (D.flat l).all dC = true := by
 induction l with
 | nil => rfl
 | cons x l ih => rw [EL.rX, List.all_append, D.one, ih]; rfl
theorem EL.aI9 (l : List α) : ∀ k, (D.flat l).drop (k * D.es) = D.flat (l.drop k) := by
 induction l with
 | nil => intro k; simp
 | cons x l ih =>
  intro k
  cases k with
  | zero => simp
  | succ k =>
   rw [List.drop_succ_cons, EL.rX, Nat.add_mul, Nat.one_mul, Nat.add_comm, ← ih k, List.drop_append, D.len, List.drop_eq_nil_of_le (by rw [D.len]; omega)]
   simp
theorem EL.aJa (l : List α) : ∀ k, (D.flat l).take (k * D.es) = D.flat (l.take k) := by
 induction l with
 | nil => intro k; simp
 | cons x l ih =>
  intro k
  cases k with
  | zero => simp
  | succ k =>
   rw [List.take_succ_cons, EL.rX, EL.rX, Nat.add_mul, Nat.one_mul, Nat.add_comm, ← ih k, List.take_append, D.len, List.take_of_length_le (by rw [D.len]; omega)]
   simp
theorem EL.row {l : List α} {i : Nat} {x : α} (hi : l[i]? = some x) : ((D.flat l).drop (i * D.es)).take D.es = D.enc x := by
 obtain ⟨h1, h2⟩ := List.getElem?_eq_some_iff.1 hi
 rw [D.aI9, List.drop_eq_getElem_cons h1, h2, EL.rX, List.take_append, D.len, List.take_of_length_le (by rw [D.len]; omega)]
 simp
theorem EL.aR2 (l : List α) : ∀ {i : Nat} (y : α), i < l.length → dG (D.flat l) (i * D.es) (D.enc y) = D.flat (l.set i y) := by
 intro i y hi
 have h1 := D.qQ l
 have h2 : i * D.es + D.es ≤ l.length * D.es := by
  have := Nat.mul_le_mul_right D.es (show i + 1 ≤ l.length by omega)
  rwa [Nat.add_mul, Nat.one_mul] at this
 rw [uB _ _ _ (by rw [D.len, h1]; exact h2), D.len, List.set_eq_take_append_cons_drop, if_pos hi, D.aI8, EL.rX, D.aJa, ← D.aI9 l (i + 1), Nat.add_mul, Nat.one_mul, List.append_assoc]
def SlE (h : aA) (fp : List Nat) (v : V) (l : List α) : Prop := Sl h fp v D.es l.length (D.flat l)
variable {D} {h : aA} {fp : List Nat} {v : V} {l : List α}
theorem SlE.lt (s : SlE D h fp v l) : ∀ x ∈ fp, x < h.next := Sl.lt s
theorem SlE.same {h' : aA} (s : SlE D h fp v l) (hl : h.next ≤ h'.next) (hs : ∀ x ∈ fp, h'.get x = h.get x) : SlE D h' fp v l := Sl.same s hl hs
theorem SlE.bW {h' : aA} {fp' : List Nat} (s : SlE D h fp v l) (m : Mod h [] h' fp') : SlE D h' fp v l := s.same m.next fun x hx => m.same x (s.lt x hx) (by simp)
theorem SlE.len (s : SlE D h fp v l) : bI .slice v h = some (i64 l.length) := Sl.len s
theorem SlE.nil : SlE D h [] (.slice none 0 0) [] := by simpa [SlE] using (Sl.nil (h := h) (es := D.es))
theorem SlE.at (s : SlE D h fp v l) {i : Nat} {x : α} (hi : l[i]? = some x) :
 ∃ b, fp = [b] ∧ bG (.slice D.es) v (i64 i) = some (ptr b (i * D.es)) ∧ h.rdN b (i * D.es) D.es = some (D.enc x) ∧ ∀ k, k < D.es → h.rd b (i * D.es + k) = (D.enc x)[k]? := by
 have hil : i < l.length := (List.getElem?_eq_some_iff.1 hi).1
 obtain ⟨h0, ⟨rfl, h1, rfl⟩ | ⟨b, c, all, rfl, rfl, hb, hc, h2, h3, h4⟩⟩ := s
 · omega
 have hall : l.length * D.es ≤ all.length := Nat.le_trans (Nat.mul_le_mul_right _ hc) h3
 have h5 : i * D.es + D.es ≤ l.length * D.es := by
  have := Nat.mul_le_mul_right D.es (show i + 1 ≤ l.length by omega)
  rwa [Nat.add_mul, Nat.one_mul] at this
 have hrow : (all.drop (i * D.es)).take D.es = D.enc x := by
  rw [← D.row hi, ← h4, List.drop_take, List.take_take, Nat.min_eq_left (by omega)]
 have b1 : (0 : Int) ≤ (i : Int) ∧ (i : Int) < (l.length : Nat) := by omega
 refine ⟨b, rfl, ?_, ?_, fun k hk => ?_⟩
 · simp only [bG, if_pos b1, Int.toNat_natCast, Nat.zero_add]
 · rw [mL h2, if_pos (by omega), hrow]
 · rw [aG h2, ← hrow, List.getElem?_take, if_pos hk, List.getElem?_drop]
theorem SlE.set (s : SlE D h fp v l) {i : Nat} (hi : i < l.length) (y : α) :
 ∃ b h', fp = [b] ∧ bG (.slice D.es) v (i64 i) = some (ptr b (i * D.es)) ∧ h.wr b (i * D.es) (D.enc y) = some h' ∧ SlE D h' fp v (l.set i y) ∧ Mod h fp h' fp := by
 have lt := s.lt
 obtain ⟨h0, ⟨rfl, h1, rfl⟩ | ⟨b, c, all, rfl, rfl, hb, hc, h2, h3, h4⟩⟩ := s
 · omega
 have hall : l.length * D.es ≤ all.length := Nat.le_trans (Nat.mul_le_mul_right _ hc) h3
 have h5 : i * D.es + D.es ≤ l.length * D.es := by
  have := Nat.mul_le_mul_right D.es (show i + 1 ≤ l.length by omega)
  rwa [Nat.add_mul, Nat.one_mul] at this
 have b1 : (0 : Int) ≤ (i : Int) ∧ (i : Int) < (l.length : Nat) := by omega
 have hw : h.wr b (i * D.es) (D.enc y) = some (h.put b (.cells (dG all (i * D.es) (D.enc y)) D.es .rw)) := by
  simp only [aA.wr, h2, D.len]
  rw [if_pos ⟨by simp, by omega⟩]
 have e1 : dG all (i * D.es) (D.enc y) = all.take (i * D.es) ++ D.enc y ++ all.drop (i * D.es + D.es) := by rw [uB _ _ _ (by rw [D.len]; omega), D.len]
 have e2 : dG (D.flat l) (i * D.es) (D.enc y) = (D.flat l).take (i * D.es) ++ D.enc y ++ (D.flat l).drop (i * D.es + D.es) := by rw [uB _ _ _ (by rw [D.len, D.qQ]; omega), D.len]
 have e3 : (dG all (i * D.es) (D.enc y)).take (l.length * D.es) = D.flat (l.set i y) := by
  rw [← D.aR2 l y hi, e1, e2, ← h4]
  obtain ⟨m, hm⟩ : ∃ m, l.length * D.es = i * D.es + D.es + m := ⟨l.length * D.es - (i * D.es + D.es), by omega⟩
  rw [hm, List.take_append, List.take_of_length_le (by simp [D.len]; omega), List.take_take, Nat.min_eq_left (by omega), List.drop_take]
  congr 2
  simp only [List.length_append, List.length_take, D.len]
  omega
 refine ⟨b, _, rfl, ?_, hw, ⟨by rw [D.qQ], .inr ⟨b, c, dG all (i * D.es) (D.enc y), by simp, rfl, hb, by simpa using hc, by simp, by rw [sM]; exact h3, by simpa using e3⟩⟩, by simp, fun x _ hx => ?_, fun x hx => .inl hx, lt⟩
 · simp only [bG, if_pos b1, Int.toNat_natCast, Nat.zero_add]
 · simp at hx; simp [hx]
end
end Go.Abs
namespace Go.Abs
open Go
def G.ins (es : Nat) (E : FE) : Spec := fun args h K => match args with
| [a0, a1, a2, a3] =>
kv (aC .bad .add true a1 (.int .i64 1) h) fun v0 =>
∃ (Inv1 : Nat → List V → aA → Prop) (n1 : Nat), Inv1 n1 [v0] h ∧ ∀ (n1 : Nat) (e1 : Nat → V) (h : aA), Inv1 n1 [(e1 8)] h →
kv (aC .bad .lss false (e1 8) a2 h) fun v2 =>
ifV v2 (
∃ (Inv3 : Nat → List V → aA → Prop) (n3 : Nat), Inv3 n3 [(e1 8)] h ∧ ∀ (n3 : Nat) (e3 : Nat → V) (h : aA), Inv3 n3 [(e3 9)] h →
kv (aC .bad .gtr false (e3 9) a1 h) fun v4 =>
kv (gdV v4 true (some a3)) fun v5 =>
kv (gdV v4 true (some a0)) fun v6 =>
kv (gdV v4 true (some (e3 9))) fun v7 =>
kv (gdV v4 true (bG (.slice es) v6 v7)) fun v8 =>
kv (gdV v4 true (ldD (.agg es) v8 h)) fun v9 =>
kv (gdV v4 true (some a0)) fun v10 =>
kv (gdV v4 true (some (e3 9))) fun v11 =>
kv (gdV v4 true (aC .bad .sub true v11 (.int .i64 1) h)) fun v12 =>
kv (gdV v4 true (bG (.slice es) v10 v12)) fun v13 =>
kv (gdV v4 true (ldD (.agg es) v13 h)) fun v14 =>
gdC v4 true h (fun K15 => cU E.I v5 [v9, v14] h fun v h => K15 v h) fun v16 h =>
kv (gdV v4 true (aC .bad .lss true v16 (.int .i64 0) h)) fun v17 =>
kv (aW v4 v17 (.bool false)) fun v18 =>
ifV v18 (
kv (aC .bad .sub true (e3 9) (.int .i64 1) h) fun v19 =>
kv (aC .bad .sub true (e3 9) (.int .i64 1) h) fun v20 =>
kv (bG (.slice es) a0 v20) fun v21 =>
kv (ldD (.agg es) v21 h) fun v22 =>
kv (bG (.slice es) a0 (e3 9)) fun v23 =>
kv (ldD (.agg es) v23 h) fun v24 =>
kv (bG (.slice es) a0 (e3 9)) fun v25 =>
kH (stD (some es) v25 v22 h) fun _ h =>
kv (bG (.slice es) a0 v19) fun v26 =>
kH (stD (some es) v26 v24 h) fun _ h =>
kv (aC .bad .sub true (e3 9) (.int .i64 1) h) fun v27 =>
∃ m, m < n3 ∧ Inv3 m [v27] h) (
kv (aC .bad .add true (e1 8) (.int .i64 1) h) fun v28 =>
∃ m, m < n1 ∧ Inv1 m [v28] h)) (
K (.tuple #[]) h)
| _ => False
theorem aSr (E : FE) : F.oI E = G.ins 3 E := rfl
theorem aSq (E : FE) : F.oH E = G.ins 2 E := rfl
structure Ord {α : Type} (c : α → α → Int) : Prop where
 trans : ∀ x y z, c x y ≤ 0 → c y z ≤ 0 → c x z ≤ 0
 total : ∀ x y, c x y < 0 ∨ c y x ≤ 0
 anti : ∀ x y, c x y ≤ 0 → c y x ≤ 0 → x = y
def fJ {α : Type} (c : α → α → Int) (l : List α) : Prop := l.Pairwise fun x y => c x y ≤ 0
theorem fJ.uniq {α : Type} {c : α → α → Int} (o : Ord c) : ∀ {l m : List α}, l.Perm m → fJ c l → fJ c m → l = m
 | [], m, p, _, _ => (List.nil_perm.1 p).symm
 | a :: l, [], p, _, _ => by have := p.length_eq; simp at this
 | a :: l, b :: m, p, h1, h2 => by
  have h1' := List.pairwise_cons.1 h1
  have h2' := List.pairwise_cons.1 h2
  have refl : ∀ x, c x x ≤ 0 := fun x => by rcases o.total x x with h | h <;> omega
  have ha : c b a ≤ 0 := by
   rcases List.mem_cons.1 (p.mem_iff.1 (List.mem_cons_self : a ∈ a :: l)) with rfl | h
   · exact refl _
   · exact h2'.1 a h
  have hb : c a b ≤ 0 := by
   rcases List.mem_cons.1 (p.mem_iff.2 (List.mem_cons_self : b ∈ b :: m)) with rfl | h
   · exact refl _
   · exact h1'.1 b h
  obtain rfl := o.anti a b hb ha
  rw [fJ.uniq o ((List.perm_cons a).1 p) h1'.2 h2'.2]
section
variable {α : Type} {D : EL α} {E : FE} {h : aA} {fp : List Nat} {v fv : V} {l : List α} {c : α → α → Int}
def sQ (E : FE) (D : EL α) (fv : V) (c : α → α → Int) : Prop := ∀ (h : aA) (x y : α), cU E.I fv [.agg (D.enc x).toArray, .agg (D.enc y).toArray] h fun r h' => r = i64 (c x y) ∧ Mod h [] h' []
theorem aWb (D : EL α) (b o : Nat) (y : α) (h : aA) : stD (some D.es) (ptr b o) (.agg (D.enc y).toArray) h = h.wr b o (D.enc y) := by
 simp [stD, cellsOf, D.len, D.one]
theorem SlE.ld (s : SlE D h fp v l) {i : Nat} {x : α} (hi : l[i]? = some x) : ∃ b, bG (.slice D.es) v (i64 i) = some (ptr b (i * D.es)) ∧ ldD (.agg D.es) (ptr b (i * D.es)) h = some (.agg (D.enc x).toArray) := by
 obtain ⟨b, _, h1, h2, _⟩ := s.at hi
 exact ⟨b, h1, by rw [sG, h2]; rfl⟩
theorem SlE.st (s : SlE D h fp v l) {i : Nat} (hi : i < l.length) (y : α) :
 ∃ b h', bG (.slice D.es) v (i64 i) = some (ptr b (i * D.es)) ∧ stD (some D.es) (ptr b (i * D.es)) (.agg (D.enc y).toArray) h = some h' ∧ SlE D h' fp v (l.set i y) ∧ Mod h fp h' fp := by
 obtain ⟨b, h', _, h1, h2, h3, h4⟩ := s.set hi y
 exact ⟨b, h', h1, by rw [aWb]; exact h2, h3, h4⟩
theorem aJx (hM : aH E.I) (o : Ord c) (s : SlE D h fp v l) (hc : sQ E D fv c) (hsz : l.length ≤ 1000000) :
 cl (G.ins D.es E) [v, i64 0, i64 l.length, fv] h fun r h' => ∃ l', l'.Perm l ∧ fJ c l' ∧ SlE D h' fp v l' ∧ Mod h fp h' fp := by
 refine aO ?_
 have hlt := s.lt
 simp only [G.ins]
 rw [dN 0 1 (by omega) (by omega), aB]
 refine ⟨fun n vs h' => ∃ (i : Nat) (l1 : List α), vs = [i64 i] ∧ 1 ≤ i ∧ i ≤ 1000001 ∧ n = l.length - i ∧ l1.Perm l ∧ fJ c (l1.take i) ∧ SlE D h' fp v l1 ∧ Mod h fp h' fp, l.length - 1,
  ⟨1, l, rfl, by omega, by omega, rfl, List.Perm.refl _, ?_, s, Mod.refl hlt⟩, ?_⟩
 · cases l with
   | nil => simp [fJ]
   | cons a l => simp [fJ]
 rintro n e1 h1 ⟨i, l1, he, hi1, hi2, rfl, p1, st1, s1, m1⟩
 simp only [List.cons.injEq, and_true] at he
 have hlen : l1.length = l.length := p1.length_eq
 simp only [he, cW, aB, aF]
 by_cases hx : i < l.length
 · have : ((i : Nat) : Int) < (l.length : Nat) := by omega
   simp only [this, decide_true, if_true]
   refine ⟨fun n vs h' => ∃ (j : Nat) (A B C : List α) (x : α), vs = [i64 j] ∧ n = j ∧ A.length = j ∧ A.length + B.length = i ∧ (A ++ x :: (B ++ C)).Perm l ∧ fJ c (A ++ B) ∧ (∀ b ∈ B, c x b ≤ 0) ∧ SlE D h' fp v (A ++ x :: (B ++ C)) ∧ Mod h fp h' fp, i, ?_, ?_⟩
   · obtain ⟨x, hxe⟩ : ∃ x, l1[i]? = some x := ⟨l1[i]'(by omega), List.getElem?_eq_getElem (by omega)⟩
     have e : l1 = l1.take i ++ x :: ([] ++ l1.drop (i + 1)) := by
      obtain ⟨a1, a2⟩ := List.getElem?_eq_some_iff.1 hxe
      rw [List.nil_append, ← a2, ← List.drop_eq_getElem_cons a1, List.take_append_drop]
     refine ⟨i, l1.take i, [], l1.drop (i + 1), x, rfl, rfl, by rw [List.length_take]; omega, by rw [List.length_take, List.length_nil]; omega, by rw [← e]; exact p1, by rw [List.append_nil]; exact st1, by simp, by rw [← e]; exact s1, m1⟩
   · clear st1 s1 m1 p1
     rintro n3 e3 h3 ⟨j, A, B, C, x, hj, hn3, hA, hAB, p3, st3, lt3, s3, m3⟩
     simp only [List.cons.injEq, and_true] at hj
     have hl3 : (A ++ x :: (B ++ C)).length = l.length := p3.length_eq
     have hgx : (A ++ x :: (B ++ C))[j]? = some x := by rw [List.getElem?_append_right (by omega), hA]; simp
     have stop : ∀ h4, SlE D h4 fp v (A ++ x :: (B ++ C)) → Mod h fp h4 fp → fJ c (A ++ x :: B) → kv (aC .bad .add true (i64 i) (.int .i64 1) h4) fun v28 =>
      ∃ m, m < l.length - i ∧ ∃ (i' : Nat) (l1 : List α), [v28] = [i64 i'] ∧ 1 ≤ i' ∧ i' ≤ 1000001 ∧ m = l.length - i' ∧ l1.Perm l ∧ fJ c (l1.take i') ∧ SlE D h4 fp v l1 ∧ Mod h fp h4 fp := by
      intro h4 s4 m4 st4
      rw [dN _ 1 (by omega) (by omega), aB]
      refine ⟨l.length - (i + 1), by omega, i + 1, _, by simp, by omega, by omega, rfl, p3, ?_, s4, m4⟩
      have : (A ++ x :: (B ++ C)).take (i + 1) = A ++ x :: B := by
       rw [show A ++ x :: (B ++ C) = (A ++ x :: B) ++ C by simp, List.take_append_of_le_length (by simp; omega), List.take_of_length_le (by simp; omega)]
      rw [this]
      exact st4
     simp only [hj, iH, aB]
     by_cases h0 : j = 0
     · subst h0
       have hA0 : A = [] := List.eq_nil_of_length_eq_zero hA
       subst hA0
       simp only [Int.ofNat_zero, gt_iff_lt, Int.lt_irrefl, decide_false, aT, Bool.false_eq_true, if_false, aB, fN]
       refine lQ (by simp) ?_
       simp only [aT, Bool.false_eq_true, if_false, aB, aY, aF]
       exact stop h3 s3 m3 (by
        show fJ c ([] ++ x :: B)
        rw [List.nil_append] at st3 ⊢
        exact List.pairwise_cons.2 ⟨lt3, st3⟩)
     · have hj0 : ((j : Nat) : Int) > 0 := by omega
       obtain ⟨A', y, rfl⟩ : ∃ A' y, A = A' ++ [y] := by
        rcases List.eq_nil_or_concat A with rfl | ⟨A', y, rfl⟩
        · simp at hA; omega
        · exact ⟨A', y, by simp⟩
       simp only [List.length_append, List.length_cons, List.length_nil] at hA hAB
       have hgy : (A' ++ [y] ++ x :: (B ++ C))[j - 1]? = some y := by
        rw [List.append_assoc, List.getElem?_append_right (by omega), show j - 1 - A'.length = 0 by omega]; simp
       obtain ⟨b1, i1, i2⟩ := s3.ld hgx
       obtain ⟨b2, i3, i4⟩ := s3.ld hgy
       have hw : IntKind.i64.wrap (((j : Nat) : Int) - 1) = ((j - 1 : Nat) : Int) := by rw [wrap_i64 (by omega) (by omega)]; omega
       simp only [hj0, decide_true, aT, if_true, aB, i1, i2, xH, hw, i3, i4]
       refine gF rfl ?_
       refine uJ hM ?_ (hc h3 x y)
       rintro r h4 ⟨rfl, mc⟩
       have s4 := s3.bW mc
       have m4 : Mod h fp h4 fp := m3.trans ⟨mc.next, fun k hk _ => mc.same k hk (by simp), fun k hk => .inl hk, fun k hk => Nat.lt_of_lt_of_le (s3.lt k hk) mc.next⟩
       simp only [cW, aT, if_true, aB, aY, aF, decide_eq_true_eq]
       obtain ⟨c1, k1, k2⟩ := s4.ld hgx
       obtain ⟨c2, k3, k4⟩ := s4.ld hgy
       rw [i1] at k1
       cases k1
       rw [i3] at k3
       cases k3
       by_cases hcl : c x y < 0
       · rw [if_pos hcl]
         simp only [aB, k2, k4]
         obtain ⟨b5, h5, j1, j2, s5, m5⟩ := s4.st (i := j) (by omega) y
         rw [i1] at j1
         cases j1
         rw [j2, bR]
         obtain ⟨b6, h6, j3, j4, s6, m6⟩ := s5.st (i := j - 1) (by rw [List.length_set]; omega) x
         rw [i3] at j3
         cases j3
         rw [j4, bR]
         have esw : ((A' ++ [y] ++ x :: (B ++ C)).set j y).set (j - 1) x = A' ++ x :: (y :: B ++ C) := by
          have hA' : A'.length = j - 1 := by omega
          rw [List.set_append_right _ _ (by simp; omega), List.length_append, List.length_cons, List.length_nil, show j - (A'.length + (0 + 1)) = 0 by omega, List.set_cons_zero, List.append_assoc, List.set_append_right _ _ (by omega), show j - 1 - A'.length = 0 by omega]
          simp
         rw [esw] at s6
         refine ⟨j - 1, by omega, j - 1, A', y :: B, C, x, rfl, rfl, by omega, by simp; omega, ?_, ?_, ?_, s6, (m4.trans m5).trans m6⟩
         · refine List.Perm.trans ?_ p3
           rw [List.append_assoc]
           exact List.Perm.append_left _ (List.Perm.swap _ _ _)
         · rw [show A' ++ (y :: B) = A' ++ [y] ++ B by simp]; exact st3
         · intro b hb
           rcases List.mem_cons.1 hb with rfl | hb
           · omega
           · exact lt3 b hb
       · rw [if_neg hcl]
         refine stop h4 s4 m4 ?_
         have hyx : c y x ≤ 0 := by rcases o.total x y with h | h; exact absurd h hcl; exact h
         have q := List.pairwise_append.1 st3
         have q1 := List.pairwise_append.1 q.1
         refine List.pairwise_append.2 ⟨q.1, List.pairwise_cons.2 ⟨lt3, q.2.1⟩, fun a ha b hb => ?_⟩
         rcases List.mem_cons.1 hb with rfl | hb
         · rcases List.mem_append.1 ha with ha | ha
           · exact o.trans _ _ _ (q1.2.2 a ha y (by simp)) hyx
           · simp only [List.mem_singleton] at ha
             rw [ha]; exact hyx
         · exact q.2.2 a ha b hb
 · have : ¬ ((i : Nat) : Int) < (l.length : Nat) := by omega
   simp only [this, decide_false, Bool.false_eq_true, if_false]
   refine ⟨l1, p1, ?_, s1, m1⟩
   rwa [List.take_of_length_le (by omega)] at st1
end
end Go.Abs
namespace Go.Abs
open Go
variable {E : FE} {h : aA} {fp : List Nat} {v fv : V}
def dId : EL IdM := ⟨2, fun i => [i64 i.client, i64 i.seq], fun _ => rfl, fun _ => rfl, by decide⟩
def bF : EL aZ := ⟨3, fun k => [str k.space, str k.key, .bool k.all], fun _ => rfl, fun _ => rfl, by decide⟩
set_option maxRecDepth 100000 in
theorem bits_Len64 (n : Nat) (hn : n < 256) : cl (F.lU E) [.int .u64 n] h fun r h' => h' = h ∧ ∃ k : Int, r = i64 k := by
 refine aO ?_
 have h1 : ¬ ((n : Int) ≥ 4294967296) := by omega
 have h2 : ¬ ((n : Int) ≥ 65536) := by omega
 have h3 : ¬ ((n : Int) ≥ 256) := by omega
 have hw : IntKind.u8.wrap (n : Int) = n := by
  simp [IntKind.wrap, IntKind.signed, IntKind.bits]
  omega
 simp only [F.lU, fY, h1, h2, h3, decide_false, aB, aF, Bool.false_eq_true, if_false]
 refine ⟨fun vs h' => vs = [.int .u64 n, i64 0] ∧ h' = h, ⟨rfl, rfl⟩, ?_⟩
 rintro e1 h1' ⟨he, rfl⟩
 simp only [List.cons.injEq, and_true] at he
 simp only [he.1, he.2, fY, h2, decide_false, aB, aF, Bool.false_eq_true, if_false]
 refine ⟨fun vs h' => vs = [.int .u64 n, i64 0] ∧ h' = h1', ⟨rfl, rfl⟩, ?_⟩
 rintro e2 h2' ⟨he, rfl⟩
 simp only [List.cons.injEq, and_true] at he
 simp only [he.1, he.2, fY, h3, decide_false, aB, aF, Bool.false_eq_true, if_false]
 refine ⟨fun vs h' => vs = [.int .u64 n, i64 0] ∧ h' = h2', ⟨rfl, rfl⟩, ?_⟩
 rintro e3 h3' ⟨he, rfl⟩
 simp only [List.cons.injEq, and_true] at he
 simp only [he.1, he.2, dZ, Option.map_some, aB, hw]
 have key : ∀ tab : ByteArray, tab.size = 256 → ∀ K : V → Prop, (∀ b : UInt8, K (.int .u8 b.toNat)) → kv (iL .str (.string tab) (.int .u8 n)) K := by
  intro tab hsz K hK
  have hlt : n < tab.size := by omega
  have hg : tab[(n : Int).toNat]? = some tab[n] := by
   rw [Int.toNat_natCast]
   exact getElem?_pos tab n hlt
  simp only [iL, if_pos (show (0 : Int) ≤ n by omega), hg, aB]
  exact hK _
 refine key _ (by kernel_rfl) _ fun b => ?_
 simp only [Option.map_some, aB, qO]
 exact ⟨trivial, _, rfl⟩
theorem bits_Len (n : Nat) (hn : n < 256) : cl (F.iP E) [.int .u64 n] h fun r h' => h' = h ∧ ∃ k : Int, r = i64 k := by
 refine aO ?_
 simp only [F.iP, aF, Bool.false_eq_true, if_false]
 exact bits_Len64 n hn
section
variable {c : IdM → IdM → Int} {k : aZ → aZ → Int}
theorem aU3 (hM : aH E.I) (o : Ord c) {l : List IdM} (s : SlE dId h fp v l) (hc : sQ E dId fv c) (hn : l.length ≤ 12) (lim : V) :
 cl (F.fS E) [v, i64 0, i64 l.length, lim, fv] h fun r h' => ∃ l', l'.Perm l ∧ fJ c l' ∧ SlE dId h' fp v l' ∧ Mod h fp h' fp := by
 refine aO ⟨1, fun n vs h' => vs = [i64 0, i64 l.length, lim, .bool true, .bool true] ∧ h' = h, 0, ⟨rfl, rfl⟩, ?_⟩
 rintro n e h1 ⟨he, rfl⟩
 simp only [List.cons.injEq, and_true] at he
 obtain ⟨e1, e2, e3, e4, e5⟩ := he
 simp only [e1, e2, yX _ 0 (show -9223372036854775808 ≤ ((l.length : Nat) : Int) - 0 by omega) (by omega), aB, pS, show ((l.length : Nat) : Int) - 0 ≤ 12 by omega, decide_true, aF, if_true]
 rw [aSq]
 exact aJx (D := dId) hM o s hc (by omega)
theorem aU4 (hM : aH E.I) (o : Ord k) {l : List aZ} (s : SlE bF h fp v l) (hc : sQ E bF fv k) (hn : l.length ≤ 12) (lim : V) :
 cl (F.fT E) [v, i64 0, i64 l.length, lim, fv] h fun r h' => ∃ l', l'.Perm l ∧ fJ k l' ∧ SlE bF h' fp v l' ∧ Mod h fp h' fp := by
 refine aO ⟨1, fun n vs h' => vs = [i64 0, i64 l.length, lim, .bool true, .bool true] ∧ h' = h, 0, ⟨rfl, rfl⟩, ?_⟩
 rintro n e h1 ⟨he, rfl⟩
 simp only [List.cons.injEq, and_true] at he
 obtain ⟨e1, e2, e3, e4, e5⟩ := he
 simp only [e1, e2, yX _ 0 (show -9223372036854775808 ≤ ((l.length : Nat) : Int) - 0 by omega) (by omega), aB, pS, show ((l.length : Nat) : Int) - 0 ≤ 12 by omega, decide_true, aF, if_true]
 rw [aSr]
 exact aJx (D := bF) hM o s hc (by omega)
theorem aV2 (hM : aH E.I) (o : Ord c) {l : List IdM} (s : SlE dId h fp v l) (hc : sQ E dId fv c) (hn : l.length ≤ 12) :
 cl (F.lD E) [v, fv] h fun r h' => ∃ l', l'.Perm l ∧ fJ c l' ∧ SlE dId h' fp v l' ∧ Mod h fp h' fp := by
 refine aO ?_
 have hw : IntKind.u64.wrap ((l.length : Nat) : Int) = (l.length : Nat) := by
  simp [IntKind.wrap, IntKind.signed, IntKind.bits]
  omega
 simp only [F.lD, s.len, aB, dZ, Option.map_some, hw]
 refine aL (bits_Len l.length (by omega)) ?_
 rintro r h1 ⟨rfl, x, rfl⟩
 exact aU3 hM o s hc hn _
theorem aV3 (hM : aH E.I) (o : Ord k) {l : List aZ} (s : SlE bF h fp v l) (hc : sQ E bF fv k) (hn : l.length ≤ 12) :
 cl (F.mW E) [v, fv] h fun r h' => ∃ l', l'.Perm l ∧ fJ k l' ∧ SlE bF h' fp v l' ∧ Mod h fp h' fp := by
 refine aO ?_
 have hw : IntKind.u64.wrap ((l.length : Nat) : Int) = (l.length : Nat) := by
  simp [IntKind.wrap, IntKind.signed, IntKind.bits]
  omega
 simp only [F.mW, s.len, aB, dZ, Option.map_some, hw]
 refine aL (bits_Len l.length (by omega)) ?_
 rintro r h1 ⟨rfl, x, rfl⟩
 exact aU4 hM o s hc hn _
end
end Go.Abs

/- Specs on abstract heaps, part 39: spaces that are compared, whichever they are. -/
import Derived.Test.YthhegdifbnghpaaGreatDoorWbb
import Derived.Test.YthhegdifbnghpaaGreatDoorWau
import Derived.Test.YthhegdifbnghpaaGreatDoorWam
import Derived.Deep.Slices
import Derived.Test.YthhegdifbnghpaaGreatDoorWax
import Derived.SizedLaws
import Derived.Test.YthhegdifbnghpaaGreatDoorWba
import Derived.Test.YthhegdifbnghpaaGreatDoorWav
import Derived.Test.YthhegdifbnghpaaGreatDoorWan
import Derived.Test.YthhegdifbnghpaaGreatDoorWat
import Derived.Test.YthhegdifbnghpaaGreatDoorWas
import Derived.KernelRfl
import Derived.Test.YthhegdifbnghpaaGreatDoorWaw
set_option linter.unusedSimpArgs false
set_option linter.unusedVariables false
namespace Go.Abs
open Go Go.Proofs
variable {E E1 : FE} {h h' : AHeap} {p q : V}
def txt (k : ByteArray) (g : List En) : ByteArray := match getE k g with | some (.string s) => s | _ => ⟨#[]⟩
end Go.Abs
namespace Go.Abs
open Go Go.RowKit
theorem rowAt_off {P : Program} {fits : TypeId → Bool} {d : Nat} {e : TypeId} {count off n : Nat} (h : rowAt P fits d e count off n = true) : off ≤ count * P.cellsOf e := by
 cases d with
 | zero => simp [rowAt] at h
 | succ d =>
  unfold rowAt at h
  simp only at h
  split at h
  · cases h
  · rename_i hs
    have hm := Nat.div_add_mod off (P.cellsOf e)
    have hl := Nat.mod_lt off (Nat.pos_of_ne_zero hs)
    rw [Bool.or_eq_true] at h
    rcases h with h | h
    · simp only [Bool.and_eq_true, beq_iff_eq, decide_eq_true_eq] at h
      have : P.cellsOf e * (off / P.cellsOf e) ≤ P.cellsOf e * count := Nat.mul_le_mul_left _ (by omega)
      rw [Nat.mul_comm count]
      omega
    · rw [Bool.and_eq_true, decide_eq_true_eq] at h
      have : P.cellsOf e * (off / P.cellsOf e + 1) ≤ P.cellsOf e * count := Nat.mul_le_mul_left _ (by omega)
      rw [Nat.mul_add, Nat.mul_one] at this
      rw [Nat.mul_comm count]
      omega
theorem lies_off {P : Program} : ∀ {d : Nat} {e : TypeId} {count off : Nat} {u : TypeId} {n : Nat}, liesAt P d e count off u n = true → off ≤ count * P.cellsOf e
 | 0, _, _, _, _, _, h => by simp [liesAt] at h
 | d + 1, e, count, off, u, n, h => by
  unfold liesAt at h
  rw [Bool.or_eq_true] at h
  rcases h with h | h
  · exact rowAt_off h
  · split at h
    · exact lies_off h
    · cases h
theorem okWide_slice_at {P : Program} {w : World} {base : Nat} {t e : TypeId} {a : Addr} {len cap : Nat} (ht : P.underlying t = some (.slice e)) (h : Value.okWide P w .any base t (.slice (some a) len cap)) :
 a.spot = none ∧ ∃ cc el fr, w.heap[a.block]? = some (.cells cc el fr) ∧ a.off ≤ cc.size := by
 simp only [Value.okWide, ht, Cell.okWide] at h
 have h' : w.has P .any base a e cap := by
  simp only [Cell.ok, ht] at h
  first | exact h | exact h.2 | exact h.2.2 | exact h.1 | exact h.2.1
 obtain ⟨_, hs, row, cells, hsh, hl⟩ := h'
 refine ⟨hs, ?_⟩
 unfold World.shape? at hsh
 split at hsh
 · rename_i c el fr hb
   simp only [Option.some.injEq, Prod.mk.injEq] at hsh
   obtain ⟨rfl, rfl⟩ := hsh
   refine ⟨c, _, fr, hb, Nat.le_trans (lies_off hl) (Nat.div_mul_le_self _ _)⟩
 · cases hsh
theorem R.ofNil {J : World → Prop} {W : World} (hJ : J W) (es : Nat) :
 ∃ r h v, R J W.heap.size r h W ∧ VR r v (.slice none 0 0) ∧ Ro h.next h v es 0 [] :=
 ⟨fun _ => none, ⟨fun _ => none, 0⟩, .slice none 0 0, ⟨Nat.le_refl _, fun _ _ h => (by cases h), fun _ _ h => (by cases h), fun _ _ _ _ _ _ h => (by cases h), hJ⟩, .sliceNil, by simp, Nat.le_refl _, .inl ⟨rfl, rfl⟩⟩
theorem SoundF.callsR {P : Program} {J : World → Prop} {f : FuncId} {s : Spec} (hs : SoundF P J f s) (hcall : ∀ (args : Array V) (w : World), (callFunc f args).run P w = .ok (.enter f args) w)
 {w : World} (hJ : Stays J w.heap.size) {r : Ren} {h : AHeap} (hR : R J w.heap.size r h w) {l : List V} {l' : Array V} (hl : VRl r l l'.toList) {v0 : V} (h0 : closedV v0 = true) (hq : s l h fun v _ => v = v0) :
 Calls P f l' w fun e w' => e = .returned v0 ∧ Below w.heap.size w w' := by
 obtain ⟨n, w1, h1, h2⟩ := hs _ hJ _ _ w l l' _ hq hR hl
 rw [hcall] at h1
 cases h1
 refine Calls.mono h2 ?_
 rintro e w' ⟨v', rfl, r', v, h', rfl, hR', hE, hv⟩
 exact ⟨by rw [VR.eq_of_closed h0 hv], hE.below hR⟩
end Go.Abs
namespace Go.Abs
open Go Go.RowKit
def qField (i : Nat) : TypeDesc := if i = 0 ∨ i = 4 then .int .i64 else .string
theorem open_oq {H : Type} {enc : TypeId × Value → H} {P : Program} {w : World} {base : Nat} {spare : Nat → Bool} {held : Bool} {fuel : Nat} {e : TypeId} {fs : Array Field} {cs : List V} {x : DataW H × List MemPlace}
 (he : P.underlying e = some (.struct fs)) (ce : P.cellsOf e = 5) (hf : ∀ i, i < 5 → ∃ f, fs[i]? = some f ∧ f.offset = i ∧ P.cellsOf f.type = 1 ∧ P.underlying f.type = some (qField i)) (hn : fs.size = 5)
 (h : DataW.trod enc P w base spare held fuel e cs = some x) : ∃ o : Oq, cs = o.cells ∧ (o.key.size ≤ maxLen ∧ o.val.size ≤ maxLen) ∧ ∀ R, (∀ n ∈ x.1.weights P e, n ≤ R) → o.key.size ≤ R ∧ o.val.size ≤ R := by
 obtain ⟨xs, n, _, hx1, hl, hxs, hr⟩ := DataW.trod_struct he h
 rw [ce] at hl
 have get : ∀ i, i < 5 → ∃ v y, cs[i]? = some v ∧ xs[i]? = some y ∧ ∃ f : Field, fs[i]? = some f ∧ P.underlying f.type = some (qField i) ∧ DataW.trod enc P w base spare held n f.type [v] = some y := by
  intro i hi
  obtain ⟨f, h1, h2, h3, h4⟩ := hf i hi
  have h5 := hr i f h1
  rw [h2, h3] at h5
  have hci : i < cs.length := by omega
  have hxi : i < xs.length := by omega
  refine ⟨cs[i], xs[i], List.getElem?_eq_getElem hci, List.getElem?_eq_getElem hxi, f, h1, h4, ?_⟩
  have h6 : (cs.drop i).take 1 = [cs[i]] := by rw [List.drop_eq_getElem_cons hci]; rfl
  rw [h6] at h5
  rw [h5, List.getElem?_eq_getElem hxi]
 have int : ∀ i, i < 5 → qField i = .int .i64 → ∃ m : Int, cs[i]? = some (i64 m) := by
  intro i hi ho
  obtain ⟨v, y, h1, _, f, _, h2, h3⟩ := get i hi
  rw [ho] at h2
  obtain ⟨m, h4, _⟩ := DataW.trod_int h2 h3
  simp only [List.cons.injEq, and_true] at h4
  exact ⟨m, by rw [h1, h4]⟩
 have txt : ∀ i, i < 5 → qField i = .string → ∃ s : ByteArray, cs[i]? = some (str s) ∧ s.size ≤ maxLen ∧ ∀ R, (∀ n ∈ x.1.weights P e, n ≤ R) → s.size ≤ R := by
  intro i hi ho
  obtain ⟨v, y, h1, hy, f, hff, h2, h3⟩ := get i hi
  rw [ho] at h2
  obtain ⟨m, h4, hyv, h5⟩ := DataW.trod_string h2 h3
  simp only [List.cons.injEq, and_true] at h4
  refine ⟨m, by rw [h1, h4], h5, fun R hR => ?_⟩
  have hlen : m.data.toList.length = m.size := by rw [Array.length_toList]; rfl
  rw [← hlen]
  refine hR _ ?_
  rw [hx1]
  simp only [DataW.weights, he]
  refine DataW.weights_mem_each (j := i) (t := f.type) (d := .lit (.string m.data.toList)) ?_ ?_ _ (by simp [DataW.weights])
  · rw [List.getElem?_map, Array.getElem?_toList, hff]; rfl
  · rw [List.getElem?_map, hy, hyv]; rfl
 obtain ⟨a0, e0⟩ := int 0 (by decide) rfl
 obtain ⟨a1, e1, _⟩ := txt 1 (by decide) rfl
 obtain ⟨a2, e2, z2, w2⟩ := txt 2 (by decide) rfl
 obtain ⟨a3, e3, z3, w3⟩ := txt 3 (by decide) rfl
 obtain ⟨a4, e4⟩ := int 4 (by decide) rfl
 refine ⟨⟨a0, a1, a2, a3, a4⟩, ?_, ⟨z2, z3⟩, fun R hR => ⟨w2 R hR, w3 R hR⟩⟩
 match cs, hl with
 | [c0, c1, c2, c3, c4], _ =>
  simp only [List.getElem?_cons_zero, List.getElem?_cons_succ, Option.some.injEq] at e0 e1 e2 e3 e4
  simp [Oq.cells, e0, e1, e2, e3, e4]
def Oqs (N : Nat) (h : AHeap) (v : V) (l : List Oq) : Prop := Ro N h v 5 l.length (l.flatMap Oq.cells)
theorem oqs_cells : ∀ (l : List Oq) (i : Nat) (o : Oq), l[i]? = some o → ∀ j, j < 5 → (l.flatMap Oq.cells)[i * 5 + j]? = o.cells[j]?
 | [], i, o, h, _, _ => by simp at h
 | a :: l, 0, o, h, j, hj => by
  simp only [List.getElem?_cons_zero, Option.some.injEq] at h
  subst h
  rw [List.flatMap_cons, List.getElem?_append_left (by simp [Oq.cells]; omega)]
  simp
 | a :: l, i + 1, o, h, j, hj => by
  rw [List.getElem?_cons_succ] at h
  rw [List.flatMap_cons, List.getElem?_append_right (by simp [Oq.cells]; omega), ← oqs_cells l i o h j hj]
  congr 1
  simp [Oq.cells]
  omega
end Go.Abs
namespace Go.Abs
open Go Go.Proofs
variable {E E0 E1 : FE} {h h' : AHeap} {p : V}
def SpSt.kind : SpSt → Int
 | .tab _ => 1
 | .qu .. => 2
 | .to .. => 3
theorem SpS.lt {S : SpSt} {fp : List Nat} (s : SpS h fp p S) : ∀ x ∈ fp, x < h.next := by
 obtain ⟨pt, s⟩ := s
 exact s.lt
theorem SpS.same {S : SpSt} {fp : List Nat} (s : SpS h fp p S) (hl : h.next ≤ h'.next) (hs : ∀ x ∈ fp, h'.get x = h.get x) : SpS h' fp p S := by
 obtain ⟨pt, s⟩ := s
 exact ⟨pt, s.same hl hs⟩
end Go.Abs
namespace Go.Abs
open Go Go.Proofs
variable {E E1 : FE} {h h' : AHeap} {p q : V} {fa fb : List Nat} {k : Nat}
theorem Prs.agg {v : V} {l : List Pr} {fp : List Nat} (c : Prs h fp v l) {i : Nat} {q : Pr} (hi : l[i]? = some q) :
 ∃ b, indexAddrD (.slice 3) v (i64 i) = some (ptr b (i * 3)) ∧ ldD (.agg 3) (ptr b (i * 3)) h = some q.agg := by
 have hil : i < l.length := (List.getElem?_eq_some_iff.1 hi).1
 have hq : l[i] = q := (List.getElem?_eq_some_iff.1 hi).2
 obtain ⟨h0, ⟨rfl, h1, rfl⟩ | ⟨b, cp, all, rfl, rfl, hb, hc, h2, h3, h4⟩⟩ := c
 · omega
 have hall : l.length * 3 ≤ all.length := Nat.le_trans (Nat.mul_le_mul_right _ hc) h3
 have b1 : (0 : Int) ≤ (i : Int) ∧ (i : Int) < (l.length : Nat) := by omega
 refine ⟨b, by simp only [indexAddrD, if_pos b1, Int.toNat_natCast, Nat.zero_add], ?_⟩
 have hrow : (all.drop (i * 3)).take 3 = q.cells := by
  have e := fm_drop Pr.cells 3 prc_len l i
  rw [List.drop_eq_getElem_cons hil, List.flatMap_cons, hq, ← h4, List.drop_take] at e
  have e2 := congrArg (List.take 3) e
  rw [List.take_take, Nat.min_eq_left (by omega)] at e2
  rw [e2]
  rfl
 rw [ld_agg, rdN_of h2, if_pos (by omega), hrow]
 rfl
end Go.Abs
namespace Go.Abs
open Go Go.Proofs
variable {E E0 E1 : FE} {h h' : AHeap} {p q : V} {k : Nat}
def Ints (N : Nat) (h : AHeap) (v : V) (l : List Int) : Prop := Ro N h v 1 l.length (l.map i64)
end Go.Abs
namespace Go.Abs
open Go
variable {F : Fr} {h h' : AHeap} {A B C D : Pl} {L L' : List Pl}
theorem SepF.low {N M : Nat} : ∀ {L : List Pl} {f : List Nat}, SepF N h L f → (∀ x ∈ f, M ≤ x) → SepF M h L f
 | [], _, s, _ => s
 | A :: L, _, ⟨a, r, e, s1, s2, s3, s4⟩, hf => by
  subst e
  exact ⟨a, r, rfl, s1, s2.low fun x hx => hf x (by simp [hx]), s3, fun x hx => hf x (by simp [hx])⟩
theorem SepF.app {N : Nat} : ∀ {L' : List Pl} {L : List Pl} {f : List Nat}, SepF N h (L' ++ L) f ↔ ∃ a r, f = a ++ r ∧ SepF N h L' a ∧ SepF N h L r ∧ ∀ x ∈ a, x ∉ r
 | [], L, f => ⟨fun s => ⟨[], f, rfl, rfl, s, by simp⟩, fun ⟨a, r, e, s1, s2, _⟩ => by
  have s1' : a = [] := s1
  subst s1' e
  simpa using s2⟩
 | A :: L', L, f => by
  constructor
  · rintro ⟨a, r, rfl, s1, s2, s3, s4⟩
    obtain ⟨a2, r2, rfl, t1, t2, t3⟩ := (SepF.app (L' := L') (L := L)).1 s2
    refine ⟨a ++ a2, r2, by simp, ⟨a, a2, rfl, s1, t1, fun x hx hr => s3 x hx (by simp [hr]), s4⟩, t2, fun x hx hr => ?_⟩
    rcases List.mem_append.1 hx with hx | hx
    · exact s3 x hx (by simp [hr])
    · exact t3 x hx hr
  · rintro ⟨_, r, rfl, ⟨a, a2, rfl, s1, t1, s3, s4⟩, t2, t3⟩
    refine ⟨a, a2 ++ r, by simp, s1, (SepF.app (L' := L') (L := L)).2 ⟨a2, r, rfl, t1, t2, fun x hx => t3 x (by simp [hx])⟩, fun x hx hr => ?_, s4⟩
    rcases List.mem_append.1 hr with hr | hr
    · exact s3 x hx hr
    · exact t3 x (by simp [hx]) hr
def plPure (φ : Prop) : Pl := ⟨fun _ f => f = [] ∧ φ, fun _ _ ⟨e, _⟩ x hx => by subst e; simp at hx, fun _ _ _ p _ _ => p⟩
def plAll (L : List Pl) : Pl := ⟨fun h f => SepF 0 h L f, fun _ _ s => s.lt, fun _ _ _ s hl hs => s.same hl hs⟩
def plEx {α : Type} (A : α → Pl) : Pl := ⟨fun h f => ∃ a, (A a).P h f, fun h f ⟨a, p⟩ => (A a).lt h f p, fun h h' f ⟨a, p⟩ hl hs => ⟨a, (A a).same h h' f p hl hs⟩⟩
def plMap (b : Nat) (es : List MapEntry) (clk : Nat) : Pl :=
 ⟨fun h f => f = [b] ∧ b < h.next ∧ h.get b = some (.map es clk), fun h f ⟨e, hb, _⟩ x hx => by subst e; simp at hx; omega,
  fun h h' f ⟨e, hb, hg⟩ hl hs => ⟨e, by omega, by rw [hs b (by simp [e]), hg]⟩⟩
def plIter (b m since : Nat) (seen : Array Nat) : Pl :=
 ⟨fun h f => f = [b] ∧ b < h.next ∧ h.get b = some (.miter (some m) since seen since), fun h f ⟨e, hb, _⟩ x hx => by subst e; simp at hx; omega,
  fun h h' f ⟨e, hb, hg⟩ hl hs => ⟨e, by omega, by rw [hs b (by simp [e]), hg]⟩⟩
theorem Sep.ex {α : Type} {A : α → Pl} (s : Sep F h (plEx A :: L)) : ∃ a, Sep F h (A a :: L) := by
 obtain ⟨s0, s1, f, a, r, rfl, ⟨x, p⟩, s3, s4, s5⟩ := s
 exact ⟨x, s0, s1, a ++ r, a, r, rfl, p, s3, s4, s5⟩
theorem Sep.mkEx {α : Type} {A : α → Pl} (x : α) (s : Sep F h (A x :: L)) : Sep F h (plEx A :: L) := by
 obtain ⟨s0, s1, f, a, r, rfl, p, s3, s4, s5⟩ := s
 exact ⟨s0, s1, a ++ r, a, r, rfl, ⟨x, p⟩, s3, s4, s5⟩
theorem Sep.pure {φ : Prop} (s : Sep F h (plPure φ :: L)) : φ ∧ Sep F h L := by
 obtain ⟨s0, s1, f, a, r, rfl, ⟨rfl, p⟩, s3, s4, s5⟩ := s
 exact ⟨p, s0, s1, r, s3⟩
theorem Sep.mkPure {φ : Prop} (p : φ) (s : Sep F h L) : Sep F h (plPure φ :: L) := by
 obtain ⟨s0, s1, f, s3⟩ := s
 exact ⟨s0, s1, [] ++ f, [], f, rfl, ⟨rfl, p⟩, s3, by simp, by simp⟩
theorem Sep.all (s : Sep F h (plAll L' :: L)) : Sep F h (L' ++ L) := by
 obtain ⟨s0, s1, f, a, r, rfl, p, s3, s4, s5⟩ := s
 exact ⟨s0, s1, a ++ r, SepF.app.2 ⟨a, r, rfl, SepF.low p s5, s3, s4⟩⟩
theorem Sep.mkAll (s : Sep F h (L' ++ L)) : Sep F h (plAll L' :: L) := by
 obtain ⟨s0, s1, f, s2⟩ := s
 obtain ⟨a, r, rfl, t1, t2, t3⟩ := SepF.app.1 s2
 exact ⟨s0, s1, a ++ r, a, r, rfl, t1.low (by simp), t2, t3, t1.lo⟩
theorem Sep.conv (s : Sep F h (A :: L)) (hA : ∀ f, A.P h f → B.P h f) : Sep F h (B :: L) := by
 obtain ⟨s0, s1, f, a, r, rfl, p, s3, s4, s5⟩ := s
 exact ⟨s0, s1, a ++ r, a, r, rfl, hA a p, s3, s4, s5⟩
theorem Sep.mapGet {b clk : Nat} {es : List MapEntry} (s : Sep F h (plMap b es clk :: L)) : h.get b = some (.map es clk) := by
 obtain ⟨_, ⟨_, _, e⟩, _⟩ := s.head
 exact e
theorem Sep.iterGet {b m clk : Nat} {seen : Array Nat} (s : Sep F h (plIter b m clk seen :: L)) : h.get b = some (.miter (some m) clk seen clk) := by
 obtain ⟨_, ⟨_, _, e⟩, _⟩ := s.head
 exact e
theorem Sep.mapPut {b clk clk' : Nat} {es es' : List MapEntry} (s : Sep F h (plMap b es clk :: L)) : Sep F (h.put b (.map es' clk')) (plMap b es' clk' :: L) := by
 obtain ⟨a, ⟨rfl, hb, _⟩, k⟩ := s.head
 refine k (a' := [b]) (plMap b es' clk') ⟨by simp, fun x hx hn => ?_, fun x hx => .inl hx, fun x hx => by simp at hx; simp; omega⟩ ⟨rfl, hb, by simp⟩
 have : x ≠ b := by simpa using hn
 simp [this]
theorem Sep.iterPut {b m clk : Nat} {seen seen' : Array Nat} (s : Sep F h (plIter b m clk seen :: L)) : Sep F (h.put b (.miter (some m) clk seen' clk)) (plIter b m clk seen' :: L) := by
 obtain ⟨a, ⟨rfl, hb, _⟩, k⟩ := s.head
 refine k (a' := [b]) (plIter b m clk seen') ⟨by simp, fun x hx hn => ?_, fun x hx => .inl hx, fun x hx => by simp at hx; simp; omega⟩ ⟨rfl, hb, by simp⟩
 have : x ≠ b := by simpa using hn
 simp [this]
theorem Sep.newMap (s : Sep F h L) (es : List MapEntry) (clk : Nat) : Sep F (h.new (.map es clk)) (plMap h.next es clk :: L) :=
 s.alloc (a' := [h.next]) _ ⟨by simp, fun x hx _ => by have : x ≠ h.next := by omega
                                                       simp [this], by simp, by simp⟩ ⟨rfl, by simp, by simp⟩
theorem Sep.newIter (s : Sep F h L) (m clk : Nat) (seen : Array Nat) : Sep F (h.new (.miter (some m) clk seen clk)) (plIter h.next m clk seen :: L) :=
 s.alloc (a' := [h.next]) _ ⟨by simp, fun x hx _ => by have : x ≠ h.next := by omega
                                                       simp [this], by simp, by simp⟩ ⟨rfl, by simp, by simp⟩
theorem Sep.range {m clk : Nat} {es : List MapEntry} (s : Sep F h (plMap m es clk :: L)) {K : V → AHeap → Prop}
 (hK : ∀ it h', Sep F h' (plIter it m clk #[] :: plMap m es clk :: L) → K (ptr it 0) h') : kP (rangeD .map (.map (some m)) h) K := by
 have g := s.mapGet
 have e1 : rangeD .map (.map (some m)) h = some (.pointer (some ⟨h.next, 0, none⟩), h.new (.miter (some m) clk #[] clk)) := by simp only [rangeD, g]
 rw [e1, kP_some]
 exact hK h.next _ (s.newIter m clk #[])
theorem Sep.next {it m clk : Nat} {es done : List MapEntry} {seen : Array Nat} (s : Sep F h (plIter it m clk seen :: plMap m es clk :: L)) (hb : ∀ e ∈ es, e.born < clk) (hn : (es.map (·.born)).Nodup) (hs : Seen es done seen)
 {K : V → AHeap → Prop}
 (hK : ∀ e ∈ es, e ∉ done → ∀ h', Sep F h' (plIter it m clk (seen.push e.born) :: plMap m es clk :: L) → Seen es (done ++ [e]) (seen.push e.born) → aEntry (ptr it 0) h' = some (.tuple #[e.key, e.val]) → done.length < es.length →
  K (.tuple #[.bool true, e.key, e.val]) h')
 (hE : es.Perm done → K (.tuple #[.bool false]) h) : aNext (ptr it 0) false h K := by
 have g1 := s.iterGet
 have g2 := s.up1.mapGet
 refine next_map hb g1 g2 (fun e he hne => ?_) (fun ha => hE (hs.all hn ha))
 have s' : Sep F (h.put it (.miter (some m) clk (seen.push e.born) clk)) (plIter it m clk (seen.push e.born) :: plMap m es clk :: L) := s.iterPut
 exact hK e he (hs.new hne) _ s' (hs.push he hne) (entry_map hn he s'.iterGet s'.up1.mapGet) (hs.lt he hne)
end Go.Abs
namespace Go.Abs
open Go
/-! ### Lists of pairs as maps -/
section
variable {κ α : Type} [DecidableEq κ]
def lkp (k : κ) : List (κ × α) → Option α
 | [] => none
 | (a, v) :: l => if a = k then some v else lkp k l
def ins (k : κ) (v : α) : List (κ × α) → List (κ × α)
 | [] => [(k, v)]
 | (a, u) :: l => if a = k then (k, v) :: l else (a, u) :: ins k v l
def rmv (k : κ) : List (κ × α) → List (κ × α)
 | [] => []
 | (a, u) :: l => if a = k then l else (a, u) :: rmv k l
@[simp] theorem lkp_ins (k k' : κ) (v : α) : ∀ l : List (κ × α), lkp k (ins k' v l) = if k' = k then some v else lkp k l
 | [] => by simp [ins, lkp]
 | (a, u) :: l => by
  simp only [ins]
  by_cases h : a = k'
  · subst h
    simp only [if_true, lkp]
    split <;> rfl
  · simp only [if_neg h, lkp, lkp_ins k k' v l]
    by_cases h2 : a = k
    · subst h2
      have : ¬ k' = a := fun e => h e.symm
      simp [this]
    · simp [h2]
def keysL (l : List (κ × α)) : List κ := l.map (·.1)
theorem lkp_none {k : κ} : ∀ {l : List (κ × α)}, lkp k l = none ↔ k ∉ keysL l
 | [] => by simp [lkp, keysL]
 | (a, u) :: l => by
  simp only [lkp, keysL, List.map_cons, List.mem_cons, not_or]
  by_cases h : a = k
  · simp [h]
  · simp only [if_neg h, lkp_none (l := l), keysL]
    exact ⟨fun hh => ⟨fun e => h e.symm, hh⟩, fun hh => hh.2⟩
theorem lkp_mem {k : κ} {v : α} : ∀ {l : List (κ × α)}, lkp k l = some v → (k, v) ∈ l
 | [], h => by simp [lkp] at h
 | (a, u) :: l, h => by
  simp only [lkp] at h
  split at h
  · rename_i e; cases h; subst e; simp
  · exact List.mem_cons_of_mem _ (lkp_mem h)
theorem lkp_of {k : κ} {v : α} : ∀ {l : List (κ × α)}, (keysL l).Nodup → (k, v) ∈ l → lkp k l = some v
 | [], _, h => by simp at h
 | (a, u) :: l, hn, h => by
  simp only [keysL, List.map_cons, List.nodup_cons] at hn
  simp only [lkp]
  rcases List.mem_cons.1 h with h | h
  · cases h; simp
  · have : a ≠ k := fun e => hn.1 (e ▸ List.mem_map.2 ⟨(k, v), h, rfl⟩)
    rw [if_neg this]
    exact lkp_of hn.2 h
theorem keys_ins (k : κ) (v : α) : ∀ l : List (κ × α), keysL (ins k v l) = if lkp k l = none then keysL l ++ [k] else keysL l
 | [] => by simp [ins, keysL, lkp]
 | (a, u) :: l => by
  simp only [ins, lkp]
  by_cases h : a = k
  · simp [h, keysL]
  · have := keys_ins k v l
    simp only [if_neg h, keysL, List.map_cons] at *
    rw [this]
    split <;> rfl
theorem nodup_ins {k : κ} {v : α} {l : List (κ × α)} (h : (keysL l).Nodup) : (keysL (ins k v l)).Nodup := by
 rw [keys_ins]
 split
 · rename_i hg
   have := lkp_none.1 hg
   rw [List.nodup_append]
   refine ⟨h, by simp, ?_⟩
   intro a ha b hb
   simp at hb
   subst hb
   exact fun e => this (e ▸ ha)
 · exact h
theorem ins_new {k : κ} {v : α} : ∀ {l : List (κ × α)}, lkp k l = none → ins k v l = l ++ [(k, v)]
 | [], _ => rfl
 | (a, u) :: l, h => by
  simp only [lkp] at h
  split at h
  · cases h
  · rename_i hk; simp only [ins, if_neg hk, ins_new h]; rfl
theorem keys_rmv (k : κ) : ∀ l : List (κ × α), keysL (rmv k l) = (keysL l).erase k
 | [] => rfl
 | (a, u) :: l => by
  simp only [rmv, keysL, List.map_cons, List.erase_cons]
  by_cases h : a = k
  · simp [h]
  · have := keys_rmv k l
    simp only [keysL] at this
    simp [h, this]
theorem nodup_rmv {k : κ} {l : List (κ × α)} (h : (keysL l).Nodup) : (keysL (rmv k l)).Nodup := by
 rw [keys_rmv]; exact h.erase _
theorem lkp_rmv {k k' : κ} : ∀ {l : List (κ × α)}, (keysL l).Nodup → lkp k (rmv k' l) = if k' = k then none else lkp k l
 | [], _ => by simp [rmv, lkp]
 | (a, u) :: l, h => by
  simp only [keysL, List.map_cons, List.nodup_cons] at h
  simp only [rmv]
  by_cases hk : a = k'
  · subst hk
    simp only [if_true, lkp]
    by_cases h2 : a = k
    · subst h2; simp only [if_true]; exact lkp_none.2 h.1
    · simp [h2]
  · simp only [if_neg hk, lkp]
    by_cases h2 : a = k
    · subst h2
      have : ¬ k' = a := fun e => hk e.symm
      simp [this]
    · simp only [if_neg h2]
      exact lkp_rmv h.2
omit [DecidableEq κ] in
theorem keys_perm {l l' : List (κ × α)} (p : l.Perm l') : (keysL l).Perm (keysL l') := List.Perm.map Prod.fst p
theorem lkp_perm {l l' : List (κ × α)} (p : l.Perm l') (hn : (keysL l).Nodup) (k : κ) : lkp k l = lkp k l' := by
 have hn' : (keysL l').Nodup := (keys_perm p).nodup_iff.1 hn
 cases h : lkp k l with
 | some v => exact (lkp_of hn' (p.mem_iff.1 (lkp_mem h))).symm
 | none =>
  symm
  rw [lkp_none] at h ⊢
  exact fun hm => h ((keys_perm p).mem_iff.2 hm)
theorem perm_of_lkp {l l' : List (κ × α)} (hn : (keysL l).Nodup) (hn' : (keysL l').Nodup) (h : ∀ k, lkp k l = lkp k l') : l.Perm l' := by
 refine (List.perm_ext_iff_of_nodup (nodup_of_map hn) (nodup_of_map hn')).2 fun ⟨k, v⟩ => ⟨fun hm => ?_, fun hm => ?_⟩
 · exact lkp_mem ((h k).symm.trans (lkp_of hn hm))
 · exact lkp_mem ((h k).trans (lkp_of hn' hm))
theorem ins_perm {l l' : List (κ × α)} (p : l.Perm l') (hn : (keysL l).Nodup) (k : κ) (v : α) : (ins k v l).Perm (ins k v l') :=
 perm_of_lkp (nodup_ins hn) (nodup_ins ((keys_perm p).nodup_iff.1 hn)) fun x => by rw [lkp_ins, lkp_ins, lkp_perm p hn]
theorem rmv_perm {l l' : List (κ × α)} (p : l.Perm l') (hn : (keysL l).Nodup) (k : κ) : (rmv k l).Perm (rmv k l') := by
 have hn' := (keys_perm p).nodup_iff.1 hn
 exact perm_of_lkp (nodup_rmv hn) (nodup_rmv hn') fun x => by rw [lkp_rmv hn, lkp_rmv hn', lkp_perm p hn]
end
/-! ### Operations that may be; what they lock -/
def smallT (s : ByteArray) : Bool := s.data.toList.all fun c => decide (97 ≤ c.toNat) && decide (c.toNat ≤ 122)
def namesO (fn : Int) : Bool × Bool × Bool :=
 if fn = 1 ∨ fn = 8 ∨ fn = 11 then (true, false, true)
 else if fn = 3 ∨ fn = 5 then (true, false, false)
 else if fn = 4 then (true, true, false)
 else if fn = 6 ∨ fn = 10 then (false, true, false)
 else if fn = 7 then (false, false, true)
 else if fn = 12 then (true, true, true)
 else (false, false, false)
def digitK (s : ByteArray) : Bool := match s.data.toList with | [c] => decide (49 ≤ c.toNat) && decide (c.toNat ≤ 57) | _ => false
def makesO (o : Oq) : Bool := decide (1 ≤ o.n) && decide (o.n ≤ 3) && (digitK o.key || (decide (o.key.size = 0) && decide (o.n ≠ 2)))
def mayO (o : Oq) : Bool :=
 decide (1 ≤ o.fn) && decide (o.fn ≤ 12) && decide (1 ≤ o.space.size) && decide (o.space.size ≤ 20) && smallT o.space &&
 decide (o.key.size ≤ 20) && decide (o.val.size ≤ 100) && decide (0 ≤ o.n) && decide (o.n ≤ 1099511627776) &&
 ((namesO o.fn).1 || decide (o.key.size = 0)) && ((namesO o.fn).2.1 || decide (o.val.size = 0)) && ((namesO o.fn).2.2 || decide (o.n = 0)) &&
 (decide (o.fn ≠ 1) || makesO o)
def allO (l : List Oq) : Bool := decide (1 ≤ l.length) && decide (l.length ≤ 8) && l.all mayO
def lockOf (o : Oq) : KeyM := if 3 ≤ o.fn ∧ o.fn ≤ 5 then ⟨o.space, o.key, false⟩ else ⟨o.space, ⟨#[]⟩, true⟩
def meetK (a b : KeyM) : Bool := decide (a.space = b.space) && (a.all || b.all || decide (a.key = b.key))
/-! ### A vault -/
structure PartM where
 ops : List Oq
 vals : List ByteArray
 now : Int
 view : List (ByteArray × Option SpM)
structure VltM where
 sp : List (ByteArray × SpM)
 lk : List (KeyM × IdM)
 pt : List (IdM × PartM)
 ov : List IdM
def SpM.new (kind most : Int) : SpM := ⟨⟨#[]⟩, kind, [], max 1 (min most 9), [], [], 1⟩
end Go.Abs
set_option linter.unusedSectionVars false
namespace Go.Abs
open Go
structure Et (κ α : Type) where
 k : κ
 v : V
 b : Nat
 x : α
section
variable {κ α : Type} [DecidableEq κ]
def Et.g (e : Et κ α) : Eg κ := ⟨e.k, e.v, e.b⟩
def Et.m (D : KD κ) (e : Et κ α) : MapEntry := D.me e.g
def Et.p (A : κ → V → α → Pl) (e : Et κ α) : Pl := A e.k e.v e.x
def absE (t : List (Et κ α)) : List (κ × α) := t.map fun e => (e.k, e.x)
structure OkE (t : List (Et κ α)) (clk : Nat) (l : List (κ × α)) : Prop where
 perm : (absE t).Perm l
 nd : (keysL l).Nodup
 bn : (t.map (·.b)).Nodup
 lt : ∀ e ∈ t, e.b < clk
theorem absE_keys (t : List (Et κ α)) : keysL (absE t) = t.map (·.k) := by simp [absE, keysL]
theorem keysG_g (t : List (Et κ α)) : keysG (t.map Et.g) = t.map (·.k) := by simp [keysG, Et.g]
variable {t : List (Et κ α)} {clk : Nat} {l : List (κ × α)}
theorem OkE.ndt (p : OkE t clk l) : (keysL (absE t)).Nodup := (keys_perm p.perm).nodup_iff.2 p.nd
theorem OkE.lkp (p : OkE t clk l) (k : κ) : lkp k (absE t) = Go.Abs.lkp k l := lkp_perm p.perm p.ndt k
theorem split_abs {k : κ} {x : α} : ∀ {t : List (Et κ α)}, lkp k (absE t) = some x → ∃ t1 e t2, t = t1 ++ e :: t2 ∧ e.k = k ∧ e.x = x ∧ getG k (t.map Et.g) = some e.v ∧ ∀ e' ∈ t1, e'.k ≠ k
 | [], h => by simp [absE, lkp] at h
 | e :: t, h => by
  simp only [absE, List.map_cons, lkp] at h
  by_cases hk : e.k = k
  · rw [if_pos hk] at h
    cases h
    exact ⟨[], e, t, rfl, hk, rfl, by simp [getG, Et.g, hk], by simp⟩
  · rw [if_neg hk] at h
    obtain ⟨t1, e1, t2, rfl, h1, h2, h3, h4⟩ := split_abs (t := t) h
    refine ⟨e :: t1, e1, t2, rfl, h1, h2, ?_, ?_⟩
    · rw [List.map_cons, getG, if_neg (by exact hk), h3]
    · intro e' he'
      rcases List.mem_cons.1 he' with rfl | he'
      · exact hk
      · exact h4 e' he'
theorem get_of_none {k : κ} (h : lkp k (absE t) = none) : getG k (t.map Et.g) = none := by
 rw [lkp_none, absE_keys] at h
 rw [← getG_none, keysG_g]
 exact h
theorem putG_split {k : κ} {v : V} {c : Nat} {e : Eg κ} : ∀ {t1 t2 : List (Eg κ)}, (∀ e' ∈ t1, e'.k ≠ k) → e.k = k → putG k v c (t1 ++ e :: t2) = t1 ++ ⟨k, v, e.b⟩ :: t2
 | [], t2, _, he => by simp [putG, he]
 | a :: t1, t2, h, he => by
  rw [List.cons_append, putG, if_neg (h a (by simp)), putG_split (fun e' he' => h e' (by simp [he'])) he]
  rfl
theorem delG_split {k : κ} {e : Eg κ} : ∀ {t1 t2 : List (Eg κ)}, (∀ e' ∈ t1, e'.k ≠ k) → e.k = k → delG k (t1 ++ e :: t2) = t1 ++ t2
 | [], t2, _, he => by simp [delG, he]
 | a :: t1, t2, h, he => by
  rw [List.cons_append, delG, if_neg (h a (by simp)), delG_split (fun e' he' => h e' (by simp [he'])) he]
  rfl
variable (D : KD κ) (A : κ → V → α → Pl)
def plGM (m : Nat) (l : List (κ × α)) : Pl :=
 plEx fun (y : List (Et κ α) × Nat) => plAll (plPure (OkE y.1 y.2 l) :: plMap m (y.1.map (Et.m D)) y.2 :: y.1.map (Et.p A))
variable {D A} {F : Fr} {h : AHeap} {L : List Pl} {m : Nat} {z : V}
theorem Sep.openM (s : Sep F h (plGM D A m l :: L)) : ∃ t clk, OkE t clk l ∧ Sep F h (plMap m (t.map (Et.m D)) clk :: (t.map (Et.p A) ++ L)) := by
 obtain ⟨⟨t, clk⟩, s⟩ := s.ex
 have s1 := s.all
 obtain ⟨p, s2⟩ := Sep.pure (L := plMap m (t.map (Et.m D)) clk :: (t.map (Et.p A) ++ L)) s1
 exact ⟨t, clk, p, s2⟩
theorem Sep.closeM (p : OkE t clk l) (s : Sep F h (plMap m (t.map (Et.m D)) clk :: (t.map (Et.p A) ++ L))) : Sep F h (plGM D A m l :: L) :=
 Sep.mkEx (A := fun (y : List (Et κ α) × Nat) => plAll (plPure (OkE y.1 y.2 l) :: plMap m (y.1.map (Et.m D)) y.2 :: y.1.map (Et.p A))) (t, clk)
  (Sep.mkAll (L' := plPure (OkE t clk l) :: plMap m (t.map (Et.m D)) clk :: t.map (Et.p A)) (Sep.mkPure p s))
def holeP (k : κ) (v : V) (A : κ → V → α → Pl) : κ → V → α → Pl := fun k' v' x' => if k' = k then plPure (v' = v) else A k' v' x'
theorem hole_map {k : κ} {v : V} {tt : List (Et κ α)} (ht : ∀ e' ∈ tt, e'.k ≠ k) : tt.map (Et.p (holeP k v A)) = tt.map (Et.p A) :=
 List.map_congr_left fun e' he' => by simp only [Et.p, holeP, if_neg (ht e' he')]
theorem hole_at {k : κ} {v : V} {e : Et κ α} (he : e.k = k) : Et.p (holeP k v A) e = plPure (e.v = v) := by simp only [Et.p, holeP, if_pos he]
theorem Sep.newM (s : Sep F h L) : Sep F (h.new (.map [] 0)) (plGM D A h.next [] :: L) :=
 Sep.closeM (t := []) (clk := 0) ⟨List.Perm.refl _, by simp [keysL], by simp, by simp⟩ (s.newMap [] 0)
theorem map_meg (t : List (Et κ α)) : (t.map (Et.m D)) = (t.map Et.g).map D.me := by simp [Et.m]
theorem map_born (t : List (Et κ α)) : (t.map (Et.m D)).map (·.born) = t.map (·.b) := by
 rw [List.map_map]
 rfl
theorem Sep.lookNone (s : Sep F h (plGM D A m l :: L)) {k : κ} (hk : Go.Abs.lkp k l = none) (ok : Bool) :
 lookupD (some (D.kk, some z)) (.map (some m)) (D.enc k) ok h = some (if ok then .tuple #[z, .bool false] else z) := by
 obtain ⟨t, clk, p, s⟩ := s.openM
 have g := s.mapGet
 rw [map_meg] at g
 rw [lookup_G D g k ok, get_of_none ((p.lkp k).trans hk)]
 rfl
theorem Sep.lookSome (s : Sep F h (plGM D A m l :: L)) {k : κ} {x : α} (hk : Go.Abs.lkp k l = some x) (ok : Bool) :
 ∃ v, lookupD (some (D.kk, some z)) (.map (some m)) (D.enc k) ok h = some (if ok then .tuple #[v, .bool true] else v) ∧
  Sep F h (A k v x :: plGM D (holeP k v A) m l :: L) := by
 obtain ⟨t, clk, p, s⟩ := s.openM
 have g := s.mapGet
 rw [map_meg] at g
 obtain ⟨t1, e, t2, rfl, h1, h2, h3, h4⟩ := split_abs ((p.lkp k).trans hk)
 refine ⟨e.v, by rw [lookup_G D g k ok, h3]; rfl, ?_⟩
 have h5 : ∀ e' ∈ t2, e'.k ≠ k := by
  have := p.ndt
  rw [absE_keys, List.map_append, List.map_cons, List.nodup_append] at this
  have h6 := (List.nodup_cons.1 this.2.1).1
  intro e' he' hc
  exact h6 (List.mem_map.2 ⟨e', he', hc.trans h1.symm⟩)
 have s1 : Sep F h (A k e.v x :: plMap m ((t1 ++ e :: t2).map (Et.m D)) clk :: ((t1 ++ t2).map (Et.p A) ++ L)) := by
  refine s.perm ?_
  have ep : A k e.v x = Et.p A e := by rw [Et.p, h1, h2]
  rw [ep, List.map_append (f := Et.p A) (l₁ := t1), List.map_append (f := Et.p A) (l₁ := t1), List.map_cons]
  refine (List.Perm.cons _ ?_).trans (List.Perm.swap _ _ _)
  simp only [List.append_assoc, List.cons_append]
  exact List.perm_middle
 have s2 : Sep F h (plGM D (holeP k e.v A) m l :: (A k e.v x :: L)) := by
  refine Sep.closeM p ?_
  rw [List.map_append (f := Et.p (holeP k e.v A)), List.map_cons (f := Et.p (holeP k e.v A)), hole_map h4, hole_map h5, hole_at h1]
  have s3 := Sep.mkPure (φ := e.v = e.v) rfl s1
  refine s3.perm ?_
  rw [List.map_append (f := Et.p A)]
  simp only [List.append_assoc, List.cons_append]
  refine (((List.Perm.swap _ _ _).cons _).trans (List.Perm.swap _ _ _)).trans (List.Perm.cons _ ?_)
  refine List.Perm.trans ?_ List.perm_middle.symm
  refine List.Perm.cons _ ?_
  refine List.Perm.trans ?_ (List.Perm.append_left _ List.perm_middle.symm)
  exact List.perm_middle.symm
 exact s2.up1
theorem OkE.put (p : OkE t clk l) {t1 t2 : List (Et κ α)} {e : Et κ α} (ht : t = t1 ++ e :: t2) {k : κ} (he : e.k = k) (h1 : ∀ e' ∈ t1, e'.k ≠ k) (v : V) (x : α) : OkE (t1 ++ ⟨k, v, e.b, x⟩ :: t2) clk (ins k x l) := by
 subst ht
 refine ⟨?_, nodup_ins p.nd, ?_, fun e' he' => ?_⟩
 · refine List.Perm.trans ?_ (ins_perm p.perm p.ndt k x)
   have : ∀ tt : List (Et κ α), (∀ e' ∈ tt, e'.k ≠ k) → ins k x (absE (tt ++ e :: t2)) = absE (tt ++ ⟨k, v, e.b, x⟩ :: t2) := by
    intro tt htt
    induction tt with
    | nil => simp [absE, ins, he]
    | cons a tt ih =>
     have := ih fun e' he' => htt e' (by simp [he'])
     simp only [absE, List.cons_append, List.map_cons, ins] at this ⊢
     rw [if_neg (htt a (by simp)), this]
   rw [this t1 h1]
 · have := p.bn
   simpa using this
 · rcases List.mem_append.1 he' with h | h
   · exact p.lt e' (by simp [h])
   · rcases List.mem_cons.1 h with rfl | h
     · exact p.lt e (by simp)
     · exact p.lt e' (by simp [h])
theorem OkE.new (p : OkE t clk l) {k : κ} (hk : Go.Abs.lkp k l = none) (v : V) (x : α) : OkE (t ++ [⟨k, v, clk, x⟩]) (clk + 1) (ins k x l) := by
 have hk' := (p.lkp k).trans hk
 refine ⟨?_, nodup_ins p.nd, ?_, fun e' he' => ?_⟩
 · refine List.Perm.trans ?_ (ins_perm p.perm p.ndt k x)
   rw [ins_new hk']
   simp [absE]
 · rw [List.map_append, List.nodup_append]
   refine ⟨p.bn, by simp, fun a ha b hb => ?_⟩
   simp only [List.map_cons, List.map_nil, List.mem_singleton] at hb
   obtain ⟨e, he, rfl⟩ := List.mem_map.1 ha
   have := p.lt e he
   omega
 · rcases List.mem_append.1 he' with h | h
   · have := p.lt e' h; omega
   · simp only [List.mem_singleton] at h
     subst h
     simp
theorem OkE.del (p : OkE t clk l) {t1 t2 : List (Et κ α)} {e : Et κ α} (ht : t = t1 ++ e :: t2) {k : κ} (he : e.k = k) (h1 : ∀ e' ∈ t1, e'.k ≠ k) : OkE (t1 ++ t2) clk (rmv k l) := by
 subst ht
 refine ⟨?_, nodup_rmv p.nd, ?_, fun e' he' => ?_⟩
 · refine List.Perm.trans ?_ (rmv_perm p.perm p.ndt k)
   have : ∀ tt : List (Et κ α), (∀ e' ∈ tt, e'.k ≠ k) → rmv k (absE (tt ++ e :: t2)) = absE (tt ++ t2) := by
    intro tt htt
    induction tt with
    | nil => simp [absE, rmv, he]
    | cons a tt ih =>
     have := ih fun e' he' => htt e' (by simp [he'])
     simp only [absE, List.cons_append, List.map_cons, rmv] at this ⊢
     rw [if_neg (htt a (by simp)), this]
   rw [this t1 h1]
 · have := p.bn
   rw [List.map_append, List.map_cons] at this
   rw [List.map_append]
   exact this.sublist (List.Sublist.append_left (List.sublist_cons_self _ _) _)
 · rcases List.mem_append.1 he' with h | h
   · exact p.lt e' (by simp [h])
   · exact p.lt e' (by simp [h])
theorem Sep.dropL {L1 L2 : List Pl} (s : Sep F h (L1 ++ L2)) : Sep F h L2 := by
 induction L1 with
 | nil => exact s
 | cons a l ih => exact ih (Sep.drop s)
theorem Sep.insM {k : κ} {v : V} {x : α} (s : Sep F h (plGM D A m l :: A k v x :: L)) :
 ∃ h', mapUpdateD (some (D.kk, some z)) (.map (some m)) (D.enc k) v h = some h' ∧ Sep F h' (plGM D A m (ins k x l) :: L) := by
 obtain ⟨t, clk, p, s⟩ := s.openM
 have g := s.mapGet
 rw [map_meg] at g
 rw [update_G D g k v]
 refine ⟨_, rfl, ?_⟩
 cases hk : Go.Abs.lkp k l with
 | none =>
  have hg : getG k (t.map Et.g) = none := get_of_none ((p.lkp k).trans hk)
  rw [if_pos hg, putG_new k v clk _ hg]
  refine Sep.closeM (p.new hk v x) ?_
  have s1 := s.mapPut (es' := (t ++ [(⟨k, v, clk, x⟩ : Et κ α)]).map (Et.m D)) (clk' := clk + 1)
  have e1 : (List.map D.me (List.map Et.g t ++ [⟨k, v, clk⟩])) = (t ++ [(⟨k, v, clk, x⟩ : Et κ α)]).map (Et.m D) := by simp [Et.m, Et.g]
  rw [e1]
  refine s1.perm ?_
  simp only [List.map_append, List.map_cons, List.map_nil, List.append_assoc, List.cons_append, List.nil_append]
  exact List.Perm.refl _
 | some x0 =>
  obtain ⟨t1, e, t2, rfl, h1, h2, h3, h4⟩ := split_abs ((p.lkp k).trans hk)
  have hg : ¬ getG k ((t1 ++ e :: t2).map Et.g) = none := by rw [h3]; simp
  have e2 : putG k v clk ((t1 ++ e :: t2).map Et.g) = (t1 ++ ⟨k, v, e.b, x⟩ :: t2).map Et.g := by
   rw [List.map_append, List.map_cons, putG_split (fun e' he' => ?_) (by exact h1)]
   · simp [Et.g]
   · obtain ⟨a, ha, rfl⟩ := List.mem_map.1 he'
     exact h4 a ha
  rw [if_neg hg, e2]
  refine Sep.closeM (p.put rfl h1 h4 v x) ?_
  have s1 := s.mapPut (es' := (t1 ++ (⟨k, v, e.b, x⟩ : Et κ α) :: t2).map (Et.m D)) (clk' := clk)
  rw [← map_meg]
  have s2 : Sep F (h.put m (.map ((t1 ++ ⟨k, v, e.b, x⟩ :: t2).map (Et.m D)) clk)) (A e.k e.v e.x :: plMap m ((t1 ++ ⟨k, v, e.b, x⟩ :: t2).map (Et.m D)) clk :: ((t1 ++ ⟨k, v, e.b, x⟩ :: t2).map (Et.p A) ++ L)) := by
   refine s1.perm ?_
   simp only [List.map_append, List.map_cons, List.append_assoc, List.cons_append]
   refine (List.Perm.cons _ ?_).trans (List.Perm.swap _ _ _)
   refine List.perm_middle.trans (List.Perm.cons _ ?_)
   exact List.Perm.append_left _ List.perm_middle
  exact s2.drop
theorem Sep.delM {k : κ} (s : Sep F h (plGM D A m l :: L)) :
 ∃ h', deleteD (some (D.kk, some z)) (.map (some m)) (D.enc k) h = some h' ∧ Sep F h' (plGM D A m (rmv k l) :: L) := by
 obtain ⟨t, clk, p, s⟩ := s.openM
 have g := s.mapGet
 rw [map_meg] at g
 rw [delete_G D g k]
 refine ⟨_, rfl, ?_⟩
 cases hk : Go.Abs.lkp k l with
 | none =>
  have hg : getG k (t.map Et.g) = none := get_of_none ((p.lkp k).trans hk)
  rw [delG_none k _ hg, ← map_meg]
  have e1 : rmv k l = l := by
   have : ∀ l : List (κ × α), Go.Abs.lkp k l = none → rmv k l = l := by
    intro l
    induction l with
    | nil => intro _; rfl
    | cons a l ih =>
     intro h
     simp only [Go.Abs.lkp] at h
     split at h
     · cases h
     · rename_i hne
       simp only [rmv, if_neg hne, ih h]
   exact this l hk
  rw [e1]
  exact Sep.closeM p s.mapPut
 | some x0 =>
  obtain ⟨t1, e, t2, rfl, h1, h2, h3, h4⟩ := split_abs ((p.lkp k).trans hk)
  have e2 : delG k ((t1 ++ e :: t2).map Et.g) = (t1 ++ t2).map Et.g := by
   rw [List.map_append, List.map_cons, delG_split (fun e' he' => ?_) (by exact h1)]
   · simp
   · obtain ⟨a, ha, rfl⟩ := List.mem_map.1 he'
     exact h4 a ha
  rw [e2, ← map_meg]
  refine Sep.closeM (p.del rfl h1 h4) ?_
  have s1 := s.mapPut (es' := (t1 ++ t2).map (Et.m D)) (clk' := clk)
  have s2 : Sep F (h.put m (.map ((t1 ++ t2).map (Et.m D)) clk)) (A e.k e.v e.x :: plMap m ((t1 ++ t2).map (Et.m D)) clk :: ((t1 ++ t2).map (Et.p A) ++ L)) := by
   refine s1.perm ?_
   simp only [List.map_append, List.map_cons, List.append_assoc, List.cons_append]
   exact (List.Perm.cons _ List.perm_middle).trans (List.Perm.swap _ _ _)
  exact s2.drop
theorem Sep.backM {k : κ} {v : V} {x x' : α} (s : Sep F h (A k v x' :: plGM D (holeP k v A) m l :: L)) (hk : Go.Abs.lkp k l = some x) :
 Sep F h (plGM D A m (ins k x' l) :: L) := by
 obtain ⟨t, clk, p, s⟩ := s.up1.openM
 obtain ⟨t1, e, t2, rfl, h1, h2, h3, h4⟩ := split_abs ((p.lkp k).trans hk)
 have h5 : ∀ e' ∈ t2, e'.k ≠ k := by
  have := p.ndt
  rw [absE_keys, List.map_append, List.map_cons, List.nodup_append] at this
  have h6 := (List.nodup_cons.1 this.2.1).1
  intro e' he' hc
  exact h6 (List.mem_map.2 ⟨e', he', hc.trans h1.symm⟩)
 rw [List.map_append (f := Et.p (holeP k v A)), List.map_cons (f := Et.p (holeP k v A)), hole_map h4, hole_map h5, hole_at h1] at s
 have s1 : Sep F h (plPure (e.v = v) :: plMap m ((t1 ++ e :: t2).map (Et.m D)) clk :: (t1.map (Et.p A) ++ (t2.map (Et.p A) ++ (A k v x' :: L)))) := by
  refine s.perm ?_
  simp only [List.append_assoc, List.cons_append]
  exact (List.Perm.cons _ List.perm_middle).trans (List.Perm.swap _ _ _)
 obtain ⟨hv, s2⟩ := s1.pure
 have hp := p.put rfl h1 h4 v x'
 refine Sep.closeM hp ?_
 have e3 : ((t1 ++ e :: t2).map (Et.m D)) = (t1 ++ (⟨k, v, e.b, x'⟩ : Et κ α) :: t2).map (Et.m D) := by simp [Et.m, Et.g, hv, h1]
 rw [e3] at s2
 refine s2.perm (List.Perm.cons _ ?_)
 simp only [List.map_append, List.map_cons, List.append_assoc, List.cons_append]
 refine List.Perm.append_left _ ?_
 exact List.perm_middle
/-! ### A look at all of it -/
structure SeenT (t td : List (Et κ α)) (seen : Array Nat) : Prop where
 sub : ∀ e ∈ td, e ∈ t
 nd : (td.map (·.b)).Nodup
 eq : seen = (td.map (·.b)).toArray
theorem SeenT.nil (t : List (Et κ α)) : SeenT t [] #[] := ⟨by simp, by simp, rfl⟩
theorem Sep.nextT {it clk : Nat} {td : List (Et κ α)} {seen : Array Nat} (s : Sep F h (plIter it m clk seen :: plMap m (t.map (Et.m D)) clk :: L)) (hb : ∀ e ∈ t, e.b < clk) (hn : (t.map (·.b)).Nodup) (hs : SeenT t td seen)
 {K : V → AHeap → Prop}
 (hK : ∀ e ∈ t, e ∉ td → ∀ h', Sep F h' (plIter it m clk (seen.push e.b) :: plMap m (t.map (Et.m D)) clk :: L) → SeenT t (td ++ [e]) (seen.push e.b) → aEntry (ptr it 0) h' = some (.tuple #[D.enc e.k, e.v]) → td.length < t.length →
  K (.tuple #[.bool true, D.enc e.k, e.v]) h')
 (hE : t.Perm td → K (.tuple #[.bool false]) h) : aNext (ptr it 0) false h K := by
 have es : Seen (t.map (Et.m D)) (td.map (Et.m D)) seen := ⟨fun x hx => by
  obtain ⟨e, he, rfl⟩ := List.mem_map.1 hx
  exact List.mem_map.2 ⟨e, hs.sub e he, rfl⟩, by rw [map_born]; exact hs.nd, by rw [hs.eq, map_born]⟩
 refine s.next (fun x hx => ?_) (by rw [map_born]; exact hn) es (fun x hx hnx h' s' hs' he' hl' => ?_) (fun hp => hE ?_)
 · obtain ⟨e, he, rfl⟩ := List.mem_map.1 hx
   exact hb e he
 · obtain ⟨e, he, rfl⟩ := List.mem_map.1 hx
   refine hK e he (fun hm => hnx (List.mem_map.2 ⟨e, hm, rfl⟩)) h' s' ⟨fun a ha => ?_, ?_, ?_⟩ he' (by simpa using hl')
   · rcases List.mem_append.1 ha with ha | ha
     · exact hs.sub a ha
     · simp only [List.mem_singleton] at ha
       rw [ha]; exact he
   · have := hs'.nd
     rw [List.map_append, map_born] at this
     rw [List.map_append]
     exact this
   · have := hs'.eq
     rw [List.map_append, map_born] at this
     rw [List.map_append]
     exact this
 · have nt : t.Nodup := nodup_of_map hn
   have ntd : td.Nodup := nodup_of_map hs.nd
   have hlen := hp.length_eq
   simp only [List.length_map] at hlen
   refine (List.perm_ext_iff_of_nodup nt ntd).2 fun e => ⟨fun he => ?_, hs.sub e⟩
   have h1 : e.b ∈ (td.map (Et.m D)).map (·.born) := by
    have : e.b ∈ (t.map (Et.m D)).map (·.born) := by
     rw [map_born]
     exact List.mem_map.2 ⟨e, he, rfl⟩
    exact (hp.map (·.born)).mem_iff.1 this
   rw [map_born] at h1
   obtain ⟨e', he', hbe⟩ := List.mem_map.1 h1
   have hbe : e'.b = e.b := hbe
   have : ∀ (l : List (Et κ α)), (l.map (·.b)).Nodup → ∀ a ∈ l, ∀ b ∈ l, a.b = b.b → a = b := by
    intro l
    induction l with
    | nil => simp
    | cons c l ih =>
     intro hnd a ha b hb hab
     simp only [List.map_cons, List.nodup_cons] at hnd
     rcases List.mem_cons.1 ha with rfl | ha' <;> rcases List.mem_cons.1 hb with rfl | hb'
     · rfl
     · exact absurd (List.mem_map.2 ⟨b, hb', hab.symm⟩) hnd.1
     · exact absurd (List.mem_map.2 ⟨a, ha', hab⟩) hnd.1
     · exact ih hnd.2 a ha' b hb' hab
   rw [← this t hn e' (hs.sub e' he') e he hbe]
   exact he'
end
end Go.Abs
namespace Go.Abs
open Go
structure EL (α : Type) where
 es : Nat
 enc : α → List V
 len : ∀ x, (enc x).length = es
 one : ∀ x, (enc x).all oneCell = true
 pos : 0 < es
section
variable {α : Type} (D : EL α)
def EL.flat (l : List α) : List V := l.flatMap D.enc
@[simp] theorem EL.flat_nil : D.flat [] = [] := rfl
@[simp] theorem EL.flat_cons (x : α) (l : List α) : D.flat (x :: l) = D.enc x ++ D.flat l := rfl
theorem EL.flat_app (a b : List α) : D.flat (a ++ b) = D.flat a ++ D.flat b := by simp [EL.flat]
theorem EL.flat_len (l : List α) : (D.flat l).length = l.length * D.es := by
 induction l with
 | nil => simp
 | cons x l ih => rw [EL.flat_cons, List.length_append, ih, D.len, List.length_cons, Nat.add_mul, Nat.one_mul, Nat.add_comm]
theorem EL.flat_one (l : List α) : (D.flat l).all oneCell = true := by
 induction l with
 | nil => rfl
 | cons x l ih => rw [EL.flat_cons, List.all_append, D.one, ih]; rfl
theorem EL.flat_drop (l : List α) : ∀ k, (D.flat l).drop (k * D.es) = D.flat (l.drop k) := by
 induction l with
 | nil => intro k; simp
 | cons x l ih =>
  intro k
  cases k with
  | zero => simp
  | succ k =>
   rw [List.drop_succ_cons, EL.flat_cons, Nat.add_mul, Nat.one_mul, Nat.add_comm, ← ih k, List.drop_append, D.len, List.drop_eq_nil_of_le (by rw [D.len]; omega)]
   simp
theorem EL.flat_take (l : List α) : ∀ k, (D.flat l).take (k * D.es) = D.flat (l.take k) := by
 induction l with
 | nil => intro k; simp
 | cons x l ih =>
  intro k
  cases k with
  | zero => simp
  | succ k =>
   rw [List.take_succ_cons, EL.flat_cons, EL.flat_cons, Nat.add_mul, Nat.one_mul, Nat.add_comm, ← ih k, List.take_append, D.len, List.take_of_length_le (by rw [D.len]; omega)]
   simp
theorem EL.row {l : List α} {i : Nat} {x : α} (hi : l[i]? = some x) : ((D.flat l).drop (i * D.es)).take D.es = D.enc x := by
 obtain ⟨h1, h2⟩ := List.getElem?_eq_some_iff.1 hi
 rw [D.flat_drop, List.drop_eq_getElem_cons h1, h2, EL.flat_cons, List.take_append, D.len, List.take_of_length_le (by rw [D.len]; omega)]
 simp
theorem EL.flat_set (l : List α) : ∀ {i : Nat} (y : α), i < l.length → setList (D.flat l) (i * D.es) (D.enc y) = D.flat (l.set i y) := by
 intro i y hi
 have h1 := D.flat_len l
 have h2 : i * D.es + D.es ≤ l.length * D.es := by
  have := Nat.mul_le_mul_right D.es (show i + 1 ≤ l.length by omega)
  rwa [Nat.add_mul, Nat.one_mul] at this
 rw [setList_eq _ _ _ (by rw [D.len, h1]; exact h2), D.len, List.set_eq_take_append_cons_drop, if_pos hi, D.flat_app, EL.flat_cons, D.flat_take, ← D.flat_drop l (i + 1), Nat.add_mul, Nat.one_mul, List.append_assoc]
def SlE (h : AHeap) (fp : List Nat) (v : V) (l : List α) : Prop := Sl h fp v D.es l.length (D.flat l)
variable {D} {h : AHeap} {fp : List Nat} {v : V} {l : List α}
theorem SlE.lt (s : SlE D h fp v l) : ∀ x ∈ fp, x < h.next := Sl.lt s
theorem SlE.same {h' : AHeap} (s : SlE D h fp v l) (hl : h.next ≤ h'.next) (hs : ∀ x ∈ fp, h'.get x = h.get x) : SlE D h' fp v l := Sl.same s hl hs
theorem SlE.keep {h' : AHeap} {fp' : List Nat} (s : SlE D h fp v l) (m : Mod h [] h' fp') : SlE D h' fp v l := s.same m.next fun x hx => m.same x (s.lt x hx) (by simp)
theorem SlE.len (s : SlE D h fp v l) : lenD .slice v h = some (i64 l.length) := Sl.len s
theorem SlE.nil : SlE D h [] (.slice none 0 0) [] := by simpa [SlE] using (Sl.nil (h := h) (es := D.es))
theorem SlE.at (s : SlE D h fp v l) {i : Nat} {x : α} (hi : l[i]? = some x) :
 ∃ b, fp = [b] ∧ indexAddrD (.slice D.es) v (i64 i) = some (ptr b (i * D.es)) ∧ h.rdN b (i * D.es) D.es = some (D.enc x) ∧ ∀ k, k < D.es → h.rd b (i * D.es + k) = (D.enc x)[k]? := by
 have hil : i < l.length := (List.getElem?_eq_some_iff.1 hi).1
 obtain ⟨h0, ⟨rfl, h1, rfl⟩ | ⟨b, c, all, rfl, rfl, hb, hc, h2, h3, h4⟩⟩ := s
 · omega
 have hall : l.length * D.es ≤ all.length := Nat.le_trans (Nat.mul_le_mul_right _ hc) h3
 have h5 : i * D.es + D.es ≤ l.length * D.es := by
  have := Nat.mul_le_mul_right D.es (show i + 1 ≤ l.length by omega)
  rwa [Nat.add_mul, Nat.one_mul] at this
 have hrow : (all.drop (i * D.es)).take D.es = D.enc x := by
  rw [← D.row hi, ← h4, List.drop_take, List.take_take, Nat.min_eq_left (by omega)]
 have b1 : (0 : Int) ≤ (i : Int) ∧ (i : Int) < (l.length : Nat) := by omega
 refine ⟨b, rfl, ?_, ?_, fun k hk => ?_⟩
 · simp only [indexAddrD, if_pos b1, Int.toNat_natCast, Nat.zero_add]
 · rw [rdN_of h2, if_pos (by omega), hrow]
 · rw [rd_of h2, ← hrow, List.getElem?_take, if_pos hk, List.getElem?_drop]
theorem SlE.set (s : SlE D h fp v l) {i : Nat} (hi : i < l.length) (y : α) :
 ∃ b h', fp = [b] ∧ indexAddrD (.slice D.es) v (i64 i) = some (ptr b (i * D.es)) ∧ h.wr b (i * D.es) (D.enc y) = some h' ∧ SlE D h' fp v (l.set i y) ∧ Mod h fp h' fp := by
 have lt := s.lt
 obtain ⟨h0, ⟨rfl, h1, rfl⟩ | ⟨b, c, all, rfl, rfl, hb, hc, h2, h3, h4⟩⟩ := s
 · omega
 have hall : l.length * D.es ≤ all.length := Nat.le_trans (Nat.mul_le_mul_right _ hc) h3
 have h5 : i * D.es + D.es ≤ l.length * D.es := by
  have := Nat.mul_le_mul_right D.es (show i + 1 ≤ l.length by omega)
  rwa [Nat.add_mul, Nat.one_mul] at this
 have b1 : (0 : Int) ≤ (i : Int) ∧ (i : Int) < (l.length : Nat) := by omega
 have hw : h.wr b (i * D.es) (D.enc y) = some (h.put b (.cells (setList all (i * D.es) (D.enc y)) D.es .rw)) := by
  simp only [AHeap.wr, h2, D.len]
  rw [if_pos ⟨by simp, by omega⟩]
 have e1 : setList all (i * D.es) (D.enc y) = all.take (i * D.es) ++ D.enc y ++ all.drop (i * D.es + D.es) := by rw [setList_eq _ _ _ (by rw [D.len]; omega), D.len]
 have e2 : setList (D.flat l) (i * D.es) (D.enc y) = (D.flat l).take (i * D.es) ++ D.enc y ++ (D.flat l).drop (i * D.es + D.es) := by rw [setList_eq _ _ _ (by rw [D.len, D.flat_len]; omega), D.len]
 have e3 : (setList all (i * D.es) (D.enc y)).take (l.length * D.es) = D.flat (l.set i y) := by
  rw [← D.flat_set l y hi, e1, e2, ← h4]
  obtain ⟨m, hm⟩ : ∃ m, l.length * D.es = i * D.es + D.es + m := ⟨l.length * D.es - (i * D.es + D.es), by omega⟩
  rw [hm, List.take_append, List.take_of_length_le (by simp [D.len]; omega), List.take_take, Nat.min_eq_left (by omega), List.drop_take]
  congr 2
  simp only [List.length_append, List.length_take, D.len]
  omega
 refine ⟨b, _, rfl, ?_, hw, ⟨by rw [D.flat_len], .inr ⟨b, c, setList all (i * D.es) (D.enc y), by simp, rfl, hb, by simpa using hc, by simp, by rw [setList_length]; exact h3, by simpa using e3⟩⟩, by simp, fun x _ hx => ?_, fun x hx => .inl hx, lt⟩
 · simp only [indexAddrD, if_pos b1, Int.toNat_natCast, Nat.zero_add]
 · simp at hx; simp [hx]
end
end Go.Abs
namespace Go.Abs
open Go
def G.ins (es : Nat) (E : FE) : Spec := fun args h K => match args with
| [a0, a1, a2, a3] =>
kv (binD .bad .add true a1 (.int .i64 1) h) fun v0 =>
∃ (Inv1 : Nat → List V → AHeap → Prop) (n1 : Nat), Inv1 n1 [v0] h ∧ ∀ (n1 : Nat) (e1 : Nat → V) (h : AHeap), Inv1 n1 [(e1 8)] h →
kv (binD .bad .lss false (e1 8) a2 h) fun v2 =>
ifV v2 (
∃ (Inv3 : Nat → List V → AHeap → Prop) (n3 : Nat), Inv3 n3 [(e1 8)] h ∧ ∀ (n3 : Nat) (e3 : Nat → V) (h : AHeap), Inv3 n3 [(e3 9)] h →
kv (binD .bad .gtr false (e3 9) a1 h) fun v4 =>
kv (gdV v4 true (some a3)) fun v5 =>
kv (gdV v4 true (some a0)) fun v6 =>
kv (gdV v4 true (some (e3 9))) fun v7 =>
kv (gdV v4 true (indexAddrD (.slice es) v6 v7)) fun v8 =>
kv (gdV v4 true (ldD (.agg es) v8 h)) fun v9 =>
kv (gdV v4 true (some a0)) fun v10 =>
kv (gdV v4 true (some (e3 9))) fun v11 =>
kv (gdV v4 true (binD .bad .sub true v11 (.int .i64 1) h)) fun v12 =>
kv (gdV v4 true (indexAddrD (.slice es) v10 v12)) fun v13 =>
kv (gdV v4 true (ldD (.agg es) v13 h)) fun v14 =>
gdC v4 true h (fun K15 => aCall E.I v5 [v9, v14] h fun v h => K15 v h) fun v16 h =>
kv (gdV v4 true (binD .bad .lss true v16 (.int .i64 0) h)) fun v17 =>
kv (pickV v4 v17 (.bool false)) fun v18 =>
ifV v18 (
kv (binD .bad .sub true (e3 9) (.int .i64 1) h) fun v19 =>
kv (binD .bad .sub true (e3 9) (.int .i64 1) h) fun v20 =>
kv (indexAddrD (.slice es) a0 v20) fun v21 =>
kv (ldD (.agg es) v21 h) fun v22 =>
kv (indexAddrD (.slice es) a0 (e3 9)) fun v23 =>
kv (ldD (.agg es) v23 h) fun v24 =>
kv (indexAddrD (.slice es) a0 (e3 9)) fun v25 =>
kH (stD (some es) v25 v22 h) fun _ h =>
kv (indexAddrD (.slice es) a0 v19) fun v26 =>
kH (stD (some es) v26 v24 h) fun _ h =>
kv (binD .bad .sub true (e3 9) (.int .i64 1) h) fun v27 =>
∃ m, m < n3 ∧ Inv3 m [v27] h) (
kv (binD .bad .add true (e1 8) (.int .i64 1) h) fun v28 =>
∃ m, m < n1 ∧ Inv1 m [v28] h)) (
K (.tuple #[]) h)
| _ => False
theorem ins_id (E : FE) : F.slices_insertionSortCmpFunc_api_Id E = G.ins 2 E := rfl
structure Ord {α : Type} (c : α → α → Int) : Prop where
 trans : ∀ x y z, c x y ≤ 0 → c y z ≤ 0 → c x z ≤ 0
 total : ∀ x y, c x y < 0 ∨ c y x ≤ 0
 anti : ∀ x y, c x y ≤ 0 → c y x ≤ 0 → x = y
def Srtd {α : Type} (c : α → α → Int) (l : List α) : Prop := l.Pairwise fun x y => c x y ≤ 0
section
variable {α : Type} {D : EL α} {E : FE} {h : AHeap} {fp : List Nat} {v fv : V} {l : List α} {c : α → α → Int}
def CmpOk (E : FE) (D : EL α) (fv : V) (c : α → α → Int) : Prop := ∀ (h : AHeap) (x y : α), aCall E.I fv [.agg (D.enc x).toArray, .agg (D.enc y).toArray] h fun r h' => r = i64 (c x y) ∧ Mod h [] h' []
theorem st_el (D : EL α) (b o : Nat) (y : α) (h : AHeap) : stD (some D.es) (ptr b o) (.agg (D.enc y).toArray) h = h.wr b o (D.enc y) := by
 simp [stD, cellsOf, D.len, D.one]
theorem SlE.ld (s : SlE D h fp v l) {i : Nat} {x : α} (hi : l[i]? = some x) : ∃ b, indexAddrD (.slice D.es) v (i64 i) = some (ptr b (i * D.es)) ∧ ldD (.agg D.es) (ptr b (i * D.es)) h = some (.agg (D.enc x).toArray) := by
 obtain ⟨b, _, h1, h2, _⟩ := s.at hi
 exact ⟨b, h1, by rw [ld_agg, h2]; rfl⟩
theorem SlE.st (s : SlE D h fp v l) {i : Nat} (hi : i < l.length) (y : α) :
 ∃ b h', indexAddrD (.slice D.es) v (i64 i) = some (ptr b (i * D.es)) ∧ stD (some D.es) (ptr b (i * D.es)) (.agg (D.enc y).toArray) h = some h' ∧ SlE D h' fp v (l.set i y) ∧ Mod h fp h' fp := by
 obtain ⟨b, h', _, h1, h2, h3, h4⟩ := s.set hi y
 exact ⟨b, h', h1, by rw [st_el]; exact h2, h3, h4⟩
theorem ins_sorts (hM : MonoI E.I) (o : Ord c) (s : SlE D h fp v l) (hc : CmpOk E D fv c) (hsz : l.length ≤ 1000000) :
 cl (G.ins D.es E) [v, i64 0, i64 l.length, fv] h fun r h' => ∃ l', l'.Perm l ∧ Srtd c l' ∧ SlE D h' fp v l' ∧ Mod h fp h' fp := by
 refine cl_of ?_
 have hlt := s.lt
 simp only [G.ins]
 rw [add_i64 0 1 (by omega) (by omega), kv_some]
 refine ⟨fun n vs h' => ∃ (i : Nat) (l1 : List α), vs = [i64 i] ∧ 1 ≤ i ∧ i ≤ 1000001 ∧ n = l.length - i ∧ l1.Perm l ∧ Srtd c (l1.take i) ∧ SlE D h' fp v l1 ∧ Mod h fp h' fp, l.length - 1,
  ⟨1, l, rfl, by omega, by omega, rfl, List.Perm.refl _, ?_, s, Mod.refl hlt⟩, ?_⟩
 · cases l with
   | nil => simp [Srtd]
   | cons a l => simp [Srtd]
 rintro n e1 h1 ⟨i, l1, he, hi1, hi2, rfl, p1, st1, s1, m1⟩
 simp only [List.cons.injEq, and_true] at he
 have hlen : l1.length = l.length := p1.length_eq
 simp only [he, bin_lss, kv_some, ifV_bool]
 by_cases hx : i < l.length
 · have : ((i : Nat) : Int) < (l.length : Nat) := by omega
   simp only [this, decide_true, if_true]
   refine ⟨fun n vs h' => ∃ (j : Nat) (A B C : List α) (x : α), vs = [i64 j] ∧ n = j ∧ A.length = j ∧ A.length + B.length = i ∧ (A ++ x :: (B ++ C)).Perm l ∧ Srtd c (A ++ B) ∧ (∀ b ∈ B, c x b ≤ 0) ∧ SlE D h' fp v (A ++ x :: (B ++ C)) ∧ Mod h fp h' fp, i, ?_, ?_⟩
   · obtain ⟨x, hxe⟩ : ∃ x, l1[i]? = some x := ⟨l1[i]'(by omega), List.getElem?_eq_getElem (by omega)⟩
     have e : l1 = l1.take i ++ x :: ([] ++ l1.drop (i + 1)) := by
      obtain ⟨a1, a2⟩ := List.getElem?_eq_some_iff.1 hxe
      rw [List.nil_append, ← a2, ← List.drop_eq_getElem_cons a1, List.take_append_drop]
     refine ⟨i, l1.take i, [], l1.drop (i + 1), x, rfl, rfl, by rw [List.length_take]; omega, by rw [List.length_take, List.length_nil]; omega, by rw [← e]; exact p1, by rw [List.append_nil]; exact st1, by simp, by rw [← e]; exact s1, m1⟩
   · clear st1 s1 m1 p1
     rintro n3 e3 h3 ⟨j, A, B, C, x, hj, hn3, hA, hAB, p3, st3, lt3, s3, m3⟩
     simp only [List.cons.injEq, and_true] at hj
     have hl3 : (A ++ x :: (B ++ C)).length = l.length := p3.length_eq
     have hgx : (A ++ x :: (B ++ C))[j]? = some x := by rw [List.getElem?_append_right (by omega), hA]; simp
     have stop : ∀ h4, SlE D h4 fp v (A ++ x :: (B ++ C)) → Mod h fp h4 fp → Srtd c (A ++ x :: B) → kv (binD .bad .add true (i64 i) (.int .i64 1) h4) fun v28 =>
      ∃ m, m < l.length - i ∧ ∃ (i' : Nat) (l1 : List α), [v28] = [i64 i'] ∧ 1 ≤ i' ∧ i' ≤ 1000001 ∧ m = l.length - i' ∧ l1.Perm l ∧ Srtd c (l1.take i') ∧ SlE D h4 fp v l1 ∧ Mod h fp h4 fp := by
      intro h4 s4 m4 st4
      rw [add_i64 _ 1 (by omega) (by omega), kv_some]
      refine ⟨l.length - (i + 1), by omega, i + 1, _, by simp, by omega, by omega, rfl, p3, ?_, s4, m4⟩
      have : (A ++ x :: (B ++ C)).take (i + 1) = A ++ x :: B := by
       rw [show A ++ x :: (B ++ C) = (A ++ x :: B) ++ C by simp, List.take_append_of_le_length (by simp; omega), List.take_of_length_le (by simp; omega)]
      rw [this]
      exact st4
     simp only [hj, bin_gtr, kv_some]
     by_cases h0 : j = 0
     · subst h0
       have hA0 : A = [] := List.eq_nil_of_length_eq_zero hA
       subst hA0
       simp only [Int.ofNat_zero, gt_iff_lt, Int.lt_irrefl, decide_false, gdV_bool, Bool.false_eq_true, if_false, kv_some, gdV_gone]
       refine gdC_no (by simp) ?_
       simp only [gdV_bool, Bool.false_eq_true, if_false, kv_some, pickV_bool, ifV_bool]
       exact stop h3 s3 m3 (by
        show Srtd c ([] ++ x :: B)
        rw [List.nil_append] at st3 ⊢
        exact List.pairwise_cons.2 ⟨lt3, st3⟩)
     · have hj0 : ((j : Nat) : Int) > 0 := by omega
       obtain ⟨A', y, rfl⟩ : ∃ A' y, A = A' ++ [y] := by
        rcases List.eq_nil_or_concat A with rfl | ⟨A', y, rfl⟩
        · simp at hA; omega
        · exact ⟨A', y, by simp⟩
       simp only [List.length_append, List.length_cons, List.length_nil] at hA hAB
       have hgy : (A' ++ [y] ++ x :: (B ++ C))[j - 1]? = some y := by
        rw [List.append_assoc, List.getElem?_append_right (by omega), show j - 1 - A'.length = 0 by omega]; simp
       obtain ⟨b1, i1, i2⟩ := s3.ld hgx
       obtain ⟨b2, i3, i4⟩ := s3.ld hgy
       have hw : IntKind.i64.wrap (((j : Nat) : Int) - 1) = ((j - 1 : Nat) : Int) := by rw [wrap_i64 (by omega) (by omega)]; omega
       simp only [hj0, decide_true, gdV_bool, if_true, kv_some, i1, i2, bin_sub, hw, i3, i4]
       refine gdC_yes rfl ?_
       refine aCall_mono hM ?_ (hc h3 x y)
       rintro r h4 ⟨rfl, mc⟩
       have s4 := s3.keep mc
       have m4 : Mod h fp h4 fp := m3.trans ⟨mc.next, fun k hk _ => mc.same k hk (by simp), fun k hk => .inl hk, fun k hk => Nat.lt_of_lt_of_le (s3.lt k hk) mc.next⟩
       simp only [bin_lss, gdV_bool, if_true, kv_some, pickV_bool, ifV_bool, decide_eq_true_eq]
       obtain ⟨c1, k1, k2⟩ := s4.ld hgx
       obtain ⟨c2, k3, k4⟩ := s4.ld hgy
       rw [i1] at k1
       cases k1
       rw [i3] at k3
       cases k3
       by_cases hcl : c x y < 0
       · rw [if_pos hcl]
         simp only [kv_some, k2, k4]
         obtain ⟨b5, h5, j1, j2, s5, m5⟩ := s4.st (i := j) (by omega) y
         rw [i1] at j1
         cases j1
         rw [j2, kH_some]
         obtain ⟨b6, h6, j3, j4, s6, m6⟩ := s5.st (i := j - 1) (by rw [List.length_set]; omega) x
         rw [i3] at j3
         cases j3
         rw [j4, kH_some]
         have esw : ((A' ++ [y] ++ x :: (B ++ C)).set j y).set (j - 1) x = A' ++ x :: (y :: B ++ C) := by
          have hA' : A'.length = j - 1 := by omega
          rw [List.set_append_right _ _ (by simp; omega), List.length_append, List.length_cons, List.length_nil, show j - (A'.length + (0 + 1)) = 0 by omega, List.set_cons_zero, List.append_assoc, List.set_append_right _ _ (by omega), show j - 1 - A'.length = 0 by omega]
          simp
         rw [esw] at s6
         refine ⟨j - 1, by omega, j - 1, A', y :: B, C, x, rfl, rfl, by omega, by simp; omega, ?_, ?_, ?_, s6, (m4.trans m5).trans m6⟩
         · refine List.Perm.trans ?_ p3
           rw [List.append_assoc]
           exact List.Perm.append_left _ (List.Perm.swap _ _ _)
         · rw [show A' ++ (y :: B) = A' ++ [y] ++ B by simp]; exact st3
         · intro b hb
           rcases List.mem_cons.1 hb with rfl | hb
           · omega
           · exact lt3 b hb
       · rw [if_neg hcl]
         refine stop h4 s4 m4 ?_
         have hyx : c y x ≤ 0 := by rcases o.total x y with h | h; exact absurd h hcl; exact h
         have q := List.pairwise_append.1 st3
         have q1 := List.pairwise_append.1 q.1
         refine List.pairwise_append.2 ⟨q.1, List.pairwise_cons.2 ⟨lt3, q.2.1⟩, fun a ha b hb => ?_⟩
         rcases List.mem_cons.1 hb with rfl | hb
         · rcases List.mem_append.1 ha with ha | ha
           · exact o.trans _ _ _ (q1.2.2 a ha y (by simp)) hyx
           · simp only [List.mem_singleton] at ha
             rw [ha]; exact hyx
         · exact q.2.2 a ha b hb
 · have : ¬ ((i : Nat) : Int) < (l.length : Nat) := by omega
   simp only [this, decide_false, Bool.false_eq_true, if_false]
   refine ⟨l1, p1, ?_, s1, m1⟩
   rwa [List.take_of_length_le (by omega)] at st1
end
end Go.Abs
namespace Go.Abs
open Go
variable {E : FE} {h : AHeap} {fp : List Nat} {v fv : V}
def dId : EL IdM := ⟨2, fun i => [i64 i.client, i64 i.seq], fun _ => rfl, fun _ => rfl, by decide⟩
def dKey : EL KeyM := ⟨3, fun k => [str k.space, str k.key, .bool k.all], fun _ => rfl, fun _ => rfl, by decide⟩
set_option maxRecDepth 100000 in
theorem bits_Len64 (n : Nat) (hn : n < 256) : cl (F.math_bits_Len64 E) [.int .u64 n] h fun r h' => h' = h ∧ ∃ k : Int, r = i64 k := by
 refine cl_of ?_
 have h1 : ¬ ((n : Int) ≥ 4294967296) := by omega
 have h2 : ¬ ((n : Int) ≥ 65536) := by omega
 have h3 : ¬ ((n : Int) ≥ 256) := by omega
 have hw : IntKind.u8.wrap (n : Int) = n := by
  simp [IntKind.wrap, IntKind.signed, IntKind.bits]
  omega
 simp only [F.math_bits_Len64, bin_geq, h1, h2, h3, decide_false, kv_some, ifV_bool, Bool.false_eq_true, if_false]
 refine ⟨fun vs h' => vs = [.int .u64 n, i64 0] ∧ h' = h, ⟨rfl, rfl⟩, ?_⟩
 rintro e1 h1' ⟨he, rfl⟩
 simp only [List.cons.injEq, and_true] at he
 simp only [he.1, he.2, bin_geq, h2, decide_false, kv_some, ifV_bool, Bool.false_eq_true, if_false]
 refine ⟨fun vs h' => vs = [.int .u64 n, i64 0] ∧ h' = h1', ⟨rfl, rfl⟩, ?_⟩
 rintro e2 h2' ⟨he, rfl⟩
 simp only [List.cons.injEq, and_true] at he
 simp only [he.1, he.2, bin_geq, h3, decide_false, kv_some, ifV_bool, Bool.false_eq_true, if_false]
 refine ⟨fun vs h' => vs = [.int .u64 n, i64 0] ∧ h' = h2', ⟨rfl, rfl⟩, ?_⟩
 rintro e3 h3' ⟨he, rfl⟩
 simp only [List.cons.injEq, and_true] at he
 simp only [he.1, he.2, convD, Option.map_some, kv_some, hw]
 have key : ∀ tab : ByteArray, tab.size = 256 → ∀ K : V → Prop, (∀ b : UInt8, K (.int .u8 b.toNat)) → kv (indexD .str (.string tab) (.int .u8 n)) K := by
  intro tab hsz K hK
  have hlt : n < tab.size := by omega
  have hg : tab[(n : Int).toNat]? = some tab[n] := by
   rw [Int.toNat_natCast]
   exact getElem?_pos tab n hlt
  simp only [indexD, if_pos (show (0 : Int) ≤ n by omega), hg, kv_some]
  exact hK _
 refine key _ (by kernel_rfl) _ fun b => ?_
 simp only [Option.map_some, kv_some, bin_add]
 exact ⟨trivial, _, rfl⟩
theorem bits_Len (n : Nat) (hn : n < 256) : cl (F.math_bits_Len E) [.int .u64 n] h fun r h' => h' = h ∧ ∃ k : Int, r = i64 k := by
 refine cl_of ?_
 simp only [F.math_bits_Len, ifV_bool, Bool.false_eq_true, if_false]
 exact bits_Len64 n hn
section
variable {c : IdM → IdM → Int} {k : KeyM → KeyM → Int}
theorem pdq_id (hM : MonoI E.I) (o : Ord c) {l : List IdM} (s : SlE dId h fp v l) (hc : CmpOk E dId fv c) (hn : l.length ≤ 12) (lim : V) :
 cl (F.slices_pdqsortCmpFunc_api_Id E) [v, i64 0, i64 l.length, lim, fv] h fun r h' => ∃ l', l'.Perm l ∧ Srtd c l' ∧ SlE dId h' fp v l' ∧ Mod h fp h' fp := by
 refine cl_of ⟨1, fun n vs h' => vs = [i64 0, i64 l.length, lim, .bool true, .bool true] ∧ h' = h, 0, ⟨rfl, rfl⟩, ?_⟩
 rintro n e h1 ⟨he, rfl⟩
 simp only [List.cons.injEq, and_true] at he
 obtain ⟨e1, e2, e3, e4, e5⟩ := he
 simp only [e1, e2, sub_i64 _ 0 (show -9223372036854775808 ≤ ((l.length : Nat) : Int) - 0 by omega) (by omega), kv_some, bin_leq, show ((l.length : Nat) : Int) - 0 ≤ 12 by omega, decide_true, ifV_bool, if_true]
 rw [ins_id]
 exact ins_sorts (D := dId) hM o s hc (by omega)
theorem sort_id (hM : MonoI E.I) (o : Ord c) {l : List IdM} (s : SlE dId h fp v l) (hc : CmpOk E dId fv c) (hn : l.length ≤ 12) :
 cl (F.slices_SortFunc_Sapi_Id_api_Id E) [v, fv] h fun r h' => ∃ l', l'.Perm l ∧ Srtd c l' ∧ SlE dId h' fp v l' ∧ Mod h fp h' fp := by
 refine cl_of ?_
 have hw : IntKind.u64.wrap ((l.length : Nat) : Int) = (l.length : Nat) := by
  simp [IntKind.wrap, IntKind.signed, IntKind.bits]
  omega
 simp only [F.slices_SortFunc_Sapi_Id_api_Id, s.len, kv_some, convD, Option.map_some, hw]
 refine cl_then (bits_Len l.length (by omega)) ?_
 rintro r h1 ⟨rfl, x, rfl⟩
 exact pdq_id hM o s hc hn _
end
end Go.Abs
namespace Go.Abs
open Go
variable {E : FE} {h : AHeap} {fp : List Nat} {v : V}
def cmpI (x y : Int) : Int := if x < y then -1 else if y < x then 1 else 0
theorem cmp_int (x y : Int) : cl (F.cmp_Compare_int E) [i64 x, i64 y] h fun r h' => r = i64 (cmpI x y) ∧ h' = h := by
 have nan : ∀ (x : Int) (h : AHeap), cl (F.cmp_isNaN_int E) [i64 x] h fun r h' => r = .bool false ∧ h' = h := fun x h => cl_of (by simp [F.cmp_isNaN_int])
 refine cl_of ?_
 simp only [F.cmp_Compare_int]
 refine cl_then (nan x h) ?_
 rintro r h1 ⟨rfl, rfl⟩
 refine cl_then (nan y h1) ?_
 rintro r h2 ⟨rfl, rfl⟩
 simp only [ifV_bool, Bool.false_eq_true, if_false, bin_lss, bin_gtr, kv_some, decide_eq_true_eq, cmpI, gt_iff_lt]
 split
 · exact ⟨rfl, trivial⟩
 · split <;> exact ⟨rfl, trivial⟩
theorem cmp_int64 (x y : Int) : cl (F.cmp_Compare_int64 E) [i64 x, i64 y] h fun r h' => r = i64 (cmpI x y) ∧ h' = h := by
 have nan : ∀ (x : Int) (h : AHeap), cl (F.cmp_isNaN_int64 E) [i64 x] h fun r h' => r = .bool false ∧ h' = h := fun x h => cl_of (by simp [F.cmp_isNaN_int64])
 refine cl_of ?_
 simp only [F.cmp_Compare_int64]
 refine cl_then (nan x h) ?_
 rintro r h1 ⟨rfl, rfl⟩
 refine cl_then (nan y h1) ?_
 rintro r h2 ⟨rfl, rfl⟩
 simp only [ifV_bool, Bool.false_eq_true, if_false, bin_lss, bin_gtr, kv_some, decide_eq_true_eq, cmpI, gt_iff_lt]
 split
 · exact ⟨rfl, trivial⟩
 · split <;> exact ⟨rfl, trivial⟩
def orI : List Int → Int
 | [] => 0
 | x :: l => if x ≠ 0 then x else orI l
def dInt : EL Int := ⟨1, fun x => [i64 x], fun _ => rfl, fun _ => rfl, by decide⟩
theorem orI_drop : ∀ (l : List Int) (i : Nat), (∀ j x, j < i → l[j]? = some x → x = 0) → orI l = orI (l.drop i)
 | [], i, _ => by simp
 | x :: l, 0, _ => rfl
 | x :: l, i + 1, hz => by
  have : x = 0 := hz 0 x (by omega) rfl
  subst this
  rw [List.drop_succ_cons, ← orI_drop l i fun j x hj hx => hz (j + 1) x (by omega) (by simpa using hx)]
  simp [orI]
theorem or_spec {l : List Int} (s : SlE dInt h fp v l) (hsz : l.length ≤ 1000) : cl (F.cmp_Or_int E) [v] h fun r h' => r = i64 (orI l) ∧ h' = h := by
 refine cl_of ?_
 simp only [F.cmp_Or_int, s.len, kv_some]
 refine ⟨fun n vs h' => ∃ i : Nat, vs = [i64 i] ∧ n = l.length - i ∧ i ≤ l.length ∧ h' = h ∧ ∀ j x, j < i → l[j]? = some x → x = 0, l.length, ⟨0, rfl, by omega, by omega, rfl, fun j x hj => by omega⟩, ?_⟩
 rintro n e h1 ⟨i, he, rfl, hi, rfl, hz⟩
 simp only [List.cons.injEq, and_true] at he
 simp only [he, bin_lss, kv_some, ifV_bool]
 by_cases hx : i < l.length
 · have : ((i : Nat) : Int) < (l.length : Nat) := by omega
   simp only [this, decide_true, if_true]
   have hg : l[i]? = some l[i] := List.getElem?_eq_getElem hx
   obtain ⟨b, _, i1, _, i3⟩ := s.at hg
   have i1 : indexAddrD (.slice 1) v (i64 i) = some (ptr b (i * 1)) := i1
   have i3 := i3 0 (by decide)
   have i4 : h1.rd b (i * 1) = some (i64 l[i]) := i3
   simp only [i1, kv_some, ld_one, i4, bin_neq, ifV_bool]
   have hd := orI_drop l i hz
   rw [List.drop_eq_getElem_cons hx] at hd
   by_cases h0 : l[i] = 0
   · have : (l[i] != 0) = false := by simp [h0]
     simp only [this, Bool.false_eq_true, if_false]
     rw [add_i64 _ 1 (by omega) (by omega), kv_some]
     refine ⟨l.length - (i + 1), by omega, i + 1, by simp, rfl, by omega, trivial, fun j x hj hx' => ?_⟩
     by_cases hji : j = i
     · subst hji
       rw [hg] at hx'
       cases hx'
       exact h0
     · exact hz j x (by omega) hx'
   · have : (l[i] != 0) = true := by simp [h0]
     simp only [this, if_true]
     refine ⟨?_, trivial⟩
     rw [hd, orI, if_pos h0]
 · have : ¬ ((i : Nat) : Int) < (l.length : Nat) := by omega
   simp only [this, decide_false, Bool.false_eq_true, if_false]
   refine ⟨?_, trivial⟩
   have hd := orI_drop l i hz
   rw [List.drop_eq_nil_of_le (by omega)] at hd
   rw [hd]
   rfl
theorem SlE.lit {α : Type} (D : EL α) (h : AHeap) (l : List α) (hl : l ≠ []) : SlE D (h.new (.cells (D.flat l) D.es .rw)) [h.next] (.slice (some ⟨h.next, 0, none⟩) l.length (2 * l.length)) l :=
 ⟨D.flat_len l, .inr ⟨h.next, 2 * l.length, D.flat l, rfl, rfl, by simp, by omega, by simp, by rw [D.flat_len, Nat.mul_div_cancel_left _ (by decide)]; exact Nat.le_refl _, by rw [← D.flat_len, List.take_length]⟩⟩
def ordI (a b : IdM) : Int := orI [cmpI a.client b.client, cmpI a.seq b.seq]
theorem Mod.new2 {o o' : AObj} : Mod h [] ((h.new o).new o') [] :=
 ⟨by simp; omega, fun x hx _ => by
  have h1 : x ≠ h.next := by omega
  have h2 : x ≠ h.next + 1 := by omega
  simp [h1, h2], by simp, by simp⟩
theorem name_order (a b : IdM) : cl (F.name_order E) [a.agg, b.agg] h fun r h' => r = i64 (ordI a b) ∧ Mod h [] h' [] := by
 refine cl_of ?_
 have e0 : ∀ (i : IdM) (h : AHeap), newD none i.agg h = some (ptr h.next 0, h.new (.cells [i64 i.client, i64 i.seq] 2 .rw)) := fun _ _ => rfl
 simp only [F.name_order, e0, kP_some, new_next]
 generalize hh : ((h.new (.cells [i64 a.client, i64 a.seq] 2 .rw)).new (.cells [i64 b.client, i64 b.seq] 2 .rw)) = h2
 have m2 : Mod h [] h2 [] := by rw [← hh]; exact Mod.new2
 have ga : h2.get h.next = some (.cells [i64 a.client, i64 a.seq] 2 .rw) := by rw [← hh]; simp
 have gb : h2.get (h.next + 1) = some (.cells [i64 b.client, i64 b.seq] 2 .rw) := by rw [← hh]; simp
 have r1 : h2.rd h.next 0 = some (i64 a.client) := rd_of ga 0
 have r2 : h2.rd h.next 1 = some (i64 a.seq) := rd_of ga 1
 have r3 : h2.rd (h.next + 1) 0 = some (i64 b.client) := rd_of gb 0
 have r4 : h2.rd (h.next + 1) 1 = some (i64 b.seq) := rd_of gb 1
 simp only [fieldAddr_ptr, kv_some, ld_one, Nat.zero_add, r1, r2, r3, r4]
 refine cl_then (cmp_int _ _) ?_
 rintro r h3 ⟨rfl, rfl⟩
 refine ⟨r2, r4, ?_⟩
 refine cl_then (cmp_int64 _ _) ?_
 rintro r h4 ⟨rfl, rfl⟩
 have eb : ∀ x y : Int, buildSliceD (some (1, [(.int .i64 0)])) 2 [(0, i64 x), (1, i64 y)] h4 = some (.slice (some ⟨h4.next, 0, none⟩) 2 4, h4.new (.cells [i64 x, i64 y] 1 .rw)) := fun _ _ => rfl
 rw [eb, kP_some]
 have s := SlE.lit dInt h4 [cmpI a.client b.client, cmpI a.seq b.seq] (by simp)
 refine cl_then (or_spec s (by simp)) ?_
 rintro r h5 ⟨rfl, rfl⟩
 refine ⟨rfl, m2.trans ⟨by simp, fun x hx _ => ?_, by simp, by simp⟩⟩
 have : x ≠ h4.next := by omega
 simp [this]
theorem ordI_ord : Ord ordI := by
 have le : ∀ a b : IdM, ordI a b ≤ 0 ↔ a.client < b.client ∨ (a.client = b.client ∧ a.seq ≤ b.seq) := by
  intro a b
  simp only [ordI, orI, cmpI]
  split <;> split <;> (try split) <;> (try split) <;> (try split) <;> omega
 have lt : ∀ a b : IdM, ordI a b < 0 ↔ a.client < b.client ∨ (a.client = b.client ∧ a.seq < b.seq) := by
  intro a b
  simp only [ordI, orI, cmpI]
  split <;> split <;> (try split) <;> (try split) <;> (try split) <;> omega
 refine ⟨fun x y z h1 h2 => ?_, fun x y => ?_, fun x y h1 h2 => ?_⟩
 · rw [le] at h1 h2 ⊢; omega
 · rw [lt, le]; omega
 · rw [le] at h1 h2
   cases x; cases y
   simp only [IdM.mk.injEq] at *
   omega
theorem cmp_id {E1 : FE} (hE : E.I (E.k 10) = some (cl (F.name_order E1))) : CmpOk E dId (.func (.func (E.k 10)) #[] #[]) ordI := fun h x y => by
 unfold aCall
 simp only [hE]
 exact name_order x y
end Go.Abs
namespace Go.Abs
open Go
variable {E : FE} {h : AHeap} {fp : List Nat} {v : V} {l : List KeyM}
theorem SlE.cells {α : Type} {D : EL α} {l : List α} {b c n : Nat} {fp : List Nat} (s : SlE D h fp (.slice (some ⟨b, 0, none⟩) n c) l) : fp = [b] ∧ b < h.next ∧ n = l.length ∧ l.length ≤ c / 2 ∧ ∃ all, h.get b = some (.cells all D.es .rw) ∧ c / 2 * D.es ≤ all.length ∧ all.take (l.length * D.es) = D.flat l := by
 obtain ⟨h0, ⟨e, h1, rfl⟩ | ⟨b', c', all, e, rfl, hb, hc, h2, h3, h4⟩⟩ := s
 · cases e
 · cases e; exact ⟨rfl, hb, rfl, hc, all, h2, h3, h4⟩
end Go.Abs
namespace Go.Abs
open Go
theorem decode_lo {s : ByteArray} {i : Nat} (h : (s.get! i).toNat < 128) : Utf8.decode s i = ((s.get! i).toNat, 1) := by
 unfold Utf8.decode
 simp only [Nat.add_zero]
 rw [if_pos h]
theorem decode_hi {s : ByteArray} {i : Nat} (h : 128 ≤ (s.get! i).toNat) : 128 ≤ (Utf8.decode s i).1 := by
 have hr : 128 ≤ Utf8.runeError := by decide
 unfold Utf8.decode
 simp only [Nat.add_zero]
 rw [if_neg (by omega)]
 split
 · split
   · assumption
   · exact hr
 · split
   · split
     · rename_i hc
       simp only [ge_iff_le, Bool.and_eq_true, decide_eq_true_eq] at hc
       show 128 ≤ _
       omega
     · exact hr
   · split
     · split
       · rename_i hc
         simp only [ge_iff_le, Bool.and_eq_true, decide_eq_true_eq] at hc
         show 128 ≤ _
         omega
       · exact hr
     · exact hr
theorem get_data (s : ByteArray) {i : Nat} (h : i < s.size) : s.data.toList[i]? = some (s.get! i) := by
 have h1 : i < s.data.toList.length := by rw [Array.length_toList]; exact h
 rw [List.getElem?_eq_getElem h1]
 congr 1
 show s.data.toList[i] = s.data[i]!
 rw [getElem!_pos s.data i h]
 simp
def small1 (c : UInt8) : Bool := decide (97 ≤ c.toNat) && decide (c.toNat ≤ 122)
theorem smallT_eq (s : ByteArray) : smallT s = s.data.toList.all small1 := rfl
theorem rune_small {s : ByteArray} {i : Nat} : (97 ≤ (Utf8.decode s i).1 ∧ (Utf8.decode s i).1 ≤ 122) ↔ small1 (s.get! i) = true := by
 simp only [small1, Bool.and_eq_true, decide_eq_true_eq]
 by_cases h : (s.get! i).toNat < 128
 · rw [decode_lo h]
 · have := decode_hi (s := s) (i := i) (by omega)
   omega
theorem small_step {s : ByteArray} {i : Nat} (h : small1 (s.get! i) = true) : (Utf8.decode s i).2 = 1 := by
 simp only [small1, Bool.and_eq_true, decide_eq_true_eq] at h
 rw [decode_lo (by omega)]
end Go.Abs
namespace Go.Abs
open Go
variable {E : FE} {h : AHeap} {fp : List Nat} {v : V}
def dOp : EL Oq := ⟨5, Oq.cells, fun _ => rfl, fun _ => rfl, by decide⟩
theorem op_names (f : Int) : cl (F.op_names E) [i64 f] h fun r h' => r = .tuple #[.bool (namesO f).1, .bool (namesO f).2.1, .bool (namesO f).2.2] ∧ h' = h := by
 refine cl_of ?_
 simp only [F.op_names, bin_eql, kv_some]
 refine ⟨fun vs h' => vs = [.bool (decide (f = 1 ∨ f = 8 ∨ f = 11))] ∧ h' = h, ?_, ?_⟩
 · by_cases q1 : f = 1 <;> by_cases q2 : f = 8 <;> by_cases q3 : f = 11 <;> simp [q1, q2, q3, ifV_bool]
 rintro e1 h1 ⟨he, rfl⟩
 simp only [List.cons.injEq, and_true] at he
 simp only [he, ifV_bool, decide_eq_true_eq, namesO]
 by_cases q1 : f = 1 ∨ f = 8 ∨ f = 11
 · simp [q1]
 simp only [q1, if_false]
 refine ⟨fun vs h' => vs = [.bool (decide (f = 3 ∨ f = 5))] ∧ h' = h1, ?_, ?_⟩
 · by_cases q2 : f = 3 <;> by_cases q3 : f = 5 <;> simp [q2, q3, ifV_bool]
 rintro e2 h2 ⟨he, rfl⟩
 simp only [List.cons.injEq, and_true] at he
 simp only [he, ifV_bool, decide_eq_true_eq]
 by_cases q3 : f = 3 ∨ f = 5
 · simp [q3]
 simp only [q3, if_false, beq_iff_eq]
 by_cases q4 : f = 4
 · simp [q4]
 simp only [q4, if_false]
 refine ⟨fun vs h' => vs = [.bool (decide (f = 6 ∨ f = 10))] ∧ h' = h2, ?_, ?_⟩
 · by_cases q5 : f = 6 <;> by_cases q6 : f = 10 <;> simp [q5, q6, ifV_bool]
 rintro e3 h3 ⟨he, rfl⟩
 simp only [List.cons.injEq, and_true] at he
 simp only [he, ifV_bool, decide_eq_true_eq]
 by_cases q5 : f = 6 ∨ f = 10
 · simp [q5]
 simp only [q5, if_false, beq_iff_eq]
 by_cases q6 : f = 7
 · simp [q6]
 simp only [q6, if_false]
 by_cases q7 : f = 12 <;> simp [q7]
theorem ba_nil {s : ByteArray} : s = ⟨#[]⟩ ↔ s.size = 0 := by
 obtain ⟨⟨l⟩⟩ := s
 show (⟨⟨l⟩⟩ : ByteArray) = ⟨⟨[]⟩⟩ ↔ l.length = 0
 cases l <;> simp
theorem str_nil (k : EqK) (c : Bool) (s : ByteArray) : binD k .eql c (str s) (.string ⟨#[]⟩) h = some (.bool (decide (s.size = 0))) := by
 rw [str_eql]
 congr 2
 exact decide_eq_decide.2 ba_nil
theorem str_nonnil (k : EqK) (c : Bool) (s : ByteArray) : binD k .neq c (str s) (.string ⟨#[]⟩) h = some (.bool (!decide (s.size = 0))) := by
 rw [str_neq]
 congr 2
 rw [decide_eq_decide.2 ba_nil]
theorem index_str (s : ByteArray) (i : Nat) (hi : i < s.size) : indexD .str (str s) (i64 i) = some (.int .u8 (s.get! i).toNat) := by
 have h1 : s[i]? = some (s.get! i) := by
  rw [getElem?_pos s i hi]
  congr 1
  show s.data[i] = s.data[i]!
  rw [getElem!_pos s.data i hi]
 simp only [indexD, if_pos (show (0 : Int) ≤ i by omega), Int.toNat_natCast, h1]
theorem digit_eq {s : ByteArray} (hs : s.size = 1) : digitK s = (decide (49 ≤ (s.get! 0).toNat) && decide ((s.get! 0).toNat ≤ 57)) := by
 obtain ⟨⟨l⟩⟩ := s
 match l, hs with
 | [c], _ => rfl
theorem digit_no {s : ByteArray} (hs : s.size ≠ 1) : digitK s = false := by
 obtain ⟨⟨l⟩⟩ := s
 match l, hs with
 | [], _ => rfl
 | [c], hs => exact absurd rfl hs
 | _ :: _ :: _, _ => rfl
theorem op_makes (o : Oq) : cl (F.op_makes E) [o.agg] h fun r h' => r = .bool (makesO o) ∧ Mod h [] h' [] := by
 refine cl_of ?_
 simp only [F.op_makes, new5, kP_some]
 generalize hh : h.new (.cells o.cells 5 .rw) = h1
 have m1 : Mod h [] h1 [] := by
  rw [← hh]
  exact ⟨by simp, fun x hx _ => by have : x ≠ h.next := by omega
                                   simp [this], by simp, by simp⟩
 have g : h1.get h.next = some (.cells o.cells 5 .rw) := by rw [← hh]; simp
 have r4 : h1.rd h.next 4 = some (i64 o.n) := rd_of g 4
 have r2 : h1.rd h.next 2 = some (str o.key) := rd_of g 2
 have ln : ∀ (x : ByteArray) (h : AHeap), lenD .str (str x) h = some (i64 (x.size : Nat)) := fun _ _ => rfl
 have hsn : aStr .eql o.key ⟨#[]⟩ = some (.bool (decide (o.key.size = 0))) := str_nil (h := h1) .bad true o.key
 by_cases n1 : o.n < 1
 · have e : makesO o = false := by simp [makesO, show ¬ 1 ≤ o.n by omega]
   simp [r4, r2, ln, n1, e, pickV_bool, ifV_bool, m1, gdV_bool]
 by_cases n3 : o.n > 3
 · have e : makesO o = false := by simp [makesO, show ¬ o.n ≤ 3 by omega]
   simp [r4, r2, ln, n1, n3, e, pickV_bool, ifV_bool, m1, gdV_bool, bin_gtr]
 have n3' : ¬ 3 < o.n := by omega
 by_cases k1 : o.key.size = 1
 · have hb : ((o.key.size : Nat) : Int) = 1 := by omega
   have hi := index_str o.key 0 (by omega)
   have hi : indexD .str (str o.key) (.int .i64 0) = _ := hi
   have k0 : ¬ o.key.size = 0 := by omega
   have e : makesO o = (decide (49 ≤ (o.key.get! 0).toNat) && decide ((o.key.get! 0).toNat ≤ 57)) := by
    simp [makesO, digit_eq k1, show 1 ≤ o.n by omega, show o.n ≤ 3 by omega, k0]
   rw [e]
   by_cases c1 : 49 ≤ (o.key.get! 0).toNat
   · have c1' : (49 : Int) ≤ (((o.key.get! 0).toNat : Nat) : Int) := by omega
     by_cases c2 : (o.key.get! 0).toNat ≤ 57
     · have c2' : (((o.key.get! 0).toNat : Nat) : Int) ≤ 57 := by omega
       simp [r4, r2, ln, n1, n3', hb, hi, c1, c2, c1', c2', gdV_bool, pickV_bool, m1]
     · have c2' : ¬ (((o.key.get! 0).toNat : Nat) : Int) ≤ 57 := by omega
       simp [r4, r2, ln, n1, n3', hb, hi, c1, c2, c1', c2', gdV_bool, pickV_bool, m1, k0, hsn]
   · have c1' : ¬ (49 : Int) ≤ (((o.key.get! 0).toNat : Nat) : Int) := by omega
     simp [r4, r2, ln, n1, n3', hb, hi, c1, c1', gdV_bool, pickV_bool, m1, k0, hsn]
 · have hb : ¬ ((o.key.size : Nat) : Int) = 1 := by omega
   have e : makesO o = (decide (o.key.size = 0) && decide (o.n ≠ 2)) := by
    simp [makesO, digit_no k1, show 1 ≤ o.n by omega, show o.n ≤ 3 by omega]
   rw [e]
   by_cases k0 : o.key.size = 0 <;> by_cases n2 : o.n = 2 <;> simp [r4, r2, ln, n1, n3', hb, gdV_bool, pickV_bool, k0, n2, m1, bin_neq, hsn]
end Go.Abs

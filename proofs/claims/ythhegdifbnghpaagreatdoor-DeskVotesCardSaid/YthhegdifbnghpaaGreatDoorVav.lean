/- The document's pairs: rising keys. The plain law. -/
import Derived.Test.YthhegdifbnghpaaGreatDoorVau
import Derived.Test.YthhegdifbnghpaaGreatDoorVat
import Derived.Test.YthhegdifbnghpaaGreatDoorVas
set_option linter.unusedSimpArgs false
set_option linter.unusedVariables false
namespace Go.Abs
open Go
def kl (a : ByteArray) : List UInt8 := a.data.toList
theorem lt_irr (a : List UInt8) : ¬ a < a := List.lt_irrefl a
def Rise (ps : List Pr) : Prop := ps.Pairwise fun a b => kl a.key < kl b.key
def hitP (k : ByteArray) : List Pr → Option Pr
 | [] => none
 | p :: l => if kl p.key < kl k then hitP k l else if p.key = k then some p else none
theorem hit_mem {k : ByteArray} : ∀ {l : List Pr} {p : Pr}, hitP k l = some p → p ∈ l ∧ p.key = k
 | [], p, h => by simp [hitP] at h
 | q :: l, p, h => by
  simp only [hitP] at h
  split at h
  · have := hit_mem h; exact ⟨by simp [this.1], this.2⟩
  · split at h
    · cases h; exact ⟨by simp, by assumption⟩
    · cases h
theorem hit_of {p : Pr} : ∀ {l : List Pr}, Rise l → p ∈ l → hitP p.key l = some p
 | [], _, h => by simp at h
 | q :: l, hr, h => by
  obtain ⟨hl, hr'⟩ := List.pairwise_cons.1 hr
  rcases List.mem_cons.1 h with rfl | h
  · simp [hitP, lt_irr]
  · simp only [hitP, if_pos (hl p h)]
    exact hit_of hr' h
structure TW (g : List En) (ps : List Pr) : Prop where
 rise : Rise ps
 same : ∀ k, getE k g = (hitP k ps).map fun p => str p.val
theorem TW.nil : TW [] [] := ⟨List.Pairwise.nil, fun _ => rfl⟩
theorem rise_nodup {ps : List Pr} (h : Rise ps) : (ps.map (·.key)).Nodup :=
 List.pairwise_map.2 (h.imp fun {a b} hab (e : a.key = b.key) => by rw [e] at hab; exact lt_irr _ hab)
theorem TW.perm {g : List En} {ps : List Pr} (t : TW g ps) (hn : (keysE g).Nodup) : (keysE g).Perm (ps.map (·.key)) := by
 refine (List.perm_ext_iff_of_nodup hn (rise_nodup t.rise)).2 fun k => ?_
 have h1 : k ∈ keysE g ↔ getE k g ≠ none := by
  rw [ne_eq, ← get_none]
  simp
 rw [h1, t.same, ne_eq, Option.map_eq_none_iff]
 constructor
 · intro h
   cases hh : hitP k ps with
   | none => exact absurd hh h
   | some p =>
    obtain ⟨h2, h3⟩ := hit_mem hh
    exact List.mem_map.2 ⟨p, h2, h3⟩
 · intro h e
   obtain ⟨p, h2, rfl⟩ := List.mem_map.1 h
   rw [hit_of t.rise h2] at e
   cases e
end Go.Abs
namespace Go.Abs
open Go
variable {E : FE} {h : AHeap} {fp : List Nat} {v : V}
def dInt : EL Int := ⟨1, fun x => [i64 x], fun _ => rfl, fun _ => rfl, by decide⟩
theorem SlE.lit {α : Type} (D : EL α) (h : AHeap) (l : List α) (hl : l ≠ []) : SlE D (h.new (.cells (D.flat l) D.es .rw)) [h.next] (.slice (some ⟨h.next, 0, none⟩) l.length (2 * l.length)) l :=
 ⟨D.flat_len l, .inr ⟨h.next, 2 * l.length, D.flat l, rfl, rfl, by simp, by omega, by simp, by rw [D.flat_len, Nat.mul_div_cancel_left _ (by decide)]; exact Nat.le_refl _, by rw [← D.flat_len, List.take_length]⟩⟩
end Go.Abs
namespace Go.Abs
open Go
variable {E : FE} {h : AHeap} {fp : List Nat} {v : V} {l : List KeyM}
theorem SlE.cells {α : Type} {D : EL α} {l : List α} {b c n : Nat} {fp : List Nat} (s : SlE D h fp (.slice (some ⟨b, 0, none⟩) n c) l) : fp = [b] ∧ b < h.next ∧ n = l.length ∧ l.length ≤ c / 2 ∧ ∃ all, h.get b = some (.cells all D.es .rw) ∧ c / 2 * D.es ≤ all.length ∧ all.take (l.length * D.es) = D.flat l := by
 obtain ⟨h0, ⟨e, h1, rfl⟩ | ⟨b', c', all, e, rfl, hb, hc, h2, h3, h4⟩⟩ := s
 · cases e
 · cases e; exact ⟨rfl, hb, rfl, hc, all, h2, h3, h4⟩
end Go.Abs
namespace Go.Abs
open Go
variable {E : FE} {h h' : AHeap} {fp : List Nat} {p : V} {s : SpM}
section
variable {α : Type} (f : α → List V) (n : Nat) (hf : ∀ a, (f a).length = n)
include hf
theorem fm_drop (l : List α) : ∀ i, (l.flatMap f).drop (i * n) = (l.drop i).flatMap f := by
 induction l with
 | nil => intro i; simp
 | cons a l ih =>
  intro i
  cases i with
  | zero => simp
  | succ i =>
   have e : (f a).drop (i * n + n) = [] := List.drop_of_length_le (by rw [hf]; omega)
   rw [List.drop_succ_cons, List.flatMap_cons, Nat.succ_mul, List.drop_append, e, hf, Nat.add_sub_cancel, ih, List.nil_append]
theorem fm_get (l : List α) {i : Nat} {a : α} (hi : l[i]? = some a) {j : Nat} (hj : j < n) : (l.flatMap f)[i * n + j]? = (f a)[j]? := by
 have h1 := congrArg (fun x => x[j]?) (fm_drop f n hf l i)
 simp only [List.getElem?_drop] at h1
 rw [h1]
 have hl : i < l.length := (List.getElem?_eq_some_iff.1 hi).1
 have ha : l[i] = a := (List.getElem?_eq_some_iff.1 hi).2
 rw [List.drop_eq_getElem_cons hl, List.flatMap_cons, List.getElem?_append_left (by rw [hf]; exact hj), ha]
end
theorem Sl.at {v : V} {es n : Nat} {cs : List V} (c : Sl h fp v es n cs) {i : Nat} (hi : i < n) :
 ∃ b, fp = [b] ∧ indexAddrD (.slice es) v (i64 i) = some (ptr b (i * es)) ∧ ∀ j, j < es → h.rd b (i * es + j) = cs[i * es + j]? := by
 obtain ⟨h0, ⟨rfl, h1, rfl⟩ | ⟨b, cp, all, rfl, rfl, hb, hc, h2, h3, h4⟩⟩ := c
 · omega
 have b1 : (0 : Int) ≤ (i : Int) ∧ (i : Int) < (n : Nat) := by omega
 refine ⟨b, rfl, by simp only [indexAddrD, if_pos b1, Int.toNat_natCast, Nat.zero_add], fun j hj => ?_⟩
 have : (i + 1) * es ≤ n * es := Nat.mul_le_mul_right _ hi
 rw [Nat.succ_mul] at this
 rw [rd_of h2, ← h4, List.getElem?_take, if_pos (by omega)]
theorem prc_len (p : Pr) : p.cells.length = 3 := rfl
variable {b : Nat} {fP fI fL : List Nat} {vP vI vL : V}
theorem Prs.at {v : V} {l : List Pr} (c : Prs h fp v l) {i : Nat} {q : Pr} (hi : l[i]? = some q) :
 ∃ b, fp = [b] ∧ indexAddrD (.slice 3) v (i64 i) = some (ptr b (i * 3)) ∧ h.rd b (i * 3) = some (str q.key) ∧ h.rd b (i * 3 + 1) = some (str q.val) ∧ h.rd b (i * 3 + 2) = some (i64 q.at_) := by
 obtain ⟨b, h1, h2, h3⟩ := Sl.at c (List.getElem?_eq_some_iff.1 hi).1
 have k := fun j hj => (h3 j hj).trans (fm_get Pr.cells 3 prc_len l hi hj)
 exact ⟨b, h1, h2, k 0 (by decide), k 1 (by decide), k 2 (by decide)⟩
abbrev Pr.agg (q : Pr) : V := .agg #[str q.key, str q.val, i64 q.at_]
end Go.Abs

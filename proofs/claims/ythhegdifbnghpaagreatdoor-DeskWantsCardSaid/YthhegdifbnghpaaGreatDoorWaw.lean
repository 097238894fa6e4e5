/- The document's pairs: rising keys. The plain law. -/
import Derived.Test.YthhegdifbnghpaaGreatDoorWav
import Derived.Test.YthhegdifbnghpaaGreatDoorWau
import Derived.Test.YthhegdifbnghpaaGreatDoorWat
set_option linter.unusedSimpArgs false
set_option linter.unusedVariables false
namespace Go.Abs
open Go
def kl (a : ByteArray) : List UInt8 := a.data.toList
theorem kl_inj {a b : ByteArray} (h : kl a = kl b) : a = b := by
 obtain ⟨⟨a⟩⟩ := a
 obtain ⟨⟨b⟩⟩ := b
 have h' : a = b := h
 rw [h']
theorem lt_irr (a : List UInt8) : ¬ a < a := List.lt_irrefl a
theorem lt_tr {a b c : List UInt8} (h : a < b) (h' : b < c) : a < c := List.lt_trans h h'
theorem lt_tri {a b : List UInt8} (h : ¬ a < b) (h' : a ≠ b) : b < a := by
 have h1 : b ≤ a := List.not_lt.1 h
 rcases List.le_iff_lt_or_eq.1 h1 with h2 | h2
 · exact h2
 · exact absurd h2.symm h'
theorem lt_asy {a b : List UInt8} (h : a < b) : ¬ b < a := fun h' => lt_irr a (lt_tr h h')
def Rise (ps : List Pr) : Prop := ps.Pairwise fun a b => kl a.key < kl b.key
def posP (k : ByteArray) : List Pr → Nat
 | [] => 0
 | p :: l => if kl p.key < kl k then posP k l + 1 else 0
def hitP (k : ByteArray) : List Pr → Option Pr
 | [] => none
 | p :: l => if kl p.key < kl k then hitP k l else if p.key = k then some p else none
def putP (q : Pr) : List Pr → List Pr
 | [] => [q]
 | p :: l => if kl p.key < kl q.key then p :: putP q l else if p.key = q.key then q :: l else q :: p :: l
theorem posP_le (k : ByteArray) : ∀ l : List Pr, posP k l ≤ l.length
 | [] => Nat.le_refl _
 | p :: l => by
  have := posP_le k l
  simp only [posP, List.length_cons]
  split <;> omega
theorem put_eq (q : Pr) : ∀ l : List Pr, putP q l = if (hitP q.key l).isSome then l.set (posP q.key l) q else l.take (posP q.key l) ++ q :: l.drop (posP q.key l)
 | [] => rfl
 | p :: l => by
  simp only [putP, hitP, posP]
  by_cases h1 : kl p.key < kl q.key
  · simp only [if_pos h1, put_eq q l]
    split <;> rfl
  · by_cases h2 : p.key = q.key
    · simp [h2, lt_irr]
    · simp [h1, h2]
theorem put_len (q : Pr) (l : List Pr) : (putP q l).length ≤ l.length + 1 := by
 have := posP_le q.key l
 rw [put_eq]
 split
 · simp
 · simp; omega
theorem hit_put (k : ByteArray) (q : Pr) : ∀ l : List Pr, hitP k (putP q l) = if q.key = k then some q else hitP k l
 | [] => by
  simp only [putP, hitP]
  by_cases h : q.key = k
  · simp [h, lt_irr]
  · simp [h]
 | p :: l => by
  have ih := hit_put k q l
  simp only [putP]
  by_cases h1 : kl p.key < kl q.key
  · simp only [if_pos h1, hitP, ih]
    by_cases h : q.key = k
    · subst h; simp [h1]
    · simp [h]
  · by_cases h2 : p.key = q.key
    · simp only [if_neg h1, if_pos h2, hitP]
      by_cases h : q.key = k
      · simp [h, lt_irr]
      · simp only [h2, if_neg h]
    · simp only [if_neg h1, if_neg h2]
      have h3 : kl q.key < kl p.key := lt_tri h1 fun e => h2 (kl_inj e)
      rw [show hitP k (q :: p :: l) = if kl q.key < kl k then hitP k (p :: l) else if q.key = k then some q else none from rfl]
      by_cases h : q.key = k
      · simp [h, lt_irr]
      · by_cases h4 : kl q.key < kl k
        · simp [h, h4]
        · have h5 : kl k < kl q.key := lt_tri h4 fun e => h (kl_inj e)
          have h6 := lt_tr h5 h3
          have h7 : ¬ p.key = k := fun e => lt_irr _ (e ▸ h6)
          simp only [if_neg h, if_neg h4, hitP, if_neg (lt_asy h6), if_neg h7]
theorem mem_putP {q x : Pr} : ∀ {l : List Pr}, x ∈ putP q l → x = q ∨ x ∈ l
 | [], h => by simp only [putP, List.mem_singleton] at h; exact .inl h
 | p :: l, h => by
  simp only [putP] at h
  split at h
  · rcases List.mem_cons.1 h with rfl | h
    · simp
    · rcases mem_putP h with h | h <;> simp [h]
  · split at h
    · rcases List.mem_cons.1 h with rfl | h <;> simp [*]
    · rcases List.mem_cons.1 h with rfl | h
      · simp
      · exact .inr h
theorem Rise.put {q : Pr} : ∀ {l : List Pr}, Rise l → Rise (putP q l)
 | [], _ => List.pairwise_singleton _ _
 | p :: l, hr => by
  obtain ⟨hl, hr'⟩ := List.pairwise_cons.1 hr
  simp only [putP]
  split
  · rename_i h1
    refine List.pairwise_cons.2 ⟨fun x hx => ?_, Rise.put hr'⟩
    rcases mem_putP hx with rfl | hx
    · exact h1
    · exact hl x hx
  · rename_i h1
    split
    · rename_i h2
      exact List.pairwise_cons.2 ⟨fun x hx => h2 ▸ hl x hx, hr'⟩
    · rename_i h2
      have h3 : kl q.key < kl p.key := lt_tri h1 fun e => h2 (kl_inj e)
      refine List.pairwise_cons.2 ⟨fun x hx => ?_, hr⟩
      rcases List.mem_cons.1 hx with rfl | hx
      · exact h3
      · exact lt_tr h3 (hl x hx)
theorem hit_mem {k : ByteArray} : ∀ {l : List Pr} {p : Pr}, hitP k l = some p → p ∈ l ∧ p.key = k
 | [], p, h => by simp [hitP] at h
 | q :: l, p, h => by
  simp only [hitP] at h
  split at h
  · have := hit_mem h; exact ⟨by simp [this.1], this.2⟩
  · split at h
    · cases h; exact ⟨by simp, by assumption⟩
    · cases h
theorem hit_of {p : Pr} : ∀ {l : List Pr}, Rise l → p ∈ l → hitP p.key l = some p
 | [], _, h => by simp at h
 | q :: l, hr, h => by
  obtain ⟨hl, hr'⟩ := List.pairwise_cons.1 hr
  rcases List.mem_cons.1 h with rfl | h
  · simp [hitP, lt_irr]
  · simp only [hitP, if_pos (hl p h)]
    exact hit_of hr' h
structure TW (g : List En) (ps : List Pr) : Prop where
 rise : Rise ps
 same : ∀ k, getE k g = (hitP k ps).map fun p => str p.val
theorem TW.nil : TW [] [] := ⟨List.Pairwise.nil, fun _ => rfl⟩
theorem TW.put {g : List En} {ps : List Pr} (t : TW g ps) (q : Pr) (c : Nat) : TW (putE q.key (str q.val) c g) (putP q ps) :=
 ⟨t.rise.put, fun k => by
  rw [get_put, hit_put]
  split
  · rfl
  · exact t.same k⟩
theorem rise_nodup {ps : List Pr} (h : Rise ps) : (ps.map (·.key)).Nodup :=
 List.pairwise_map.2 (h.imp fun {a b} hab (e : a.key = b.key) => by rw [e] at hab; exact lt_irr _ hab)
theorem TW.perm {g : List En} {ps : List Pr} (t : TW g ps) (hn : (keysE g).Nodup) : (keysE g).Perm (ps.map (·.key)) := by
 refine (List.perm_ext_iff_of_nodup hn (rise_nodup t.rise)).2 fun k => ?_
 have h1 : k ∈ keysE g ↔ getE k g ≠ none := by
  rw [ne_eq, ← get_none]
  simp
 rw [h1, t.same, ne_eq, Option.map_eq_none_iff]
 constructor
 · intro h
   cases hh : hitP k ps with
   | none => exact absurd hh h
   | some p =>
    obtain ⟨h2, h3⟩ := hit_mem hh
    exact List.mem_map.2 ⟨p, h2, h3⟩
 · intro h e
   obtain ⟨p, h2, rfl⟩ := List.mem_map.1 h
   rw [hit_of t.rise h2] at e
   cases e
end Go.Abs
namespace Go.Abs
open Go
variable {E : FE} {h h' : AHeap} {fp : List Nat} {p : V} {s : SpM}
section
variable {α : Type} (f : α → List V) (n : Nat) (hf : ∀ a, (f a).length = n)
include hf
theorem fm_drop (l : List α) : ∀ i, (l.flatMap f).drop (i * n) = (l.drop i).flatMap f := by
 induction l with
 | nil => intro i; simp
 | cons a l ih =>
  intro i
  cases i with
  | zero => simp
  | succ i =>
   have e : (f a).drop (i * n + n) = [] := List.drop_of_length_le (by rw [hf]; omega)
   rw [List.drop_succ_cons, List.flatMap_cons, Nat.succ_mul, List.drop_append, e, hf, Nat.add_sub_cancel, ih, List.nil_append]
theorem fm_get (l : List α) {i : Nat} {a : α} (hi : l[i]? = some a) {j : Nat} (hj : j < n) : (l.flatMap f)[i * n + j]? = (f a)[j]? := by
 have h1 := congrArg (fun x => x[j]?) (fm_drop f n hf l i)
 simp only [List.getElem?_drop] at h1
 rw [h1]
 have hl : i < l.length := (List.getElem?_eq_some_iff.1 hi).1
 have ha : l[i] = a := (List.getElem?_eq_some_iff.1 hi).2
 rw [List.drop_eq_getElem_cons hl, List.flatMap_cons, List.getElem?_append_left (by rw [hf]; exact hj), ha]
end
theorem Sl.at {v : V} {es n : Nat} {cs : List V} (c : Sl h fp v es n cs) {i : Nat} (hi : i < n) :
 ∃ b, fp = [b] ∧ indexAddrD (.slice es) v (i64 i) = some (ptr b (i * es)) ∧ ∀ j, j < es → h.rd b (i * es + j) = cs[i * es + j]? := by
 obtain ⟨h0, ⟨rfl, h1, rfl⟩ | ⟨b, cp, all, rfl, rfl, hb, hc, h2, h3, h4⟩⟩ := c
 · omega
 have b1 : (0 : Int) ≤ (i : Int) ∧ (i : Int) < (n : Nat) := by omega
 refine ⟨b, rfl, by simp only [indexAddrD, if_pos b1, Int.toNat_natCast, Nat.zero_add], fun j hj => ?_⟩
 have : (i + 1) * es ≤ n * es := Nat.mul_le_mul_right _ hi
 rw [Nat.succ_mul] at this
 rw [rd_of h2, ← h4, List.getElem?_take, if_pos (by omega)]
theorem prc_len (p : Pr) : p.cells.length = 3 := rfl
variable {b : Nat} {fP fI fL : List Nat} {vP vI vL : V}
theorem Prs.at {v : V} {l : List Pr} (c : Prs h fp v l) {i : Nat} {q : Pr} (hi : l[i]? = some q) :
 ∃ b, fp = [b] ∧ indexAddrD (.slice 3) v (i64 i) = some (ptr b (i * 3)) ∧ h.rd b (i * 3) = some (str q.key) ∧ h.rd b (i * 3 + 1) = some (str q.val) ∧ h.rd b (i * 3 + 2) = some (i64 q.at_) := by
 obtain ⟨b, h1, h2, h3⟩ := Sl.at c (List.getElem?_eq_some_iff.1 hi).1
 have k := fun j hj => (h3 j hj).trans (fm_get Pr.cells 3 prc_len l hi hj)
 exact ⟨b, h1, h2, k 0 (by decide), k 1 (by decide), k 2 (by decide)⟩
abbrev Pr.agg (q : Pr) : V := .agg #[str q.key, str q.val, i64 q.at_]
end Go.Abs

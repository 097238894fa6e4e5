/- The document's pairs: rising keys. The plain law. -/
import Derived.Test.YtldjlkbjbkielaaGreatDoorVlau
import Derived.Test.YtldjlkbjbkielaaGreatDoorVlat
import Derived.Test.YtldjlkbjbkielaaGreatDoorVlas
set_option linter.unusedSimpArgs false
set_option linter.unusedVariables false
namespace Go.Abs
open Go
def kl (a : ByteArray) : List UInt8 := a.data.toList
theorem kl_inj {a b : ByteArray} (h : kl a = kl b) : a = b := by
 obtain ⟨⟨a⟩⟩ := a
 obtain ⟨⟨b⟩⟩ := b
 have h' : a = b := h
 rw [h']
theorem lt_irr (a : List UInt8) : ¬ a < a := List.lt_irrefl a
theorem lt_tr {a b c : List UInt8} (h : a < b) (h' : b < c) : a < c := List.lt_trans h h'
theorem lt_tri {a b : List UInt8} (h : ¬ a < b) (h' : a ≠ b) : b < a := by
 have h1 : b ≤ a := List.not_lt.1 h
 rcases List.le_iff_lt_or_eq.1 h1 with h2 | h2
 · exact h2
 · exact absurd h2.symm h'
theorem lt_asy {a b : List UInt8} (h : a < b) : ¬ b < a := fun h' => lt_irr a (lt_tr h h')
theorem bytesLess_lt : ∀ (x y : List UInt8), Op.bytesLess x y = decide (x < y)
 | [], [] => by simp [Op.bytesLess]
 | _ :: _, [] => by simp [Op.bytesLess]
 | [], _ :: _ => by simp [Op.bytesLess]
 | a :: x, b :: y => by
  rw [Op.bytesLess, bytesLess_lt x y]
  simp only [List.cons_lt_cons_iff]
  by_cases h1 : a < b <;> by_cases h2 : a = b <;> by_cases h3 : x < y <;> simp [h1, h2, h3]
theorem str_lss (k : EqK) (c : Bool) (a b : ByteArray) {h : AHeap} : binD k .lss c (str a) (str b) h = some (.bool (decide (kl a < kl b))) := by
 rw [bin_str]
 show some (Value.bool (Op.bytesLess a.toList b.toList)) = _
 rw [bytesLess_lt, ba_toList, ba_toList]
 rfl
def Rise (ps : List Pr) : Prop := ps.Pairwise fun a b => kl a.key < kl b.key
def posP (k : ByteArray) : List Pr → Nat
 | [] => 0
 | p :: l => if kl p.key < kl k then posP k l + 1 else 0
def hitP (k : ByteArray) : List Pr → Option Pr
 | [] => none
 | p :: l => if kl p.key < kl k then hitP k l else if p.key = k then some p else none
def putP (q : Pr) : List Pr → List Pr
 | [] => [q]
 | p :: l => if kl p.key < kl q.key then p :: putP q l else if p.key = q.key then q :: l else q :: p :: l
def delP (k : ByteArray) : List Pr → List Pr
 | [] => []
 | p :: l => if kl p.key < kl k then p :: delP k l else if p.key = k then l else p :: l
theorem posP_le (k : ByteArray) : ∀ l : List Pr, posP k l ≤ l.length
 | [] => Nat.le_refl _
 | p :: l => by
  have := posP_le k l
  simp only [posP, List.length_cons]
  split <;> omega
theorem put_eq (q : Pr) : ∀ l : List Pr, putP q l = if (hitP q.key l).isSome then l.set (posP q.key l) q else l.take (posP q.key l) ++ q :: l.drop (posP q.key l)
 | [] => rfl
 | p :: l => by
  simp only [putP, hitP, posP]
  by_cases h1 : kl p.key < kl q.key
  · simp only [if_pos h1, put_eq q l]
    split <;> rfl
  · by_cases h2 : p.key = q.key
    · simp [h2, lt_irr]
    · simp [h1, h2]
theorem hit_none {k : ByteArray} : ∀ {l : List Pr}, (∀ p ∈ l, kl k < kl p.key) → hitP k l = none
 | [], _ => rfl
 | p :: l, h => by
  have h1 := h p (by simp)
  have h2 : ¬ p.key = k := fun e => lt_irr _ (e ▸ h1)
  simp only [hitP, if_neg (lt_asy h1), if_neg h2]
theorem hit_put (k : ByteArray) (q : Pr) : ∀ l : List Pr, hitP k (putP q l) = if q.key = k then some q else hitP k l
 | [] => by
  simp only [putP, hitP]
  by_cases h : q.key = k
  · simp [h, lt_irr]
  · simp [h]
 | p :: l => by
  have ih := hit_put k q l
  simp only [putP]
  by_cases h1 : kl p.key < kl q.key
  · simp only [if_pos h1, hitP, ih]
    by_cases h : q.key = k
    · subst h; simp [h1]
    · simp [h]
  · by_cases h2 : p.key = q.key
    · simp only [if_neg h1, if_pos h2, hitP]
      by_cases h : q.key = k
      · simp [h, lt_irr]
      · simp only [h2, if_neg h]
    · simp only [if_neg h1, if_neg h2]
      have h3 : kl q.key < kl p.key := lt_tri h1 fun e => h2 (kl_inj e)
      rw [show hitP k (q :: p :: l) = if kl q.key < kl k then hitP k (p :: l) else if q.key = k then some q else none from rfl]
      by_cases h : q.key = k
      · simp [h, lt_irr]
      · by_cases h4 : kl q.key < kl k
        · simp [h, h4]
        · have h5 : kl k < kl q.key := lt_tri h4 fun e => h (kl_inj e)
          have h6 := lt_tr h5 h3
          have h7 : ¬ p.key = k := fun e => lt_irr _ (e ▸ h6)
          simp only [if_neg h, if_neg h4, hitP, if_neg (lt_asy h6), if_neg h7]
theorem hit_del (k k' : ByteArray) : ∀ {l : List Pr}, Rise l → hitP k (delP k' l) = if k' = k then none else hitP k l
 | [], _ => by simp [delP, hitP]
 | p :: l, hr => by
  have hl := (List.pairwise_cons.1 hr).1
  have ih := hit_del k k' (l := l) (List.pairwise_cons.1 hr).2
  simp only [delP]
  by_cases h1 : kl p.key < kl k'
  · simp only [if_pos h1, hitP, ih]
    by_cases h : k' = k
    · subst h; simp [h1]
    · simp [h]
  · by_cases h2 : p.key = k'
    · subst h2
      rw [if_neg (lt_irr _), if_pos rfl]
      by_cases h : p.key = k
      · subst h; rw [if_pos rfl]; exact hit_none hl
      · rw [if_neg h]
        simp only [hitP, if_neg h]
        by_cases h3 : kl p.key < kl k
        · rw [if_pos h3]
        · rw [if_neg h3]
          have h4 : kl k < kl p.key := lt_tri h3 fun e => h (kl_inj e)
          exact hit_none fun x hx => lt_tr h4 (hl x hx)
    · simp only [if_neg h1, if_neg h2]
      have h3 : kl k' < kl p.key := lt_tri h1 fun e => h2 (kl_inj e)
      by_cases h : k' = k
      · subst h; simp [hitP, h1, h2]
      · simp [h]
theorem mem_putP {q x : Pr} : ∀ {l : List Pr}, x ∈ putP q l → x = q ∨ x ∈ l
 | [], h => by simp only [putP, List.mem_singleton] at h; exact .inl h
 | p :: l, h => by
  simp only [putP] at h
  split at h
  · rcases List.mem_cons.1 h with rfl | h
    · simp
    · rcases mem_putP h with h | h <;> simp [h]
  · split at h
    · rcases List.mem_cons.1 h with rfl | h <;> simp [*]
    · rcases List.mem_cons.1 h with rfl | h
      · simp
      · exact .inr h
theorem Rise.put {q : Pr} : ∀ {l : List Pr}, Rise l → Rise (putP q l)
 | [], _ => List.pairwise_singleton _ _
 | p :: l, hr => by
  obtain ⟨hl, hr'⟩ := List.pairwise_cons.1 hr
  simp only [putP]
  split
  · rename_i h1
    refine List.pairwise_cons.2 ⟨fun x hx => ?_, Rise.put hr'⟩
    rcases mem_putP hx with rfl | hx
    · exact h1
    · exact hl x hx
  · rename_i h1
    split
    · rename_i h2
      exact List.pairwise_cons.2 ⟨fun x hx => h2 ▸ hl x hx, hr'⟩
    · rename_i h2
      have h3 : kl q.key < kl p.key := lt_tri h1 fun e => h2 (kl_inj e)
      refine List.pairwise_cons.2 ⟨fun x hx => ?_, hr⟩
      rcases List.mem_cons.1 hx with rfl | hx
      · exact h3
      · exact lt_tr h3 (hl x hx)
theorem del_sub (k : ByteArray) : ∀ l : List Pr, (delP k l).Sublist l
 | [] => List.Sublist.refl _
 | p :: l => by
  simp only [delP]
  split
  · exact (del_sub k l).cons_cons p
  · split
    · exact List.sublist_cons_self _ _
    · exact List.Sublist.refl _
theorem Rise.del {k : ByteArray} {l : List Pr} (h : Rise l) : Rise (delP k l) := h.sublist (del_sub k l)
theorem hit_mem {k : ByteArray} : ∀ {l : List Pr} {p : Pr}, hitP k l = some p → p ∈ l ∧ p.key = k
 | [], p, h => by simp [hitP] at h
 | q :: l, p, h => by
  simp only [hitP] at h
  split at h
  · have := hit_mem h; exact ⟨by simp [this.1], this.2⟩
  · split at h
    · cases h; exact ⟨by simp, by assumption⟩
    · cases h
theorem hit_of {p : Pr} : ∀ {l : List Pr}, Rise l → p ∈ l → hitP p.key l = some p
 | [], _, h => by simp at h
 | q :: l, hr, h => by
  obtain ⟨hl, hr'⟩ := List.pairwise_cons.1 hr
  rcases List.mem_cons.1 h with rfl | h
  · simp [hitP, lt_irr]
  · simp only [hitP, if_pos (hl p h)]
    exact hit_of hr' h
theorem rise_nodup {ps : List Pr} (h : Rise ps) : (ps.map (·.key)).Nodup :=
 List.pairwise_map.2 (h.imp fun {a b} hab (e : a.key = b.key) => by rw [e] at hab; exact lt_irr _ hab)
end Go.Abs
namespace Go.Abs
open Go
variable {E : FE} {h h' : AHeap} {fp : List Nat} {p : V} {s : SpM}
section
variable {α : Type} (f : α → List V) (n : Nat) (hf : ∀ a, (f a).length = n)
include hf
end
theorem Sl.at {v : V} {es n : Nat} {cs : List V} (c : Sl h fp v es n cs) {i : Nat} (hi : i < n) :
 ∃ b, fp = [b] ∧ indexAddrD (.slice es) v (i64 i) = some (ptr b (i * es)) ∧ ∀ j, j < es → h.rd b (i * es + j) = cs[i * es + j]? := by
 obtain ⟨h0, ⟨rfl, h1, rfl⟩ | ⟨b, cp, all, rfl, rfl, hb, hc, h2, h3, h4⟩⟩ := c
 · omega
 have b1 : (0 : Int) ≤ (i : Int) ∧ (i : Int) < (n : Nat) := by omega
 refine ⟨b, rfl, by simp only [indexAddrD, if_pos b1, Int.toNat_natCast, Nat.zero_add], fun j hj => ?_⟩
 have : (i + 1) * es ≤ n * es := Nat.mul_le_mul_right _ hi
 rw [Nat.succ_mul] at this
 rw [rd_of h2, ← h4, List.getElem?_take, if_pos (by omega)]
variable {b : Nat} {fP fI fL : List Nat} {vP vI vL : V}
end Go.Abs
namespace Go.Abs
open Go Go.Proofs
variable {E : FE} {h : AHeap} {fp : List Nat} {p : V} {l : List En}
theorem table_Clone (t : Tab h fp p l) : cl (F.table_Table_Clone E) [p] h fun r h' => ∃ fp', Tab h' fp' r l ∧ Mod h [] h' fp' := by
 obtain ⟨b, m, clk, rfl, rfl, hne, hb, hm, h1, h2, hn⟩ := t
 refine cl_of ?_
 simp only [F.table_Table_Clone, ptr_eq_nil, kv_some, ifV_bool, Bool.false_eq_true, if_false, aNil_ptr, fieldAddr_ptr, ld_one, Nat.zero_add, rd_of h1, List.getElem?_cons_zero]
 refine cl_of ?_
 simp only [F.maps_Clone_map_string_string_string_string, map_eq_nil, kv_some, ifV_bool, Bool.false_eq_true, if_false, iface]
 refine cl_of ?_
 simp only [F.maps_clone, L.clone, h2, assertD, beq_self_eq_true, Bool.and_self, if_true, Bool.false_eq_true, if_false, kv_some]
 have e1 : ∀ x : Nat, buildD (.struct [(.map none)] [(0, 1)]) [(0, .map (some x))] = some (.agg #[.map (some x)]) := fun _ => rfl
 have e2 : ∀ (x : Nat) (g : AHeap), newD none (.agg #[.map (some x)]) g = some (ptr g.next 0, g.new (.cells [.map (some x)] 1 .rw)) := fun _ _ => rfl
 simp only [e1, e2, kv_some, kP_some]
 refine ⟨[h.next + 1, h.next], ⟨h.next + 1, h.next, clk, by simp, rfl, by simp, by simp, by simp; omega, by simp, by simp, hn⟩, by simp; omega, fun x hx _ => ?_, fun x hx => ?_, fun x hx => ?_⟩
 · have a : x ≠ h.next := by omega
   have a' : x ≠ h.next + 1 := by omega
   simp [a, a']
 · simp at hx; right; omega
 · simp at hx ⊢; omega
end Go.Abs

/- The document's pairs: rising keys. The plain law. -/
import Derived.Test.YthilcedkapakpaaGreatDoorRepC
import Derived.Test.YthilcedkapakpaaGreatDoorRepB
import Derived.Test.YthilcedkapakpaaGreatDoorRepA
set_option linter.unusedSimpArgs false
set_option linter.unusedVariables false
namespace Go.Abs
open Go

/-- A key's bytes. -/
def kl (a : ByteArray) : List UInt8 := a.data.toList

theorem kl_inj {a b : ByteArray} (h : kl a = kl b) : a = b := by
  obtain ⟨⟨a⟩⟩ := a
  obtain ⟨⟨b⟩⟩ := b
  have h' : a = b := h
  rw [h']

theorem lt_irr (a : List UInt8) : ¬ a < a := List.lt_irrefl a
theorem lt_tr {a b c : List UInt8} (h : a < b) (h' : b < c) : a < c := List.lt_trans h h'
theorem lt_tri {a b : List UInt8} (h : ¬ a < b) (h' : a ≠ b) : b < a := by
  have h1 : b ≤ a := List.not_lt.1 h
  rcases List.le_iff_lt_or_eq.1 h1 with h2 | h2
  · exact h2
  · exact absurd h2.symm h'
theorem lt_asy {a b : List UInt8} (h : a < b) : ¬ b < a := fun h' => lt_irr a (lt_tr h h')

theorem bytesLess_lt : ∀ (x y : List UInt8), Op.bytesLess x y = decide (x < y)
  | [], [] => by simp [Op.bytesLess]
  | _ :: _, [] => by simp [Op.bytesLess]
  | [], _ :: _ => by simp [Op.bytesLess]
  | a :: x, b :: y => by
    rw [Op.bytesLess, bytesLess_lt x y]
    simp only [List.cons_lt_cons_iff]
    by_cases h1 : a < b <;> by_cases h2 : a = b <;> by_cases h3 : x < y <;> simp [h1, h2, h3]

theorem str_lss (k : EqK) (c : Bool) (a b : ByteArray) {h : AHeap} : binD k .lss c (str a) (str b) h = some (.bool (decide (kl a < kl b))) := by
  rw [bin_str]
  show some (Value.bool (Op.bytesLess a.toList b.toList)) = _
  rw [bytesLess_lt, ba_toList, ba_toList]
  rfl

def Rise (ps : List Pr) : Prop := ps.Pairwise fun a b => kl a.key < kl b.key

def posP (k : ByteArray) : List Pr → Nat
  | [] => 0
  | p :: l => if kl p.key < kl k then posP k l + 1 else 0

def hitP (k : ByteArray) : List Pr → Option Pr
  | [] => none
  | p :: l => if kl p.key < kl k then hitP k l else if p.key = k then some p else none

def putP (q : Pr) : List Pr → List Pr
  | [] => [q]
  | p :: l => if kl p.key < kl q.key then p :: putP q l else if p.key = q.key then q :: l else q :: p :: l

def delP (k : ByteArray) : List Pr → List Pr
  | [] => []
  | p :: l => if kl p.key < kl k then p :: delP k l else if p.key = k then l else p :: l

theorem posP_le (k : ByteArray) : ∀ l : List Pr, posP k l ≤ l.length
  | [] => Nat.le_refl _
  | p :: l => by
    have := posP_le k l
    simp only [posP, List.length_cons]
    split <;> omega

theorem posP_lt (k : ByteArray) : ∀ (l : List Pr) (j : Nat) (p : Pr), l[j]? = some p → j < posP k l → kl p.key < kl k
  | [], j, p, h, _ => by simp at h
  | q :: l, 0, p, h, hj => by
    simp only [List.getElem?_cons_zero, Option.some.injEq] at h
    subst h
    simp only [posP] at hj
    split at hj
    · assumption
    · omega
  | q :: l, j + 1, p, h, hj => by
    simp only [posP] at hj
    split at hj
    · exact posP_lt k l j p (by simpa using h) (by omega)
    · omega

theorem posP_at (k : ByteArray) : ∀ (l : List Pr) (p : Pr), l[posP k l]? = some p → ¬ kl p.key < kl k
  | [], p, h => by simp at h
  | q :: l, p, h => by
    simp only [posP] at h
    split at h
    · exact posP_at k l p (by simpa using h)
    · rename_i hq
      simp only [List.getElem?_cons_zero, Option.some.injEq] at h
      subst h
      exact hq

theorem hit_eq (k : ByteArray) : ∀ l : List Pr, hitP k l = (l[posP k l]?).bind fun p => if p.key = k then some p else none
  | [] => rfl
  | p :: l => by
    simp only [hitP, posP]
    split
    · rw [List.getElem?_cons_succ]; exact hit_eq k l
    · rfl

theorem put_eq (q : Pr) : ∀ l : List Pr, putP q l = if (hitP q.key l).isSome then l.set (posP q.key l) q else l.take (posP q.key l) ++ q :: l.drop (posP q.key l)
  | [] => rfl
  | p :: l => by
    simp only [putP, hitP, posP]
    by_cases h1 : kl p.key < kl q.key
    · simp only [if_pos h1, put_eq q l]
      split <;> rfl
    · by_cases h2 : p.key = q.key
      · simp [h2, lt_irr]
      · simp [h1, h2]

theorem del_eq (k : ByteArray) : ∀ l : List Pr, delP k l = if (hitP k l).isSome then l.eraseIdx (posP k l) else l
  | [] => rfl
  | p :: l => by
    simp only [delP, hitP, posP]
    by_cases h1 : kl p.key < kl k
    · simp only [if_pos h1, del_eq k l]
      split <;> rfl
    · by_cases h2 : p.key = k
      · simp [h2, lt_irr]
      · simp [h1, h2]

theorem put_len (q : Pr) (l : List Pr) : (putP q l).length ≤ l.length + 1 := by
  have := posP_le q.key l
  rw [put_eq]
  split
  · simp
  · simp; omega

theorem del_len (k : ByteArray) (l : List Pr) : (delP k l).length ≤ l.length := by
  rw [del_eq]
  split
  · exact List.length_eraseIdx_le _ _
  · exact Nat.le_refl _

/-- Nothing is told of a key that is less than all. -/
theorem hit_none {k : ByteArray} : ∀ {l : List Pr}, (∀ p ∈ l, kl k < kl p.key) → hitP k l = none
  | [], _ => rfl
  | p :: l, h => by
    have h1 := h p (by simp)
    have h2 : ¬ p.key = k := fun e => lt_irr _ (e ▸ h1)
    simp only [hitP, if_neg (lt_asy h1), if_neg h2]

theorem hit_put (k : ByteArray) (q : Pr) : ∀ l : List Pr, hitP k (putP q l) = if q.key = k then some q else hitP k l
  | [] => by
    simp only [putP, hitP]
    by_cases h : q.key = k
    · simp [h, lt_irr]
    · simp [h]
  | p :: l => by
    have ih := hit_put k q l
    simp only [putP]
    by_cases h1 : kl p.key < kl q.key
    · simp only [if_pos h1, hitP, ih]
      by_cases h : q.key = k
      · subst h; simp [h1]
      · simp [h]
    · by_cases h2 : p.key = q.key
      · simp only [if_neg h1, if_pos h2, hitP]
        by_cases h : q.key = k
        · simp [h, lt_irr]
        · simp only [h2, if_neg h]
      · simp only [if_neg h1, if_neg h2]
        have h3 : kl q.key < kl p.key := lt_tri h1 fun e => h2 (kl_inj e)
        rw [show hitP k (q :: p :: l) = if kl q.key < kl k then hitP k (p :: l) else if q.key = k then some q else none from rfl]
        by_cases h : q.key = k
        · simp [h, lt_irr]
        · by_cases h4 : kl q.key < kl k
          · simp [h, h4]
          · have h5 : kl k < kl q.key := lt_tri h4 fun e => h (kl_inj e)
            have h6 := lt_tr h5 h3
            have h7 : ¬ p.key = k := fun e => lt_irr _ (e ▸ h6)
            simp only [if_neg h, if_neg h4, hitP, if_neg (lt_asy h6), if_neg h7]

theorem hit_del (k k' : ByteArray) : ∀ {l : List Pr}, Rise l → hitP k (delP k' l) = if k' = k then none else hitP k l
  | [], _ => by simp [delP, hitP]
  | p :: l, hr => by
    have hl := (List.pairwise_cons.1 hr).1
    have ih := hit_del k k' (l := l) (List.pairwise_cons.1 hr).2
    simp only [delP]
    by_cases h1 : kl p.key < kl k'
    · simp only [if_pos h1, hitP, ih]
      by_cases h : k' = k
      · subst h; simp [h1]
      · simp [h]
    · by_cases h2 : p.key = k'
      · subst h2
        rw [if_neg (lt_irr _), if_pos rfl]
        by_cases h : p.key = k
        · subst h; rw [if_pos rfl]; exact hit_none hl
        · rw [if_neg h]
          simp only [hitP, if_neg h]
          by_cases h3 : kl p.key < kl k
          · rw [if_pos h3]
          · rw [if_neg h3]
            have h4 : kl k < kl p.key := lt_tri h3 fun e => h (kl_inj e)
            exact hit_none fun x hx => lt_tr h4 (hl x hx)
      · simp only [if_neg h1, if_neg h2]
        have h3 : kl k' < kl p.key := lt_tri h1 fun e => h2 (kl_inj e)
        by_cases h : k' = k
        · subst h; simp [hitP, h1, h2]
        · simp [h]

theorem mem_putP {q x : Pr} : ∀ {l : List Pr}, x ∈ putP q l → x = q ∨ x ∈ l
  | [], h => by simp only [putP, List.mem_singleton] at h; exact .inl h
  | p :: l, h => by
    simp only [putP] at h
    split at h
    · rcases List.mem_cons.1 h with rfl | h
      · simp
      · rcases mem_putP h with h | h <;> simp [h]
    · split at h
      · rcases List.mem_cons.1 h with rfl | h <;> simp [*]
      · rcases List.mem_cons.1 h with rfl | h
        · simp
        · exact .inr h

theorem Rise.put {q : Pr} : ∀ {l : List Pr}, Rise l → Rise (putP q l)
  | [], _ => List.pairwise_singleton _ _
  | p :: l, hr => by
    obtain ⟨hl, hr'⟩ := List.pairwise_cons.1 hr
    simp only [putP]
    split
    · rename_i h1
      refine List.pairwise_cons.2 ⟨fun x hx => ?_, Rise.put hr'⟩
      rcases mem_putP hx with rfl | hx
      · exact h1
      · exact hl x hx
    · rename_i h1
      split
      · rename_i h2
        exact List.pairwise_cons.2 ⟨fun x hx => h2 ▸ hl x hx, hr'⟩
      · rename_i h2
        have h3 : kl q.key < kl p.key := lt_tri h1 fun e => h2 (kl_inj e)
        refine List.pairwise_cons.2 ⟨fun x hx => ?_, hr⟩
        rcases List.mem_cons.1 hx with rfl | hx
        · exact h3
        · exact lt_tr h3 (hl x hx)

theorem del_sub (k : ByteArray) : ∀ l : List Pr, (delP k l).Sublist l
  | [] => List.Sublist.refl _
  | p :: l => by
    simp only [delP]
    split
    · exact (del_sub k l).cons_cons p
    · split
      · exact List.sublist_cons_self _ _
      · exact List.Sublist.refl _

theorem Rise.del {k : ByteArray} {l : List Pr} (h : Rise l) : Rise (delP k l) := h.sublist (del_sub k l)

theorem hit_mem {k : ByteArray} : ∀ {l : List Pr} {p : Pr}, hitP k l = some p → p ∈ l ∧ p.key = k
  | [], p, h => by simp [hitP] at h
  | q :: l, p, h => by
    simp only [hitP] at h
    split at h
    · have := hit_mem h; exact ⟨by simp [this.1], this.2⟩
    · split at h
      · cases h; exact ⟨by simp, by assumption⟩
      · cases h

theorem hit_of {p : Pr} : ∀ {l : List Pr}, Rise l → p ∈ l → hitP p.key l = some p
  | [], _, h => by simp at h
  | q :: l, hr, h => by
    obtain ⟨hl, hr'⟩ := List.pairwise_cons.1 hr
    rcases List.mem_cons.1 h with rfl | h
    · simp [hitP, lt_irr]
    · simp only [hitP, if_pos (hl p h)]
      exact hit_of hr' h

/-- A table's map and the document's pairs tell the same. -/
structure TW (g : List En) (ps : List Pr) : Prop where
  rise : Rise ps
  same : ∀ k, getE k g = (hitP k ps).map fun p => str p.val

theorem TW.nil : TW [] [] := ⟨List.Pairwise.nil, fun _ => rfl⟩

theorem TW.put {g : List En} {ps : List Pr} (t : TW g ps) (q : Pr) (c : Nat) : TW (putE q.key (str q.val) c g) (putP q ps) :=
  ⟨t.rise.put, fun k => by
    rw [get_put, hit_put]
    split
    · rfl
    · exact t.same k⟩

theorem TW.del {g : List En} {ps : List Pr} (t : TW g ps) (hn : (keysE g).Nodup) (k : ByteArray) : TW (delE k g) (delP k ps) :=
  ⟨t.rise.del, fun k' => by
    rw [get_del hn, hit_del _ _ t.rise]
    split
    · rfl
    · exact t.same k'⟩

theorem TW.hit {g : List En} {ps : List Pr} (t : TW g ps) (k : ByteArray) : (getE k g).isSome = (hitP k ps).isSome := by rw [t.same]; simp

theorem rise_nodup {ps : List Pr} (h : Rise ps) : (ps.map (·.key)).Nodup :=
  List.pairwise_map.2 (h.imp fun {a b} hab (e : a.key = b.key) => by rw [e] at hab; exact lt_irr _ hab)

theorem TW.perm {g : List En} {ps : List Pr} (t : TW g ps) (hn : (keysE g).Nodup) : (keysE g).Perm (ps.map (·.key)) := by
  refine (List.perm_ext_iff_of_nodup hn (rise_nodup t.rise)).2 fun k => ?_
  have h1 : k ∈ keysE g ↔ getE k g ≠ none := by
    rw [ne_eq, ← get_none]
    simp
  rw [h1, t.same, ne_eq, Option.map_eq_none_iff]
  constructor
  · intro h
    cases hh : hitP k ps with
    | none => exact absurd hh h
    | some p =>
      obtain ⟨h2, h3⟩ := hit_mem hh
      exact List.mem_map.2 ⟨p, h2, h3⟩
  · intro h e
    obtain ⟨p, h2, rfl⟩ := List.mem_map.1 h
    rw [hit_of t.rise h2] at e
    cases e

/-- Sorted, a table's keys are the document's. -/
theorem TW.sorted {g : List En} {ps : List Pr} (t : TW g ps) (hn : (keysE g).Nodup) : srtK (g.map ME) = ps.map fun p => kl p.key := by
  have e : (g.map ME).map (fun e => keyB e.key) = (keysE g).map kl := by
    rw [keysE, List.map_map, List.map_map]
    rfl
  unfold srtK
  rw [e]
  have tr : ∀ a b c : List UInt8, decide (a ≤ b) = true → decide (b ≤ c) = true → decide (a ≤ c) = true := fun a b c h1 h2 => by simp only [decide_eq_true_eq] at *; exact List.le_trans h1 h2
  have to : ∀ a b : List UInt8, (decide (a ≤ b) || decide (b ≤ a)) = true := fun a b => by simp only [Bool.or_eq_true, decide_eq_true_eq]; exact List.le_total a b
  refine List.Perm.eq_of_pairwise (le := fun a b => decide (a ≤ b) = true) (fun a b _ _ h1 h2 => ?_) (List.pairwise_mergeSort tr to _) ?_ ((List.mergeSort_perm _ _).trans ?_)
  · simp only [decide_eq_true_eq] at h1 h2
    exact List.le_antisymm h1 h2
  · refine List.pairwise_map.2 (t.rise.imp fun {a b} hab => ?_)
    simp only [decide_eq_true_eq]
    exact List.le_of_lt hab
  · have := (t.perm hn).map kl
    rw [List.map_map] at this
    exact this

end Go.Abs

set_option linter.unusedSimpArgs false
set_option linter.unusedVariables false
namespace Go.Abs
open Go
variable {E : FE} {h h' : AHeap} {fp : List Nat} {p : V} {s : SpM}

section
variable {α : Type} (f : α → List V) (n : Nat) (hf : ∀ a, (f a).length = n)
include hf

theorem fm_len (l : List α) : (l.flatMap f).length = l.length * n := by
  induction l with
  | nil => simp
  | cons a l ih => rw [List.flatMap_cons, List.length_append, ih, hf, List.length_cons, Nat.succ_mul]; omega

theorem fm_take (l : List α) : ∀ i, (l.flatMap f).take (i * n) = (l.take i).flatMap f := by
  induction l with
  | nil => intro i; simp
  | cons a l ih =>
    intro i
    cases i with
    | zero => simp
    | succ i =>
      have e : (f a).take (i * n + n) = f a := List.take_of_length_le (by rw [hf]; omega)
      rw [List.take_succ_cons, List.flatMap_cons, List.flatMap_cons, Nat.succ_mul, List.take_append, e, hf, Nat.add_sub_cancel, ih]

theorem fm_drop (l : List α) : ∀ i, (l.flatMap f).drop (i * n) = (l.drop i).flatMap f := by
  induction l with
  | nil => intro i; simp
  | cons a l ih =>
    intro i
    cases i with
    | zero => simp
    | succ i =>
      have e : (f a).drop (i * n + n) = [] := List.drop_of_length_le (by rw [hf]; omega)
      rw [List.drop_succ_cons, List.flatMap_cons, Nat.succ_mul, List.drop_append, e, hf, Nat.add_sub_cancel, ih, List.nil_append]

theorem fm_get (l : List α) {i : Nat} {a : α} (hi : l[i]? = some a) {j : Nat} (hj : j < n) : (l.flatMap f)[i * n + j]? = (f a)[j]? := by
  have h1 := congrArg (fun x => x[j]?) (fm_drop f n hf l i)
  simp only [List.getElem?_drop] at h1
  rw [h1]
  have hl : i < l.length := (List.getElem?_eq_some_iff.1 hi).1
  have ha : l[i] = a := (List.getElem?_eq_some_iff.1 hi).2
  rw [List.drop_eq_getElem_cons hl, List.flatMap_cons, List.getElem?_append_left (by rw [hf]; exact hj), ha]

theorem fm_set (l : List α) {i : Nat} (hi : i < l.length) (a : α) : setList (l.flatMap f) (i * n) (f a) = (l.set i a).flatMap f := by
  have hl := fm_len f n hf l
  have hm : (i + 1) * n ≤ l.length * n := Nat.mul_le_mul_right _ hi
  rw [Nat.succ_mul] at hm
  rw [setList_eq _ _ _ (by rw [hf, hl]; exact hm), hf, show i * n + n = (i + 1) * n by rw [Nat.succ_mul], fm_take f n hf, fm_drop f n hf, List.set_eq_take_append_cons_drop, if_pos hi, List.flatMap_append, List.flatMap_cons, List.append_assoc]

end

/-- A row of a list. -/
theorem Sl.at {v : V} {es n : Nat} {cs : List V} (c : Sl h fp v es n cs) {i : Nat} (hi : i < n) :
    ∃ b, fp = [b] ∧ indexAddrD (.slice es) v (i64 i) = some (ptr b (i * es)) ∧ ∀ j, j < es → h.rd b (i * es + j) = cs[i * es + j]? := by
  obtain ⟨h0, ⟨rfl, h1, rfl⟩ | ⟨b, cp, all, rfl, rfl, hb, hc, h2, h3, h4⟩⟩ := c
  · omega
  have b1 : (0 : Int) ≤ (i : Int) ∧ (i : Int) < (n : Nat) := by omega
  refine ⟨b, rfl, by simp only [indexAddrD, if_pos b1, Int.toNat_natCast, Nat.zero_add], fun j hj => ?_⟩
  have : (i + 1) * es ≤ n * es := Nat.mul_le_mul_right _ hi
  rw [Nat.succ_mul] at this
  rw [rd_of h2, ← h4, List.getElem?_take, if_pos (by omega)]

/-- A row of a list is written. -/
theorem Sl.setRow {v x : V} {es n : Nat} {cs row : List V} (c : Sl h fp v es n cs) {i : Nat} (hi : i < n) (hr : row.length = es) (hr1 : row.all oneCell = true) (hx : cellsOf x = some row) :
    ∃ b h2, fp = [b] ∧ indexAddrD (.slice es) v (i64 i) = some (ptr b (i * es)) ∧ stD (some es) (ptr b (i * es)) x h = some h2 ∧ Sl h2 fp v es n (setList cs (i * es) row) ∧ Mod h fp h2 fp := by
  have hlt := c.lt
  obtain ⟨h0, ⟨rfl, h1, rfl⟩ | ⟨b, cp, all, rfl, rfl, hb, hc, h2, h3, h4⟩⟩ := c
  · omega
  have b1 : (0 : Int) ≤ (i : Int) ∧ (i : Int) < (n : Nat) := by omega
  have hm : (i + 1) * es ≤ n * es := Nat.mul_le_mul_right _ hi
  have hm2 : n * es ≤ all.length := Nat.le_trans (Nat.mul_le_mul_right _ hc) h3
  rw [Nat.succ_mul] at hm
  refine ⟨b, h.put b (.cells (setList all (i * es) row) es .rw), rfl, by simp only [indexAddrD, if_pos b1, Int.toNat_natCast, Nat.zero_add], st_of h2 (by simp) hx hr hr1 (by omega), ?_, ?_⟩
  · have e1 : setList all (i * es) row = all.take (i * es) ++ row ++ all.drop (i * es + row.length) := setList_eq _ _ _ (by omega)
    have e2 : setList cs (i * es) row = cs.take (i * es) ++ row ++ cs.drop (i * es + row.length) := setList_eq _ _ _ (by omega)
    have l1 : (setList all (i * es) row).length = all.length := by rw [e1]; simp; omega
    have l2 : (setList cs (i * es) row).length = cs.length := by rw [e2]; simp; omega
    refine ⟨by rw [l2]; exact h0, .inr ⟨b, cp, setList all (i * es) row, rfl, rfl, hb, hc, by simp, by rw [l1]; exact h3, ?_⟩⟩
    rw [e1, e2, ← h4, List.take_take, Nat.min_eq_left (by omega), List.take_append, List.take_of_length_le (by simp; omega), List.append_cancel_left_eq]
    simp only [List.length_append, List.length_take, hr]
    rw [Nat.min_eq_left (by omega), List.drop_take]
  · exact ⟨Nat.le_refl _, fun y hy hn => by
      have : y ≠ b := by simpa using hn
      simp [this], fun y hy => .inl hy, fun y hy => by simpa using hlt y hy⟩

theorem prc_len (p : Pr) : p.cells.length = 3 := rfl

variable {b : Nat} {fP fI fL : List Nat} {vP vI vL : V}

/-- New pairs are stored. -/
theorem SpC.setPairs (c : SpC h b fP fI fL vP vI vL s) {fP' : List Nat} {vP' : V} {l : List Pr} (m : Mod h fP h' fP') (hP : Prs h' fP' vP' l) :
    let h2 := h'.put b (.cells [str s.name, i64 s.kind, vP', i64 s.most, vI, vL, i64 s.next] 7 .rw)
    SpC h2 b fP' fI fL vP' vI vL { s with pairs := l } ∧ Mod h (b :: (fP ++ (fI ++ fL))) h2 (b :: (fP' ++ (fI ++ fL))) := by
  intro h2
  have bP' : b ∉ fP' := fun hx => by rcases m.new b hx with hx | hx; exact c.bP hx; have := c.b_lt; omega
  have put : ∀ x, x ≠ b → h2.get x = h'.get x := fun x hx => by simp [h2, hx]
  have hn : h2.next = h'.next := rfl
  have oldI : ∀ x ∈ fI, h2.get x = h.get x := fun x hx => by rw [put x fun e => c.bI (e ▸ hx), m.same x (c.items.lt x hx) fun hx' => c.PI x hx' hx]
  have oldL : ∀ x ∈ fL, h2.get x = h.get x := fun x hx => by rw [put x fun e => c.bL (e ▸ hx), m.same x (c.lost.lt x hx) fun hx' => c.PL x hx' hx]
  have hc : SpC h2 b fP' fI fL vP' vI vL { s with pairs := l } := by
    refine ⟨?_, ?_, hP.same ?_ fun x hx => put x fun e => bP' (e ▸ hx), c.items.same ?_ oldI, c.lost.same ?_ oldL, bP', c.bI, c.bL, fun x hx hx' => ?_, fun x hx hx' => ?_, c.IL⟩
    · have := c.b_lt; have := m.next; rw [hn]; omega
    · simp [h2]
    · rw [hn]; exact Nat.le_refl _
    · rw [hn]; exact m.next
    · rw [hn]; exact m.next
    · rcases m.new x hx with h1 | h1
      · exact c.PI x h1 hx'
      · have := c.items.lt x hx'; omega
    · rcases m.new x hx with h1 | h1
      · exact c.PL x h1 hx'
      · have := c.lost.lt x hx'; omega
  refine ⟨hc, ?_, fun x hx hnx => ?_, fun x hx => ?_, hc.lt⟩
  · rw [hn]; exact m.next
  · simp only [List.mem_cons, List.mem_append, not_or] at hnx
    rw [put x hnx.1, m.same x hx hnx.2.1]
  · simp only [List.mem_cons, List.mem_append] at hx ⊢
    rcases hx with rfl | hx | hx | hx
    · simp
    · rcases m.new x hx with h1 | h1
      · simp [h1]
      · exact .inr h1
    · simp [hx]
    · simp [hx]

/-- Pairs are written where they are. -/
theorem SpC.inPairs (c : SpC h b fP fI fL vP vI vL s) {l : List Pr} (m : Mod h fP h' fP) (hP : Prs h' fP vP l) :
    SpC h' b fP fI fL vP vI vL { s with pairs := l } ∧ Mod h (b :: (fP ++ (fI ++ fL))) h' (b :: (fP ++ (fI ++ fL))) := by
  have hc : SpC h' b fP fI fL vP vI vL { s with pairs := l } :=
    ⟨by have := c.b_lt; have := m.next; omega, by rw [m.same b c.b_lt c.bP]; exact c.cell, hP, c.items.same m.next fun x hx => m.same x (c.items.lt x hx) fun hx' => c.PI x hx' hx,
      c.lost.same m.next fun x hx => m.same x (c.lost.lt x hx) fun hx' => c.PL x hx' hx, c.bP, c.bI, c.bL, c.PI, c.PL, c.IL⟩
  refine ⟨hc, m.next, fun x hx hnx => ?_, fun x hx => .inl hx, hc.lt⟩
  simp only [List.mem_cons, List.mem_append, not_or] at hnx
  exact m.same x hx hnx.2.1

/-- A pair of a space's. -/
theorem Prs.at {v : V} {l : List Pr} (c : Prs h fp v l) {i : Nat} {q : Pr} (hi : l[i]? = some q) :
    ∃ b, fp = [b] ∧ indexAddrD (.slice 3) v (i64 i) = some (ptr b (i * 3)) ∧ h.rd b (i * 3) = some (str q.key) ∧ h.rd b (i * 3 + 1) = some (str q.val) ∧ h.rd b (i * 3 + 2) = some (i64 q.at_) := by
  obtain ⟨b, h1, h2, h3⟩ := Sl.at c (List.getElem?_eq_some_iff.1 hi).1
  have k := fun j hj => (h3 j hj).trans (fm_get Pr.cells 3 prc_len l hi hj)
  exact ⟨b, h1, h2, k 0 (by decide), k 1 (by decide), k 2 (by decide)⟩

/-- Where a key is, or belongs. -/
theorem ref8_at (c : Sp h fp p s) (k : ByteArray) (hsz : s.pairs.length ≤ 1000000) :
    cl (F.estafetteref8_Space_at E) [p, str k] h fun r h' => h' = h ∧ r = .tuple #[i64 (posP k s.pairs), .bool (hitP k s.pairs).isSome] := by
  obtain ⟨b, fP, fI, fL, vP, vI, vL, rfl, rfl, c⟩ := c
  refine cl_of ?_
  simp only [F.estafetteref8_Space_at]
  have hlenP := Sl.len c.pairs
  have hpos := posP_le k s.pairs
  refine ⟨fun n vs h' => ∃ i : Nat, i ≤ posP k s.pairs ∧ n = s.pairs.length - i ∧ vs = [i64 i] ∧ h' = h, s.pairs.length, ⟨0, by omega, by omega, rfl, rfl⟩, ?_⟩
  rintro n e h1 ⟨i, hi, rfl, he, rfl⟩
  simp only [List.cons.injEq, and_true] at he
  simp only [he, aNil_ptr, kv_some, fieldAddr_ptr, ld_one, Nat.zero_add, rd_of c.cell, List.getElem?_cons_succ, List.getElem?_cons_zero, hlenP, bin_lss]
  by_cases hx : i < s.pairs.length
  · have hx' : (i : Int) < (s.pairs.length : Nat) := by omega
    obtain ⟨q, hq⟩ : ∃ q, s.pairs[i]? = some q := ⟨s.pairs[i], by simp [hx]⟩
    obtain ⟨bp, _, i1, i2, _⟩ := Prs.at c.pairs hq
    simp only [hx', decide_true, gdV_bool, if_true, aNil_ptr, kv_some, fieldAddr_ptr, ld_one, Nat.zero_add, rd_of c.cell, List.getElem?_cons_succ, List.getElem?_cons_zero, i1, Nat.add_zero, i2, str_lss, pickV_bool, ifV_bool, str_eql]
    by_cases hk : kl q.key < kl k
    · have hlt : i < posP k s.pairs := by
        rcases Nat.lt_or_ge i (posP k s.pairs) with h2 | h2
        · exact h2
        · have : i = posP k s.pairs := by omega
          subst this
          exact absurd hk (posP_at k _ _ hq)
      simp only [hk, decide_true, if_true]
      rw [add_i64 _ 1 (by omega) (by omega), kv_some]
      exact ⟨s.pairs.length - (i + 1), by omega, i + 1, by omega, rfl, by simp, trivial⟩
    · have hge : i = posP k s.pairs := by
        rcases Nat.lt_or_ge i (posP k s.pairs) with h2 | h2
        · exact absurd (posP_lt k _ _ _ hq h2) hk
        · omega
      simp only [hk, decide_false, Bool.false_eq_true, if_false]
      refine ⟨trivial, ?_⟩
      rw [hit_eq, ← hge, hq]
      by_cases hkk : q.key = k
      · simp [hkk]
      · simp [hkk]
  · have hx' : ¬ (i : Int) < (s.pairs.length : Nat) := by omega
    have hge : i = posP k s.pairs := by omega
    simp only [hx', decide_false, gdV_bool, Bool.false_eq_true, if_false, kv_some, gdV_gone, pickV_bool, ifV_bool]
    refine ⟨trivial, ?_⟩
    have : s.pairs[posP k s.pairs]? = none := by rw [← hge]; simp; omega
    rw [hit_eq, this, ← hge]
    rfl

theorem ref8_Get (c : Sp h fp p s) (k : ByteArray) (hsz : s.pairs.length ≤ 1000000) :
    cl (F.estafetteref8_Space_Get E) [p, str k] h fun r h' => h' = h ∧ r = .tuple #[(((hitP k s.pairs).map fun q => str q.val).getD (str ⟨#[]⟩)), .bool (hitP k s.pairs).isSome] := by
  have hat := ref8_at (E := E) c k hsz
  obtain ⟨b, fP, fI, fL, vP, vI, vL, rfl, rfl, c⟩ := c
  refine cl_of ?_
  simp only [F.estafetteref8_Space_Get]
  refine cl_then hat ?_
  rintro r h' ⟨eh, rfl⟩
  rw [eh]
  simp only [extract_tuple, List.getElem?_toArray, List.getElem?_cons_zero, List.getElem?_cons_succ, kv_some, not_bool, ifV_bool]
  cases hh : hitP k s.pairs with
  | none => simp
  | some q =>
    have hq : s.pairs[posP k s.pairs]? = some q := by
      rw [hit_eq] at hh
      obtain ⟨q', h1, h2⟩ := Option.bind_eq_some_iff.1 hh
      split at h2
      · cases h2; exact h1
      · cases h2
    obtain ⟨bp, _, i1, _, i2, _⟩ := Prs.at c.pairs hq
    simp only [Option.isSome_some, Bool.not_true, Bool.false_eq_true, if_false, aNil_ptr, kv_some, fieldAddr_ptr, ld_one, Nat.zero_add, rd_of c.cell, List.getElem?_cons_succ, List.getElem?_cons_zero, i1, i2]
    exact ⟨trivial, rfl⟩

/-- A list with one more row at i, laid anew: the row is made first. -/
theorem Sl.within2 {v : V} {es n bytes : Nat} {cs z row : List V} (c : Sl h fp v es n cs) (hz : z.length = es) (he : 0 < es) (hby : bytes ≤ 64) (h1 : cs.all oneCell = true) (hr : row.length = es) (hr1 : row.all oneCell = true) (hsz : n ≤ 1000000) {i : Nat} (hi : i ≤ n) {t : IntKind} :
    ∃ v1 v2 v3 h3, sliceD (.slice es) v none (some (.int t i)) none h = some v1 ∧ sliceD (.slice es) v (some (.int t i)) none none h = some v2 ∧ Mod h [] (h.new (.cells row es .rw)) [] ∧
      appendD (some (es, bytes, z)) (.slice none 0 0) v1 (h.new (.cells row es .rw)) = some (v3, h3) ∧ Mod h [] h3 [] ∧
      ∃ v4 h4, appendD (some (es, bytes, z)) v3 (.slice (some ⟨h.next, 0, none⟩) 1 2) h3 = some (v4, h4) ∧ Mod h [] h4 [] ∧
      ∃ v5 h5 fp5, appendD (some (es, bytes, z)) v4 v2 h4 = some (v5, h5) ∧ Sl h5 fp5 v5 es (n + 1) (cs.take (i * es) ++ (row ++ cs.drop (i * es))) ∧ Mod h [] h5 fp5 := by
  have m0 : Mod h [] (h.new (.cells row es .rw)) [] := Mod.newBox (by simp)
  have c0 : Sl (h.new (.cells row es .rw)) fp v es n cs := c.same m0.next fun x hx => m0.same x (c.lt x hx) (by simp)
  have sl : ∀ lo hi' mx, sliceD (.slice es) v lo hi' mx (h.new (.cells row es .rw)) = sliceD (.slice es) v lo hi' mx h := c.slice_same fun x hx => m0.same x (c.lt x hx) (by simp)
  obtain ⟨v1, a1, a2⟩ := c0.pre (k := i) (t := t) (by omega)
  have hall : ∀ (l l' : List V), (∀ x ∈ l, x ∈ l') → l'.all oneCell = true → l.all oneCell = true := fun l l' hs hl => by
    rw [List.all_eq_true] at hl ⊢
    exact fun x hx => hl x (hs x hx)
  obtain ⟨v3, h3, fp3, b1, b2, b3⟩ := a2.fresh (bytes := bytes) (z := z) hz he hby (hall _ _ (fun x hx => List.mem_of_mem_take hx) h1) (by omega)
  have g3 : h3.get h.next = some (.cells row es .rw) := by rw [b3.same h.next (by simp) (by simp)]; simp
  obtain ⟨v4, h4, fp4, e1, e2, e3⟩ := Sl.append b2 (x := .slice (some ⟨h.next, 0, none⟩) 1 2) (k := 1) (bytes := bytes) (z := z) (new := row) hz he hby rfl
    (fun _ => by simp [aSrc, sliceCells, AHeap.rdN, g3, hr]; rw [List.take_of_length_le (by omega)]) (by omega) hr1 (by omega)
  have m3 : Mod h [] h3 fp3 := m0.trans b3
  have m4 : Mod h [] h4 fp4 := m3.trans e3
  have c4 : Sl h4 fp v es n cs := c.same m4.next fun x hx => m4.same x (c.lt x hx) (by simp)
  obtain ⟨v2, d1, d2, d3⟩ := c4.post (k := i) (t := t) (by omega)
  obtain ⟨v5, h5, fp5, f1, f2, f3⟩ := Sl.append e2 (x := v2) (k := n - i) (bytes := bytes) (z := z) (new := cs.drop (i * es)) hz he hby d2 d3 (by rw [List.length_drop, c.1]; rw [Nat.sub_mul]) (hall _ _ (fun x hx => List.mem_of_mem_drop hx) h1) (by omega)
  refine ⟨v1, v2, v3, h3, (sl _ _ _).symm.trans a1, (c.slice_same (fun x hx => m4.same x (c.lt x hx) (by simp)) _ _ _).symm.trans d1, m0, b1, ⟨m3.next, m3.same, by simp, by simp⟩, v4, h4, e1, ⟨m4.next, m4.same, by simp, by simp⟩, v5, h5, fp5, f1, ?_, m4.trans f3⟩
  have : i + 1 + (n - i) = n + 1 := by omega
  rw [this, List.append_assoc] at f2
  exact f2

abbrev Pr.agg (q : Pr) : V := .agg #[str q.key, str q.val, i64 q.at_]

theorem Mod.of_nil {h h' : AHeap} {fp a : List Nat} (m : Mod h [] h' a) : Mod h fp h' a := ⟨m.next, fun x hx _ => m.same x hx (by simp), fun x hx => by rcases m.new x hx with h1 | h1; simp at h1; exact .inr h1, m.lt⟩

theorem ref8_put (c : Sp h fp p s) (q : Pr) (hsz : s.pairs.length ≤ 1000000) :
    cl (F.estafetteref8_Space_put E) [p, q.agg] h fun r h' => r = .tuple #[] ∧ ∃ fp', Sp h' fp' p { s with pairs := putP q s.pairs } ∧ Mod h fp h' fp' := by
  have e2 : newD none q.agg h = some (ptr h.next 0, h.new (.cells q.cells 3 .rw)) := rfl
  have m0 : Mod h fp (h.new (.cells q.cells 3 .rw)) fp := Mod.newBox c.lt
  have g0 : (h.new (.cells q.cells 3 .rw)).get h.next = some (.cells q.cells 3 .rw) := by simp
  have c0 : Sp (h.new (.cells q.cells 3 .rw)) fp p s := c.same (by simp) fun x hx => by
    have := c.lt x hx
    have : x ≠ h.next := by omega
    simp [this]
  have hn0 : h.next < (h.new (.cells q.cells 3 .rw)).next := by simp
  refine cl_of ?_
  simp only [F.estafetteref8_Space_put, e2, kP_some, fieldAddr_ptr, ld_one, kv_some, Nat.zero_add]
  generalize h.new (.cells q.cells 3 .rw) = g at m0 g0 c0 hn0 ⊢
  generalize h.next = bx at g0 hn0 ⊢
  have r0 : g.rd bx 0 = some (str q.key) := rd_of g0 0
  simp only [r0, kv_some]
  refine cl_then (ref8_at c0 q.key hsz) ?_
  rintro r h' ⟨eh, rfl⟩
  rw [eh]
  have hag : ∀ {g' : AHeap}, g'.get bx = some (.cells q.cells 3 .rw) → ldD (.agg 3) (ptr bx 0) g' = some q.agg := fun hg => by simp only [ld_agg, rdN_of hg]; rfl
  obtain ⟨b, fP, fI, fL, vP, vI, vL, rfl, rfl, c0⟩ := c0
  simp only [extract_tuple, List.getElem?_toArray, List.getElem?_cons_zero, List.getElem?_cons_succ, kv_some, ifV_bool, aNil_ptr, fieldAddr_ptr, ld_one, Nat.zero_add, rd_of c0.cell, hag g0]
  have hpos := posP_le q.key s.pairs
  cases hh : hitP q.key s.pairs with
  | some q' =>
    simp only [Option.isSome_some, if_true]
    have hlt : posP q.key s.pairs < s.pairs.length := by
      rw [hit_eq] at hh
      obtain ⟨q'', h1, _⟩ := Option.bind_eq_some_iff.1 hh
      exact (List.getElem?_eq_some_iff.1 h1).1
    obtain ⟨bp, g2, _, i1, i2, i3, i4⟩ := Sl.setRow c0.pairs hlt (row := q.cells) (x := q.agg) rfl rfl rfl
    simp only [i1, kv_some]
    rw [i2, kH_some]
    rw [fm_set Pr.cells 3 prc_len _ hlt] at i3
    have e3 : putP q s.pairs = s.pairs.set (posP q.key s.pairs) q := by rw [put_eq, hh]; rfl
    have hP : Prs g2 fP vP (putP q s.pairs) := by
      rw [e3]
      unfold Prs
      rw [List.length_set]
      exact i3
    obtain ⟨c1, m1⟩ := c0.inPairs i4 hP
    exact ⟨trivial, _, ⟨b, fP, fI, fL, vP, vI, vL, rfl, rfl, c1⟩, m0.trans m1⟩
  | none =>
    simp only [Option.isSome_none, Bool.false_eq_true, if_false]
    have e3 : putP q s.pairs = s.pairs.take (posP q.key s.pairs) ++ q :: s.pairs.drop (posP q.key s.pairs) := by rw [put_eq, hh]; rfl
    have hPof : ∀ {g5 : AHeap} {fp5 : List Nat} {v5 : V}, Sl g5 fp5 v5 3 (s.pairs.length + 1) ((s.pairs.flatMap Pr.cells).take (posP q.key s.pairs * 3) ++ (q.cells ++ (s.pairs.flatMap Pr.cells).drop (posP q.key s.pairs * 3))) → Prs g5 fp5 v5 (putP q s.pairs) := by
      intro g5 fp5 v5 hs
      unfold Prs
      rw [e3]
      have : (s.pairs.take (posP q.key s.pairs) ++ q :: s.pairs.drop (posP q.key s.pairs)).length = s.pairs.length + 1 := by simp; omega
      rw [this, List.flatMap_append, List.flatMap_cons, ← fm_take Pr.cells 3 prc_len, ← fm_drop Pr.cells 3 prc_len]
      exact hs
    have eb : ∀ g' : AHeap, buildSliceD (some (3, [(.string ⟨#[]⟩), (.string ⟨#[]⟩), (.int .i64 0)])) 1 [(0, q.agg)] g' = some (.slice (some ⟨g'.next, 0, none⟩) 1 2, g'.new (.cells q.cells 3 .rw)) := fun _ => rfl
    have keepC : ∀ {g' : AHeap}, Mod g [] g' [] → SpC g' b fP fI fL vP vI vL s := fun m => c0.same m.next fun x hx => m.same x (c0.lt x hx) (by simp)
    have ldP : ∀ {g' : AHeap}, Mod g [] g' [] → g'.rd b 2 = some vP := fun m => by rw [rd_of (keepC m).cell]; rfl
    have ldB : ∀ {g' : AHeap}, Mod g [] g' [] → ldD (.agg 3) (ptr bx 0) g' = some q.agg := fun m => hag (by rw [m.same bx hn0 (by simp), g0])
    have keepS : ∀ {g' : AHeap}, Mod g [] g' [] → ∀ lo hi mx, sliceD (.slice 3) vP lo hi mx g' = sliceD (.slice 3) vP lo hi mx g := fun m => Sl.slice_same c0.pairs fun x hx => m.same x (Sl.lt c0.pairs x hx) (by simp)
    obtain ⟨v1, v2, v3, g3, s1, s2, s3, m3, v4, g4, s4, m4, v5, g5, fp5, s5, s6, m5⟩ := Sl.within c0.pairs (bytes := 40) (z := [(.string ⟨#[]⟩), (.string ⟨#[]⟩), (.int .i64 0)]) (row := q.cells) rfl (by decide) (by decide) (prs_one _) rfl rfl hsz hpos (t := .i64)
    obtain ⟨v1', v2', w3, k3, t1, t2, n0, t3, n3, w4, k4, t4, n4, w5, k5, fq5, t5, t6, n5⟩ := Sl.within2 c0.pairs (bytes := 40) (z := [(.string ⟨#[]⟩), (.string ⟨#[]⟩), (.int .i64 0)]) (row := q.cells) rfl (by decide) (by decide) (prs_one _) rfl rfl hsz hpos (t := .i64)
    rw [s1] at t1
    rw [s2] at t2
    cases t1
    cases t2
    simp only [s1, s2, kv_some]
    refine ⟨?_, ?_⟩
    · rw [s3, kP_some]
      refine ⟨ldB m3, ldP m3, (keepS m3 _ _ _).trans s2, ?_⟩
      rw [eb, kP_some]
      have mN : Mod g [] (g3.new (.cells q.cells 3 .rw)) [] := m3.trans (Mod.newBox (by simp))
      refine ⟨ldP mN, (keepS mN _ _ _).trans s1, ldP mN, (keepS mN _ _ _).trans s2, ?_⟩
      rw [s4, kP_some]
      refine ⟨ldP m4, (keepS m4 _ _ _).trans s2, ?_⟩
      rw [s5, kP_some]
      have g5b : g5.get b = some (.cells [str s.name, i64 s.kind, vP, i64 s.most, vI, vL, i64 s.next] 7 .rw) := by rw [m5.same b c0.b_lt (by simp)]; exact c0.cell
      obtain ⟨q1, q2⟩ := Sl.cell s6
      rw [st_one g5b (by simp) q1 q2 (by simp)]
      simp only [kH_some, List.set_cons_succ, List.set_cons_zero]
      obtain ⟨c6, m6⟩ := c0.setPairs m5.of_nil (hPof s6)
      exact ⟨trivial, _, ⟨b, fp5, fI, fL, v5, vI, vL, rfl, rfl, c6⟩, m0.trans m6⟩
    · rw [eb, kP_some]
      refine ⟨ldP n0, (keepS n0 _ _ _).trans s1, ldP n0, (keepS n0 _ _ _).trans s2, ?_⟩
      rw [t3, kP_some]
      refine ⟨ldB n3, ldP n3, (keepS n3 _ _ _).trans s2, ?_⟩
      rw [t4, kP_some]
      refine ⟨ldP n4, (keepS n4 _ _ _).trans s2, ?_⟩
      rw [t5, kP_some]
      have g5b : k5.get b = some (.cells [str s.name, i64 s.kind, vP, i64 s.most, vI, vL, i64 s.next] 7 .rw) := by rw [n5.same b c0.b_lt (by simp)]; exact c0.cell
      obtain ⟨q1, q2⟩ := Sl.cell t6
      rw [st_one g5b (by simp) q1 q2 (by simp)]
      simp only [kH_some, List.set_cons_succ, List.set_cons_zero]
      obtain ⟨c6, m6⟩ := c0.setPairs n5.of_nil (hPof t6)
      exact ⟨trivial, _, ⟨b, fq5, fI, fL, w5, vI, vL, rfl, rfl, c6⟩, m0.trans m6⟩

theorem ref8_Put (c : Sp h fp p s) (k v : ByteArray) (hsz : s.pairs.length ≤ 1000000) :
    cl (F.estafetteref8_Space_Put E) [p, str k, str v] h fun r h' => r = .bool (!(hitP k s.pairs).isSome) ∧ ∃ fp', Sp h' fp' p { s with pairs := putP ⟨k, v, 0⟩ s.pairs } ∧ Mod h fp h' fp' := by
  refine cl_of ?_
  simp only [F.estafetteref8_Space_Put]
  refine cl_then (ref8_at c k hsz) ?_
  rintro r h' ⟨eh, rfl⟩
  rw [eh]
  have e1 : buildD (.struct [(.string ⟨#[]⟩), (.string ⟨#[]⟩), (.int .i64 0)] [(0, 1), (1, 1), (2, 1)]) [(0, str k), (1, str v)] = some (.agg #[str k, str v, i64 0]) := rfl
  simp only [extract_tuple, List.getElem?_toArray, List.getElem?_cons_zero, List.getElem?_cons_succ, kv_some, e1]
  refine cl_then (ref8_put c ⟨k, v, 0⟩ hsz) ?_
  rintro r2 h2 ⟨_, h3⟩
  simp only [not_bool, kv_some]
  exact ⟨trivial, h3⟩

theorem ref8_Del (c : Sp h fp p s) (k : ByteArray) (hsz : s.pairs.length ≤ 1000000) :
    cl (F.estafetteref8_Space_Del E) [p, str k] h fun r h' => r = .bool (hitP k s.pairs).isSome ∧ ∃ fp', Sp h' fp' p { s with pairs := delP k s.pairs } ∧ Mod h fp h' fp' := by
  have hat := ref8_at (E := E) c k hsz
  have hlt := c.lt
  have c' := c
  obtain ⟨b, fP, fI, fL, vP, vI, vL, rfl, rfl, c⟩ := c
  refine cl_of ?_
  simp only [F.estafetteref8_Space_Del]
  refine cl_then hat ?_
  rintro r h' ⟨eh, rfl⟩
  rw [eh]
  simp only [extract_tuple, List.getElem?_toArray, List.getElem?_cons_zero, List.getElem?_cons_succ, kv_some, ifV_bool, aNil_ptr, fieldAddr_ptr, ld_one, Nat.zero_add, rd_of c.cell]
  cases hh : hitP k s.pairs with
  | none =>
    simp only [Option.isSome_none, Bool.false_eq_true, if_false]
    have e3 : delP k s.pairs = s.pairs := by rw [del_eq, hh]; rfl
    rw [e3]
    exact ⟨trivial, _, c', Mod.refl hlt⟩
  | some q' =>
    simp only [Option.isSome_some, if_true]
    have hlt : posP k s.pairs < s.pairs.length := by
      rw [hit_eq] at hh
      obtain ⟨q'', h1, _⟩ := Option.bind_eq_some_iff.1 hh
      exact (List.getElem?_eq_some_iff.1 h1).1
    have e3 : delP k s.pairs = s.pairs.eraseIdx (posP k s.pairs) := by rw [del_eq, hh]; rfl
    have w : IntKind.i64.wrap ((posP k s.pairs : Int) + 1) = ((posP k s.pairs + 1 : Nat) : Int) := by rw [wrap_i64 (by omega) (by omega)]; omega
    obtain ⟨v1, v2, v3, h4, v4, h5, fP', s1, s2, s3, s4, s5, s6, s7⟩ := Sl.without c.pairs (bytes := 40) (z := [(.string ⟨#[]⟩), (.string ⟨#[]⟩), (.int .i64 0)]) rfl (by decide) (by decide) (prs_one _) hsz hlt (t := .i64)
    have s2' : sliceD (.slice 3) vP (some (i64 ((posP k s.pairs + 1 : Nat) : Int))) none none h4 = some v2 := (c.pairs.slice_same (fun x hx => s5.same x (c.pairs.lt x hx) (by simp)) _ _ _).trans s2
    have c4 : SpC h4 b fP fI fL vP vI vL s := c.same s5.next fun x hx => s5.same x (c.lt x hx) (by simp)
    simp only [s1, kv_some, bin_add, w, s2]
    rw [s3, kP_some]
    simp only [rd_of c4.cell, List.getElem?_cons_succ, List.getElem?_cons_zero, true_and, s2']
    rw [s4, kP_some]
    have g5 : h5.get b = some (.cells [str s.name, i64 s.kind, vP, i64 s.most, vI, vL, i64 s.next] 7 .rw) := by rw [s7.same b c.b_lt (by simp)]; exact c.cell
    obtain ⟨q1, q2⟩ := Sl.cell s6
    rw [st_one g5 (by simp) q1 q2 (by simp)]
    simp only [kH_some, List.set_cons_succ, List.set_cons_zero]
    have hP : Prs h5 fP' v4 (delP k s.pairs) := by
      unfold Prs
      rw [e3, List.length_eraseIdx_of_lt hlt, List.eraseIdx_eq_take_drop_succ, List.flatMap_append, ← fm_take Pr.cells 3 prc_len, ← fm_drop Pr.cells 3 prc_len]
      exact s6
    obtain ⟨c6, m6⟩ := c.setPairs s7.of_nil hP
    exact ⟨_, ⟨b, fP', fI, fL, v4, vI, vL, rfl, rfl, c6⟩, m6⟩

end Go.Abs

set_option linter.unusedSimpArgs false
set_option linter.unusedVariables false
namespace Go.Abs
open Go Go.Proofs
variable {E : FE} {h : AHeap} {fp : List Nat} {p : V} {l : List En}

theorem table_Clone (t : Tab h fp p l) : cl (F.table_Table_Clone E) [p] h fun r h' => ∃ fp', Tab h' fp' r l ∧ Mod h [] h' fp' := by
  obtain ⟨b, m, clk, rfl, rfl, hne, hb, hm, h1, h2, hn⟩ := t
  refine cl_of ?_
  simp only [F.table_Table_Clone, ptr_eq_nil, kv_some, ifV_bool, Bool.false_eq_true, if_false, aNil_ptr, fieldAddr_ptr, ld_one, Nat.zero_add, rd_of h1, List.getElem?_cons_zero]
  refine cl_of ?_
  simp only [F.maps_Clone_map_string_string_string_string, map_eq_nil, kv_some, ifV_bool, Bool.false_eq_true, if_false, iface]
  refine cl_of ?_
  simp only [F.maps_clone, L.clone, h2, assertD, beq_self_eq_true, Bool.and_self, if_true, Bool.false_eq_true, if_false, kv_some]
  have e1 : ∀ x : Nat, buildD (.struct [(.map none)] [(0, 1)]) [(0, .map (some x))] = some (.agg #[.map (some x)]) := fun _ => rfl
  have e2 : ∀ (x : Nat) (g : AHeap), newD none (.agg #[.map (some x)]) g = some (ptr g.next 0, g.new (.cells [.map (some x)] 1 .rw)) := fun _ _ => rfl
  simp only [e1, e2, kv_some, kP_some]
  refine ⟨[h.next + 1, h.next], ⟨h.next + 1, h.next, clk, by simp, rfl, by simp, by simp, by simp; omega, by simp, by simp, hn⟩, by simp; omega, fun x hx _ => ?_, fun x hx => ?_, fun x hx => ?_⟩
  · have a : x ≠ h.next := by omega
    have a' : x ≠ h.next + 1 := by omega
    simp [a, a']
  · simp at hx; right; omega
  · simp at hx ⊢; omega

theorem srtK_len (es : List MapEntry) : (srtK es).length = es.length := by rw [srtK, List.length_mergeSort, List.length_map]

/-- What slices.Sorted hands back. -/
theorem sorted_row (ks : List (List UInt8)) (h : AHeap) : ∃ fp', Sl (sortH ks h) fp' (sortV ks h) 1 ks.length (ks.map encStr) ∧ Mod h [] (sortH ks h) fp' := by
  unfold sortH sortV
  by_cases hk : ks = []
  · subst hk
    exact ⟨[], Sl.nil, Mod.refl (by simp)⟩
  · rw [if_neg hk, if_neg hk]
    refine ⟨[h.next], ⟨by simp, .inr ⟨h.next, 2 * ks.length + 1, ks.map encStr, rfl, rfl, by simp, by omega, by simp, by simp; omega, by rw [Nat.mul_one, List.take_of_length_le (by simp)]⟩⟩, by simp, fun x hx _ => ?_, by simp, by simp⟩
    have a : x ≠ h.next := by omega
    simp [a]

theorem keys_sorted {b : Nat} {es : Nat} {k : BK} {m clk g : Nat} (hb : h.get b = some (.cells [.map (some m)] es k)) (hm : h.get m = some (.map (l.map ME) clk)) (hn : (keysE l).Nodup ∧ Stp l clk) (hs : ∀ e ∈ l, e.k.size ≤ maxLen) (hl : l.length ≤ 1000)
    (hg : g = E.k 3 ∨ g = E.k 4) {K : V → AHeap → Prop} (hK : K (sortV (srtK (l.map ME)) h) (sortH (srtK (l.map ME)) h)) : F.slices_Sorted_string E [.func (.func g) #[] #[ptr b 0]] h K := by
  refine ⟨rfl, hg, b, m, l.map ME, clk, es, k, rfl, hb, hm, by simpa using hl, fun x hx => ?_, ?_, ?_, hK⟩
  · obtain ⟨e, he, rfl⟩ := List.mem_map.1 hx
    exact ⟨⟨e.k, rfl, hs e he⟩, hn.2.2 e he⟩
  · rw [List.map_map]
    exact hn.2.1
  · rw [List.map_map]
    have h1 := hn.1
    unfold keysE at h1
    refine List.pairwise_map.2 ((List.pairwise_map.1 h1).imp fun {a b} hab e => hab ?_)
    simpa [ME] using e

theorem table_Keys (t : Tab h fp p l) (hs : ∀ e ∈ l, e.k.size ≤ maxLen) (hl : l.length ≤ 1000) :
    cl (F.table_Table_Keys E) [p] h fun r h' => ∃ fp', Sl h' fp' r 1 l.length ((srtK (l.map ME)).map encStr) ∧ Mod h [] h' fp' := by
  obtain ⟨b, m, clk, rfl, rfl, hne, hb, hm, h1, h2, hn⟩ := t
  refine cl_of ?_
  simp only [F.table_Table_Keys, ptr_eq_nil, kv_some, ifV_bool, Bool.false_eq_true, if_false, aNil_ptr, fieldAddr_ptr, ld_one, Nat.zero_add, rd_of h1, List.getElem?_cons_zero]
  refine cl_of ?_
  have e2 : newD none (.map (some m)) h = some (ptr h.next 0, h.new (.cells [.map (some m)] 1 .rw)) := rfl
  simp only [F.maps_Keys_map_string_string_string_string, e2, kP_some]
  refine cl_of ?_
  have m0 : Mod h [] (h.new (.cells [.map (some m)] 1 .rw)) [] := Mod.newBox (by simp)
  show F.slices_Sorted_string E _ _ _
  refine keys_sorted (l := l) (b := h.next) (m := m) (clk := clk) (es := 1) (k := .rw) (by simp) (by simp [Nat.ne_of_lt hm, h2]) hn hs hl (.inl rfl) ?_
  obtain ⟨fp', q1, q2⟩ := sorted_row (srtK (l.map ME)) (h.new (.cells [.map (some m)] 1 .rw))
  rw [srtK_len, List.length_map] at q1
  exact ⟨fp', q1, m0.trans q2⟩

end Go.Abs

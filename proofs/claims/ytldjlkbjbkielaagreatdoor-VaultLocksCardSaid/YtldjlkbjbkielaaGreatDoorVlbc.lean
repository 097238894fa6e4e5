/- The orders of names and of locks. -/
import Derived.Test.YtldjlkbjbkielaaGreatDoorVlbb
import Derived.Test.YtldjlkbjbkielaaGreatDoorVlav
set_option linter.unusedSimpArgs false
set_option linter.unusedVariables false
namespace Go.Abs
open Go
variable {E : FE} {h : AHeap} {fp : List Nat} {v : V}
theorem str_gtr (k : EqK) (c : Bool) (a b : ByteArray) {h : AHeap} : binD k .gtr c (str a) (str b) h = some (.bool (decide (kl b < kl a))) := by
 rw [bin_str]
 show some (Value.bool (!(Op.bytesLess a.toList b.toList || a.toList == b.toList))) = _
 rw [bytesLess_lt, ba_toList, ba_toList]
 congr 2
 show (!(decide (kl a < kl b) || (kl a == kl b))) = decide (kl b < kl a)
 by_cases h1 : kl a < kl b
 · simp [h1, lt_asy h1]
 · by_cases h2 : kl a = kl b
   · simp [h2, lt_irr]
   · simp [h1, h2, lt_tri h1 h2]
def cmpI (x y : Int) : Int := if x < y then -1 else if y < x then 1 else 0
def cmpB (x y : ByteArray) : Int := if kl x < kl y then -1 else if kl y < kl x then 1 else 0
theorem cmp_int (x y : Int) : cl (F.cmp_Compare_int E) [i64 x, i64 y] h fun r h' => r = i64 (cmpI x y) ∧ h' = h := by
 have nan : ∀ (x : Int) (h : AHeap), cl (F.cmp_isNaN_int E) [i64 x] h fun r h' => r = .bool false ∧ h' = h := fun x h => cl_of (by simp [F.cmp_isNaN_int])
 refine cl_of ?_
 simp only [F.cmp_Compare_int]
 refine cl_then (nan x h) ?_
 rintro r h1 ⟨rfl, rfl⟩
 refine cl_then (nan y h1) ?_
 rintro r h2 ⟨rfl, rfl⟩
 simp only [ifV_bool, Bool.false_eq_true, if_false, bin_lss, bin_gtr, kv_some, decide_eq_true_eq, cmpI, gt_iff_lt]
 split
 · exact ⟨rfl, trivial⟩
 · split <;> exact ⟨rfl, trivial⟩
theorem cmp_int64 (x y : Int) : cl (F.cmp_Compare_int64 E) [i64 x, i64 y] h fun r h' => r = i64 (cmpI x y) ∧ h' = h := by
 have nan : ∀ (x : Int) (h : AHeap), cl (F.cmp_isNaN_int64 E) [i64 x] h fun r h' => r = .bool false ∧ h' = h := fun x h => cl_of (by simp [F.cmp_isNaN_int64])
 refine cl_of ?_
 simp only [F.cmp_Compare_int64]
 refine cl_then (nan x h) ?_
 rintro r h1 ⟨rfl, rfl⟩
 refine cl_then (nan y h1) ?_
 rintro r h2 ⟨rfl, rfl⟩
 simp only [ifV_bool, Bool.false_eq_true, if_false, bin_lss, bin_gtr, kv_some, decide_eq_true_eq, cmpI, gt_iff_lt]
 split
 · exact ⟨rfl, trivial⟩
 · split <;> exact ⟨rfl, trivial⟩
theorem str_neq_self (k : EqK) (c : Bool) (a : ByteArray) {h : AHeap} : binD k .neq c (str a) (str a) h = some (.bool false) := by
 rw [bin_str]
 show some (Value.bool (!(a.toList == a.toList))) = _
 simp
theorem cmp_str (x y : ByteArray) : cl (F.cmp_Compare_string E) [str x, str y] h fun r h' => r = i64 (cmpB x y) ∧ h' = h := by
 have nan : ∀ (x : ByteArray) (h : AHeap), cl (F.cmp_isNaN_string E) [str x] h fun r h' => r = .bool false ∧ h' = h := fun x h => cl_of (by
  simp only [F.cmp_isNaN_string, str_neq_self, kv_some]
  exact ⟨trivial, trivial⟩)
 refine cl_of ?_
 simp only [F.cmp_Compare_string]
 refine cl_then (nan x h) ?_
 rintro r h1 ⟨rfl, rfl⟩
 refine cl_then (nan y h1) ?_
 rintro r h2 ⟨rfl, rfl⟩
 simp only [ifV_bool, Bool.false_eq_true, if_false, str_lss, str_gtr, kv_some, decide_eq_true_eq, cmpB]
 split
 · exact ⟨rfl, trivial⟩
 · split <;> exact ⟨rfl, trivial⟩
def orI : List Int → Int
 | [] => 0
 | x :: l => if x ≠ 0 then x else orI l
def dInt : EL Int := ⟨1, fun x => [i64 x], fun _ => rfl, fun _ => rfl, by decide⟩
theorem orI_drop : ∀ (l : List Int) (i : Nat), (∀ j x, j < i → l[j]? = some x → x = 0) → orI l = orI (l.drop i)
 | [], i, _ => by simp
 | x :: l, 0, _ => rfl
 | x :: l, i + 1, hz => by
  have : x = 0 := hz 0 x (by omega) rfl
  subst this
  rw [List.drop_succ_cons, ← orI_drop l i fun j x hj hx => hz (j + 1) x (by omega) (by simpa using hx)]
  simp [orI]
theorem or_spec {l : List Int} (s : SlE dInt h fp v l) (hsz : l.length ≤ 1000) : cl (F.cmp_Or_int E) [v] h fun r h' => r = i64 (orI l) ∧ h' = h := by
 refine cl_of ?_
 simp only [F.cmp_Or_int, s.len, kv_some]
 refine ⟨fun n vs h' => ∃ i : Nat, vs = [i64 i] ∧ n = l.length - i ∧ i ≤ l.length ∧ h' = h ∧ ∀ j x, j < i → l[j]? = some x → x = 0, l.length, ⟨0, rfl, by omega, by omega, rfl, fun j x hj => by omega⟩, ?_⟩
 rintro n e h1 ⟨i, he, rfl, hi, rfl, hz⟩
 simp only [List.cons.injEq, and_true] at he
 simp only [he, bin_lss, kv_some, ifV_bool]
 by_cases hx : i < l.length
 · have : ((i : Nat) : Int) < (l.length : Nat) := by omega
   simp only [this, decide_true, if_true]
   have hg : l[i]? = some l[i] := List.getElem?_eq_getElem hx
   obtain ⟨b, _, i1, _, i3⟩ := s.at hg
   have i1 : indexAddrD (.slice 1) v (i64 i) = some (ptr b (i * 1)) := i1
   have i3 := i3 0 (by decide)
   have i4 : h1.rd b (i * 1) = some (i64 l[i]) := i3
   simp only [i1, kv_some, ld_one, i4, bin_neq, ifV_bool]
   have hd := orI_drop l i hz
   rw [List.drop_eq_getElem_cons hx] at hd
   by_cases h0 : l[i] = 0
   · have : (l[i] != 0) = false := by simp [h0]
     simp only [this, Bool.false_eq_true, if_false]
     rw [add_i64 _ 1 (by omega) (by omega), kv_some]
     refine ⟨l.length - (i + 1), by omega, i + 1, by simp, rfl, by omega, trivial, fun j x hj hx' => ?_⟩
     by_cases hji : j = i
     · subst hji
       rw [hg] at hx'
       cases hx'
       exact h0
     · exact hz j x (by omega) hx'
   · have : (l[i] != 0) = true := by simp [h0]
     simp only [this, if_true]
     refine ⟨?_, trivial⟩
     rw [hd, orI, if_pos h0]
 · have : ¬ ((i : Nat) : Int) < (l.length : Nat) := by omega
   simp only [this, decide_false, Bool.false_eq_true, if_false]
   refine ⟨?_, trivial⟩
   have hd := orI_drop l i hz
   rw [List.drop_eq_nil_of_le (by omega)] at hd
   rw [hd]
   rfl
theorem SlE.lit {α : Type} (D : EL α) (h : AHeap) (l : List α) (hl : l ≠ []) : SlE D (h.new (.cells (D.flat l) D.es .rw)) [h.next] (.slice (some ⟨h.next, 0, none⟩) l.length (2 * l.length)) l :=
 ⟨D.flat_len l, .inr ⟨h.next, 2 * l.length, D.flat l, rfl, rfl, by simp, by omega, by simp, by rw [D.flat_len, Nat.mul_div_cancel_left _ (by decide)]; exact Nat.le_refl _, by rw [← D.flat_len, List.take_length]⟩⟩
def ordI (a b : IdM) : Int := orI [cmpI a.client b.client, cmpI a.seq b.seq]
def allI (a b : KeyM) : Int := if a.all && !b.all then -1 else if b.all && !a.all then 1 else 0
def ordK (a b : KeyM) : Int := orI [cmpB a.space b.space, allI a b, cmpB a.key b.key]
theorem Mod.new2 {o o' : AObj} : Mod h [] ((h.new o).new o') [] :=
 ⟨by simp; omega, fun x hx _ => by
  have h1 : x ≠ h.next := by omega
  have h2 : x ≠ h.next + 1 := by omega
  simp [h1, h2], by simp, by simp⟩
theorem name_order (a b : IdM) : cl (F.name_order E) [a.agg, b.agg] h fun r h' => r = i64 (ordI a b) ∧ Mod h [] h' [] := by
 refine cl_of ?_
 have e0 : ∀ (i : IdM) (h : AHeap), newD none i.agg h = some (ptr h.next 0, h.new (.cells [i64 i.client, i64 i.seq] 2 .rw)) := fun _ _ => rfl
 simp only [F.name_order, e0, kP_some, new_next]
 generalize hh : ((h.new (.cells [i64 a.client, i64 a.seq] 2 .rw)).new (.cells [i64 b.client, i64 b.seq] 2 .rw)) = h2
 have m2 : Mod h [] h2 [] := by rw [← hh]; exact Mod.new2
 have ga : h2.get h.next = some (.cells [i64 a.client, i64 a.seq] 2 .rw) := by rw [← hh]; simp
 have gb : h2.get (h.next + 1) = some (.cells [i64 b.client, i64 b.seq] 2 .rw) := by rw [← hh]; simp
 have r1 : h2.rd h.next 0 = some (i64 a.client) := rd_of ga 0
 have r2 : h2.rd h.next 1 = some (i64 a.seq) := rd_of ga 1
 have r3 : h2.rd (h.next + 1) 0 = some (i64 b.client) := rd_of gb 0
 have r4 : h2.rd (h.next + 1) 1 = some (i64 b.seq) := rd_of gb 1
 simp only [fieldAddr_ptr, kv_some, ld_one, Nat.zero_add, r1, r2, r3, r4]
 refine cl_then (cmp_int _ _) ?_
 rintro r h3 ⟨rfl, rfl⟩
 refine ⟨r2, r4, ?_⟩
 refine cl_then (cmp_int64 _ _) ?_
 rintro r h4 ⟨rfl, rfl⟩
 have eb : ∀ x y : Int, buildSliceD (some (1, [(.int .i64 0)])) 2 [(0, i64 x), (1, i64 y)] h4 = some (.slice (some ⟨h4.next, 0, none⟩) 2 4, h4.new (.cells [i64 x, i64 y] 1 .rw)) := fun _ _ => rfl
 rw [eb, kP_some]
 have s := SlE.lit dInt h4 [cmpI a.client b.client, cmpI a.seq b.seq] (by simp)
 refine cl_then (or_spec s (by simp)) ?_
 rintro r h5 ⟨rfl, rfl⟩
 refine ⟨rfl, m2.trans ⟨by simp, fun x hx _ => ?_, by simp, by simp⟩⟩
 have : x ≠ h4.next := by omega
 simp [this]
theorem lock_order (a b : KeyM) : cl (F.lock_order E) [a.agg, b.agg] h fun r h' => r = i64 (ordK a b) ∧ Mod h [] h' [] := by
 refine cl_of ?_
 have e0 : ∀ (i : KeyM) (h : AHeap), newD none i.agg h = some (ptr h.next 0, h.new (.cells [str i.space, str i.key, .bool i.all] 3 .rw)) := fun _ _ => rfl
 simp only [F.lock_order, e0, kP_some, new_next]
 generalize hh : ((h.new (.cells [str a.space, str a.key, .bool a.all] 3 .rw)).new (.cells [str b.space, str b.key, .bool b.all] 3 .rw)) = h2
 have m2 : Mod h [] h2 [] := by rw [← hh]; exact Mod.new2
 have ga : h2.get h.next = some (.cells [str a.space, str a.key, .bool a.all] 3 .rw) := by rw [← hh]; simp
 have gb : h2.get (h.next + 1) = some (.cells [str b.space, str b.key, .bool b.all] 3 .rw) := by rw [← hh]; simp
 have r0 : h2.rd h.next 0 = some (str a.space) := rd_of ga 0
 have r1 : h2.rd h.next 1 = some (str a.key) := rd_of ga 1
 have r2 : h2.rd h.next 2 = some (.bool a.all) := rd_of ga 2
 have r3 : h2.rd (h.next + 1) 0 = some (str b.space) := rd_of gb 0
 have r4 : h2.rd (h.next + 1) 1 = some (str b.key) := rd_of gb 1
 have r5 : h2.rd (h.next + 1) 2 = some (.bool b.all) := rd_of gb 2
 refine ⟨fun vs h' => vs = [i64 (allI a b)] ∧ h' = h2, ?_, ?_⟩
 · simp only [fieldAddr_ptr, kv_some, ld_one, Nat.zero_add, r2, r5]
   cases ha : a.all <;> cases hb : b.all <;> simp [gdV_bool, pickV_bool, not_bool, ifV_bool, allI, ha, hb, r2, r5]
 rintro e2 h3 ⟨he, rfl⟩
 simp only [List.cons.injEq, and_true] at he
 simp only [he, fieldAddr_ptr, kv_some, ld_one, Nat.zero_add, r0, r1, r3, r4]
 refine cl_then (cmp_str _ _) ?_
 rintro r h4 ⟨rfl, rfl⟩
 refine ⟨r1, r4, ?_⟩
 refine cl_then (cmp_str _ _) ?_
 rintro r h5 ⟨rfl, rfl⟩
 have eb : ∀ x y z : Int, buildSliceD (some (1, [(.int .i64 0)])) 3 [(0, i64 x), (1, i64 y), (2, i64 z)] h5 = some (.slice (some ⟨h5.next, 0, none⟩) 3 6, h5.new (.cells [i64 x, i64 y, i64 z] 1 .rw)) := fun _ _ _ => rfl
 rw [eb, kP_some]
 have s := SlE.lit dInt h5 [cmpB a.space b.space, allI a b, cmpB a.key b.key] (by simp)
 refine cl_then (or_spec s (by simp)) ?_
 rintro r h6 ⟨rfl, rfl⟩
 refine ⟨rfl, m2.trans ⟨by simp, fun x hx _ => ?_, by simp, by simp⟩⟩
 have : x ≠ h5.next := by omega
 simp [this]
theorem cmpB_zero {x y : ByteArray} : cmpB x y = 0 ↔ x = y := by
 unfold cmpB
 split
 · rename_i h1
   constructor
   · intro h; omega
   · rintro rfl; exact absurd h1 (lt_irr _)
 · split
   · rename_i h1
     constructor
     · intro h; omega
     · rintro rfl; exact absurd h1 (lt_irr _)
   · rename_i h1 h2
     constructor
     · intro _
       by_cases e : kl x = kl y
       · exact kl_inj e
       · exact absurd (lt_tri h1 e) h2
     · intro _; rfl
theorem cmpB_lt {x y : ByteArray} : cmpB x y < 0 ↔ kl x < kl y := by
 unfold cmpB
 split
 · rename_i h1; simp [h1]
 · rename_i h1
   split <;> simp [h1]
theorem ordI_ord : Ord ordI := by
 have le : ∀ a b : IdM, ordI a b ≤ 0 ↔ a.client < b.client ∨ (a.client = b.client ∧ a.seq ≤ b.seq) := by
  intro a b
  simp only [ordI, orI, cmpI]
  split <;> split <;> (try split) <;> (try split) <;> (try split) <;> omega
 have lt : ∀ a b : IdM, ordI a b < 0 ↔ a.client < b.client ∨ (a.client = b.client ∧ a.seq < b.seq) := by
  intro a b
  simp only [ordI, orI, cmpI]
  split <;> split <;> (try split) <;> (try split) <;> (try split) <;> omega
 refine ⟨fun x y z h1 h2 => ?_, fun x y => ?_, fun x y h1 h2 => ?_⟩
 · rw [le] at h1 h2 ⊢; omega
 · rw [lt, le]; omega
 · rw [le] at h1 h2
   cases x; cases y
   simp only [IdM.mk.injEq] at *
   omega
theorem ordK_ord : Ord ordK := by
 have key : ∀ a b : KeyM, (ordK a b < 0 ↔ kl a.space < kl b.space ∨ (a.space = b.space ∧ ((a.all = true ∧ b.all = false) ∨ (a.all = b.all ∧ kl a.key < kl b.key)))) ∧ (ordK a b = 0 ↔ a = b) := by
  intro a b
  obtain ⟨s, k, x⟩ := a
  obtain ⟨s', k', x'⟩ := b
  have hs := @cmpB_zero s s'
  have hl := @cmpB_lt s s'
  have ks := @cmpB_zero k k'
  have kl' := @cmpB_lt k k'
  simp only [ordK, orI, KeyM.mk.injEq]
  by_cases h1 : cmpB s s' = 0
  · have e := hs.1 h1
    have hn : ¬ kl s < kl s' := fun hh => by rw [e] at hh; exact lt_irr _ hh
    simp only [h1, ne_eq, not_true_eq_false, if_false]
    cases x <;> cases x' <;> simp [allI, e, lt_irr]
    all_goals
     by_cases h2 : cmpB k k' = 0
     · have e2 := ks.1 h2
       have e3 : ∀ x, cmpB x x = 0 := fun x => cmpB_zero.2 rfl
       simp [h2, e2, lt_irr, e3]
     · have e2 : ¬ k = k' := fun hh => h2 (ks.2 hh)
       simp [h2, e2, kl']
  · have e : ¬ s = s' := fun hh => h1 (hs.2 hh)
    simp [h1, e, hl]
 have le : ∀ a b : KeyM, ordK a b ≤ 0 ↔ ordK a b < 0 ∨ a = b := fun a b => by
  rw [← (key a b).2]; omega
 have tr : ∀ x y z, ordK x y < 0 → ordK y z < 0 → ordK x z < 0 := by
  intro x y z h1 h2
  rw [(key _ _).1] at h1 h2 ⊢
  obtain ⟨s, k, a⟩ := x
  obtain ⟨s', k', a'⟩ := y
  obtain ⟨s2, k2, a2⟩ := z
  simp only at *
  rcases h1 with h1 | ⟨rfl, h1⟩ <;> rcases h2 with h2 | ⟨rfl, h2⟩
  · exact .inl (lt_tr h1 h2)
  · exact .inl h1
  · exact .inl h2
  · right
    refine ⟨rfl, ?_⟩
    rcases h1 with ⟨rfl, rfl⟩ | ⟨rfl, h1⟩ <;> rcases h2 with ⟨e1, rfl⟩ | ⟨rfl, h2⟩
    · cases e1
    · exact .inl ⟨rfl, rfl⟩
    · exact .inl ⟨e1, rfl⟩
    · exact .inr ⟨rfl, lt_tr h1 h2⟩
 have irr : ∀ x, ¬ ordK x x < 0 := fun x hx => by
  have := (key x x).2.2 rfl
  omega
 refine ⟨fun x y z h1 h2 => ?_, fun x y => ?_, fun x y h1 h2 => ?_⟩
 · rw [le] at h1 h2 ⊢
   rcases h1 with h1 | rfl
   · rcases h2 with h2 | rfl
     · exact .inl (tr _ _ _ h1 h2)
     · exact .inl h1
   · exact h2
 · by_cases e : x = y
   · right; rw [le]; exact .inr e.symm
   · by_cases h1 : ordK x y < 0
     · exact .inl h1
     · right
       rw [le]
       left
       rw [(key _ _).1] at h1 ⊢
       obtain ⟨s, k, a⟩ := x
       obtain ⟨s', k', a'⟩ := y
       simp only [not_or, not_and] at h1
       simp only
       by_cases es : s = s'
       · subst es
         right
         refine ⟨rfl, ?_⟩
         have h2 := h1.2 rfl
         cases a <;> cases a' <;> simp at h2 ⊢
         all_goals
          have hk : ¬ k = k' := fun hh => e (by rw [hh])
          exact lt_tri h2 fun hh => hk (kl_inj hh)
       · exact .inl (lt_tri h1.1 fun hh => es (kl_inj hh))
 · rw [le] at h1 h2
   rcases h1 with h1 | rfl
   · rcases h2 with h2 | rfl
     · exact absurd (tr _ _ _ h1 h2) (irr x)
     · rfl
   · rfl
theorem cmp_id {E1 : FE} (hE : E.I (E.k 10) = some (cl (F.name_order E1))) : CmpOk E dId (.func (.func (E.k 10)) #[] #[]) ordI := fun h x y => by
 unfold aCall
 simp only [hE]
 exact name_order x y
theorem cmp_key {E1 : FE} (hE : E.I (E.k 9) = some (cl (F.lock_order E1))) : CmpOk E dKey (.func (.func (E.k 9)) #[] #[]) ordK := fun h x y => by
 unfold aCall
 simp only [hE]
 exact lock_order x y
end Go.Abs
namespace Go.Abs
open Go
variable {E : FE} {h : AHeap} {fp : List Nat} {v : V} {l : List KeyM}
theorem SlE.form {α : Type} {D : EL α} {l : List α} (s : SlE D h fp v l) (hl : l ≠ []) : ∃ b c, v = .slice (some ⟨b, 0, none⟩) l.length c ∧ fp = [b] ∧ l.length ≤ c / 2 := by
 obtain ⟨h0, ⟨rfl, h1, rfl⟩ | ⟨b, c, all, rfl, rfl, hb, hc, h2, h3, h4⟩⟩ := s
 · exact absurd (List.eq_nil_of_length_eq_zero h1) hl
 · exact ⟨b, c, rfl, rfl, hc⟩
theorem SlE.cells {α : Type} {D : EL α} {l : List α} {b c n : Nat} {fp : List Nat} (s : SlE D h fp (.slice (some ⟨b, 0, none⟩) n c) l) : fp = [b] ∧ b < h.next ∧ n = l.length ∧ l.length ≤ c / 2 ∧ ∃ all, h.get b = some (.cells all D.es .rw) ∧ c / 2 * D.es ≤ all.length ∧ all.take (l.length * D.es) = D.flat l := by
 obtain ⟨h0, ⟨e, h1, rfl⟩ | ⟨b', c', all, e, rfl, hb, hc, h2, h3, h4⟩⟩ := s
 · cases e
 · cases e; exact ⟨rfl, hb, rfl, hc, all, h2, h3, h4⟩
theorem key_eq (c : Bool) (a b : KeyM) : binD (.struct [(0, .string), (1, .string), (2, .bool)]) .eql c (.agg (dKey.enc a).toArray) (.agg (dKey.enc b).toArray) h = some (.bool (decide (a = b))) := by
 have := kdKey.eq a b
 have e : eqD (.struct [(0, .string), (1, .string), (2, .bool)]) c (.agg (dKey.enc a).toArray) (.agg (dKey.enc b).toArray) h = some (decide (a = b)) := this
 show (eqD (.struct [(0, .string), (1, .string), (2, .bool)]) c _ _ h).map Value.bool = _
 rw [e]; rfl
theorem key_ne (c : Bool) (a b : KeyM) : binD (.struct [(0, .string), (1, .string), (2, .bool)]) .neq c (.agg (dKey.enc a).toArray) (.agg (dKey.enc b).toArray) h = some (.bool (!decide (a = b))) := by
 have := kdKey.eq a b
 have e : eqD (.struct [(0, .string), (1, .string), (2, .bool)]) c (.agg (dKey.enc a).toArray) (.agg (dKey.enc b).toArray) h = some (decide (a = b)) := this
 show (eqD (.struct [(0, .string), (1, .string), (2, .bool)]) c _ _ h).map (fun b => Value.bool (!b)) = _
 rw [e]; rfl
theorem slice_lo {b n c es k : Nat} {all : List V} (hg : h.get b = some (.cells all es .rw)) (h0 : 0 < k) (hk : k ≤ n) (hkc : k < c / 2) :
 sliceD (.slice es) (.slice (some ⟨b, 0, none⟩) n c) (some (i64 k)) none none h = some (.slice (some ⟨b, 0 + k * es, none⟩) (n - k) (c - 2 * k)) := by
 have : sliceD (.slice es) (.slice (some ⟨b, 0, none⟩) n c) (some (.int .i64 k)) none none h =
  if k = 0 then some (.slice (some ⟨b, 0, none⟩) n c) else if k < c / 2 then some (.slice (some ⟨b, 0 + k * es, none⟩) (n - k) (c - 2 * k))
  else if c % 2 = 0 then some (.slice (some ⟨b, 0, none⟩) (n - k) 0) else some (.slice none 0 1) := by
  simp [sliceD, aBoundO, aBound, hg, hk]
 rw [this, if_neg (by omega), if_pos hkc]
theorem sub_at {α : Type} {D : EL α} {l : List α} {b c i j m : Nat} {fp : List Nat} {x : α} (s : SlE D h fp (.slice (some ⟨b, 0, none⟩) l.length c) l) (hx : l[i + j]? = some x) (hm : j < m) :
 indexAddrD (.slice D.es) (.slice (some ⟨b, 0 + i * D.es, none⟩) m (c - 2 * i)) (i64 j) = some (ptr b ((i + j) * D.es)) ∧ ldD (.agg D.es) (ptr b ((i + j) * D.es)) h = some (.agg (D.enc x).toArray) := by
 obtain ⟨b', h1, h2⟩ := s.ld hx
 have hb : b' = b := by
  have hlt := (List.getElem?_eq_some_iff.1 hx).1
  have : (0 : Int) ≤ ((i + j : Nat) : Int) ∧ ((i + j : Nat) : Int) < (l.length : Nat) := by omega
  simp only [indexAddrD, if_pos this, Option.some.injEq, Value.pointer.injEq, Addr.mk.injEq] at h1
  exact h1.1.symm
 subst hb
 refine ⟨?_, h2⟩
 have : (0 : Int) ≤ (j : Int) ∧ (j : Int) < (m : Nat) := by omega
 simp only [indexAddrD, if_pos this, Int.toNat_natCast]
 congr 4
 rw [Nat.add_mul]; omega
theorem compact_key (s : SlE dKey h fp v l) (hsz : l.length ≤ 1000) :
 cl (F.slices_Compact_Slock_Key_lock_Key E) [v] h fun r h' => ∃ l', (∀ x, x ∈ l' ↔ x ∈ l) ∧ l'.length ≤ l.length ∧ SlE dKey h' fp r l' ∧ Mod h fp h' fp := by
 refine cl_of ?_
 have hlt := s.lt
 have same : ∃ l', (∀ x, x ∈ l' ↔ x ∈ l) ∧ l'.length ≤ l.length ∧ SlE dKey h fp v l' ∧ Mod h fp h fp := ⟨l, fun x => Iff.rfl, Nat.le_refl _, s, Mod.refl hlt⟩
 simp only [F.slices_Compact_Slock_Key_lock_Key, s.len, kv_some, bin_lss, ifV_bool, decide_eq_true_eq]
 by_cases h2 : ((l.length : Nat) : Int) < 2
 · rw [if_pos h2]; exact same
 rw [if_neg h2]
 have hl0 : l ≠ [] := fun e => by rw [e] at h2; simp at h2
 obtain ⟨b, c, rfl, rfl, hc⟩ := s.form hl0
 refine ⟨fun n vs h' => ∃ i : Nat, vs = [i64 i] ∧ n = l.length - i ∧ 1 ≤ i ∧ i ≤ l.length ∧ h' = h, l.length - 1, ⟨1, rfl, rfl, by omega, by omega, rfl⟩, ?_⟩
 rintro n e h1 ⟨i, he, rfl, hi1, hi2, rfl⟩
 simp only [List.cons.injEq, and_true] at he
 simp only [he, s.len, bin_lss, kv_some, ifV_bool, decide_eq_true_eq]
 rcases Nat.lt_or_ge i l.length with hx | hx
 case inr =>
  rw [if_neg (show ¬ ((i : Nat) : Int) < (l.length : Nat) by omega)]
  exact same
 rw [if_pos (show ((i : Nat) : Int) < (l.length : Nat) by omega)]
 have g1 : l[i]? = some l[i] := List.getElem?_eq_getElem hx
 have g2 : l[i - 1]? = some l[i - 1] := List.getElem?_eq_getElem (by omega)
 obtain ⟨b1, i1, i2⟩ := s.ld g1
 obtain ⟨b2, i3, i4⟩ := s.ld g2
 have i1 : indexAddrD (.slice 3) _ _ = _ := i1
 have i3 : indexAddrD (.slice 3) _ _ = _ := i3
 have i2 : ldD (.agg 3) _ _ = _ := i2
 have i4 : ldD (.agg 3) _ _ = _ := i4
 have hw : binD .bad .sub true (i64 i) (.int .i64 1) h1 = some (i64 ((i - 1 : Nat) : Int)) := by
  rw [sub_i64 _ 1 (by omega) (by omega)]; congr 2; omega
 simp only [i1, i2, kv_some, hw, i3, i4, key_eq, ifV_bool, decide_eq_true_eq]
 by_cases heq : l[i] = l[i - 1]
 case neg =>
  rw [if_neg heq, add_i64 _ 1 (by omega) (by omega), kv_some]
  exact ⟨l.length - (i + 1), by omega, i + 1, by simp, rfl, by omega, by omega, trivial⟩
 rw [if_pos heq]
 obtain ⟨_, hbn, _, _, all, hg, hall, htk⟩ := s.cells
 have hg : h1.get b = some (.cells all 3 .rw) := hg
 rw [slice_lo hg (by omega) (by omega) (by omega), kv_some]
 refine ⟨fun n vs h' => ∃ (k j : Nat) (l1 : List KeyM), vs = [i64 k, i64 j] ∧ n = l.length - i - j ∧ 1 ≤ j ∧ j ≤ l.length - i ∧ i ≤ k ∧ k + 1 ≤ i + j ∧ l1.length = l.length ∧ (∀ p, k ≤ p → l1[p]? = l[p]?) ∧ (∀ x, x ∈ l1.take k ↔ x ∈ l.take (i + j)) ∧
  SlE dKey h' [b] (.slice (some ⟨b, 0, none⟩) l.length c) l1 ∧ Mod h1 [b] h' [b], l.length - i - 1, ⟨i, 1, l, rfl, rfl, by omega, by omega, by omega, by omega, rfl, fun _ _ => rfl, fun x => ?_, s, Mod.refl hlt⟩, ?_⟩
 · rw [List.take_add_one, g1, List.mem_append]
   constructor
   · exact .inl
   · rintro (h | h)
     · exact h
     · simp only [Option.toList_some, List.mem_singleton] at h
       subst h
       rw [heq]
       exact List.mem_take_iff_getElem.2 ⟨i - 1, by omega, by simp⟩
 rintro n3 e3 h3 ⟨k, j, l1, hv, rfl, hj1, hj2, hik, hkj, hl1, hsame, hmem, s3, m3⟩
 simp only [List.cons.injEq, and_true] at hv
 obtain ⟨v1, v2⟩ := hv
 have hlen : ∀ h : AHeap, lenD .slice (.slice (some ⟨b, 0 + i * 3, none⟩) (l.length - i) (c - 2 * i)) h = some (i64 ((l.length - i : Nat) : Int)) := fun _ => rfl
 simp only [v1, v2, hlen, kv_some, bin_lss, ifV_bool, decide_eq_true_eq]
 have s3' : SlE dKey h3 [b] (.slice (some ⟨b, 0, none⟩) l1.length c) l1 := by rw [hl1]; exact s3
 rcases Nat.lt_or_ge j (l.length - i) with hjl | hjl
 · rw [if_pos (show ((j : Nat) : Int) < ((l.length - i : Nat) : Int) by omega)]
   have q1 : l1[i + j]? = some l[i + j] := by rw [hsame _ (by omega)]; exact List.getElem?_eq_getElem (by omega)
   have q2 : l1[i + (j - 1)]? = some l[i + (j - 1)] := by rw [hsame _ (by omega)]; exact List.getElem?_eq_getElem (by omega)
   obtain ⟨j1, j2⟩ := sub_at (m := l.length - i) s3' q1 hjl
   obtain ⟨j3, j4⟩ := sub_at (m := l.length - i) s3' q2 (by omega)
   have j1 : indexAddrD (.slice 3) (.slice (some ⟨b, 0 + i * 3, none⟩) (l.length - i) (c - 2 * i)) _ = _ := j1
   have j3 : indexAddrD (.slice 3) (.slice (some ⟨b, 0 + i * 3, none⟩) (l.length - i) (c - 2 * i)) _ = _ := j3
   have j2 : ldD (.agg 3) _ _ = _ := j2
   have j4 : ldD (.agg 3) _ _ = _ := j4
   have hwj : binD .bad .sub true (i64 j) (.int .i64 1) h3 = some (i64 ((j - 1 : Nat) : Int)) := by
    rw [sub_i64 _ 1 (by omega) (by omega)]; congr 2; omega
   simp only [j1, kv_some, j2, hwj, j3, j4, key_ne, ifV_bool]
   have htake : ∀ x, x ∈ l.take (i + (j + 1)) ↔ x ∈ l.take (i + j) ∨ x = l[i + j] := fun x => by
    rw [show i + (j + 1) = i + j + 1 by omega, List.take_add_one, List.getElem?_eq_getElem (show i + j < l.length by omega), List.mem_append]
    simp
   by_cases hne : l[i + j] = l[i + (j - 1)]
   · simp only [hne, decide_true, Bool.not_true, Bool.false_eq_true, if_false]
     rw [add_i64 _ 1 (by omega) (by omega), kv_some]
     refine ⟨l.length - i - (j + 1), by omega, k, j + 1, l1, by simp, rfl, by omega, by omega, hik, by omega, hl1, hsame, fun x => ?_, s3, m3⟩
     rw [hmem, htake]
     constructor
     · exact .inl
     · rintro (h | rfl)
       · exact h
       · rw [hne]
         exact List.mem_take_iff_getElem.2 ⟨i + (j - 1), by omega, by simp⟩
   · simp only [hne, decide_false, Bool.not_false, if_true]
     obtain ⟨b5, h5, k1, k2, s5, m5⟩ := s3'.st (i := k) (by omega) l[i + j]
     have k1 : indexAddrD (.slice 3) (.slice (some ⟨b, 0, none⟩) l1.length c) _ = _ := k1
     have k2 : stD (some 3) _ _ _ = _ := k2
     rw [hl1] at k1 s5
     rw [k1, kv_some, k2, kH_some, add_i64 _ 1 (by omega) (by omega), kv_some, add_i64 _ 1 (by omega) (by omega), kv_some]
     refine ⟨l.length - i - (j + 1), by omega, k + 1, j + 1, l1.set k l[i + j], by simp, rfl, by omega, by omega, by omega, by omega, by simp [hl1], fun p hp => ?_, fun x => ?_, s5, m3.trans m5⟩
     · rw [List.getElem?_set_ne (by omega)]; exact hsame p (by omega)
     · rw [htake, ← hmem, List.take_add_one, List.getElem?_set_self (by omega), List.take_set_of_le (Nat.le_refl _), List.mem_append]
       simp
 · rw [if_neg (show ¬ ((j : Nat) : Int) < ((l.length - i : Nat) : Int) by omega)]
   obtain ⟨_, hbn3, _, _, all3, hg3, hall3, htk3⟩ := s3'.cells
   have hg3 : h3.get b = some (.cells all3 3 .rw) := hg3
   have hall3 : c / 2 * 3 ≤ all3.length := hall3
   rw [slice_lo hg3 (by omega) (by omega) (by omega), kv_some]
   obtain ⟨m, hm⟩ : ∃ m, l.length - k = m + 1 := ⟨l.length - k - 1, by omega⟩
   have hz : (zeros [(.string ⟨#[]⟩), (.string ⟨#[]⟩), (.bool false)] ((m + 1) * 3) : List V).length = (m + 1) * 3 := by simp [zeros]
   have hcl : clearD (some (some [(.string ⟨#[]⟩), (.string ⟨#[]⟩), (.bool false)])) (.slice (some ⟨b, 0 + k * 3, none⟩) (l.length - k) (c - 2 * k)) h3 =
    some (h3.put b (.cells (setList all3 (0 + k * 3) (zeros [(.string ⟨#[]⟩), (.string ⟨#[]⟩), (.bool false)] ((m + 1) * 3))) 3 .rw)) := by
    rw [hm]
    have hz1 : (([(.string ⟨#[]⟩), (.string ⟨#[]⟩), (.bool false)] : List V).length ≠ 0 ∧ ([(.string ⟨#[]⟩), (.string ⟨#[]⟩), (.bool false)] : List V).all oneCell = true) := ⟨by decide, rfl⟩
    simp only [clearD]
    rw [if_pos hz1]
    simp only [AHeap.wr, hg3]
    rw [if_pos ⟨by simp, by show 0 + k * 3 + (zeros _ ((m + 1) * 3)).length ≤ _; rw [hz]; omega⟩]
    rfl
   rw [hcl, kH_some]
   have hpre : ∀ h : AHeap, h.get b = some (.cells (setList all3 (0 + k * 3) (zeros [(.string ⟨#[]⟩), (.string ⟨#[]⟩), (.bool false)] ((m + 1) * 3))) 3 .rw) →
    sliceD (.slice 3) (.slice (some ⟨b, 0, none⟩) l.length c) none (some (i64 k)) none h = some (.slice (some ⟨b, 0, none⟩) k c) := by
    intro h hh
    have hk2 : (0 : Int) ≤ k ∧ (k : Int) ≤ ((c / 2 : Nat) : Int) := by omega
    simp only [sliceD, hh, if_true, aBoundO, aBound, if_pos hk2, Int.toNat_natCast]
   rw [hpre _ (by simp), kv_some]
   refine ⟨l1.take k, fun x => ?_, by rw [List.length_take]; omega, ?_, m3.trans ⟨by simp, fun x _ hx => ?_, fun x hx => .inl hx, by simpa using hbn3⟩⟩
   · rw [hmem, List.take_of_length_le (by omega)]
   · refine ⟨by rw [dKey.flat_len], .inr ⟨b, c, setList all3 (0 + k * 3) (zeros [(.string ⟨#[]⟩), (.string ⟨#[]⟩), (.bool false)] ((m + 1) * 3)), ?_, rfl, by simpa using hbn3, ?_, by rw [put_get, if_pos rfl]; rfl, ?_, ?_⟩⟩
     · rw [List.length_take, Nat.min_eq_left (by omega)]
     · rw [List.length_take]; omega
     · rw [setList_length]; exact hall3
     · rw [List.length_take, Nat.min_eq_left (show k ≤ l1.length by omega)]
       show (setList all3 (0 + k * 3) _).take (k * 3) = _
       have hks : k * 3 + (m + 1) * 3 ≤ all3.length := by omega
       rw [setList_eq _ _ _ (by rw [hz]; omega), Nat.zero_add, List.append_assoc, List.take_append_of_le_length (by rw [List.length_take]; omega), List.take_take, Nat.min_self]
       have := dKey.flat_take l1 k
       rw [← this, ← htk3, List.take_take]
       congr 1
       have : k * 3 ≤ l1.length * 3 := by omega
       exact (Nat.min_eq_left this).symm
   · simp at hx; simp [hx]
end Go.Abs
namespace Go.Abs
open Go
theorem decode_lo {s : ByteArray} {i : Nat} (h : (s.get! i).toNat < 128) : Utf8.decode s i = ((s.get! i).toNat, 1) := by
 unfold Utf8.decode
 simp only [Nat.add_zero]
 rw [if_pos h]
theorem decode_hi {s : ByteArray} {i : Nat} (h : 128 ≤ (s.get! i).toNat) : 128 ≤ (Utf8.decode s i).1 := by
 have hr : 128 ≤ Utf8.runeError := by decide
 unfold Utf8.decode
 simp only [Nat.add_zero]
 rw [if_neg (by omega)]
 split
 · split
   · assumption
   · exact hr
 · split
   · split
     · rename_i hc
       simp only [ge_iff_le, Bool.and_eq_true, decide_eq_true_eq] at hc
       show 128 ≤ _
       omega
     · exact hr
   · split
     · split
       · rename_i hc
         simp only [ge_iff_le, Bool.and_eq_true, decide_eq_true_eq] at hc
         show 128 ≤ _
         omega
       · exact hr
     · exact hr
theorem get_data (s : ByteArray) {i : Nat} (h : i < s.size) : s.data.toList[i]? = some (s.get! i) := by
 have h1 : i < s.data.toList.length := by rw [Array.length_toList]; exact h
 rw [List.getElem?_eq_getElem h1]
 congr 1
 show s.data.toList[i] = s.data[i]!
 rw [getElem!_pos s.data i h]
 simp
def small1 (c : UInt8) : Bool := decide (97 ≤ c.toNat) && decide (c.toNat ≤ 122)
theorem smallT_eq (s : ByteArray) : smallT s = s.data.toList.all small1 := rfl
theorem rune_small {s : ByteArray} {i : Nat} : (97 ≤ (Utf8.decode s i).1 ∧ (Utf8.decode s i).1 ≤ 122) ↔ small1 (s.get! i) = true := by
 simp only [small1, Bool.and_eq_true, decide_eq_true_eq]
 by_cases h : (s.get! i).toNat < 128
 · rw [decode_lo h]
 · have := decode_hi (s := s) (i := i) (by omega)
   omega
theorem small_step {s : ByteArray} {i : Nat} (h : small1 (s.get! i) = true) : (Utf8.decode s i).2 = 1 := by
 simp only [small1, Bool.and_eq_true, decide_eq_true_eq] at h
 rw [decode_lo (by omega)]
end Go.Abs
namespace Go.Abs
open Go
variable {E : FE} {h : AHeap} {fp : List Nat} {v : V}
def dOp : EL Oq := ⟨5, Oq.cells, fun _ => rfl, fun _ => rfl, by decide⟩
theorem op_Kind (f : Int) : cl (F.op_Kind E) [i64 f] h fun r h' => r = i64 (kindOf f) ∧ h' = h := by
 refine cl_of ?_
 simp only [F.op_Kind, bin_geq, bin_leq, kv_some, gdV_bool, kindOf]
 by_cases h3 : f ≥ 3 <;> by_cases h5 : f ≤ 5 <;> by_cases h6 : f ≥ 6 <;> by_cases h9 : f ≤ 9 <;> by_cases h10 : f ≥ 10 <;> by_cases h12 : f ≤ 12 <;>
  simp [h3, h5, h6, h9, h10, h12, gdV_bool, pickV_bool, ifV_bool] <;> first | omega | skip
theorem op_names (f : Int) : cl (F.op_names E) [i64 f] h fun r h' => r = .tuple #[.bool (namesO f).1, .bool (namesO f).2.1, .bool (namesO f).2.2] ∧ h' = h := by
 refine cl_of ?_
 simp only [F.op_names, bin_eql, kv_some]
 refine ⟨fun vs h' => vs = [.bool (decide (f = 1 ∨ f = 8 ∨ f = 11))] ∧ h' = h, ?_, ?_⟩
 · by_cases q1 : f = 1 <;> by_cases q2 : f = 8 <;> by_cases q3 : f = 11 <;> simp [q1, q2, q3, ifV_bool]
 rintro e1 h1 ⟨he, rfl⟩
 simp only [List.cons.injEq, and_true] at he
 simp only [he, ifV_bool, decide_eq_true_eq, namesO]
 by_cases q1 : f = 1 ∨ f = 8 ∨ f = 11
 · simp [q1]
 simp only [q1, if_false]
 refine ⟨fun vs h' => vs = [.bool (decide (f = 3 ∨ f = 5))] ∧ h' = h1, ?_, ?_⟩
 · by_cases q2 : f = 3 <;> by_cases q3 : f = 5 <;> simp [q2, q3, ifV_bool]
 rintro e2 h2 ⟨he, rfl⟩
 simp only [List.cons.injEq, and_true] at he
 simp only [he, ifV_bool, decide_eq_true_eq]
 by_cases q3 : f = 3 ∨ f = 5
 · simp [q3]
 simp only [q3, if_false, beq_iff_eq]
 by_cases q4 : f = 4
 · simp [q4]
 simp only [q4, if_false]
 refine ⟨fun vs h' => vs = [.bool (decide (f = 6 ∨ f = 10))] ∧ h' = h2, ?_, ?_⟩
 · by_cases q5 : f = 6 <;> by_cases q6 : f = 10 <;> simp [q5, q6, ifV_bool]
 rintro e3 h3 ⟨he, rfl⟩
 simp only [List.cons.injEq, and_true] at he
 simp only [he, ifV_bool, decide_eq_true_eq]
 by_cases q5 : f = 6 ∨ f = 10
 · simp [q5]
 simp only [q5, if_false, beq_iff_eq]
 by_cases q6 : f = 7
 · simp [q6]
 simp only [q6, if_false]
 by_cases q7 : f = 12 <;> simp [q7]
theorem ba_nil {s : ByteArray} : s = ⟨#[]⟩ ↔ s.size = 0 := by
 obtain ⟨⟨l⟩⟩ := s
 show (⟨⟨l⟩⟩ : ByteArray) = ⟨⟨[]⟩⟩ ↔ l.length = 0
 cases l <;> simp
theorem str_nil (k : EqK) (c : Bool) (s : ByteArray) : binD k .eql c (str s) (.string ⟨#[]⟩) h = some (.bool (decide (s.size = 0))) := by
 rw [str_eql]
 congr 2
 exact decide_eq_decide.2 ba_nil
theorem str_nonnil (k : EqK) (c : Bool) (s : ByteArray) : binD k .neq c (str s) (.string ⟨#[]⟩) h = some (.bool (!decide (s.size = 0))) := by
 rw [str_neq]
 congr 2
 rw [decide_eq_decide.2 ba_nil]
theorem index_str (s : ByteArray) (i : Nat) (hi : i < s.size) : indexD .str (str s) (i64 i) = some (.int .u8 (s.get! i).toNat) := by
 have h1 : s[i]? = some (s.get! i) := by
  rw [getElem?_pos s i hi]
  congr 1
  show s.data[i] = s.data[i]!
  rw [getElem!_pos s.data i hi]
 simp only [indexD, if_pos (show (0 : Int) ≤ i by omega), Int.toNat_natCast, h1]
theorem digit_eq {s : ByteArray} (hs : s.size = 1) : digitK s = (decide (49 ≤ (s.get! 0).toNat) && decide ((s.get! 0).toNat ≤ 57)) := by
 obtain ⟨⟨l⟩⟩ := s
 match l, hs with
 | [c], _ => rfl
theorem digit_no {s : ByteArray} (hs : s.size ≠ 1) : digitK s = false := by
 obtain ⟨⟨l⟩⟩ := s
 match l, hs with
 | [], _ => rfl
 | [c], hs => exact absurd rfl hs
 | _ :: _ :: _, _ => rfl
theorem op_makes (o : Oq) : cl (F.op_makes E) [o.agg] h fun r h' => r = .bool (makesO o) ∧ Mod h [] h' [] := by
 refine cl_of ?_
 simp only [F.op_makes, new5, kP_some]
 generalize hh : h.new (.cells o.cells 5 .rw) = h1
 have m1 : Mod h [] h1 [] := by
  rw [← hh]
  exact ⟨by simp, fun x hx _ => by have : x ≠ h.next := by omega
                                   simp [this], by simp, by simp⟩
 have g : h1.get h.next = some (.cells o.cells 5 .rw) := by rw [← hh]; simp
 have r4 : h1.rd h.next 4 = some (i64 o.n) := rd_of g 4
 have r2 : h1.rd h.next 2 = some (str o.key) := rd_of g 2
 have ln : ∀ (x : ByteArray) (h : AHeap), lenD .str (str x) h = some (i64 (x.size : Nat)) := fun _ _ => rfl
 have hsn : aStr .eql o.key ⟨#[]⟩ = some (.bool (decide (o.key.size = 0))) := str_nil (h := h1) .bad true o.key
 by_cases n1 : o.n < 1
 · have e : makesO o = false := by simp [makesO, show ¬ 1 ≤ o.n by omega]
   simp [r4, r2, ln, n1, e, pickV_bool, ifV_bool, m1, gdV_bool]
 by_cases n3 : o.n > 3
 · have e : makesO o = false := by simp [makesO, show ¬ o.n ≤ 3 by omega]
   simp [r4, r2, ln, n1, n3, e, pickV_bool, ifV_bool, m1, gdV_bool, bin_gtr]
 have n3' : ¬ 3 < o.n := by omega
 by_cases k1 : o.key.size = 1
 · have hb : ((o.key.size : Nat) : Int) = 1 := by omega
   have hi := index_str o.key 0 (by omega)
   have hi : indexD .str (str o.key) (.int .i64 0) = _ := hi
   have k0 : ¬ o.key.size = 0 := by omega
   have e : makesO o = (decide (49 ≤ (o.key.get! 0).toNat) && decide ((o.key.get! 0).toNat ≤ 57)) := by
    simp [makesO, digit_eq k1, show 1 ≤ o.n by omega, show o.n ≤ 3 by omega, k0]
   rw [e]
   by_cases c1 : 49 ≤ (o.key.get! 0).toNat
   · have c1' : (49 : Int) ≤ (((o.key.get! 0).toNat : Nat) : Int) := by omega
     by_cases c2 : (o.key.get! 0).toNat ≤ 57
     · have c2' : (((o.key.get! 0).toNat : Nat) : Int) ≤ 57 := by omega
       simp [r4, r2, ln, n1, n3', hb, hi, c1, c2, c1', c2', gdV_bool, pickV_bool, m1]
     · have c2' : ¬ (((o.key.get! 0).toNat : Nat) : Int) ≤ 57 := by omega
       simp [r4, r2, ln, n1, n3', hb, hi, c1, c2, c1', c2', gdV_bool, pickV_bool, m1, k0, hsn]
   · have c1' : ¬ (49 : Int) ≤ (((o.key.get! 0).toNat : Nat) : Int) := by omega
     simp [r4, r2, ln, n1, n3', hb, hi, c1, c1', gdV_bool, pickV_bool, m1, k0, hsn]
 · have hb : ¬ ((o.key.size : Nat) : Int) = 1 := by omega
   have e : makesO o = (decide (o.key.size = 0) && decide (o.n ≠ 2)) := by
    simp [makesO, digit_no k1, show 1 ≤ o.n by omega, show o.n ≤ 3 by omega]
   rw [e]
   by_cases k0 : o.key.size = 0 <;> by_cases n2 : o.n = 2 <;> simp [r4, r2, ln, n1, n3', hb, gdV_bool, pickV_bool, k0, n2, m1, bin_neq, hsn]
end Go.Abs
namespace Go.Abs
open Go
variable {E : FE} {h : AHeap} {fp : List Nat} {v : V}
theorem op_May_1 (r : Int) : cl (F.op_May_1 E) [.int .i32 r] h fun x h' => x = .bool (!(decide (97 ≤ r) && decide (r ≤ 122))) ∧ h' = h := by
 refine cl_of ?_
 by_cases h1 : r < 97
 · simp [F.op_May_1, h1, show ¬ 97 ≤ r by omega, gdV_bool, pickV_bool]
 · by_cases h2 : 122 < r
   · simp [F.op_May_1, h1, h2, show ¬ r ≤ 122 by omega, gdV_bool, pickV_bool]
   · simp [F.op_May_1, h1, h2, show r ≤ 122 by omega, show 97 ≤ r by omega, gdV_bool, pickV_bool]
theorem smallT_of {s : ByteArray} (hs : ∀ i, i < s.size → small1 (s.get! i) = true) : smallT s = true := by
 rw [smallT_eq, List.all_eq_true]
 intro c hc
 obtain ⟨i, hi, rfl⟩ := List.mem_iff_getElem.1 hc
 have hi' : i < s.size := by rw [Array.length_toList] at hi; exact hi
 have := get_data s hi'
 rw [List.getElem?_eq_getElem hi, Option.some.injEq] at this
 rw [this]
 exact hs i hi'
theorem smallT_not {s : ByteArray} {i : Nat} (hi : i < s.size) (hn : small1 (s.get! i) = false) : smallT s = false := by
 have h1 := get_data s hi
 cases hc : smallT s with
 | false => rfl
 | true =>
  rw [smallT_eq, List.all_eq_true] at hc
  have := hc _ (List.mem_of_getElem? h1)
  rw [hn] at this
  cases this
theorem contains_small {E1 : FE} (hM : MonoI E.I) (hE : E.I (E.k 7) = some (cl (F.op_May_1 E1))) (s : ByteArray) (hsz : s.size ≤ maxLen) :
 cl (F.strings_ContainsFunc E) [str s, .func (.func (E.k 7)) #[] #[]] h fun r h' => r = .bool (!smallT s) ∧ Mod h [] h' [] := by
 refine cl_of ?_
 simp only [F.strings_ContainsFunc]
 suffices hi : cl (F.strings_IndexFunc E) [str s, .func (.func (E.k 7)) #[] #[]] h fun r h' => ∃ k : Int, r = i64 k ∧ (0 ≤ k ↔ smallT s = false) ∧ Mod h [] h' [] by
  refine cl_then hi ?_
  rintro r h1 ⟨k, rfl, hk, m⟩
  simp only [bin_geq, kv_some]
  refine ⟨?_, m⟩
  congr 1
  cases hs : smallT s with
  | true =>
   have : ¬ 0 ≤ k := fun hh => by rw [hk, hs] at hh; cases hh
   simp [this]
  | false =>
   have : 0 ≤ k := hk.2 hs
   simp [this]
 refine cl_of ?_
 simp only [F.strings_IndexFunc]
 suffices hi : cl (F.strings_indexFunc E) [str s, .func (.func (E.k 7)) #[] #[], .bool true] h fun r h' => ∃ k : Int, r = i64 k ∧ (0 ≤ k ↔ smallT s = false) ∧ Mod h [] h' [] by
  exact cl_then hi fun r h1 hh => hh
 refine cl_of ?_
 have er : rangeD .str (str s) h = some (ptr h.next 0, h.new (.siter s 0)) := rfl
 simp only [F.strings_indexFunc, er, kP_some]
 refine ⟨fun n vs h' => ∃ pos : Nat, n = s.size - pos ∧ pos ≤ s.size ∧ h'.get h.next = some (.siter s pos) ∧ (∀ i, i < pos → small1 (s.get! i) = true) ∧ Mod h [] h' [] ∧ h.next < h'.next, s.size,
  ⟨0, by omega, by omega, by simp, by simp, Mod.newBox (by simp), by simp⟩, ?_⟩
 rintro n e h1 ⟨pos, rfl, hp, hg, hs, m1, hn1⟩
 unfold aNext
 simp only [hg]
 by_cases hlt : pos < s.size
 · rw [if_pos hlt]
   generalize hd : Utf8.decode s pos = d
   have hput : Mod h [] (h1.put h.next (.siter s (pos + d.2))) [] := ⟨by simpa using m1.next, fun x hx _ => by
    have : x ≠ h.next := by omega
    simp [this, m1.same x hx (by simp)], by simp, by simp⟩
   simp only [extract_tuple, List.getElem?_toArray, List.getElem?_cons_zero, List.getElem?_cons_succ, kv_some, ifV_bool, if_true]
   unfold aCall
   simp only [hE]
   refine cl_then (op_May_1 _) ?_
   rintro r h2 ⟨rfl, rfl⟩
   have hr := @rune_small s pos
   rw [hd] at hr
   simp only [bin_bool_eq, kv_some, ifV_bool]
   by_cases hsm : small1 (s.get! pos) = true
   · have h3 := hr.2 hsm
     have h4 : (97 : Int) ≤ (d.1 : Int) ∧ (d.1 : Int) ≤ 122 := by omega
     have hst := small_step hsm
     rw [hd] at hst
     simp only [h4.1, h4.2, decide_true, Bool.and_self, Bool.not_true, Bool.false_eq_true, beq_iff_eq, if_false]
     refine ⟨s.size - (pos + 1), by omega, pos + 1, rfl, by omega, by simp [hst], fun i hi => ?_, hput, by simpa using hn1⟩
     by_cases hip : i = pos
     · rw [hip]; exact hsm
     · exact hs i (by omega)
   · have h4 : (decide ((97 : Int) ≤ (d.1 : Int)) && decide ((d.1 : Int) ≤ 122)) = false := by
      cases hb : (decide ((97 : Int) ≤ (d.1 : Int)) && decide ((d.1 : Int) ≤ 122)) with
      | false => rfl
      | true =>
       simp only [Bool.and_eq_true, decide_eq_true_eq] at hb
       exact absurd (hr.1 (by omega)) hsm
     simp only [h4, Bool.not_false, beq_self_eq_true, if_true]
     refine ⟨pos, rfl, ⟨fun _ => smallT_not hlt (by simpa using hsm), fun _ => by omega⟩, hput⟩
 · rw [if_neg hlt]
   simp only [extract_tuple, List.getElem?_toArray, List.getElem?_cons_zero, kv_some, ifV_bool, Bool.false_eq_true, if_false]
   refine ⟨-1, rfl, ⟨fun hh => by omega, fun hh => ?_⟩, m1⟩
   rw [smallT_of fun i hi => hs i (by omega)] at hh
   cases hh
def bad1 (o : Oq) : Bool := !(decide (1 ≤ o.fn) && decide (o.fn ≤ 12)) || !(decide (1 ≤ o.space.size) && decide (o.space.size ≤ 20) && smallT o.space)
def bad2 (o : Oq) : Bool := !(decide (o.key.size ≤ 20) && decide (o.val.size ≤ 100) && decide (0 ≤ o.n) && decide (o.n ≤ 1099511627776))
def bad3 (o : Oq) : Bool := !(((namesO o.fn).1 || decide (o.key.size = 0)) && ((namesO o.fn).2.1 || decide (o.val.size = 0)) && ((namesO o.fn).2.2 || decide (o.n = 0)))
theorem mayO_eq (o : Oq) : mayO o = (!bad1 o && !(bad2 o || bad3 o) && (decide (o.fn ≠ 1) || makesO o)) := by
 simp only [mayO, bad1, bad2, bad3, Bool.not_or, Bool.not_not, Bool.and_assoc]
theorem op_May {E1 : FE} (hM : MonoI E.I) (hE : E.I (E.k 7) = some (cl (F.op_May_1 E1))) (o : Oq) (hsz : o.space.size ≤ maxLen) :
 cl (F.op_May E) [o.agg] h fun r h' => r = .bool (mayO o) ∧ Mod h [] h' [] := by
 refine cl_of ?_
 simp only [F.op_May, new5, kP_some]
 have hb0 := Mod.newBox (h := h) (fp := []) (o := .cells o.cells 5 .rw) (by simp)
 have g0 : (h.new (.cells o.cells 5 .rw)).get h.next = some (.cells o.cells 5 .rw) := by simp
 have n0 : h.next < (h.new (.cells o.cells 5 .rw)).next := by simp
 generalize h.new (.cells o.cells 5 .rw) = h1 at hb0 g0 n0 ⊢
 generalize hbx : h.next = bx at g0 n0 ⊢
 have ln : ∀ (x : ByteArray) (h : AHeap), lenD .str (str x) h = some (i64 (x.size : Nat)) := fun _ _ => rfl
 have rd : ∀ {h' : AHeap}, h'.get bx = some (.cells o.cells 5 .rw) → h'.rd bx 0 = some (i64 o.fn) ∧ h'.rd bx 1 = some (str o.space) ∧ h'.rd bx 2 = some (str o.key) ∧ h'.rd bx 3 = some (str o.val) ∧ h'.rd bx 4 = some (i64 o.n) :=
  fun g => ⟨rd_of g 0, rd_of g 1, rd_of g 2, rd_of g 3, rd_of g 4⟩
 obtain ⟨r0, r1, r2, r3, r4⟩ := rd g0
 simp only [fieldAddr_ptr, kv_some, ld_one, Nat.zero_add, r0]
 refine cl_then (op_names _) ?_
 rintro r h2 ⟨rfl, rfl⟩
 simp only [extract_tuple, List.getElem?_toArray, List.getElem?_cons_zero, List.getElem?_cons_succ, kv_some, r0, bin_lss]
 have hfn : ∀ X : V → Prop, X (.bool (!(decide (1 ≤ o.fn) && decide (o.fn ≤ 12)))) → kv (gdV (.bool (decide (o.fn < 1))) false (some (ptr bx 0))) fun v19 => kv (gdV (.bool (decide (o.fn < 1))) false (ldD .one v19 h2)) fun v20 =>
  kv (gdV (.bool (decide (o.fn < 1))) false (binD .bad .gtr true v20 (.int .i64 12) h2)) fun v21 => kv (pickV (.bool (decide (o.fn < 1))) (.bool true) v21) X := by
  intro X hX
  by_cases f1 : o.fn < 1
  · have : ¬ 1 ≤ o.fn := by omega
    simp only [this, decide_false, Bool.false_and, Bool.not_false] at hX
    simp [f1, gdV_bool, pickV_bool, hX]
  · have h1 : 1 ≤ o.fn := by omega
    by_cases f2 : 12 < o.fn
    · have : ¬ o.fn ≤ 12 := by omega
      simp only [this, decide_false, Bool.and_false, Bool.not_false] at hX
      simp [f1, f2, gdV_bool, pickV_bool, hX, r0]
    · have : o.fn ≤ 12 := by omega
      simp only [this, h1, decide_true, Bool.and_true, Bool.not_true] at hX
      simp [f1, f2, gdV_bool, pickV_bool, hX, r0]
 refine hfn _ ?_
 clear hfn
 refine ⟨fun vs h' => vs = [.bool (bad1 o)] ∧ Mod h2 [] h' [] ∧ h'.get bx = some (.cells o.cells 5 .rw), ?_, ?_⟩
 · simp only [ifV_bool]
   by_cases hk : (decide (1 ≤ o.fn) && decide (o.fn ≤ 12)) = true
   case neg =>
    have hk' : (decide (1 ≤ o.fn) && decide (o.fn ≤ 12)) = false := by simpa using hk
    simp only [hk', Bool.not_false, if_true]
    refine ⟨by simp [bad1, hk'], Mod.refl (by simp), g0⟩
   simp only [hk, Bool.not_true, Bool.false_eq_true, if_false, r1, kv_some, str_nil]
   have fin : ∀ (b : Bool) h', b = bad1 o → Mod h2 [] h' [] → h'.get bx = some (.cells o.cells 5 .rw) → ([.bool b] : List V) = [.bool (bad1 o)] ∧ Mod h2 [] h' [] ∧ h'.get bx = some (.cells o.cells 5 .rw) := fun b h' e m g => ⟨by rw [e], m, g⟩
   by_cases s0 : o.space.size = 0
   · have e : bad1 o = true := by simp [bad1, s0]
     simp only [s0, decide_true, gdV_bool, Bool.true_eq_false, if_false, kv_some, pickV_bool, if_true, gdV_gone]
     refine gdC_no (by simp) ?_
     try simp only [pickV_bool, if_true, kv_some]
     exact fin _ _ e.symm (Mod.refl (by simp)) g0
   have s0' : ¬ ((o.space.size : Nat) : Int) = 0 := by omega
   simp only [s0, decide_false, gdV_bool, if_true, kv_some, ld_one, r1, ln, bin_gtr, pickV_bool, Bool.false_eq_true, if_false]
   by_cases s20 : ((o.space.size : Nat) : Int) > 20
   · have e : bad1 o = true := by simp [bad1, show ¬ o.space.size ≤ 20 by omega]
     simp only [s20, decide_true, gdV_bool, Bool.true_eq_false, if_false, kv_some, gdV_gone]
     refine gdC_no (by simp) ?_
     try simp only [pickV_bool, if_true, kv_some]
     exact fin _ _ e.symm (Mod.refl (by simp)) g0
   simp only [s20, decide_false, gdV_bool, if_true, kv_some, ld_one, r1]
   refine gdC_yes rfl ?_
   refine cl_then (contains_small hM hE o.space hsz) ?_
   rintro r h3 ⟨rfl, m3⟩
   try simp only [pickV_bool, Bool.false_eq_true, if_false, kv_some]
   refine fin _ _ ?_ m3 ?_
   · simp [bad1, hk, show 1 ≤ o.space.size by omega, show o.space.size ≤ 20 by omega]
   · rw [m3.same bx (by omega) (by simp)]; exact g0
 rintro e14 h3 ⟨he, m3, g3⟩
 simp only [List.cons.injEq, and_true] at he
 clear r0 r1 r2 r3 r4
 obtain ⟨r0, r1, r2, r3, r4⟩ := rd g3
 have mfin : Mod h [] h3 [] := hb0.trans m3
 simp only [he, ifV_bool]
 by_cases b1 : bad1 o = true
 · rw [if_pos b1]
   exact ⟨by rw [mayO_eq, b1]; rfl, mfin⟩
 rw [if_neg b1]
 have b1' : bad1 o = false := by simpa using b1
 have hlong : ∀ X : V → Prop, X (.bool (bad2 o)) → kv (gdV (.bool (decide (((o.key.size : Nat) : Int) > 20))) false (some (ptr bx 3))) fun v44_33 => kv (gdV (.bool (decide (((o.key.size : Nat) : Int) > 20))) false (ldD .one v44_33 h3)) fun v45_34 =>
  kv (gdV (.bool (decide (((o.key.size : Nat) : Int) > 20))) false (lenD .str v45_34 h3)) fun v46_35 => kv (gdV (.bool (decide (((o.key.size : Nat) : Int) > 20))) false (binD .bad .gtr true v46_35 (.int .i64 100) h3)) fun v47_36 =>
  kv (pickV (.bool (decide (((o.key.size : Nat) : Int) > 20))) (.bool true) v47_36) fun v48_37 => kv (gdV v48_37 false (some (ptr bx 4))) fun v50_38 => kv (gdV v48_37 false (ldD .one v50_38 h3)) fun v51_39 =>
  kv (gdV v48_37 false (binD .bad .lss true v51_39 (.int .i64 0) h3)) fun v52_40 => kv (pickV v48_37 (.bool true) v52_40) fun v53_41 => kv (gdV v53_41 false (some (ptr bx 4))) fun v55_42 => kv (gdV v53_41 false (ldD .one v55_42 h3)) fun v56_43 =>
  kv (gdV v53_41 false (binD .bad .gtr true v56_43 (.int .i64 1099511627776) h3)) fun v57_44 => kv (pickV v53_41 (.bool true) v57_44) X := by
  intro X hX
  by_cases k1 : 20 < ((o.key.size : Nat) : Int)
  · have e : bad2 o = true := by simp [bad2, show ¬ o.key.size ≤ 20 by omega]
    rw [e] at hX
    simp [k1, gdV_bool, pickV_bool, hX]
  by_cases k2 : 100 < ((o.val.size : Nat) : Int)
  · have e : bad2 o = true := by simp [bad2, show ¬ o.val.size ≤ 100 by omega]
    rw [e] at hX
    simp [k1, k2, gdV_bool, pickV_bool, hX, r3, ln]
  by_cases k3 : o.n < 0
  · have e : bad2 o = true := by simp [bad2, show ¬ 0 ≤ o.n by omega]
    rw [e] at hX
    simp [k1, k2, k3, gdV_bool, pickV_bool, hX, r3, r4, ln]
  by_cases k4 : 1099511627776 < o.n
  · have e : bad2 o = true := by simp [bad2, show ¬ o.n ≤ 1099511627776 by omega]
    rw [e] at hX
    simp [k1, k2, k3, k4, gdV_bool, pickV_bool, hX, r3, r4, ln]
  · have e : bad2 o = false := by simp [bad2, show o.key.size ≤ 20 by omega, show o.val.size ≤ 100 by omega, show 0 ≤ o.n by omega, show o.n ≤ 1099511627776 by omega]
    rw [e] at hX
    simp [k1, k2, k3, k4, gdV_bool, pickV_bool, hX, r3, r4, ln]
 simp only [r2, kv_some, ln, bin_gtr]
 refine hlong _ ?_
 clear hlong
 refine ⟨fun vs h' => vs = [.bool (bad2 o || bad3 o)] ∧ h' = h3, ?_, ?_⟩
 · simp only [ifV_bool, not_bool, kv_some, str_nonnil]
   by_cases b2 : bad2 o = true
   · simp [b2]
   have b2' : bad2 o = false := by simpa using b2
   simp only [b2', Bool.false_eq_true, if_false, Bool.false_or]
   have hk := str_nonnil (h := h3) .bad true o.key
   have hv := str_nonnil (h := h3) .bad true o.val
   rw [bin_str] at hk hv
   unfold bad3
   cases n1 : (namesO o.fn).1 <;> cases n2 : (namesO o.fn).2.1 <;> cases n3 : (namesO o.fn).2.2 <;> by_cases k1 : o.key.size = 0 <;> by_cases k2 : o.val.size = 0 <;> by_cases k3 : o.n = 0 <;>
    simp [n1, n2, n3, k1, k2, k3, gdV_bool, pickV_bool, ifV_bool, r2, r3, r4, hk, hv]
 rintro e46 h4 ⟨he2, rfl⟩
 simp only [List.cons.injEq, and_true] at he2
 simp only [he2, ifV_bool]
 by_cases b2 : (bad2 o || bad3 o) = true
 · rw [if_pos b2]
   exact ⟨by rw [mayO_eq, b2]; simp, mfin⟩
 rw [if_neg b2]
 have b2' : (bad2 o || bad3 o) = false := by simpa using b2
 simp only [r0, kv_some, bin_neq]
 have hmay : mayO o = (decide (o.fn ≠ 1) || makesO o) := by rw [mayO_eq, b1', b2']; simp
 by_cases f1 : o.fn = 1
 · have e1 : (o.fn != 1) = false := by simp [f1]
   have hl : ldD (.agg 5) (ptr bx 0) h4 = some o.agg := by
    rw [ld_agg, rdN_of g3]; rfl
   simp only [e1, gdV_bool, if_true, hl, kv_some]
   refine gdC_yes rfl ?_
   refine cl_then (op_makes o) ?_
   rintro r h5 ⟨rfl, m5⟩
   try simp only [pickV_bool, Bool.false_eq_true, if_false, kv_some]
   exact ⟨by rw [hmay]; simp [f1], mfin.trans m5⟩
 · have e1 : (o.fn != 1) = true := by simp [f1]
   simp only [e1, gdV_bool, Bool.true_eq_false, if_false, kv_some]
   refine gdC_no (by simp) ?_
   try simp only [pickV_bool, if_true, kv_some]
   exact ⟨by rw [hmay]; simp [f1], mfin⟩
end Go.Abs
namespace Go.Abs
open Go
variable {E : FE} {h : AHeap} {fp : List Nat} {v : V}
theorem SlE.mod {α : Type} {D : EL α} {l : List α} {h' : AHeap} {fq fq' : List Nat} (s : SlE D h fp v l) (m : Mod h fq h' fq') (hd : ∀ x ∈ fp, x ∉ fq) : SlE D h' fp v l := s.same m.next fun x hx => m.same x (s.lt x hx) (hd x hx)
theorem containsFunc_op {f : V} {l : List Oq} (hM : MonoI E.I) (s : SlE dOp h fp v l) (hsz : l.length ≤ 1000000) (P : Oq → Bool)
 (hf : ∀ h' o, o ∈ l → aCall E.I f [o.agg] h' fun r h'' => r = .bool (P o) ∧ Mod h' [] h'' []) :
 cl (F.slices_ContainsFunc_Sapi_Op_api_Op E) [v, f] h fun r h' => r = .bool (l.any P) ∧ Mod h [] h' [] := by
 refine cl_of ?_
 simp only [F.slices_ContainsFunc_Sapi_Op_api_Op]
 suffices hi : cl (F.slices_IndexFunc_Sapi_Op_api_Op E) [v, f] h fun r h' => ∃ k : Int, r = i64 k ∧ (0 ≤ k ↔ l.any P = true) ∧ Mod h [] h' [] by
  refine cl_then hi ?_
  rintro r h1 ⟨k, rfl, hk, m⟩
  simp only [bin_geq, kv_some]
  refine ⟨?_, m⟩
  congr 1
  cases hs : l.any P with
  | true => simp [hk.2 hs]
  | false =>
   have : ¬ 0 ≤ k := fun hh => by rw [hk, hs] at hh; cases hh
   simp [this]
 refine cl_of ?_
 simp only [F.slices_IndexFunc_Sapi_Op_api_Op, s.len, kv_some]
 refine ⟨fun n vs h' => ∃ i : Nat, vs = [i64 i] ∧ n = l.length - i ∧ i ≤ l.length ∧ Mod h [] h' [] ∧ ∀ j o, j < i → l[j]? = some o → P o = false, l.length, ⟨0, rfl, by omega, by omega, Mod.refl (by simp), fun j o hj => by omega⟩, ?_⟩
 rintro n e h1 ⟨i, he, rfl, hi, m1, hno⟩
 simp only [List.cons.injEq, and_true] at he
 simp only [he, bin_lss, kv_some, ifV_bool, decide_eq_true_eq]
 rcases Nat.lt_or_ge i l.length with hx | hx
 · rw [if_pos (show ((i : Nat) : Int) < (l.length : Nat) by omega)]
   have hg : l[i]? = some l[i] := List.getElem?_eq_getElem hx
   obtain ⟨b, i1, i2⟩ := (s.keep m1).ld hg
   have i1 : indexAddrD (.slice 5) _ _ = _ := i1
   have i2 : ldD (.agg 5) _ _ = _ := i2
   simp only [i1, kv_some, i2]
   refine aCall_mono hM ?_ (hf h1 l[i] (List.getElem_mem hx))
   rintro r h2 ⟨rfl, m2⟩
   have m3 : Mod h [] h2 [] := m1.trans m2
   simp only [ifV_bool]
   cases hp : P l[i] with
   | true =>
    simp only [if_true]
    exact ⟨i, rfl, ⟨fun _ => List.any_eq_true.2 ⟨l[i], List.getElem_mem hx, hp⟩, fun _ => by omega⟩, m3⟩
   | false =>
    simp only [Bool.false_eq_true, if_false]
    rw [add_i64 _ 1 (by omega) (by omega), kv_some]
    refine ⟨l.length - (i + 1), by omega, i + 1, by simp, rfl, by omega, m3, fun j o hj ho => ?_⟩
    by_cases hji : j = i
    · subst hji
      rw [hg] at ho
      cases ho
      exact hp
    · exact hno j o (by omega) ho
 · rw [if_neg (show ¬ ((i : Nat) : Int) < (l.length : Nat) by omega)]
   refine ⟨-1, rfl, ⟨fun hh => by omega, fun hh => ?_⟩, m1⟩
   obtain ⟨o, ho, hp⟩ := List.any_eq_true.1 hh
   obtain ⟨j, hj, rfl⟩ := List.mem_iff_getElem.1 ho
   rw [hno j l[j] (by omega) (List.getElem?_eq_getElem hj)] at hp
   cases hp
structure OpE (E : FE) : Prop where
 mono : MonoI E.I
 all1 : ∃ E1 : FE, E.I (E.k 6) = some (cl (F.op_All_1 E1)) ∧ MonoI E1.I ∧ ∃ E2 : FE, E1.I (E1.k 7) = some (cl (F.op_May_1 E2))
 may1 : ∃ E1 : FE, E.I (E.k 7) = some (cl (F.op_May_1 E1))
theorem op_All (oe : OpE E) {l : List Oq} (s : SlE dOp h fp v l) (hsz : l.length ≤ 1000000) (hz : ∀ o ∈ l, o.space.size ≤ maxLen) :
 cl (F.op_All E) [v] h fun r h' => r = .bool (allO l) ∧ Mod h [] h' [] := by
 refine cl_of ?_
 simp only [F.op_All, s.len, kv_some, bin_geq, bin_leq, gdV_bool, s.len]
 by_cases h1 : ((l.length : Nat) : Int) ≥ 1
 case neg =>
  have e : allO l = false := by simp [allO, show ¬ 1 ≤ l.length by omega]
  simp only [h1, decide_false, Bool.false_eq_true, if_false, kv_some, pickV_bool, gdV_bool]
  refine gdC_no (by simp) ?_
  try simp only [gdV_bool, Bool.false_eq_true, if_false, kv_some, pickV_bool]
  exact ⟨by rw [e], Mod.refl (by simp)⟩
 simp only [h1, decide_true, if_true, kv_some, s.len, bin_leq, pickV_bool, gdV_bool]
 by_cases h8 : ((l.length : Nat) : Int) ≤ 8
 case neg =>
  have e : allO l = false := by simp [allO, show ¬ l.length ≤ 8 by omega]
  simp only [h8, decide_false, Bool.false_eq_true, if_false, kv_some, gdV_bool]
  refine gdC_no (by simp) ?_
  try simp only [gdV_bool, Bool.false_eq_true, if_false, kv_some, pickV_bool]
  exact ⟨by rw [e], Mod.refl (by simp)⟩
 simp only [h8, decide_true, if_true, kv_some]
 obtain ⟨E1, hE1, hM1, E2, hE2⟩ := oe.all1
 refine gdC_yes rfl (cl_then (containsFunc_op oe.mono s hsz (fun o => !mayO o) fun h' o ho => ?_) ?_)
 · unfold aCall
   simp only [hE1]
   refine cl_of ?_
   simp only [F.op_All_1, List.nil_append, List.append_nil, List.cons_append, new5, kP_some]
   have g0 : (h'.new (.cells o.cells 5 .rw)).get h'.next = some (.cells o.cells 5 .rw) := by simp
   have m0 := Mod.newBox (h := h') (fp := []) (o := .cells o.cells 5 .rw) (by simp)
   generalize h'.new (.cells o.cells 5 .rw) = h2 at g0 m0 ⊢
   have hl : ldD (.agg 5) (ptr h'.next 0) h2 = some o.agg := by rw [ld_agg, rdN_of g0]; rfl
   try simp only [hl, kv_some]
   refine cl_then (op_May hM1 hE2 o (hz o ho)) ?_
   rintro r h3 ⟨rfl, m3⟩
   simp only [not_bool, kv_some]
   exact ⟨trivial, m0.trans m3⟩
 · rintro r h2 ⟨rfl, m2⟩
   simp only [gdV_bool, if_true, not_bool, kv_some, pickV_bool]
   refine ⟨?_, m2⟩
   congr 1
   simp only [allO, show 1 ≤ l.length by omega, show l.length ≤ 8 by omega, decide_true, Bool.true_and]
   cases hb : (l.all mayO) with
   | true =>
    rw [List.all_eq_true] at hb
    have : l.any (fun o => !mayO o) = false := by
     rw [List.any_eq_false]
     intro o ho
     simp [hb o ho]
    rw [this]; rfl
   | false =>
    rw [List.all_eq_false] at hb
    obtain ⟨o, ho, hn⟩ := hb
    have : l.any (fun o => !mayO o) = true := List.any_eq_true.2 ⟨o, ho, by simpa using hn⟩
    rw [this]; rfl
theorem key_build (a b : ByteArray) : buildD (.struct [(.string ⟨#[]⟩), (.string ⟨#[]⟩), (.bool false)] [(0, 1), (1, 1), (2, 1)]) [(0, str a), (1, str b)] = some (KeyM.agg ⟨a, b, false⟩) := rfl
theorem key_build2 (a : ByteArray) : buildD (.struct [(.string ⟨#[]⟩), (.string ⟨#[]⟩), (.bool false)] [(0, 1), (1, 1), (2, 1)]) [(0, str a), (2, .bool true)] = some (KeyM.agg ⟨a, ⟨#[]⟩, true⟩) := rfl
theorem append_key {l : List KeyM} (s : SlE dKey h fp v l) (hsz : l.length ≤ 1000000) (k : KeyM) :
 ∃ h1, buildSliceD (some (3, [(.string ⟨#[]⟩), (.string ⟨#[]⟩), (.bool false)])) 1 [(0, k.agg)] h = some (.slice (some ⟨h.next, 0, none⟩) 1 2, h1) ∧
  ∃ v' h2 fp', appendD (some (3, 40, [(.string ⟨#[]⟩), (.string ⟨#[]⟩), (.bool false)])) v (.slice (some ⟨h.next, 0, none⟩) 1 2) h1 = some (v', h2) ∧ SlE dKey h2 fp' v' (l ++ [k]) ∧ Mod h fp h2 fp' := by
 refine ⟨h.new (.cells (dKey.enc k) 3 .rw), rfl, ?_⟩
 have s1 : SlE dKey (h.new (.cells (dKey.enc k) 3 .rw)) fp v l := s.keep (Mod.newBox (fp := []) (by simp))
 have hsrc : aSrc 3 (.slice (some ⟨h.next, 0, none⟩) 1 2) (h.new (.cells (dKey.enc k) 3 .rw)) = some (dKey.enc k) := by
  show (h.new (.cells (dKey.enc k) 3 .rw)).rdN h.next 0 (1 * 3) = _
  rw [rdN_of (h := h.new (.cells (dKey.enc k) 3 .rw)) (b := h.next) (cs := dKey.enc k) (e := 3) (k := .rw) (by simp)]
  rfl
 obtain ⟨v', h2, fp', e1, e2, e3⟩ := Sl.append (bytes := 40) (z := [(.string ⟨#[]⟩), (.string ⟨#[]⟩), (.bool false)]) s1 rfl (by decide) (by decide) (x := .slice (some ⟨h.next, 0, none⟩) 1 2) (k := 1) rfl (fun _ => hsrc) rfl rfl (by omega)
 refine ⟨v', h2, fp', e1, ?_, ?_⟩
 · have : SlE dKey h2 fp' v' (l ++ [k]) ↔ Sl h2 fp' v' 3 (l.length + 1) (dKey.flat l ++ dKey.enc k) := by
    unfold SlE
    rw [dKey.flat_app, EL.flat_cons, EL.flat_nil, List.append_nil, List.length_append, List.length_cons, List.length_nil]
    exact Iff.rfl
   exact this.2 e2
 · exact (Mod.newBox (h := h) (fp := fp) s.lt).trans e3
end Go.Abs
namespace Go.Abs
open Go
variable {E : FE} {h : AHeap} {fp : List Nat} {v : V}
theorem lock_sorted {E1 : FE} (hM : MonoI E.I) (hE : E.I (E.k 9) = some (cl (F.lock_order E1))) {l : List KeyM} (s : SlE dKey h fp v l) (hn : l.length ≤ 12) :
 cl (F.lock_sorted E) [v] h fun r h' => ∃ l', (∀ x, x ∈ l' ↔ x ∈ l) ∧ l'.length ≤ l.length ∧ SlE dKey h' fp r l' ∧ Mod h fp h' fp := by
 refine cl_of ?_
 simp only [F.lock_sorted]
 refine cl_then (sort_key hM ordK_ord s (cmp_key hE) hn) ?_
 rintro r h1 ⟨l1, p1, _, s1, m1⟩
 refine cl_then (compact_key s1 (by rw [p1.length_eq]; omega)) ?_
 rintro r2 h2 ⟨l2, p2, n2, s2, m2⟩
 exact ⟨l2, fun x => (p2 x).trans p1.mem_iff, by rw [← p1.length_eq]; exact n2, s2, m1.trans m2⟩
def lockO (o : Oq) : KeyM := if kindOf o.fn = 1 then ⟨o.space, o.key, false⟩ else ⟨o.space, ⟨#[]⟩, true⟩
theorem st5 {b : Nat} {c o : Oq} (hb : h.get b = some (.cells c.cells 5 .rw)) : stD (some 5) (ptr b 0) o.agg h = some (h.put b (.cells o.cells 5 .rw)) := by
 show h.wr b 0 o.cells = _
 simp only [AHeap.wr, hb]
 rw [if_pos ⟨by simp, by simp [Oq.cells]⟩]
 rfl
theorem newO0 : newD none (.agg #[(.int .i64 0), (.string ⟨#[]⟩), (.string ⟨#[]⟩), (.string ⟨#[]⟩), (.int .i64 0)]) h = some (ptr h.next 0, h.new (.cells (⟨0, ⟨#[]⟩, ⟨#[]⟩, ⟨#[]⟩, 0⟩ : Oq).cells 5 .rw)) := rfl
theorem lock_Of {E1 : FE} (hM : MonoI E.I) (hE : E.I (E.k 9) = some (cl (F.lock_order E1))) {l : List Oq} (s : SlE dOp h fp v l) (hsz : l.length ≤ 12) :
 cl (F.lock_Of E) [v] h fun r h' => ∃ l' fq, (∀ x, x ∈ l' ↔ x ∈ l.map lockO) ∧ l'.length ≤ l.length ∧ SlE dKey h' fq r l' ∧ Mod h [] h' fq := by
 refine cl_of ?_
 simp only [F.lock_Of, s.len, kv_some]
 refine ⟨fun n vs h' => ∃ (i : Nat) (w : V) (fw : List Nat), vs = [w, i64 i] ∧ n = l.length - i ∧ i ≤ l.length ∧ SlE dKey h' fw w ((l.take i).map lockO) ∧ Mod h [] h' fw, l.length,
  ⟨0, _, [], rfl, by omega, by omega, by simpa using SlE.nil (D := dKey), Mod.refl (by simp)⟩, ?_⟩
 rintro n e h1 ⟨i, w, fw, he, rfl, hi, sw, m1⟩
 simp only [List.cons.injEq, and_true] at he
 obtain ⟨e3, e8⟩ := he
 simp only [e3, e8, bin_lss, kv_some, ifV_bool, decide_eq_true_eq]
 rcases Nat.lt_or_ge i l.length with hx | hx
 case inr =>
  rw [if_neg (show ¬ ((i : Nat) : Int) < (l.length : Nat) by omega)]
  have hil : i = l.length := by omega
  subst hil
  rw [List.take_length] at sw
  refine cl_then (lock_sorted hM hE sw (by rw [List.length_map]; exact hsz)) ?_
  rintro r h2 ⟨l', p, n', s', m'⟩
  exact ⟨l', fw, p, by simpa using n', s', m1.trans m'⟩
 rw [if_pos (show ((i : Nat) : Int) < (l.length : Nat) by omega)]
 have hg : l[i]? = some l[i] := List.getElem?_eq_getElem hx
 obtain ⟨b, i1, i2⟩ := (s.mod m1 (by simp)).ld hg
 have i1 : indexAddrD (.slice 5) _ _ = _ := i1
 have i2 : ldD (.agg 5) _ _ = some (l[i]).agg := i2
 generalize hoo : l[i] = o at i2
 simp only [i1, kv_some, i2, newO0, kP_some]
 rw [st5 (c := ⟨0, ⟨#[]⟩, ⟨#[]⟩, ⟨#[]⟩, 0⟩) (by simp), kH_some]
 have m2 : Mod h1 fw ((h1.new (.cells (⟨0, ⟨#[]⟩, ⟨#[]⟩, ⟨#[]⟩, 0⟩ : Oq).cells 5 .rw)).put h1.next (.cells o.cells 5 .rw)) fw :=
  (Mod.newBox (h := h1) (fp := fw) sw.lt).putNew (Nat.le_refl _)
 have g2 : ((h1.new (.cells (⟨0, ⟨#[]⟩, ⟨#[]⟩, ⟨#[]⟩, 0⟩ : Oq).cells 5 .rw)).put h1.next (.cells o.cells 5 .rw)).get h1.next = some (.cells o.cells 5 .rw) := by simp
 have s2 : SlE dKey ((h1.new (.cells (⟨0, ⟨#[]⟩, ⟨#[]⟩, ⟨#[]⟩, 0⟩ : Oq).cells 5 .rw)).put h1.next (.cells o.cells 5 .rw)) fw w ((l.take i).map lockO) :=
  sw.mod (((Mod.newBox (h := h1) (fp := []) (by simp)).putNew (Nat.le_refl _))) (by simp)
 generalize ((h1.new (.cells (⟨0, ⟨#[]⟩, ⟨#[]⟩, ⟨#[]⟩, 0⟩ : Oq).cells 5 .rw)).put h1.next (.cells o.cells 5 .rw)) = h2 at m2 g2 s2 ⊢
 have r0 : h2.rd h1.next 0 = some (i64 o.fn) := rd_of g2 0
 have r1 : h2.rd h1.next 1 = some (str o.space) := rd_of g2 1
 have r2 : h2.rd h1.next 2 = some (str o.key) := rd_of g2 2
 simp only [fieldAddr_ptr, kv_some, ld_one, Nat.zero_add, r0]
 refine cl_then (op_Kind _) ?_
 rintro r h3 ⟨rfl, rfl⟩
 have hlen : ((l.take i).map lockO).length = i := by rw [List.length_map, List.length_take]; omega
 have hnext : (l.take (i + 1)).map lockO = (l.take i).map lockO ++ [lockO o] := by
  rw [List.take_add_one, hg, hoo]; simp
 simp only [bin_eql, kv_some, ifV_bool, decide_eq_true_eq, beq_iff_eq]
 by_cases hk : kindOf o.fn = 1
 · rw [if_pos hk, r1, kv_some, r2, kv_some, key_build, kv_some]
   obtain ⟨h4, b1, w', h5, fw', b2, s5, m5⟩ := append_key s2 (by omega) ⟨o.space, o.key, false⟩
   rw [b1, kP_some, b2, kP_some, add_i64 _ 1 (by omega) (by omega), kv_some]
   refine ⟨l.length - (i + 1), by omega, i + 1, w', fw', by simp, rfl, by omega, ?_, m1.trans (m2.trans m5)⟩
   rw [hnext, lockO, if_pos hk]
   exact s5
 · rw [if_neg hk, r1, kv_some, key_build2, kv_some]
   obtain ⟨h4, b1, w', h5, fw', b2, s5, m5⟩ := append_key s2 (by omega) ⟨o.space, ⟨#[]⟩, true⟩
   rw [b1, kP_some, b2, kP_some, add_i64 _ 1 (by omega) (by omega), kv_some]
   refine ⟨l.length - (i + 1), by omega, i + 1, w', fw', by simp, rfl, by omega, ?_, m1.trans (m2.trans m5)⟩
   rw [hnext, lockO, if_neg hk]
   exact s5
end Go.Abs
namespace Go.Abs
open Go
variable {E : FE} {h : AHeap} {fp : List Nat} {v : V}
theorem new3 (k : KeyM) : newD none k.agg h = some (ptr h.next 0, h.new (.cells (dKey.enc k) 3 .rw)) := rfl
theorem ld3 {b : Nat} {k : KeyM} (hb : h.get b = some (.cells (dKey.enc k) 3 .rw)) : ldD (.agg 3) (ptr b 0) h = some k.agg := by
 simp only [ld_agg, rdN_of hb]
 rfl
theorem lock_meet (a b : KeyM) : cl (F.lock_meet E) [a.agg, b.agg] h fun r h' => r = .bool (meetK a b) ∧ Mod h [] h' [] := by
 refine cl_of ?_
 simp only [F.lock_meet, new3, kP_some, new_next]
 generalize hh : ((h.new (.cells (dKey.enc a) 3 .rw)).new (.cells (dKey.enc b) 3 .rw)) = h2
 have m2 : Mod h [] h2 [] := by rw [← hh]; exact Mod.new2
 have ga : h2.get h.next = some (.cells [str a.space, str a.key, .bool a.all] 3 .rw) := by rw [← hh]; simp [dKey]
 have gb : h2.get (h.next + 1) = some (.cells [str b.space, str b.key, .bool b.all] 3 .rw) := by rw [← hh]; simp [dKey]
 have r0 : h2.rd h.next 0 = some (str a.space) := rd_of ga 0
 have r1 : h2.rd h.next 1 = some (str a.key) := rd_of ga 1
 have r2 : h2.rd h.next 2 = some (.bool a.all) := rd_of ga 2
 have r3 : h2.rd (h.next + 1) 0 = some (str b.space) := rd_of gb 0
 have r4 : h2.rd (h.next + 1) 1 = some (str b.key) := rd_of gb 1
 have r5 : h2.rd (h.next + 1) 2 = some (.bool b.all) := rd_of gb 2
 simp only [fieldAddr_ptr, kv_some, ld_one, Nat.zero_add, r0, r3, str_eql]
 have eq : aStr BinOp.eql a.key b.key = some (.bool (decide (a.key = b.key))) := str_eql (h := h) .bad false a.key b.key
 by_cases hs : a.space = b.space <;> cases ha : a.all <;> cases hb : b.all <;> simp [gdV_bool, pickV_bool, meetK, hs, ha, hb, r1, r2, r4, r5, eq, m2]
theorem containsFunc_key {f : V} {l : List KeyM} (hM : MonoI E.I) (s : SlE dKey h fp v l) (hsz : l.length ≤ 1000000) (P : KeyM → Bool)
 (hf : ∀ h' o, o ∈ l → Mod h [] h' [] → aCall E.I f [o.agg] h' fun r h'' => r = .bool (P o) ∧ Mod h' [] h'' []) :
 cl (F.slices_ContainsFunc_Slock_Key_lock_Key E) [v, f] h fun r h' => r = .bool (l.any P) ∧ Mod h [] h' [] := by
 refine cl_of ?_
 simp only [F.slices_ContainsFunc_Slock_Key_lock_Key]
 suffices hi : cl (F.slices_IndexFunc_Slock_Key_lock_Key E) [v, f] h fun r h' => ∃ k : Int, r = i64 k ∧ (0 ≤ k ↔ l.any P = true) ∧ Mod h [] h' [] by
  refine cl_then hi ?_
  rintro r h1 ⟨k, rfl, hk, m⟩
  simp only [bin_geq, kv_some]
  refine ⟨?_, m⟩
  congr 1
  cases hs : l.any P with
  | true => simp [hk.2 hs]
  | false =>
   have : ¬ 0 ≤ k := fun hh => by rw [hk, hs] at hh; cases hh
   simp [this]
 refine cl_of ?_
 simp only [F.slices_IndexFunc_Slock_Key_lock_Key, s.len, kv_some]
 refine ⟨fun n vs h' => ∃ i : Nat, vs = [i64 i] ∧ n = l.length - i ∧ i ≤ l.length ∧ Mod h [] h' [] ∧ ∀ j o, j < i → l[j]? = some o → P o = false, l.length, ⟨0, rfl, by omega, by omega, Mod.refl (by simp), fun j o hj => by omega⟩, ?_⟩
 rintro n e h1 ⟨i, he, rfl, hi, m1, hno⟩
 simp only [List.cons.injEq, and_true] at he
 simp only [he, bin_lss, kv_some, ifV_bool, decide_eq_true_eq]
 rcases Nat.lt_or_ge i l.length with hx | hx
 · rw [if_pos (show ((i : Nat) : Int) < (l.length : Nat) by omega)]
   have hg : l[i]? = some l[i] := List.getElem?_eq_getElem hx
   obtain ⟨b, i1, i2⟩ := (s.keep m1).ld hg
   have i1 : indexAddrD (.slice 3) _ _ = _ := i1
   have i2 : ldD (.agg 3) _ _ = _ := i2
   simp only [i1, kv_some, i2]
   refine aCall_mono hM ?_ (hf h1 l[i] (List.getElem_mem hx) m1)
   rintro r h2 ⟨rfl, m2⟩
   have m3 : Mod h [] h2 [] := m1.trans m2
   simp only [ifV_bool]
   cases hp : P l[i] with
   | true =>
    simp only [if_true]
    exact ⟨i, rfl, ⟨fun _ => List.any_eq_true.2 ⟨l[i], List.getElem_mem hx, hp⟩, fun _ => by omega⟩, m3⟩
   | false =>
    simp only [Bool.false_eq_true, if_false]
    rw [add_i64 _ 1 (by omega) (by omega), kv_some]
    refine ⟨l.length - (i + 1), by omega, i + 1, by simp, rfl, by omega, m3, fun j o hj ho => ?_⟩
    by_cases hji : j = i
    · subst hji
      rw [hg] at ho
      cases ho
      exact hp
    · exact hno j o (by omega) ho
 · rw [if_neg (show ¬ ((i : Nat) : Int) < (l.length : Nat) by omega)]
   refine ⟨-1, rfl, ⟨fun hh => by omega, fun hh => ?_⟩, m1⟩
   obtain ⟨o, ho, hp⟩ := List.any_eq_true.1 hh
   obtain ⟨j, hj, rfl⟩ := List.mem_iff_getElem.1 ho
   rw [hno j l[j] (by omega) (List.getElem?_eq_getElem hj)] at hp
   cases hp
theorem take_1 {E1 E2 : FE} {b : Nat} (k : KeyM) (hE : E.I (E.k 8) = some (cl (F.lock_Locks_Take_1 E1))) (x : KeyM) (hb : h.get b = some (.cells (dKey.enc k) 3 .rw)) (hlt : b < h.next) :
 aCall E.I (.func (.func (E.k 8)) #[] #[ptr b 0]) [x.agg] h fun r h' => r = .bool (meetK x k) ∧ Mod h [] h' [] := by
 unfold aCall
 simp only [hE]
 refine cl_of ?_
 simp only [F.lock_Locks_Take_1, List.nil_append, List.append_nil, List.cons_append, new3, kP_some]
 have m0 := Mod.newBox (h := h) (fp := []) (o := .cells (dKey.enc x) 3 .rw) (by simp)
 have g0 : (h.new (.cells (dKey.enc x) 3 .rw)).get h.next = some (.cells (dKey.enc x) 3 .rw) := by simp
 have g1 : (h.new (.cells (dKey.enc x) 3 .rw)).get b = some (.cells (dKey.enc k) 3 .rw) := by
  rw [m0.same b hlt (by simp)]; exact hb
 generalize h.new (.cells (dKey.enc x) 3 .rw) = h2 at g0 g1 m0 ⊢
 rw [ld3 g0, kv_some, ld3 g1, kv_some]
 refine cl_then (lock_meet x k) ?_
 rintro r h3 ⟨rfl, m3⟩
 exact ⟨rfl, m0.trans m3⟩
theorem bars {E1 : FE} (hM : MonoI E.I) {b : Nat} (k : KeyM) (hE : E.I (E.k 8) = some (cl (F.lock_Locks_Take_1 E1))) {l : List KeyM} (s : SlE dKey h fp v l) (hsz : l.length ≤ 1000000)
 (hb : h.get b = some (.cells (dKey.enc k) 3 .rw)) (hlt : b < h.next) :
 cl (F.slices_ContainsFunc_Slock_Key_lock_Key E) [v, .func (.func (E.k 8)) #[] #[ptr b 0]] h fun r h' => r = .bool (l.any fun x => meetK x k) ∧ Mod h [] h' [] :=
 containsFunc_key hM s hsz (fun x => meetK x k) fun h' o _ m => take_1 (E2 := E1) k hE o (by rw [m.same b hlt (by simp)]; exact hb) (Nat.lt_of_lt_of_le hlt m.next)
end Go.Abs
namespace Go.Abs
open Go
variable {E : FE} {F : Fr} {h : AHeap} {L : List Pl} {p v : V} {lk : List (KeyM × IdM)} {ks : List KeyM}
def plKs (v : V) (l : List KeyM) : Pl := ⟨fun h f => SlE dKey h f v l, fun _ _ q => q.lt, fun _ _ _ q hl hs => SlE.same q hl hs⟩
def lkV (_ : KeyM) (v : V) (x : IdM) : Pl := plPure (v = x.agg)
def plLk (p : V) (lk : List (KeyM × IdM)) : Pl := plEx fun (y : Nat × Nat) => plAll [plPure (p = ptr y.1 0), plBox y.1 [.map (some y.2)] 1, plGM kdKey lkV y.2 lk]
theorem Sep.openLk (s : Sep F h (plLk p lk :: L)) : ∃ b m, p = ptr b 0 ∧ Sep F h (plBox b [.map (some m)] 1 :: plGM kdKey lkV m lk :: L) := by
 obtain ⟨⟨b, m⟩, s⟩ := s.ex
 have s1 := s.all
 obtain ⟨e, s2⟩ := Sep.pure (L := plBox b [.map (some m)] 1 :: plGM kdKey lkV m lk :: L) s1
 exact ⟨b, m, e, s2⟩
theorem Sep.closeLk {b m : Nat} (s : Sep F h (plBox b [.map (some m)] 1 :: plGM kdKey lkV m lk :: L)) : Sep F h (plLk (ptr b 0) lk :: L) :=
 Sep.mkEx (A := fun (y : Nat × Nat) => plAll [plPure (ptr b 0 = ptr y.1 0), plBox y.1 [.map (some y.2)] 1, plGM kdKey lkV y.2 lk]) (b, m)
  (Sep.mkAll (L' := [plPure (ptr b 0 = ptr b 0), plBox b [.map (some m)] 1, plGM kdKey lkV m lk]) (Sep.mkPure rfl s))
theorem Sep.pures {t : List (Et KeyM IdM)} : ∀ {h : AHeap} {L : List Pl}, Sep F h (t.map (Et.p lkV) ++ L) → ∀ e ∈ t, e.v = e.x.agg := by
 induction t with
 | nil => intro h L s e he; cases he
 | cons a t ih =>
  intro h L s e he
  obtain ⟨q, s1⟩ := Sep.pure (φ := a.v = a.x.agg) (L := t.map (Et.p lkV) ++ L) s
  rcases List.mem_cons.1 he with rfl | he
  · exact q
  · exact ih s1 e he
abbrev cId (i : IdM) : List V := [i64 i.client, i64 i.seq]
theorem new2 (i : IdM) : newD none i.agg h = some (ptr h.next 0, h.new (.cells (cId i) 2 .rw)) := rfl
theorem newK0 : newD none (.agg #[(.string ⟨#[]⟩), (.string ⟨#[]⟩), (.bool false)]) h = some (ptr h.next 0, h.new (.cells (dKey.enc ⟨⟨#[]⟩, ⟨#[]⟩, false⟩) 3 .rw)) := rfl
theorem newI0 : newD none (.agg #[(.int .i64 0), (.int .i64 0)]) h = some (ptr h.next 0, h.new (.cells (cId ⟨0, 0⟩) 2 .rw)) := rfl
theorem ld2 {b : Nat} {i : IdM} (hb : h.get b = some (.cells (cId i) 2 .rw)) : ldD (.agg 2) (ptr b 0) h = some i.agg := by
 simp only [ld_agg, rdN_of hb]
 rfl
theorem st3 {b : Nat} {c k : KeyM} (hb : h.get b = some (.cells (dKey.enc c) 3 .rw)) : stD (some 3) (ptr b 0) k.agg h = some (h.put b (.cells (dKey.enc k) 3 .rw)) := by
 show h.wr b 0 (dKey.enc k) = _
 simp only [AHeap.wr, hb]
 rw [if_pos ⟨by simp [dKey], by simp [dKey]⟩]
 rfl
theorem st2 {b : Nat} {c k : IdM} (hb : h.get b = some (.cells (cId c) 2 .rw)) : stD (some 2) (ptr b 0) k.agg h = some (h.put b (.cells (cId k) 2 .rw)) := by
 show h.wr b 0 (cId k) = _
 simp only [AHeap.wr, hb]
 rw [if_pos ⟨by simp, by simp⟩]
 rfl
theorem id_eq (c : Bool) (a b : IdM) : binD (.struct [(0, .int), (1, .int)]) .eql c a.agg b.agg h = some (.bool (decide (a = b))) := by
 have := kdId.eq a b
 have e : eqD (.struct [(0, .int), (1, .int)]) c a.agg b.agg h = some (decide (a = b)) := this
 show (eqD (.struct [(0, .int), (1, .int)]) c _ _ h).map Value.bool = _
 rw [e]; rfl
theorem id_ne (c : Bool) (a b : IdM) : binD (.struct [(0, .int), (1, .int)]) .neq c a.agg b.agg h = some (.bool (!decide (a = b))) := by
 have := kdId.eq a b
 have e : eqD (.struct [(0, .int), (1, .int)]) c a.agg b.agg h = some (decide (a = b)) := this
 show (eqD (.struct [(0, .int), (1, .int)]) c _ _ h).map (fun b => Value.bool (!b)) = _
 rw [e]; rfl
theorem takeL_snoc (id : IdM) (ks : List KeyM) (k : KeyM) : takeL id (ks ++ [k]) lk = ins k id (takeL id ks lk) := by
 simp [takeL, List.foldl_append]
theorem blocked_perm {id : IdM} {t : List (Et KeyM IdM)} {clk : Nat} (q : OkE t clk lk) :
 blocked id ks lk = t.any fun e => decide (e.x ≠ id) && ks.any fun k => meetK k e.k := by
 unfold blocked
 rw [Bool.eq_iff_iff, List.any_eq_true, List.any_eq_true]
 constructor
 · rintro ⟨x, hx, hp⟩
   obtain ⟨e, he, rfl⟩ := List.mem_map.1 (q.perm.mem_iff.2 hx)
   exact ⟨e, he, hp⟩
 · rintro ⟨e, he, hp⟩
   exact ⟨(e.k, e.x), q.perm.mem_iff.1 (List.mem_map.2 ⟨e, he, rfl⟩), hp⟩
end Go.Abs
namespace Go.Abs
open Go
variable {E : FE} {F : Fr} {h : AHeap} {L : List Pl} {p v : V} {lk : List (KeyM × IdM)} {ks : List KeyM}
theorem takes_in {id : IdM} {bi b m : Nat} (s : Sep F h (plGM kdKey lkV m lk :: plBox bi (cId id) 2 :: plBox b [.map (some m)] 1 :: plKs v ks :: L)) (hsz : ks.length ≤ 1000000) {K : V → AHeap → Prop}
 (hK : ∀ h', Sep F h' (plGM kdKey lkV m (takeL id ks lk) :: plBox bi (cId id) 2 :: plBox b [.map (some m)] 1 :: plKs v ks :: L) → K (.bool true) h') :
 kv (lenD .slice v h) fun v22 =>
∃ (Inv23 : Nat → List V → AHeap → Prop) (n23 : Nat), Inv23 n23 [(.int .i64 0)] h ∧ ∀ (n23 : Nat) (e23 : Nat → V) (h : AHeap), Inv23 n23 [(e23 33)] h →
kv (binD .bad .lss false (e23 33) v22 h) fun v24 =>
ifV v24 (
kv (indexAddrD (.slice 3) v (e23 33)) fun v25 =>
kv (ldD (.agg 3) v25 h) fun v26 =>
kP (newD none (.agg #[(.string ⟨#[]⟩), (.string ⟨#[]⟩), (.bool false)]) h) fun v27 h =>
kH (stD (some 3) v27 v26 h) fun _ h =>
kv (aNil (ptr b 0)) fun v28 =>
kv (fieldAddrD (some 0) v28) fun v29 =>
kv (ldD .one v29 h) fun v30 =>
kv (ldD (.agg 3) v27 h) fun v31 =>
kv (ldD (.agg 2) (ptr bi 0) h) fun v32 =>
kH (mapUpdateD (some ((.struct false [(0, .string), (1, .string), (2, .bool)]), (some (.agg #[(.int .i64 0), (.int .i64 0)])))) v30 v31 v32 h) fun _ h =>
kv (binD .bad .add true (e23 33) (.int .i64 1) h) fun v33 =>
∃ m, m < n23 ∧ Inv23 m [v33] h) (
K (.bool true) h) := by
 obtain ⟨f0, q0, _⟩ := s.up3.head
 have q0 : SlE dKey h f0 v ks := q0
 rw [q0.len, kv_some]
 refine ⟨fun n vs h' => ∃ i : Nat, vs = [i64 i] ∧ n = ks.length - i ∧ i ≤ ks.length ∧ Sep F h' (plGM kdKey lkV m (takeL id (ks.take i) lk) :: plBox bi (cId id) 2 :: plBox b [.map (some m)] 1 :: plKs v ks :: L), ks.length, ⟨0, rfl, by omega, by omega, by simpa [takeL] using s⟩, ?_⟩
 rintro n e h1 ⟨i, he, rfl, hi, s1⟩
 simp only [List.cons.injEq, and_true] at he
 simp only [he, bin_lss, kv_some, ifV_bool, decide_eq_true_eq]
 rcases Nat.lt_or_ge i ks.length with hx | hx
 case inr =>
  rw [if_neg (show ¬ ((i : Nat) : Int) < (ks.length : Nat) by omega)]
  have hil : i = ks.length := by omega
  subst hil
  rw [List.take_length] at s1
  exact hK _ s1
 rw [if_pos (show ((i : Nat) : Int) < (ks.length : Nat) by omega)]
 obtain ⟨f1, q1, _⟩ := s1.up3.head
 have q1 : SlE dKey h1 f1 v ks := q1
 have hg : ks[i]? = some ks[i] := List.getElem?_eq_getElem hx
 obtain ⟨c, i1, i2⟩ := q1.ld hg
 have i1 : indexAddrD (.slice 3) _ _ = _ := i1
 have i2 : ldD (.agg 3) _ _ = some (ks[i]).agg := i2
 have hnext : takeL id (ks.take (i + 1)) lk = ins ks[i] id (takeL id (ks.take i) lk) := by
  rw [List.take_add_one, hg]; exact takeL_snoc _ _ _
 generalize ks[i] = k at i2 hnext
 simp only [i1, kv_some, i2, newK0, kP_some]
 have s2 := s1.box (dKey.enc ⟨⟨#[]⟩, ⟨#[]⟩, false⟩) 3
 rw [st3 s2.get, kH_some]
 have s3 := s2.write (cs' := dKey.enc k)
 generalize (h1.new (.cells (dKey.enc ⟨⟨#[]⟩, ⟨#[]⟩, false⟩) 3 .rw)).put h1.next (.cells (dKey.enc k) 3 .rw) = h3 at s3 ⊢
 have r1 : h3.rd b 0 = some (.map (some m)) := rd_of (s3.drop.drop.drop.get) 0
 simp only [aNil_ptr, fieldAddr_ptr, kv_some, ld_one, Nat.zero_add, r1, ld3 s3.get, ld2 s3.drop.drop.get]
 obtain ⟨h4, e4, s4⟩ := Sep.insM (D := kdKey) (A := lkV) (k := k) (v := id.agg) (x := id) (z := .agg #[(.int .i64 0), (.int .i64 0)]) (Sep.up1 (Sep.mkPure (φ := id.agg = id.agg) rfl s3.drop))
 have e4 : mapUpdateD (some ((.struct false [(0, .string), (1, .string), (2, .bool)]), (some (.agg #[(.int .i64 0), (.int .i64 0)])))) (.map (some m)) k.agg id.agg h3 = some h4 := e4
 rw [e4, kH_some, add_i64 _ 1 (by omega) (by omega), kv_some]
 exact ⟨ks.length - (i + 1), by omega, i + 1, by simp, rfl, by omega, by rw [hnext]; exact s4⟩
theorem lock_Take {E1 : FE} (hM : MonoI E.I) (hE : E.I (E.k 8) = some (cl (Go.Abs.F.lock_Locks_Take_1 E1))) (id : IdM) (s : Sep F h (plLk p lk :: plKs v ks :: L)) (hsz : ks.length ≤ 1000000) :
 cl (Go.Abs.F.lock_Locks_Take E) [p, id.agg, v] h fun r h' => r = .bool (!blocked id ks lk) ∧ Sep F h' (plLk p (if blocked id ks lk then lk else takeL id ks lk) :: plKs v ks :: L) := by
 refine cl_of ?_
 obtain ⟨b, m, rfl, s0⟩ := s.openLk
 simp only [Go.Abs.F.lock_Locks_Take, new2, kP_some, ptr_eq_nil, kv_some, ifV_bool, Bool.false_eq_true, if_false, aNil_ptr, fieldAddr_ptr, ld_one, Nat.zero_add]
 have s1 := s0.box (cId id) 2
 generalize h.new (.cells (cId id) 2 .rw) = h1 at s1 ⊢
 generalize h.next = bi at s1 ⊢
 have g1 := s1.drop.get
 have r1 : h1.rd b 0 = some (.map (some m)) := by rw [rd_of g1 0]; rfl
 rw [r1, kv_some]
 obtain ⟨t, clk, q, s2⟩ := s1.up2.openM
 have hv := Sep.pures s2.drop
 rw [blocked_perm q]
 refine Sep.range s2 (fun it h2 s3 => ?_)
 refine ⟨fun n vs h' => ∃ td seen, vs = [] ∧ n = t.length - td.length ∧ SeenT t td seen ∧ Sep F h' (plIter it m clk seen :: plMap m (t.map (Et.m kdKey)) clk :: (t.map (Et.p lkV) ++ plBox bi (cId id) 2 :: plBox b [.map (some m)] 1 :: plKs v ks :: L)) ∧
  (∀ e ∈ td, (decide (e.x ≠ id) && ks.any fun k => meetK k e.k) = false), t.length, ⟨[], #[], rfl, rfl, SeenT.nil t, s3, by simp⟩, ?_⟩
 rintro n e0 h3 ⟨td, seen, _, rfl, hs, s4, hno⟩
 refine Sep.nextT s4 q.lt q.bn hs (fun e he hne h5 s5 hs5 hent hlen => ?_) (fun hp => ?_)
 · simp only [extract_tuple, List.getElem?_toArray, List.getElem?_cons_zero, List.getElem?_cons_succ, kv_some, ifV_bool, if_true]
   rw [hent, kV_some]
   simp only [extract_tuple, List.getElem?_toArray, List.getElem?_cons_zero, List.getElem?_cons_succ, kv_some, newK0, newI0, kP_some]
   have s6 := s5.box (dKey.enc ⟨⟨#[]⟩, ⟨#[]⟩, false⟩) 3
   have s7 := s6.box (cId ⟨0, 0⟩) 2
   have ek : kdKey.enc e.k = e.k.agg := rfl
   rw [ek, st3 s7.drop.get, kH_some]
   have s8 := s7.up1.write (cs' := dKey.enc e.k)
   rw [hv e he, st2 s8.drop.get, kH_some]
   have s9 := s8.up1.write (cs' := cId e.x)
   generalize AHeap.put (AHeap.put _ _ _) _ _ = h9 at s9 ⊢
   generalize (h5.new _).next = bx2 at s9 ⊢
   generalize h5.next = bk at s9 ⊢
   have g2 := s9.drop.drop.drop.drop.dropL.get
   have g3 := s9.drop.get
   rw [ld2 s9.get, kv_some, ld2 g2, kv_some, id_ne, kv_some]
   have more : ∀ h', Sep F h' (plBox bx2 (cId e.x) 2 :: plBox bk (dKey.enc e.k) 3 :: plIter it m clk (seen.push e.b) :: plMap m (t.map (Et.m kdKey)) clk :: (t.map (Et.p lkV) ++ plBox bi (cId id) 2 :: plBox b [.map (some m)] 1 :: plKs v ks :: L)) →
    (decide (e.x ≠ id) && ks.any fun k => meetK k e.k) = false →
    ∃ m1, m1 < t.length - td.length ∧ ∃ td seen, True ∧ m1 = t.length - td.length ∧ SeenT t td seen ∧ Sep F h' (plIter it m clk seen :: plMap m (t.map (Et.m kdKey)) clk :: (t.map (Et.p lkV) ++ plBox bi (cId id) 2 :: plBox b [.map (some m)] 1 :: plKs v ks :: L)) ∧
     (∀ e ∈ td, (decide (e.x ≠ id) && ks.any fun k => meetK k e.k) = false) := fun h' sx hx =>
    ⟨t.length - (td.length + 1), by omega, td ++ [e], _, trivial, by simp, hs5, sx.drop.drop, fun e' he' => by
     rcases List.mem_append.1 he' with h | h
     · exact hno e' h
     · simp only [List.mem_singleton] at h
       subst h; exact hx⟩
   by_cases hx : e.x = id
   · simp only [hx, decide_true, Bool.not_true, gdV_bool, Bool.false_eq_true, if_false, kv_some]
     refine gdC_no (by simp) ?_
     simp only [pickV_bool, Bool.false_eq_true, if_false, kv_some, ifV_bool]
     rw [hx] at s9
     exact more _ (by rw [hx]; exact s9) (by simp [hx])
   · simp only [hx, decide_false, Bool.not_false, gdV_bool, if_true, kv_some]
     obtain ⟨f9, q9, _⟩ := s9.drop.drop.drop.drop.dropL.up2.head
     have q9 : SlE dKey h9 f9 v ks := q9
     obtain ⟨_, ⟨_, hlt, _⟩, _⟩ := s9.drop.head
     refine gdC_yes rfl (cl_then (bars hM e.k hE q9 hsz g3 hlt) ?_)
     rintro r h10 ⟨rfl, m10⟩
     have s10 := s9.skip m10
     simp only [pickV_bool, if_true, kv_some, ifV_bool]
     by_cases ha : (ks.any fun k => meetK k e.k) = true
     · rw [if_pos ha]
       have hb : (t.any fun e => decide (e.x ≠ id) && ks.any fun k => meetK k e.k) = true := List.any_eq_true.2 ⟨e, he, by simp [hx, ha]⟩
       rw [hb]
       refine ⟨rfl, ?_⟩
       have sc := Sep.closeM (D := kdKey) (A := lkV) q s10.drop.drop.drop
       exact Sep.closeLk sc.up1.drop.up1
     · rw [if_neg ha]
       exact more _ s10 (by simp [ha])
 · simp only [extract_tuple, List.getElem?_toArray, List.getElem?_cons_zero, List.getElem?_cons_succ, kv_some, ifV_bool, Bool.false_eq_true, if_false]
   have hb : (t.any fun e => decide (e.x ≠ id) && ks.any fun k => meetK k e.k) = false := by
    rw [Bool.eq_false_iff, ne_eq, List.any_eq_true]
    rintro ⟨e, he, hp1⟩
    rw [hno e (hp.mem_iff.1 he)] at hp1
    cases hp1
   rw [hb]
   have sc := Sep.closeM (D := kdKey) (A := lkV) q s4.drop
   exact takes_in (K := fun r h' => r = .bool (!false) ∧ Sep F h' (plLk (ptr b 0) (if false = true then lk else takeL id ks lk) :: plKs v ks :: L)) sc hsz fun h' s' => ⟨rfl, Sep.closeLk s'.up1.drop.up1⟩
end Go.Abs
namespace Go.Abs
open Go
variable {E : FE} {F : Fr} {h : AHeap} {L : List Pl} {p v : V} {lk : List (KeyM × IdM)} {ks : List KeyM}
theorem lock_Has {E1 : FE} (hM : MonoI E.I) (hE : E.I (E.k 9) = some (cl (Go.Abs.F.lock_order E1))) (id : IdM) (s : Sep F h (plLk p lk :: L)) (hl : lk.length ≤ 1000000)
 (hn : (lk.filter fun e => decide (e.2 = id)).length ≤ 12) :
 cl (Go.Abs.F.lock_Locks_Has E) [p, id.agg] h fun r h' => ∃ l', (∀ k, k ∈ l' ↔ (k, id) ∈ lk) ∧ l'.length ≤ 12 ∧ Sep F h' (plKs r l' :: plLk p lk :: L) := by
 refine cl_of ?_
 obtain ⟨b, m, rfl, s0⟩ := s.openLk
 simp only [Go.Abs.F.lock_Locks_Has, new2, kP_some, ptr_eq_nil, kv_some, ifV_bool, Bool.false_eq_true, if_false, aNil_ptr, fieldAddr_ptr, ld_one, Nat.zero_add]
 have s1 := s0.box (cId id) 2
 generalize h.new (.cells (cId id) 2 .rw) = h1 at s1 ⊢
 generalize h.next = bi at s1 ⊢
 have g1 := s1.drop.get
 have r1 : h1.rd b 0 = some (.map (some m)) := by rw [rd_of g1 0]; rfl
 rw [r1, kv_some]
 obtain ⟨t, clk, q, s2⟩ := s1.up2.openM
 have hv := Sep.pures s2.drop
 have htl : t.length = lk.length := by have := q.perm.length_eq; simpa [absE] using this
 refine Sep.range s2 (fun it h2 s3 => ?_)
 have s3' : Sep F h2 (plKs (.slice none 0 0) [] :: plIter it m clk #[] :: plMap m (t.map (Et.m kdKey)) clk :: (t.map (Et.p lkV) ++ plBox bi (cId id) 2 :: plBox b [.map (some m)] 1 :: L)) :=
  s3.alloc (a' := []) (plKs (.slice none 0 0) []) (Mod.refl (by simp)) (SlE.nil (D := dKey))
 refine ⟨fun n vs h' => ∃ td seen w, vs = [w] ∧ n = t.length - td.length ∧ SeenT t td seen ∧ Sep F h' (plKs w ((td.filter fun e => decide (e.x = id)).map (·.k)) :: plIter it m clk seen :: plMap m (t.map (Et.m kdKey)) clk :: (t.map (Et.p lkV) ++ plBox bi (cId id) 2 :: plBox b [.map (some m)] 1 :: L)),
  t.length, ⟨[], #[], _, rfl, rfl, SeenT.nil t, s3'⟩, ?_⟩
 rintro n e0 h3 ⟨td, seen, w, he0, rfl, hs, s4⟩
 simp only [List.cons.injEq, and_true] at he0
 simp only [he0]
 refine Sep.nextT s4.dn2 q.lt q.bn hs (fun e he hne h5 s5 hs5 hent hlen => ?_) (fun hp => ?_)
 · simp only [extract_tuple, List.getElem?_toArray, List.getElem?_cons_zero, List.getElem?_cons_succ, kv_some, ifV_bool, if_true]
   rw [hent, kV_some]
   simp only [extract_tuple, List.getElem?_toArray, List.getElem?_cons_zero, List.getElem?_cons_succ, kv_some, newK0, newI0, kP_some]
   have s6 := s5.up2.box (dKey.enc ⟨⟨#[]⟩, ⟨#[]⟩, false⟩) 3
   have s7 := s6.box (cId ⟨0, 0⟩) 2
   have ek : kdKey.enc e.k = e.k.agg := rfl
   rw [ek, st3 s7.drop.get, kH_some]
   have s8 := s7.up1.write (cs' := dKey.enc e.k)
   rw [hv e he, st2 s8.drop.get, kH_some]
   have s9 := s8.up1.write (cs' := cId e.x)
   generalize AHeap.put (AHeap.put _ _ _) _ _ = h9 at s9 ⊢
   generalize (h5.new _).next = bx2 at s9 ⊢
   generalize h5.next = bk at s9 ⊢
   have g2 := s9.drop.drop.drop.drop.drop.dropL.get
   have g3 := s9.drop.get
   rw [ld2 s9.get, kv_some, ld2 g2, kv_some, id_eq, kv_some]
   have s10 := s9.drop.drop
   have hfl : ((td.filter fun e => decide (e.x = id)).map (·.k)).length ≤ 1000000 := by
    rw [List.length_map]
    have := List.length_filter_le (fun e : Et KeyM IdM => decide (e.x = id)) td
    omega
   simp only [ifV_bool, decide_eq_true_eq]
   by_cases hx : e.x = id
   · rw [if_pos hx, ld3 g3, kv_some]
     obtain ⟨f, qs, kk⟩ := s10.head
     obtain ⟨h11, b1, w', h12, fw', b2, s11, m11⟩ := append_key (v := w) (fp := f) (h := h9) qs hfl e.k
     rw [b1, kP_some, b2, kP_some]
     refine ⟨t.length - (td.length + 1), by omega, td ++ [e], _, w', rfl, by simp, hs5, ?_⟩
     rw [List.filter_append, List.filter_cons_of_pos (by simp [hx]), List.filter_nil, List.map_append]
     exact kk (plKs w' (_ ++ [e.k])) m11 s11
   · rw [if_neg hx]
     refine ⟨t.length - (td.length + 1), by omega, td ++ [e], _, w, rfl, by simp, hs5, ?_⟩
     rw [List.filter_append, List.filter_cons_of_neg (by simp [hx]), List.filter_nil, List.append_nil]
     exact s10
 · simp only [extract_tuple, List.getElem?_toArray, List.getElem?_cons_zero, List.getElem?_cons_succ, kv_some, ifV_bool, Bool.false_eq_true, if_false]
   have hlen : ((td.filter fun e => decide (e.x = id)).map (·.k)).length ≤ 12 := by
    have h1 := ((hp.filter fun e => decide (e.x = id)).length_eq)
    have h2 := ((q.perm.filter fun e => decide (e.2 = id)).length_eq)
    rw [absE, List.filter_map, List.length_map] at h2
    rw [List.length_map, ← h1]
    have h3 : (t.filter fun e => decide (e.x = id)).length = (t.filter ((fun e : KeyM × IdM => decide (e.2 = id)) ∘ fun e : Et KeyM IdM => (e.k, e.x))).length := rfl
    omega
   obtain ⟨f, qs, kk⟩ := s4.head
   refine cl_then (lock_sorted hM hE (v := w) (fp := f) (h := h3) qs hlen) ?_
   rintro r h6 ⟨l', hm, hle, sl, ml⟩
   refine ⟨l', fun k => ?_, Nat.le_trans hle hlen, ?_⟩
   · rw [hm k, ← q.perm.mem_iff]
     simp only [List.mem_map, List.mem_filter, decide_eq_true_eq, absE, Prod.mk.injEq]
     constructor
     · rintro ⟨e, ⟨he, hx⟩, hk⟩
       exact ⟨e, hp.mem_iff.2 he, hk, hx⟩
     · rintro ⟨e, he, hk, hx⟩
       exact ⟨e, ⟨hp.mem_iff.1 he, hx⟩, hk⟩
   · have s5 := kk (plKs r l') ml sl
     have s6 := Sep.closeM (D := kdKey) (A := lkV) q (s5.dn2.drop.perm (List.Perm.cons _ List.perm_middle.symm))
     exact (Sep.closeLk s6.up2.drop.up2).up1
end Go.Abs

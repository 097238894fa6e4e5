/- The orders of names and of locks. -/
import Derived.Test.YtldjlkbjbkielaaGreatDoorVpbb
import Derived.Test.YtldjlkbjbkielaaGreatDoorVpav
set_option linter.unusedSimpArgs false
set_option linter.unusedVariables false
namespace Go.Abs
open Go
variable {E : FE} {h : aA} {fp : List Nat} {v : V}
theorem aWe (k : EqK) (c : Bool) (a b : ByteArray) {h : aA} : aC k .gtr c (str a) (str b) h = some (.bool (decide (kl b < kl a))) := by
 rw [sV]
 show some (Value.bool (!(Op.bytesLess a.toList b.toList || a.toList == b.toList))) = _
 rw [aD4, uP, uP]
 congr 2
 show (!(decide (kl a < kl b) || (kl a == kl b))) = decide (kl b < kl a)
 by_cases h1 : kl a < kl b
 · simp [h1, aFm h1]
 · by_cases h2 : kl a = kl b
   · simp [h2, fQ]
   · simp [h1, h2, qC h1 h2]
def pV (x y : Int) : Int := if x < y then -1 else if y < x then 1 else 0
def lL (x y : ByteArray) : Int := if kl x < kl y then -1 else if kl y < kl x then 1 else 0
theorem aQi (x y : Int) : cl (F.lM E) [i64 x, i64 y] h fun r h' => r = i64 (pV x y) ∧ h' = h := by
 have nan : ∀ (x : Int) (h : aA), cl (F.cmp_isNaN_int E) [i64 x] h fun r h' => r = .bool false ∧ h' = h := fun x h => aO (by simp [F.cmp_isNaN_int])
 refine aO ?_
 simp only [F.lM]
 refine aL (nan x h) ?_
 rintro r h1 ⟨rfl, rfl⟩
 refine aL (nan y h1) ?_
 rintro r h2 ⟨rfl, rfl⟩
 simp only [aF, Bool.false_eq_true, if_false, cW, iH, aB, decide_eq_true_eq, pV, gt_iff_lt]
 split
 · exact ⟨rfl, trivial⟩
 · split <;> exact ⟨rfl, trivial⟩
theorem aQj (x y : Int) : cl (F.lN E) [i64 x, i64 y] h fun r h' => r = i64 (pV x y) ∧ h' = h := by
 have nan : ∀ (x : Int) (h : aA), cl (F.kK E) [i64 x] h fun r h' => r = .bool false ∧ h' = h := fun x h => aO (by simp [F.kK])
 refine aO ?_
 simp only [F.lN]
 refine aL (nan x h) ?_
 rintro r h1 ⟨rfl, rfl⟩
 refine aL (nan y h1) ?_
 rintro r h2 ⟨rfl, rfl⟩
 simp only [aF, Bool.false_eq_true, if_false, cW, iH, aB, decide_eq_true_eq, pV, gt_iff_lt]
 split
 · exact ⟨rfl, trivial⟩
 · split <;> exact ⟨rfl, trivial⟩
theorem aWh (k : EqK) (c : Bool) (a : ByteArray) {h : aA} : aC k .neq c (str a) (str a) h = some (.bool false) := by
 rw [sV]
 show some (Value.bool (!(a.toList == a.toList))) = _
 simp
theorem aIf (x y : ByteArray) : cl (F.kJ E) [str x, str y] h fun r h' => r = i64 (lL x y) ∧ h' = h := by
 have nan : ∀ (x : ByteArray) (h : aA), cl (F.cmp_isNaN_string E) [str x] h fun r h' => r = .bool false ∧ h' = h := fun x h => aO (by
  simp only [F.cmp_isNaN_string, aWh, aB]
  exact ⟨trivial, trivial⟩)
 refine aO ?_
 simp only [F.kJ]
 refine aL (nan x h) ?_
 rintro r h1 ⟨rfl, rfl⟩
 refine aL (nan y h1) ?_
 rintro r h2 ⟨rfl, rfl⟩
 simp only [aF, Bool.false_eq_true, if_false, aWg, aWe, aB, decide_eq_true_eq, lL]
 split
 · exact ⟨rfl, trivial⟩
 · split <;> exact ⟨rfl, trivial⟩
def orI : List Int → Int
 | [] => 0
 | x :: l => if x ≠ 0 then x else orI l
def aEe : EL Int := ⟨1, fun x => [i64 x], fun _ => rfl, fun _ => rfl, by decide⟩
theorem aFx : ∀ (l : List Int) (i : Nat), (∀ j x, j < i → l[j]? = some x → x = 0) → orI l = orI (l.drop i)
 | [], i, _ => by simp
 | x :: l, 0, _ => rfl
 | x :: l, i + 1, hz => by
  have : x = 0 := hz 0 x (by omega) rfl
  subst this
  rw [List.drop_succ_cons, ← aFx l i fun j x hj hx => hz (j + 1) x (by omega) (by simpa using hx)]
  simp [orI]
theorem aL2 {l : List Int} (s : SlE aEe h fp v l) (hsz : l.length ≤ 1000) : cl (F.iI E) [v] h fun r h' => r = i64 (orI l) ∧ h' = h := by
 refine aO ?_
 simp only [F.iI, s.len, aB]
 refine ⟨fun n vs h' => ∃ i : Nat, vs = [i64 i] ∧ n = l.length - i ∧ i ≤ l.length ∧ h' = h ∧ ∀ j x, j < i → l[j]? = some x → x = 0, l.length, ⟨0, rfl, by omega, by omega, rfl, fun j x hj => by omega⟩, ?_⟩
 rintro n e h1 ⟨i, he, rfl, hi, rfl, hz⟩
 simp only [List.cons.injEq, and_true] at he
 simp only [he, cW, aB, aF]
 by_cases hx : i < l.length
 · have : ((i : Nat) : Int) < (l.length : Nat) := by omega
   simp only [this, decide_true, if_true]
   have hg : l[i]? = some l[i] := List.getElem?_eq_getElem hx
   obtain ⟨b, _, i1, _, i3⟩ := s.at hg
   have i1 : bG (.slice 1) v (i64 i) = some (ptr b (i * 1)) := i1
   have i3 := i3 0 (by decide)
   have i4 : h1.rd b (i * 1) = some (i64 l[i]) := i3
   simp only [i1, aB, bC, i4, oO, aF]
   have hd := aFx l i hz
   rw [List.drop_eq_getElem_cons hx] at hd
   by_cases h0 : l[i] = 0
   · have : (l[i] != 0) = false := by simp [h0]
     simp only [this, Bool.false_eq_true, if_false]
     rw [dN _ 1 (by omega) (by omega), aB]
     refine ⟨l.length - (i + 1), by omega, i + 1, by simp, rfl, by omega, trivial, fun j x hj hx' => ?_⟩
     by_cases hji : j = i
     · subst hji
       rw [hg] at hx'
       cases hx'
       exact h0
     · exact hz j x (by omega) hx'
   · have : (l[i] != 0) = true := by simp [h0]
     simp only [this, if_true]
     refine ⟨?_, trivial⟩
     rw [hd, orI, if_pos h0]
 · have : ¬ ((i : Nat) : Int) < (l.length : Nat) := by omega
   simp only [this, decide_false, Bool.false_eq_true, if_false]
   refine ⟨?_, trivial⟩
   have hd := aFx l i hz
   rw [List.drop_eq_nil_of_le (by omega)] at hd
   rw [hd]
   rfl
theorem SlE.lit {α : Type} (D : EL α) (h : aA) (l : List α) (hl : l ≠ []) : SlE D (h.new (.cells (D.flat l) D.es .rw)) [h.next] (.slice (some ⟨h.next, 0, none⟩) l.length (2 * l.length)) l :=
 ⟨D.qQ l, .inr ⟨h.next, 2 * l.length, D.flat l, rfl, rfl, by simp, by omega, by simp, by rw [D.qQ, Nat.mul_div_cancel_left _ (by decide)]; exact Nat.le_refl _, by rw [← D.qQ, List.take_length]⟩⟩
def rB (a b : IdM) : Int := orI [pV a.client b.client, pV a.seq b.seq]
def allI (a b : aZ) : Int := if a.all && !b.all then -1 else if b.all && !a.all then 1 else 0
def lZ (a b : aZ) : Int := orI [lL a.space b.space, allI a b, lL a.key b.key]
theorem Mod.pC {o o' : cD} : Mod h [] ((h.new o).new o') [] :=
 ⟨by simp; omega, fun x hx _ => by
  have h1 : x ≠ h.next := by omega
  have h2 : x ≠ h.next + 1 := by omega
  simp [h1, h2], by simp, by simp⟩
theorem iR (a b : IdM) : cl (F.iR E) [a.agg, b.agg] h fun r h' => r = i64 (rB a b) ∧ Mod h [] h' [] := by
 refine aO ?_
 have e0 : ∀ (i : IdM) (h : aA), aQ none i.agg h = some (ptr h.next 0, h.new (.cells [i64 i.client, i64 i.seq] 2 .rw)) := fun _ _ => rfl
 simp only [F.iR, e0, bA, qZ]
 generalize hh : ((h.new (.cells [i64 a.client, i64 a.seq] 2 .rw)).new (.cells [i64 b.client, i64 b.seq] 2 .rw)) = h2
 have m2 : Mod h [] h2 [] := by rw [← hh]; exact Mod.pC
 have ga : h2.get h.next = some (.cells [i64 a.client, i64 a.seq] 2 .rw) := by rw [← hh]; simp
 have gb : h2.get (h.next + 1) = some (.cells [i64 b.client, i64 b.seq] 2 .rw) := by rw [← hh]; simp
 have r1 : h2.rd h.next 0 = some (i64 a.client) := aG ga 0
 have r2 : h2.rd h.next 1 = some (i64 a.seq) := aG ga 1
 have r3 : h2.rd (h.next + 1) 0 = some (i64 b.client) := aG gb 0
 have r4 : h2.rd (h.next + 1) 1 = some (i64 b.seq) := aG gb 1
 simp only [bH, aB, bC, Nat.zero_add, r1, r2, r3, r4]
 refine aL (aQi _ _) ?_
 rintro r h3 ⟨rfl, rfl⟩
 refine ⟨r2, r4, ?_⟩
 refine aL (aQj _ _) ?_
 rintro r h4 ⟨rfl, rfl⟩
 have eb : ∀ x y : Int, cR (some (1, [(.int .i64 0)])) 2 [(0, i64 x), (1, i64 y)] h4 = some (.slice (some ⟨h4.next, 0, none⟩) 2 4, h4.new (.cells [i64 x, i64 y] 1 .rw)) := fun _ _ => rfl
 rw [eb, bA]
 have s := SlE.lit aEe h4 [pV a.client b.client, pV a.seq b.seq] (by simp)
 refine aL (aL2 s (by simp)) ?_
 rintro r h5 ⟨rfl, rfl⟩
 refine ⟨rfl, m2.trans ⟨by simp, fun x hx _ => ?_, by simp, by simp⟩⟩
 have : x ≠ h4.next := by omega
 simp [this]
theorem fB (a b : aZ) : cl (F.fB E) [a.agg, b.agg] h fun r h' => r = i64 (lZ a b) ∧ Mod h [] h' [] := by
 refine aO ?_
 have e0 : ∀ (i : aZ) (h : aA), aQ none i.agg h = some (ptr h.next 0, h.new (.cells [str i.space, str i.key, .bool i.all] 3 .rw)) := fun _ _ => rfl
 simp only [F.fB, e0, bA, qZ]
 generalize hh : ((h.new (.cells [str a.space, str a.key, .bool a.all] 3 .rw)).new (.cells [str b.space, str b.key, .bool b.all] 3 .rw)) = h2
 have m2 : Mod h [] h2 [] := by rw [← hh]; exact Mod.pC
 have ga : h2.get h.next = some (.cells [str a.space, str a.key, .bool a.all] 3 .rw) := by rw [← hh]; simp
 have gb : h2.get (h.next + 1) = some (.cells [str b.space, str b.key, .bool b.all] 3 .rw) := by rw [← hh]; simp
 have r0 : h2.rd h.next 0 = some (str a.space) := aG ga 0
 have r1 : h2.rd h.next 1 = some (str a.key) := aG ga 1
 have r2 : h2.rd h.next 2 = some (.bool a.all) := aG ga 2
 have r3 : h2.rd (h.next + 1) 0 = some (str b.space) := aG gb 0
 have r4 : h2.rd (h.next + 1) 1 = some (str b.key) := aG gb 1
 have r5 : h2.rd (h.next + 1) 2 = some (.bool b.all) := aG gb 2
 refine ⟨fun vs h' => vs = [i64 (allI a b)] ∧ h' = h2, ?_, ?_⟩
 · simp only [bH, aB, bC, Nat.zero_add, r2, r5]
   cases ha : a.all <;> cases hb : b.all <;> simp [aT, aY, dB, aF, allI, ha, hb, r2, r5]
 rintro e2 h3 ⟨he, rfl⟩
 simp only [List.cons.injEq, and_true] at he
 simp only [he, bH, aB, bC, Nat.zero_add, r0, r1, r3, r4]
 refine aL (aIf _ _) ?_
 rintro r h4 ⟨rfl, rfl⟩
 refine ⟨r1, r4, ?_⟩
 refine aL (aIf _ _) ?_
 rintro r h5 ⟨rfl, rfl⟩
 have eb : ∀ x y z : Int, cR (some (1, [(.int .i64 0)])) 3 [(0, i64 x), (1, i64 y), (2, i64 z)] h5 = some (.slice (some ⟨h5.next, 0, none⟩) 3 6, h5.new (.cells [i64 x, i64 y, i64 z] 1 .rw)) := fun _ _ _ => rfl
 rw [eb, bA]
 have s := SlE.lit aEe h5 [lL a.space b.space, allI a b, lL a.key b.key] (by simp)
 refine aL (aL2 s (by simp)) ?_
 rintro r h6 ⟨rfl, rfl⟩
 refine ⟨rfl, m2.trans ⟨by simp, fun x hx _ => ?_, by simp, by simp⟩⟩
 have : x ≠ h5.next := by omega
 simp [this]
theorem aEa {x y : ByteArray} : lL x y = 0 ↔ x = y := by
 unfold lL
 split
 · rename_i h1
   constructor
   · intro h; omega
   · rintro rfl; exact absurd h1 (fQ _)
 · split
   · rename_i h1
     constructor
     · intro h; omega
     · rintro rfl; exact absurd h1 (fQ _)
   · rename_i h1 h2
     constructor
     · intro _
       by_cases e : kl x = kl y
       · exact qS e
       · exact absurd (qC h1 e) h2
     · intro _; rfl
theorem aIe {x y : ByteArray} : lL x y < 0 ↔ kl x < kl y := by
 unfold lL
 split
 · rename_i h1; simp [h1]
 · rename_i h1
   split <;> simp [h1]
theorem aL3 : Ord rB := by
 have le : ∀ a b : IdM, rB a b ≤ 0 ↔ a.client < b.client ∨ (a.client = b.client ∧ a.seq ≤ b.seq) := by
  intro a b
  simp only [rB, orI, pV]
  split <;> split <;> (try split) <;> (try split) <;> (try split) <;> omega
 have lt : ∀ a b : IdM, rB a b < 0 ↔ a.client < b.client ∨ (a.client = b.client ∧ a.seq < b.seq) := by
  intro a b
  simp only [rB, orI, pV]
  split <;> split <;> (try split) <;> (try split) <;> (try split) <;> omega
 refine ⟨fun x y z h1 h2 => ?_, fun x y => ?_, fun x y h1 h2 => ?_⟩
 · rw [le] at h1 h2 ⊢; omega
 · rw [lt, le]; omega
 · rw [le] at h1 h2
   cases x; cases y
   simp only [IdM.mk.injEq] at *
   omega
theorem aUv : Ord lZ := by
 have key : ∀ a b : aZ, (lZ a b < 0 ↔ kl a.space < kl b.space ∨ (a.space = b.space ∧ ((a.all = true ∧ b.all = false) ∨ (a.all = b.all ∧ kl a.key < kl b.key)))) ∧ (lZ a b = 0 ↔ a = b) := by
  intro a b
  obtain ⟨s, k, x⟩ := a
  obtain ⟨s', k', x'⟩ := b
  have hs := @aEa s s'
  have hl := @aIe s s'
  have ks := @aEa k k'
  have kl' := @aIe k k'
  simp only [lZ, orI, aZ.mk.injEq]
  by_cases h1 : lL s s' = 0
  · have e := hs.1 h1
    have hn : ¬ kl s < kl s' := fun hh => by rw [e] at hh; exact fQ _ hh
    simp only [h1, ne_eq, not_true_eq_false, if_false]
    cases x <;> cases x' <;> simp [allI, e, fQ]
    all_goals
     by_cases h2 : lL k k' = 0
     · have e2 := ks.1 h2
       have e3 : ∀ x, lL x x = 0 := fun x => aEa.2 rfl
       simp [h2, e2, fQ, e3]
     · have e2 : ¬ k = k' := fun hh => h2 (ks.2 hh)
       simp [h2, e2, kl']
  · have e : ¬ s = s' := fun hh => h1 (hs.2 hh)
    simp [h1, e, hl]
 have le : ∀ a b : aZ, lZ a b ≤ 0 ↔ lZ a b < 0 ∨ a = b := fun a b => by
  rw [← (key a b).2]; omega
 have tr : ∀ x y z, lZ x y < 0 → lZ y z < 0 → lZ x z < 0 := by
  intro x y z h1 h2
  rw [(key _ _).1] at h1 h2 ⊢
  obtain ⟨s, k, a⟩ := x
  obtain ⟨s', k', a'⟩ := y
  obtain ⟨s2, k2, a2⟩ := z
  simp only at *
  rcases h1 with h1 | ⟨rfl, h1⟩ <;> rcases h2 with h2 | ⟨rfl, h2⟩
  · exact .inl (vN h1 h2)
  · exact .inl h1
  · exact .inl h2
  · right
    refine ⟨rfl, ?_⟩
    rcases h1 with ⟨rfl, rfl⟩ | ⟨rfl, h1⟩ <;> rcases h2 with ⟨e1, rfl⟩ | ⟨rfl, h2⟩
    · cases e1
    · exact .inl ⟨rfl, rfl⟩
    · exact .inl ⟨e1, rfl⟩
    · exact .inr ⟨rfl, vN h1 h2⟩
 have irr : ∀ x, ¬ lZ x x < 0 := fun x hx => by
  have := (key x x).2.2 rfl
  omega
 refine ⟨fun x y z h1 h2 => ?_, fun x y => ?_, fun x y h1 h2 => ?_⟩
 · rw [le] at h1 h2 ⊢
   rcases h1 with h1 | rfl
   · rcases h2 with h2 | rfl
     · exact .inl (tr _ _ _ h1 h2)
     · exact .inl h1
   · exact h2
 · by_cases e : x = y
   · right; rw [le]; exact .inr e.symm
   · by_cases h1 : lZ x y < 0
     · exact .inl h1
     · right
       rw [le]
       left
       rw [(key _ _).1] at h1 ⊢
       obtain ⟨s, k, a⟩ := x
       obtain ⟨s', k', a'⟩ := y
       simp only [not_or, not_and] at h1
       simp only
       by_cases es : s = s'
       · subst es
         right
         refine ⟨rfl, ?_⟩
         have h2 := h1.2 rfl
         cases a <;> cases a' <;> simp at h2 ⊢
         all_goals
          have hk : ¬ k = k' := fun hh => e (by rw [hh])
          exact qC h2 fun hh => hk (qS hh)
       · exact .inl (qC h1.1 fun hh => es (qS hh))
 · rw [le] at h1 h2
   rcases h1 with h1 | rfl
   · rcases h2 with h2 | rfl
     · exact absurd (tr _ _ _ h1 h2) (irr x)
     · rfl
   · rfl
theorem aQh {E1 : FE} (hE : E.I (E.k 10) = some (cl (F.iR E1))) : sQ E dId (.func (.func (E.k 10)) #[] #[]) rB := fun h x y => by
 unfold cU
 simp only [hE]
 exact iR x y
theorem aQk {E1 : FE} (hE : E.I (E.k 9) = some (cl (F.fB E1))) : sQ E bF (.func (.func (E.k 9)) #[] #[]) lZ := fun h x y => by
 unfold cU
 simp only [hE]
 exact fB x y
end Go.Abs
namespace Go.Abs
open Go
variable {E : FE} {h : aA} {fp : List Nat} {v : V} {l : List aZ}
theorem SlE.form {α : Type} {D : EL α} {l : List α} (s : SlE D h fp v l) (hl : l ≠ []) : ∃ b c, v = .slice (some ⟨b, 0, none⟩) l.length c ∧ fp = [b] ∧ l.length ≤ c / 2 := by
 obtain ⟨h0, ⟨rfl, h1, rfl⟩ | ⟨b, c, all, rfl, rfl, hb, hc, h2, h3, h4⟩⟩ := s
 · exact absurd (List.eq_nil_of_length_eq_zero h1) hl
 · exact ⟨b, c, rfl, rfl, hc⟩
theorem SlE.cells {α : Type} {D : EL α} {l : List α} {b c n : Nat} {fp : List Nat} (s : SlE D h fp (.slice (some ⟨b, 0, none⟩) n c) l) : fp = [b] ∧ b < h.next ∧ n = l.length ∧ l.length ≤ c / 2 ∧ ∃ all, h.get b = some (.cells all D.es .rw) ∧ c / 2 * D.es ≤ all.length ∧ all.take (l.length * D.es) = D.flat l := by
 obtain ⟨h0, ⟨e, h1, rfl⟩ | ⟨b', c', all, e, rfl, hb, hc, h2, h3, h4⟩⟩ := s
 · cases e
 · cases e; exact ⟨rfl, hb, rfl, hc, all, h2, h3, h4⟩
theorem aSx (c : Bool) (a b : aZ) : aC (.struct [(0, .string), (1, .string), (2, .bool)]) .eql c (.agg (bF.enc a).toArray) (.agg (bF.enc b).toArray) h = some (.bool (decide (a = b))) := by
 have := eD.eq a b
 have e : eqD (.struct [(0, .string), (1, .string), (2, .bool)]) c (.agg (bF.enc a).toArray) (.agg (bF.enc b).toArray) h = some (decide (a = b)) := this
 show (eqD (.struct [(0, .string), (1, .string), (2, .bool)]) c _ _ h).map Value.bool = _
 rw [e]; rfl
theorem aSy (c : Bool) (a b : aZ) : aC (.struct [(0, .string), (1, .string), (2, .bool)]) .neq c (.agg (bF.enc a).toArray) (.agg (bF.enc b).toArray) h = some (.bool (!decide (a = b))) := by
 have := eD.eq a b
 have e : eqD (.struct [(0, .string), (1, .string), (2, .bool)]) c (.agg (bF.enc a).toArray) (.agg (bF.enc b).toArray) h = some (decide (a = b)) := this
 show (eqD (.struct [(0, .string), (1, .string), (2, .bool)]) c _ _ h).map (fun b => Value.bool (!b)) = _
 rw [e]; rfl
theorem aM5 {b n c es k : Nat} {all : List V} (hg : h.get b = some (.cells all es .rw)) (h0 : 0 < k) (hk : k ≤ n) (hkc : k < c / 2) :
 cI (.slice es) (.slice (some ⟨b, 0, none⟩) n c) (some (i64 k)) none none h = some (.slice (some ⟨b, 0 + k * es, none⟩) (n - k) (c - 2 * k)) := by
 have : cI (.slice es) (.slice (some ⟨b, 0, none⟩) n c) (some (.int .i64 k)) none none h =
  if k = 0 then some (.slice (some ⟨b, 0, none⟩) n c) else if k < c / 2 then some (.slice (some ⟨b, 0 + k * es, none⟩) (n - k) (c - 2 * k))
  else if c % 2 = 0 then some (.slice (some ⟨b, 0, none⟩) (n - k) 0) else some (.slice none 0 1) := by
  simp [cI, cL, dQ, hg, hk]
 rw [this, if_neg (by omega), if_pos hkc]
theorem aNk {α : Type} {D : EL α} {l : List α} {b c i j m : Nat} {fp : List Nat} {x : α} (s : SlE D h fp (.slice (some ⟨b, 0, none⟩) l.length c) l) (hx : l[i + j]? = some x) (hm : j < m) :
 bG (.slice D.es) (.slice (some ⟨b, 0 + i * D.es, none⟩) m (c - 2 * i)) (i64 j) = some (ptr b ((i + j) * D.es)) ∧ ldD (.agg D.es) (ptr b ((i + j) * D.es)) h = some (.agg (D.enc x).toArray) := by
 obtain ⟨b', h1, h2⟩ := s.ld hx
 have hb : b' = b := by
  have hlt := (List.getElem?_eq_some_iff.1 hx).1
  have : (0 : Int) ≤ ((i + j : Nat) : Int) ∧ ((i + j : Nat) : Int) < (l.length : Nat) := by omega
  simp only [bG, if_pos this, Option.some.injEq, Value.pointer.injEq, Addr.mk.injEq] at h1
  exact h1.1.symm
 subst hb
 refine ⟨?_, h2⟩
 have : (0 : Int) ≤ (j : Int) ∧ (j : Int) < (m : Nat) := by omega
 simp only [bG, if_pos this, Int.toNat_natCast]
 congr 4
 rw [Nat.add_mul]; omega
theorem aQr (s : SlE bF h fp v l) (hsz : l.length ≤ 1000) :
 cl (F.mQ E) [v] h fun r h' => ∃ l', (∀ x, x ∈ l' ↔ x ∈ l) ∧ l'.length ≤ l.length ∧ SlE bF h' fp r l' ∧ Mod h fp h' fp := by
 refine aO ?_
 have hlt := s.lt
 have same : ∃ l', (∀ x, x ∈ l' ↔ x ∈ l) ∧ l'.length ≤ l.length ∧ SlE bF h fp v l' ∧ Mod h fp h fp := ⟨l, fun x => Iff.rfl, Nat.le_refl _, s, Mod.refl hlt⟩
 simp only [F.mQ, s.len, aB, cW, aF, decide_eq_true_eq]
 by_cases h2 : ((l.length : Nat) : Int) < 2
 · rw [if_pos h2]; exact same
 rw [if_neg h2]
 have hl0 : l ≠ [] := fun e => by rw [e] at h2; simp at h2
 obtain ⟨b, c, rfl, rfl, hc⟩ := s.form hl0
 refine ⟨fun n vs h' => ∃ i : Nat, vs = [i64 i] ∧ n = l.length - i ∧ 1 ≤ i ∧ i ≤ l.length ∧ h' = h, l.length - 1, ⟨1, rfl, rfl, by omega, by omega, rfl⟩, ?_⟩
 rintro n e h1 ⟨i, he, rfl, hi1, hi2, rfl⟩
 simp only [List.cons.injEq, and_true] at he
 simp only [he, s.len, cW, aB, aF, decide_eq_true_eq]
 rcases Nat.lt_or_ge i l.length with hx | hx
 case inr =>
  rw [if_neg (show ¬ ((i : Nat) : Int) < (l.length : Nat) by omega)]
  exact same
 rw [if_pos (show ((i : Nat) : Int) < (l.length : Nat) by omega)]
 have g1 : l[i]? = some l[i] := List.getElem?_eq_getElem hx
 have g2 : l[i - 1]? = some l[i - 1] := List.getElem?_eq_getElem (by omega)
 obtain ⟨b1, i1, i2⟩ := s.ld g1
 obtain ⟨b2, i3, i4⟩ := s.ld g2
 have i1 : bG (.slice 3) _ _ = _ := i1
 have i3 : bG (.slice 3) _ _ = _ := i3
 have i2 : ldD (.agg 3) _ _ = _ := i2
 have i4 : ldD (.agg 3) _ _ = _ := i4
 have hw : aC .bad .sub true (i64 i) (.int .i64 1) h1 = some (i64 ((i - 1 : Nat) : Int)) := by
  rw [yX _ 1 (by omega) (by omega)]; congr 2; omega
 simp only [i1, i2, aB, hw, i3, i4, aSx, aF, decide_eq_true_eq]
 by_cases heq : l[i] = l[i - 1]
 case neg =>
  rw [if_neg heq, dN _ 1 (by omega) (by omega), aB]
  exact ⟨l.length - (i + 1), by omega, i + 1, by simp, rfl, by omega, by omega, trivial⟩
 rw [if_pos heq]
 obtain ⟨_, hbn, _, _, all, hg, hall, htk⟩ := s.cells
 have hg : h1.get b = some (.cells all 3 .rw) := hg
 rw [aM5 hg (by omega) (by omega) (by omega), aB]
 refine ⟨fun n vs h' => ∃ (k j : Nat) (l1 : List aZ), vs = [i64 k, i64 j] ∧ n = l.length - i - j ∧ 1 ≤ j ∧ j ≤ l.length - i ∧ i ≤ k ∧ k + 1 ≤ i + j ∧ l1.length = l.length ∧ (∀ p, k ≤ p → l1[p]? = l[p]?) ∧ (∀ x, x ∈ l1.take k ↔ x ∈ l.take (i + j)) ∧
  SlE bF h' [b] (.slice (some ⟨b, 0, none⟩) l.length c) l1 ∧ Mod h1 [b] h' [b], l.length - i - 1, ⟨i, 1, l, rfl, rfl, by omega, by omega, by omega, by omega, rfl, fun _ _ => rfl, fun x => ?_, s, Mod.refl hlt⟩, ?_⟩
 · rw [List.take_add_one, g1, List.mem_append]
   constructor
   · exact .inl
   · rintro (h | h)
     · exact h
     · simp only [Option.toList_some, List.mem_singleton] at h
       subst h
       rw [heq]
       exact List.mem_take_iff_getElem.2 ⟨i - 1, by omega, by simp⟩
 rintro n3 e3 h3 ⟨k, j, l1, hv, rfl, hj1, hj2, hik, hkj, hl1, hsame, hmem, s3, m3⟩
 simp only [List.cons.injEq, and_true] at hv
 obtain ⟨v1, v2⟩ := hv
 have hlen : ∀ h : aA, bI .slice (.slice (some ⟨b, 0 + i * 3, none⟩) (l.length - i) (c - 2 * i)) h = some (i64 ((l.length - i : Nat) : Int)) := fun _ => rfl
 simp only [v1, v2, hlen, aB, cW, aF, decide_eq_true_eq]
 have s3' : SlE bF h3 [b] (.slice (some ⟨b, 0, none⟩) l1.length c) l1 := by rw [hl1]; exact s3
 rcases Nat.lt_or_ge j (l.length - i) with hjl | hjl
 · rw [if_pos (show ((j : Nat) : Int) < ((l.length - i : Nat) : Int) by omega)]
   have q1 : l1[i + j]? = some l[i + j] := by rw [hsame _ (by omega)]; exact List.getElem?_eq_getElem (by omega)
   have q2 : l1[i + (j - 1)]? = some l[i + (j - 1)] := by rw [hsame _ (by omega)]; exact List.getElem?_eq_getElem (by omega)
   obtain ⟨j1, j2⟩ := aNk (m := l.length - i) s3' q1 hjl
   obtain ⟨j3, j4⟩ := aNk (m := l.length - i) s3' q2 (by omega)
   have j1 : bG (.slice 3) (.slice (some ⟨b, 0 + i * 3, none⟩) (l.length - i) (c - 2 * i)) _ = _ := j1
   have j3 : bG (.slice 3) (.slice (some ⟨b, 0 + i * 3, none⟩) (l.length - i) (c - 2 * i)) _ = _ := j3
   have j2 : ldD (.agg 3) _ _ = _ := j2
   have j4 : ldD (.agg 3) _ _ = _ := j4
   have hwj : aC .bad .sub true (i64 j) (.int .i64 1) h3 = some (i64 ((j - 1 : Nat) : Int)) := by
    rw [yX _ 1 (by omega) (by omega)]; congr 2; omega
   simp only [j1, aB, j2, hwj, j3, j4, aSy, aF]
   have htake : ∀ x, x ∈ l.take (i + (j + 1)) ↔ x ∈ l.take (i + j) ∨ x = l[i + j] := fun x => by
    rw [show i + (j + 1) = i + j + 1 by omega, List.take_add_one, List.getElem?_eq_getElem (show i + j < l.length by omega), List.mem_append]
    simp
   by_cases hne : l[i + j] = l[i + (j - 1)]
   · simp only [hne, decide_true, Bool.not_true, Bool.false_eq_true, if_false]
     rw [dN _ 1 (by omega) (by omega), aB]
     refine ⟨l.length - i - (j + 1), by omega, k, j + 1, l1, by simp, rfl, by omega, by omega, hik, by omega, hl1, hsame, fun x => ?_, s3, m3⟩
     rw [hmem, htake]
     constructor
     · exact .inl
     · rintro (h | rfl)
       · exact h
       · rw [hne]
         exact List.mem_take_iff_getElem.2 ⟨i + (j - 1), by omega, by simp⟩
   · simp only [hne, decide_false, Bool.not_false, if_true]
     obtain ⟨b5, h5, k1, k2, s5, m5⟩ := s3'.st (i := k) (by omega) l[i + j]
     have k1 : bG (.slice 3) (.slice (some ⟨b, 0, none⟩) l1.length c) _ = _ := k1
     have k2 : stD (some 3) _ _ _ = _ := k2
     rw [hl1] at k1 s5
     rw [k1, aB, k2, bR, dN _ 1 (by omega) (by omega), aB, dN _ 1 (by omega) (by omega), aB]
     refine ⟨l.length - i - (j + 1), by omega, k + 1, j + 1, l1.set k l[i + j], by simp, rfl, by omega, by omega, by omega, by omega, by simp [hl1], fun p hp => ?_, fun x => ?_, s5, m3.trans m5⟩
     · rw [List.getElem?_set_ne (by omega)]; exact hsame p (by omega)
     · rw [htake, ← hmem, List.take_add_one, List.getElem?_set_self (by omega), List.take_set_of_le (Nat.le_refl _), List.mem_append]
       simp
 · rw [if_neg (show ¬ ((j : Nat) : Int) < ((l.length - i : Nat) : Int) by omega)]
   obtain ⟨_, hbn3, _, _, all3, hg3, hall3, htk3⟩ := s3'.cells
   have hg3 : h3.get b = some (.cells all3 3 .rw) := hg3
   have hall3 : c / 2 * 3 ≤ all3.length := hall3
   rw [aM5 hg3 (by omega) (by omega) (by omega), aB]
   obtain ⟨m, hm⟩ : ∃ m, l.length - k = m + 1 := ⟨l.length - k - 1, by omega⟩
   have hz : (eG [(.string ⟨#[]⟩), (.string ⟨#[]⟩), (.bool false)] ((m + 1) * 3) : List V).length = (m + 1) * 3 := by simp [eG]
   have hcl : pU (some (some [(.string ⟨#[]⟩), (.string ⟨#[]⟩), (.bool false)])) (.slice (some ⟨b, 0 + k * 3, none⟩) (l.length - k) (c - 2 * k)) h3 =
    some (h3.put b (.cells (dG all3 (0 + k * 3) (eG [(.string ⟨#[]⟩), (.string ⟨#[]⟩), (.bool false)] ((m + 1) * 3))) 3 .rw)) := by
    rw [hm]
    have hz1 : (([(.string ⟨#[]⟩), (.string ⟨#[]⟩), (.bool false)] : List V).length ≠ 0 ∧ ([(.string ⟨#[]⟩), (.string ⟨#[]⟩), (.bool false)] : List V).all dC = true) := ⟨by decide, rfl⟩
    simp only [pU]
    rw [if_pos hz1]
    simp only [aA.wr, hg3]
    rw [if_pos ⟨by simp, by show 0 + k * 3 + (eG _ ((m + 1) * 3)).length ≤ _; rw [hz]; omega⟩]
    rfl
   rw [hcl, bR]
   have hpre : ∀ h : aA, h.get b = some (.cells (dG all3 (0 + k * 3) (eG [(.string ⟨#[]⟩), (.string ⟨#[]⟩), (.bool false)] ((m + 1) * 3))) 3 .rw) →
    cI (.slice 3) (.slice (some ⟨b, 0, none⟩) l.length c) none (some (i64 k)) none h = some (.slice (some ⟨b, 0, none⟩) k c) := by
    intro h hh
    have hk2 : (0 : Int) ≤ k ∧ (k : Int) ≤ ((c / 2 : Nat) : Int) := by omega
    simp only [cI, hh, if_true, cL, dQ, if_pos hk2, Int.toNat_natCast]
   rw [hpre _ (by simp), aB]
   refine ⟨l1.take k, fun x => ?_, by rw [List.length_take]; omega, ?_, m3.trans ⟨by simp, fun x _ hx => ?_, fun x hx => .inl hx, by simpa using hbn3⟩⟩
   · rw [hmem, List.take_of_length_le (by omega)]
   · refine ⟨by rw [bF.qQ], .inr ⟨b, c, dG all3 (0 + k * 3) (eG [(.string ⟨#[]⟩), (.string ⟨#[]⟩), (.bool false)] ((m + 1) * 3)), ?_, rfl, by simpa using hbn3, ?_, by rw [vZ, if_pos rfl]; rfl, ?_, ?_⟩⟩
     · rw [List.length_take, Nat.min_eq_left (by omega)]
     · rw [List.length_take]; omega
     · rw [sM]; exact hall3
     · rw [List.length_take, Nat.min_eq_left (show k ≤ l1.length by omega)]
       show (dG all3 (0 + k * 3) _).take (k * 3) = _
       have hks : k * 3 + (m + 1) * 3 ≤ all3.length := by omega
       rw [uB _ _ _ (by rw [hz]; omega), Nat.zero_add, List.append_assoc, List.take_append_of_le_length (by rw [List.length_take]; omega), List.take_take, Nat.min_self]
       have := bF.aJa l1 k
       rw [← this, ← htk3, List.take_take]
       congr 1
       have : k * 3 ≤ l1.length * 3 := by omega
       exact (Nat.min_eq_left this).symm
   · simp at hx; simp [hx]
end Go.Abs
namespace Go.Abs
open Go
theorem aIj {s : ByteArray} {i : Nat} (h : (s.get! i).toNat < 128) : Utf8.decode s i = ((s.get! i).toNat, 1) := by
 unfold Utf8.decode
 simp only [Nat.add_zero]
 rw [if_pos h]
theorem aQ3 {s : ByteArray} {i : Nat} (h : 128 ≤ (s.get! i).toNat) : 128 ≤ (Utf8.decode s i).1 := by
 have hr : 128 ≤ Utf8.runeError := by decide
 unfold Utf8.decode
 simp only [Nat.add_zero]
 rw [if_neg (by omega)]
 split
 · split
   · assumption
   · exact hr
 · split
   · split
     · rename_i hc
       simp only [ge_iff_le, Bool.and_eq_true, decide_eq_true_eq] at hc
       show 128 ≤ _
       omega
     · exact hr
   · split
     · split
       · rename_i hc
         simp only [ge_iff_le, Bool.and_eq_true, decide_eq_true_eq] at hc
         show 128 ≤ _
         omega
       · exact hr
     · exact hr
theorem aE0 (s : ByteArray) {i : Nat} (h : i < s.size) : s.data.toList[i]? = some (s.get! i) := by
 have h1 : i < s.data.toList.length := by rw [Array.length_toList]; exact h
 rw [List.getElem?_eq_getElem h1]
 congr 1
 show s.data.toList[i] = s.data[i]!
 rw [getElem!_pos s.data i h]
 simp
def rG (c : UInt8) : Bool := decide (97 ≤ c.toNat) && decide (c.toNat ≤ 122)
theorem aM6 (s : ByteArray) : pK s = s.data.toList.all rG := rfl
theorem aVr {s : ByteArray} {i : Nat} : (97 ≤ (Utf8.decode s i).1 ∧ (Utf8.decode s i).1 ≤ 122) ↔ rG (s.get! i) = true := by
 simp only [rG, Bool.and_eq_true, decide_eq_true_eq]
 by_cases h : (s.get! i).toNat < 128
 · rw [aIj h]
 · have := aQ3 (s := s) (i := i) (by omega)
   omega
theorem aV0 {s : ByteArray} {i : Nat} (h : rG (s.get! i) = true) : (Utf8.decode s i).2 = 1 := by
 simp only [rG, Bool.and_eq_true, decide_eq_true_eq] at h
 rw [aIj (by omega)]
end Go.Abs
namespace Go.Abs
open Go
variable {E : FE} {h : aA} {fp : List Nat} {v : V}
def dOp : EL Oq := ⟨5, Oq.cells, fun _ => rfl, fun _ => rfl, by decide⟩
theorem jO (f : Int) : cl (F.jO E) [i64 f] h fun r h' => r = i64 (kindOf f) ∧ h' = h := by
 refine aO ?_
 simp only [F.jO, fY, pS, aB, aT, kindOf]
 by_cases h3 : f ≥ 3 <;> by_cases h5 : f ≤ 5 <;> by_cases h6 : f ≥ 6 <;> by_cases h9 : f ≤ 9 <;> by_cases h10 : f ≥ 10 <;> by_cases h12 : f ≤ 12 <;>
  simp [h3, h5, h6, h9, h10, h12, aT, aY, aF] <;> first | omega | skip
theorem jR (f : Int) : cl (F.jR E) [i64 f] h fun r h' => r = .tuple #[.bool (kW f).1, .bool (kW f).2.1, .bool (kW f).2.2] ∧ h' = h := by
 refine aO ?_
 simp only [F.jR, dS, aB]
 refine ⟨fun vs h' => vs = [.bool (decide (f = 1 ∨ f = 8 ∨ f = 11))] ∧ h' = h, ?_, ?_⟩
 · by_cases q1 : f = 1 <;> by_cases q2 : f = 8 <;> by_cases q3 : f = 11 <;> simp [q1, q2, q3, aF]
 rintro e1 h1 ⟨he, rfl⟩
 simp only [List.cons.injEq, and_true] at he
 simp only [he, aF, decide_eq_true_eq, kW]
 by_cases q1 : f = 1 ∨ f = 8 ∨ f = 11
 · simp [q1]
 simp only [q1, if_false]
 refine ⟨fun vs h' => vs = [.bool (decide (f = 3 ∨ f = 5))] ∧ h' = h1, ?_, ?_⟩
 · by_cases q2 : f = 3 <;> by_cases q3 : f = 5 <;> simp [q2, q3, aF]
 rintro e2 h2 ⟨he, rfl⟩
 simp only [List.cons.injEq, and_true] at he
 simp only [he, aF, decide_eq_true_eq]
 by_cases q3 : f = 3 ∨ f = 5
 · simp [q3]
 simp only [q3, if_false, beq_iff_eq]
 by_cases q4 : f = 4
 · simp [q4]
 simp only [q4, if_false]
 refine ⟨fun vs h' => vs = [.bool (decide (f = 6 ∨ f = 10))] ∧ h' = h2, ?_, ?_⟩
 · by_cases q5 : f = 6 <;> by_cases q6 : f = 10 <;> simp [q5, q6, aF]
 rintro e3 h3 ⟨he, rfl⟩
 simp only [List.cons.injEq, and_true] at he
 simp only [he, aF, decide_eq_true_eq]
 by_cases q5 : f = 6 ∨ f = 10
 · simp [q5]
 simp only [q5, if_false, beq_iff_eq]
 by_cases q6 : f = 7
 · simp [q6]
 simp only [q6, if_false]
 by_cases q7 : f = 12 <;> simp [q7]
theorem aDz {s : ByteArray} : s = ⟨#[]⟩ ↔ s.size = 0 := by
 obtain ⟨⟨l⟩⟩ := s
 show (⟨⟨l⟩⟩ : ByteArray) = ⟨⟨[]⟩⟩ ↔ l.length = 0
 cases l <;> simp
theorem aNi (k : EqK) (c : Bool) (s : ByteArray) : aC k .eql c (str s) (.string ⟨#[]⟩) h = some (.bool (decide (s.size = 0))) := by
 rw [wF]
 congr 2
 exact decide_eq_decide.2 aDz
theorem aC2 (k : EqK) (c : Bool) (s : ByteArray) : aC k .neq c (str s) (.string ⟨#[]⟩) h = some (.bool (!decide (s.size = 0))) := by
 rw [wG]
 congr 2
 rw [decide_eq_decide.2 aDz]
theorem aJu (s : ByteArray) (i : Nat) (hi : i < s.size) : iL .str (str s) (i64 i) = some (.int .u8 (s.get! i).toNat) := by
 have h1 : s[i]? = some (s.get! i) := by
  rw [getElem?_pos s i hi]
  congr 1
  show s.data[i] = s.data[i]!
  rw [getElem!_pos s.data i hi]
 simp only [iL, if_pos (show (0 : Int) ≤ i by omega), Int.toNat_natCast, h1]
theorem aIm {s : ByteArray} (hs : s.size = 1) : xP s = (decide (49 ≤ (s.get! 0).toNat) && decide ((s.get! 0).toNat ≤ 57)) := by
 obtain ⟨⟨l⟩⟩ := s
 match l, hs with
 | [c], _ => rfl
theorem aIn {s : ByteArray} (hs : s.size ≠ 1) : xP s = false := by
 obtain ⟨⟨l⟩⟩ := s
 match l, hs with
 | [], _ => rfl
 | [c], hs => exact absurd rfl hs
 | _ :: _ :: _, _ => rfl
theorem jQ (o : Oq) : cl (F.jQ E) [o.agg] h fun r h' => r = .bool (kS o) ∧ Mod h [] h' [] := by
 refine aO ?_
 simp only [F.jQ, qE, bA]
 generalize hh : h.new (.cells o.cells 5 .rw) = h1
 have m1 : Mod h [] h1 [] := by
  rw [← hh]
  exact ⟨by simp, fun x hx _ => by have : x ≠ h.next := by omega
                                   simp [this], by simp, by simp⟩
 have g : h1.get h.next = some (.cells o.cells 5 .rw) := by rw [← hh]; simp
 have r4 : h1.rd h.next 4 = some (i64 o.n) := aG g 4
 have r2 : h1.rd h.next 2 = some (str o.key) := aG g 2
 have ln : ∀ (x : ByteArray) (h : aA), bI .str (str x) h = some (i64 (x.size : Nat)) := fun _ _ => rfl
 have hsn : pQ .eql o.key ⟨#[]⟩ = some (.bool (decide (o.key.size = 0))) := aNi (h := h1) .bad true o.key
 by_cases n1 : o.n < 1
 · have e : kS o = false := by simp [kS, show ¬ 1 ≤ o.n by omega]
   simp [r4, r2, ln, n1, e, aY, aF, m1, aT]
 by_cases n3 : o.n > 3
 · have e : kS o = false := by simp [kS, show ¬ o.n ≤ 3 by omega]
   simp [r4, r2, ln, n1, n3, e, aY, aF, m1, aT, iH]
 have n3' : ¬ 3 < o.n := by omega
 by_cases k1 : o.key.size = 1
 · have hb : ((o.key.size : Nat) : Int) = 1 := by omega
   have hi := aJu o.key 0 (by omega)
   have hi : iL .str (str o.key) (.int .i64 0) = _ := hi
   have k0 : ¬ o.key.size = 0 := by omega
   have e : kS o = (decide (49 ≤ (o.key.get! 0).toNat) && decide ((o.key.get! 0).toNat ≤ 57)) := by
    simp [kS, aIm k1, show 1 ≤ o.n by omega, show o.n ≤ 3 by omega, k0]
   rw [e]
   by_cases c1 : 49 ≤ (o.key.get! 0).toNat
   · have c1' : (49 : Int) ≤ (((o.key.get! 0).toNat : Nat) : Int) := by omega
     by_cases c2 : (o.key.get! 0).toNat ≤ 57
     · have c2' : (((o.key.get! 0).toNat : Nat) : Int) ≤ 57 := by omega
       simp [r4, r2, ln, n1, n3', hb, hi, c1, c2, c1', c2', aT, aY, m1]
     · have c2' : ¬ (((o.key.get! 0).toNat : Nat) : Int) ≤ 57 := by omega
       simp [r4, r2, ln, n1, n3', hb, hi, c1, c2, c1', c2', aT, aY, m1, k0, hsn]
   · have c1' : ¬ (49 : Int) ≤ (((o.key.get! 0).toNat : Nat) : Int) := by omega
     simp [r4, r2, ln, n1, n3', hb, hi, c1, c1', aT, aY, m1, k0, hsn]
 · have hb : ¬ ((o.key.size : Nat) : Int) = 1 := by omega
   have e : kS o = (decide (o.key.size = 0) && decide (o.n ≠ 2)) := by
    simp [kS, aIn k1, show 1 ≤ o.n by omega, show o.n ≤ 3 by omega]
   rw [e]
   by_cases k0 : o.key.size = 0 <;> by_cases n2 : o.n = 2 <;> simp [r4, r2, ln, n1, n3', hb, aT, aY, k0, n2, m1, oO, hsn]
end Go.Abs
namespace Go.Abs
open Go
variable {E : FE} {h : aA} {fp : List Nat} {v : V}
theorem eM (r : Int) : cl (F.eM E) [.int .i32 r] h fun x h' => x = .bool (!(decide (97 ≤ r) && decide (r ≤ 122))) ∧ h' = h := by
 refine aO ?_
 by_cases h1 : r < 97
 · simp [F.eM, h1, show ¬ 97 ≤ r by omega, aT, aY]
 · by_cases h2 : 122 < r
   · simp [F.eM, h1, h2, show ¬ r ≤ 122 by omega, aT, aY]
   · simp [F.eM, h1, h2, show r ≤ 122 by omega, show 97 ≤ r by omega, aT, aY]
theorem aVz {s : ByteArray} (hs : ∀ i, i < s.size → rG (s.get! i) = true) : pK s = true := by
 rw [aM6, List.all_eq_true]
 intro c hc
 obtain ⟨i, hi, rfl⟩ := List.mem_iff_getElem.1 hc
 have hi' : i < s.size := by rw [Array.length_toList] at hi; exact hi
 have := aE0 s hi'
 rw [List.getElem?_eq_getElem hi, Option.some.injEq] at this
 rw [this]
 exact hs i hi'
theorem aVy {s : ByteArray} {i : Nat} (hi : i < s.size) (hn : rG (s.get! i) = false) : pK s = false := by
 have h1 := aE0 s hi
 cases hc : pK s with
 | false => rfl
 | true =>
  rw [aM6, List.all_eq_true] at hc
  have := hc _ (List.mem_of_getElem? h1)
  rw [hn] at this
  cases this
theorem aQu {E1 : FE} (hM : aH E.I) (hE : E.I (E.k 7) = some (cl (F.eM E1))) (s : ByteArray) (hsz : s.size ≤ maxLen) :
 cl (F.nF E) [str s, .func (.func (E.k 7)) #[] #[]] h fun r h' => r = .bool (!pK s) ∧ Mod h [] h' [] := by
 refine aO ?_
 simp only [F.nF]
 suffices hi : cl (F.nG E) [str s, .func (.func (E.k 7)) #[] #[]] h fun r h' => ∃ k : Int, r = i64 k ∧ (0 ≤ k ↔ pK s = false) ∧ Mod h [] h' [] by
  refine aL hi ?_
  rintro r h1 ⟨k, rfl, hk, m⟩
  simp only [fY, aB]
  refine ⟨?_, m⟩
  congr 1
  cases hs : pK s with
  | true =>
   have : ¬ 0 ≤ k := fun hh => by rw [hk, hs] at hh; cases hh
   simp [this]
  | false =>
   have : 0 ≤ k := hk.2 hs
   simp [this]
 refine aO ?_
 simp only [F.nG]
 suffices hi : cl (F.nH E) [str s, .func (.func (E.k 7)) #[] #[], .bool true] h fun r h' => ∃ k : Int, r = i64 k ∧ (0 ≤ k ↔ pK s = false) ∧ Mod h [] h' [] by
  exact aL hi fun r h1 hh => hh
 refine aO ?_
 have er : gJ .str (str s) h = some (ptr h.next 0, h.new (.siter s 0)) := rfl
 simp only [F.nH, er, bA]
 refine ⟨fun n vs h' => ∃ pos : Nat, n = s.size - pos ∧ pos ≤ s.size ∧ h'.get h.next = some (.siter s pos) ∧ (∀ i, i < pos → rG (s.get! i) = true) ∧ Mod h [] h' [] ∧ h.next < h'.next, s.size,
  ⟨0, by omega, by omega, by simp, by simp, Mod.fC (by simp), by simp⟩, ?_⟩
 rintro n e h1 ⟨pos, rfl, hp, hg, hs, m1, hn1⟩
 unfold dM
 simp only [hg]
 by_cases hlt : pos < s.size
 · rw [if_pos hlt]
   generalize hd : Utf8.decode s pos = d
   have hput : Mod h [] (h1.put h.next (.siter s (pos + d.2))) [] := ⟨by simpa using m1.next, fun x hx _ => by
    have : x ≠ h.next := by omega
    simp [this, m1.same x hx (by simp)], by simp, by simp⟩
   simp only [bQ, List.getElem?_toArray, List.getElem?_cons_zero, List.getElem?_cons_succ, aB, aF, if_true]
   unfold cU
   simp only [hE]
   refine aL (eM _) ?_
   rintro r h2 ⟨rfl, rfl⟩
   have hr := @aVr s pos
   rw [hd] at hr
   simp only [aPr, aB, aF]
   by_cases hsm : rG (s.get! pos) = true
   · have h3 := hr.2 hsm
     have h4 : (97 : Int) ≤ (d.1 : Int) ∧ (d.1 : Int) ≤ 122 := by omega
     have hst := aV0 hsm
     rw [hd] at hst
     simp only [h4.1, h4.2, decide_true, Bool.and_self, Bool.not_true, Bool.false_eq_true, beq_iff_eq, if_false]
     refine ⟨s.size - (pos + 1), by omega, pos + 1, rfl, by omega, by simp [hst], fun i hi => ?_, hput, by simpa using hn1⟩
     by_cases hip : i = pos
     · rw [hip]; exact hsm
     · exact hs i (by omega)
   · have h4 : (decide ((97 : Int) ≤ (d.1 : Int)) && decide ((d.1 : Int) ≤ 122)) = false := by
      cases hb : (decide ((97 : Int) ≤ (d.1 : Int)) && decide ((d.1 : Int) ≤ 122)) with
      | false => rfl
      | true =>
       simp only [Bool.and_eq_true, decide_eq_true_eq] at hb
       exact absurd (hr.1 (by omega)) hsm
     simp only [h4, Bool.not_false, beq_self_eq_true, if_true]
     refine ⟨pos, rfl, ⟨fun _ => aVy hlt (by simpa using hsm), fun _ => by omega⟩, hput⟩
 · rw [if_neg hlt]
   simp only [bQ, List.getElem?_toArray, List.getElem?_cons_zero, aB, aF, Bool.false_eq_true, if_false]
   refine ⟨-1, rfl, ⟨fun hh => by omega, fun hh => ?_⟩, m1⟩
   rw [aVz fun i hi => hs i (by omega)] at hh
   cases hh
def lI (o : Oq) : Bool := !(decide (1 ≤ o.fn) && decide (o.fn ≤ 12)) || !(decide (1 ≤ o.space.size) && decide (o.space.size ≤ 20) && pK o.space)
def fX (o : Oq) : Bool := !(decide (o.key.size ≤ 20) && decide (o.val.size ≤ 100) && decide (0 ≤ o.n) && decide (o.n ≤ 1099511627776))
def uQ (o : Oq) : Bool := !(((kW o.fn).1 || decide (o.key.size = 0)) && ((kW o.fn).2.1 || decide (o.val.size = 0)) && ((kW o.fn).2.2 || decide (o.n = 0)))
theorem aFo (o : Oq) : jM o = (!lI o && !(fX o || uQ o) && (decide (o.fn ≠ 1) || kS o)) := by
 simp only [jM, lI, fX, uQ, Bool.not_or, Bool.not_not, Bool.and_assoc]
theorem jP {E1 : FE} (hM : aH E.I) (hE : E.I (E.k 7) = some (cl (F.eM E1))) (o : Oq) (hsz : o.space.size ≤ maxLen) :
 cl (F.jP E) [o.agg] h fun r h' => r = .bool (jM o) ∧ Mod h [] h' [] := by
 refine aO ?_
 simp only [F.jP, qE, bA]
 have hb0 := Mod.fC (h := h) (fp := []) (o := .cells o.cells 5 .rw) (by simp)
 have g0 : (h.new (.cells o.cells 5 .rw)).get h.next = some (.cells o.cells 5 .rw) := by simp
 have n0 : h.next < (h.new (.cells o.cells 5 .rw)).next := by simp
 generalize h.new (.cells o.cells 5 .rw) = h1 at hb0 g0 n0 ⊢
 generalize hbx : h.next = bx at g0 n0 ⊢
 have ln : ∀ (x : ByteArray) (h : aA), bI .str (str x) h = some (i64 (x.size : Nat)) := fun _ _ => rfl
 have rd : ∀ {h' : aA}, h'.get bx = some (.cells o.cells 5 .rw) → h'.rd bx 0 = some (i64 o.fn) ∧ h'.rd bx 1 = some (str o.space) ∧ h'.rd bx 2 = some (str o.key) ∧ h'.rd bx 3 = some (str o.val) ∧ h'.rd bx 4 = some (i64 o.n) :=
  fun g => ⟨aG g 0, aG g 1, aG g 2, aG g 3, aG g 4⟩
 obtain ⟨r0, r1, r2, r3, r4⟩ := rd g0
 simp only [bH, aB, bC, Nat.zero_add, r0]
 refine aL (jR _) ?_
 rintro r h2 ⟨rfl, rfl⟩
 simp only [bQ, List.getElem?_toArray, List.getElem?_cons_zero, List.getElem?_cons_succ, aB, r0, cW]
 have hfn : ∀ X : V → Prop, X (.bool (!(decide (1 ≤ o.fn) && decide (o.fn ≤ 12)))) → kv (gdV (.bool (decide (o.fn < 1))) false (some (ptr bx 0))) fun v19 => kv (gdV (.bool (decide (o.fn < 1))) false (ldD .one v19 h2)) fun v20 =>
  kv (gdV (.bool (decide (o.fn < 1))) false (aC .bad .gtr true v20 (.int .i64 12) h2)) fun v21 => kv (aW (.bool (decide (o.fn < 1))) (.bool true) v21) X := by
  intro X hX
  by_cases f1 : o.fn < 1
  · have : ¬ 1 ≤ o.fn := by omega
    simp only [this, decide_false, Bool.false_and, Bool.not_false] at hX
    simp [f1, aT, aY, hX]
  · have h1 : 1 ≤ o.fn := by omega
    by_cases f2 : 12 < o.fn
    · have : ¬ o.fn ≤ 12 := by omega
      simp only [this, decide_false, Bool.and_false, Bool.not_false] at hX
      simp [f1, f2, aT, aY, hX, r0]
    · have : o.fn ≤ 12 := by omega
      simp only [this, h1, decide_true, Bool.and_true, Bool.not_true] at hX
      simp [f1, f2, aT, aY, hX, r0]
 refine hfn _ ?_
 clear hfn
 refine ⟨fun vs h' => vs = [.bool (lI o)] ∧ Mod h2 [] h' [] ∧ h'.get bx = some (.cells o.cells 5 .rw), ?_, ?_⟩
 · simp only [aF]
   by_cases hk : (decide (1 ≤ o.fn) && decide (o.fn ≤ 12)) = true
   case neg =>
    have hk' : (decide (1 ≤ o.fn) && decide (o.fn ≤ 12)) = false := by simpa using hk
    simp only [hk', Bool.not_false, if_true]
    refine ⟨by simp [lI, hk'], Mod.refl (by simp), g0⟩
   simp only [hk, Bool.not_true, Bool.false_eq_true, if_false, r1, aB, aNi]
   have fin : ∀ (b : Bool) h', b = lI o → Mod h2 [] h' [] → h'.get bx = some (.cells o.cells 5 .rw) → ([.bool b] : List V) = [.bool (lI o)] ∧ Mod h2 [] h' [] ∧ h'.get bx = some (.cells o.cells 5 .rw) := fun b h' e m g => ⟨by rw [e], m, g⟩
   by_cases s0 : o.space.size = 0
   · have e : lI o = true := by simp [lI, s0]
     simp only [s0, decide_true, aT, Bool.true_eq_false, if_false, aB, aY, if_true, fN]
     refine lQ (by simp) ?_
     try simp only [aY, if_true, aB]
     exact fin _ _ e.symm (Mod.refl (by simp)) g0
   have s0' : ¬ ((o.space.size : Nat) : Int) = 0 := by omega
   simp only [s0, decide_false, aT, if_true, aB, bC, r1, ln, iH, aY, Bool.false_eq_true, if_false]
   by_cases s20 : ((o.space.size : Nat) : Int) > 20
   · have e : lI o = true := by simp [lI, show ¬ o.space.size ≤ 20 by omega]
     simp only [s20, decide_true, aT, Bool.true_eq_false, if_false, aB, fN]
     refine lQ (by simp) ?_
     try simp only [aY, if_true, aB]
     exact fin _ _ e.symm (Mod.refl (by simp)) g0
   simp only [s20, decide_false, aT, if_true, aB, bC, r1]
   refine gF rfl ?_
   refine aL (aQu hM hE o.space hsz) ?_
   rintro r h3 ⟨rfl, m3⟩
   try simp only [aY, Bool.false_eq_true, if_false, aB]
   refine fin _ _ ?_ m3 ?_
   · simp [lI, hk, show 1 ≤ o.space.size by omega, show o.space.size ≤ 20 by omega]
   · rw [m3.same bx (by omega) (by simp)]; exact g0
 rintro e14 h3 ⟨he, m3, g3⟩
 simp only [List.cons.injEq, and_true] at he
 clear r0 r1 r2 r3 r4
 obtain ⟨r0, r1, r2, r3, r4⟩ := rd g3
 have mfin : Mod h [] h3 [] := hb0.trans m3
 simp only [he, aF]
 by_cases b1 : lI o = true
 · rw [if_pos b1]
   exact ⟨by rw [aFo, b1]; rfl, mfin⟩
 rw [if_neg b1]
 have b1' : lI o = false := by simpa using b1
 have hlong : ∀ X : V → Prop, X (.bool (fX o)) → kv (gdV (.bool (decide (((o.key.size : Nat) : Int) > 20))) false (some (ptr bx 3))) fun v44_33 => kv (gdV (.bool (decide (((o.key.size : Nat) : Int) > 20))) false (ldD .one v44_33 h3)) fun v45_34 =>
  kv (gdV (.bool (decide (((o.key.size : Nat) : Int) > 20))) false (bI .str v45_34 h3)) fun v46_35 => kv (gdV (.bool (decide (((o.key.size : Nat) : Int) > 20))) false (aC .bad .gtr true v46_35 (.int .i64 100) h3)) fun v47_36 =>
  kv (aW (.bool (decide (((o.key.size : Nat) : Int) > 20))) (.bool true) v47_36) fun v48_37 => kv (gdV v48_37 false (some (ptr bx 4))) fun v50_38 => kv (gdV v48_37 false (ldD .one v50_38 h3)) fun v51_39 =>
  kv (gdV v48_37 false (aC .bad .lss true v51_39 (.int .i64 0) h3)) fun v52_40 => kv (aW v48_37 (.bool true) v52_40) fun v53_41 => kv (gdV v53_41 false (some (ptr bx 4))) fun v55_42 => kv (gdV v53_41 false (ldD .one v55_42 h3)) fun v56_43 =>
  kv (gdV v53_41 false (aC .bad .gtr true v56_43 (.int .i64 1099511627776) h3)) fun v57_44 => kv (aW v53_41 (.bool true) v57_44) X := by
  intro X hX
  by_cases k1 : 20 < ((o.key.size : Nat) : Int)
  · have e : fX o = true := by simp [fX, show ¬ o.key.size ≤ 20 by omega]
    rw [e] at hX
    simp [k1, aT, aY, hX]
  by_cases k2 : 100 < ((o.val.size : Nat) : Int)
  · have e : fX o = true := by simp [fX, show ¬ o.val.size ≤ 100 by omega]
    rw [e] at hX
    simp [k1, k2, aT, aY, hX, r3, ln]
  by_cases k3 : o.n < 0
  · have e : fX o = true := by simp [fX, show ¬ 0 ≤ o.n by omega]
    rw [e] at hX
    simp [k1, k2, k3, aT, aY, hX, r3, r4, ln]
  by_cases k4 : 1099511627776 < o.n
  · have e : fX o = true := by simp [fX, show ¬ o.n ≤ 1099511627776 by omega]
    rw [e] at hX
    simp [k1, k2, k3, k4, aT, aY, hX, r3, r4, ln]
  · have e : fX o = false := by simp [fX, show o.key.size ≤ 20 by omega, show o.val.size ≤ 100 by omega, show 0 ≤ o.n by omega, show o.n ≤ 1099511627776 by omega]
    rw [e] at hX
    simp [k1, k2, k3, k4, aT, aY, hX, r3, r4, ln]
 simp only [r2, aB, ln, iH]
 refine hlong _ ?_
 clear hlong
 refine ⟨fun vs h' => vs = [.bool (fX o || uQ o)] ∧ h' = h3, ?_, ?_⟩
 · simp only [aF, dB, aB, aC2]
   by_cases b2 : fX o = true
   · simp [b2]
   have b2' : fX o = false := by simpa using b2
   simp only [b2', Bool.false_eq_true, if_false, Bool.false_or]
   have hk := aC2 (h := h3) .bad true o.key
   have hv := aC2 (h := h3) .bad true o.val
   rw [sV] at hk hv
   unfold uQ
   cases n1 : (kW o.fn).1 <;> cases n2 : (kW o.fn).2.1 <;> cases n3 : (kW o.fn).2.2 <;> by_cases k1 : o.key.size = 0 <;> by_cases k2 : o.val.size = 0 <;> by_cases k3 : o.n = 0 <;>
    simp [n1, n2, n3, k1, k2, k3, aT, aY, aF, r2, r3, r4, hk, hv]
 rintro e46 h4 ⟨he2, rfl⟩
 simp only [List.cons.injEq, and_true] at he2
 simp only [he2, aF]
 by_cases b2 : (fX o || uQ o) = true
 · rw [if_pos b2]
   exact ⟨by rw [aFo, b2]; simp, mfin⟩
 rw [if_neg b2]
 have b2' : (fX o || uQ o) = false := by simpa using b2
 simp only [r0, aB, oO]
 have hmay : jM o = (decide (o.fn ≠ 1) || kS o) := by rw [aFo, b1', b2']; simp
 by_cases f1 : o.fn = 1
 · have e1 : (o.fn != 1) = false := by simp [f1]
   have hl : ldD (.agg 5) (ptr bx 0) h4 = some o.agg := by
    rw [sG, mL g3]; rfl
   simp only [e1, aT, if_true, hl, aB]
   refine gF rfl ?_
   refine aL (jQ o) ?_
   rintro r h5 ⟨rfl, m5⟩
   try simp only [aY, Bool.false_eq_true, if_false, aB]
   exact ⟨by rw [hmay]; simp [f1], mfin.trans m5⟩
 · have e1 : (o.fn != 1) = true := by simp [f1]
   simp only [e1, aT, Bool.true_eq_false, if_false, aB]
   refine lQ (by simp) ?_
   try simp only [aY, if_true, aB]
   exact ⟨by rw [hmay]; simp [f1], mfin⟩
end Go.Abs
namespace Go.Abs
open Go
variable {E : FE} {h : aA} {fp : List Nat} {v : V}
theorem SlE.mod {α : Type} {D : EL α} {l : List α} {h' : aA} {fq fq' : List Nat} (s : SlE D h fp v l) (m : Mod h fq h' fq') (hd : ∀ x ∈ fp, x ∉ fq) : SlE D h' fp v l := s.same m.next fun x hx => m.same x (s.lt x hx) (hd x hx)
theorem aQt {f : V} {l : List Oq} (hM : aH E.I) (s : SlE dOp h fp v l) (hsz : l.length ≤ 1000000) (P : Oq → Bool)
 (hf : ∀ h' o, o ∈ l → cU E.I f [o.agg] h' fun r h'' => r = .bool (P o) ∧ Mod h' [] h'' []) :
 cl (F.mR E) [v, f] h fun r h' => r = .bool (l.any P) ∧ Mod h [] h' [] := by
 refine aO ?_
 simp only [F.mR]
 suffices hi : cl (F.mT E) [v, f] h fun r h' => ∃ k : Int, r = i64 k ∧ (0 ≤ k ↔ l.any P = true) ∧ Mod h [] h' [] by
  refine aL hi ?_
  rintro r h1 ⟨k, rfl, hk, m⟩
  simp only [fY, aB]
  refine ⟨?_, m⟩
  congr 1
  cases hs : l.any P with
  | true => simp [hk.2 hs]
  | false =>
   have : ¬ 0 ≤ k := fun hh => by rw [hk, hs] at hh; cases hh
   simp [this]
 refine aO ?_
 simp only [F.mT, s.len, aB]
 refine ⟨fun n vs h' => ∃ i : Nat, vs = [i64 i] ∧ n = l.length - i ∧ i ≤ l.length ∧ Mod h [] h' [] ∧ ∀ j o, j < i → l[j]? = some o → P o = false, l.length, ⟨0, rfl, by omega, by omega, Mod.refl (by simp), fun j o hj => by omega⟩, ?_⟩
 rintro n e h1 ⟨i, he, rfl, hi, m1, hno⟩
 simp only [List.cons.injEq, and_true] at he
 simp only [he, cW, aB, aF, decide_eq_true_eq]
 rcases Nat.lt_or_ge i l.length with hx | hx
 · rw [if_pos (show ((i : Nat) : Int) < (l.length : Nat) by omega)]
   have hg : l[i]? = some l[i] := List.getElem?_eq_getElem hx
   obtain ⟨b, i1, i2⟩ := (s.bW m1).ld hg
   have i1 : bG (.slice 5) _ _ = _ := i1
   have i2 : ldD (.agg 5) _ _ = _ := i2
   simp only [i1, aB, i2]
   refine uJ hM ?_ (hf h1 l[i] (List.getElem_mem hx))
   rintro r h2 ⟨rfl, m2⟩
   have m3 : Mod h [] h2 [] := m1.trans m2
   simp only [aF]
   cases hp : P l[i] with
   | true =>
    simp only [if_true]
    exact ⟨i, rfl, ⟨fun _ => List.any_eq_true.2 ⟨l[i], List.getElem_mem hx, hp⟩, fun _ => by omega⟩, m3⟩
   | false =>
    simp only [Bool.false_eq_true, if_false]
    rw [dN _ 1 (by omega) (by omega), aB]
    refine ⟨l.length - (i + 1), by omega, i + 1, by simp, rfl, by omega, m3, fun j o hj ho => ?_⟩
    by_cases hji : j = i
    · subst hji
      rw [hg] at ho
      cases ho
      exact hp
    · exact hno j o (by omega) ho
 · rw [if_neg (show ¬ ((i : Nat) : Int) < (l.length : Nat) by omega)]
   refine ⟨-1, rfl, ⟨fun hh => by omega, fun hh => ?_⟩, m1⟩
   obtain ⟨o, ho, hp⟩ := List.any_eq_true.1 hh
   obtain ⟨j, hj, rfl⟩ := List.mem_iff_getElem.1 ho
   rw [hno j l[j] (by omega) (List.getElem?_eq_getElem hj)] at hp
   cases hp
structure OpE (E : FE) : Prop where
 mono : aH E.I
 all1 : ∃ E1 : FE, E.I (E.k 6) = some (cl (F.nZ E1)) ∧ aH E1.I ∧ ∃ E2 : FE, E1.I (E1.k 7) = some (cl (F.eM E2))
 may1 : ∃ E1 : FE, E.I (E.k 7) = some (cl (F.eM E1))
theorem jN (oe : OpE E) {l : List Oq} (s : SlE dOp h fp v l) (hsz : l.length ≤ 1000000) (hz : ∀ o ∈ l, o.space.size ≤ maxLen) :
 cl (F.jN E) [v] h fun r h' => r = .bool (gQ l) ∧ Mod h [] h' [] := by
 refine aO ?_
 simp only [F.jN, s.len, aB, fY, pS, aT, s.len]
 by_cases h1 : ((l.length : Nat) : Int) ≥ 1
 case neg =>
  have e : gQ l = false := by simp [gQ, show ¬ 1 ≤ l.length by omega]
  simp only [h1, decide_false, Bool.false_eq_true, if_false, aB, aY, aT]
  refine lQ (by simp) ?_
  try simp only [aT, Bool.false_eq_true, if_false, aB, aY]
  exact ⟨by rw [e], Mod.refl (by simp)⟩
 simp only [h1, decide_true, if_true, aB, s.len, pS, aY, aT]
 by_cases h8 : ((l.length : Nat) : Int) ≤ 8
 case neg =>
  have e : gQ l = false := by simp [gQ, show ¬ l.length ≤ 8 by omega]
  simp only [h8, decide_false, Bool.false_eq_true, if_false, aB, aT]
  refine lQ (by simp) ?_
  try simp only [aT, Bool.false_eq_true, if_false, aB, aY]
  exact ⟨by rw [e], Mod.refl (by simp)⟩
 simp only [h8, decide_true, if_true, aB]
 obtain ⟨E1, hE1, hM1, E2, hE2⟩ := oe.all1
 refine gF rfl (aL (aQt oe.mono s hsz (fun o => !jM o) fun h' o ho => ?_) ?_)
 · unfold cU
   simp only [hE1]
   refine aO ?_
   simp only [F.nZ, List.nil_append, List.append_nil, List.cons_append, qE, bA]
   have g0 : (h'.new (.cells o.cells 5 .rw)).get h'.next = some (.cells o.cells 5 .rw) := by simp
   have m0 := Mod.fC (h := h') (fp := []) (o := .cells o.cells 5 .rw) (by simp)
   generalize h'.new (.cells o.cells 5 .rw) = h2 at g0 m0 ⊢
   have hl : ldD (.agg 5) (ptr h'.next 0) h2 = some o.agg := by rw [sG, mL g0]; rfl
   try simp only [hl, aB]
   refine aL (jP hM1 hE2 o (hz o ho)) ?_
   rintro r h3 ⟨rfl, m3⟩
   simp only [dB, aB]
   exact ⟨trivial, m0.trans m3⟩
 · rintro r h2 ⟨rfl, m2⟩
   simp only [aT, if_true, dB, aB, aY]
   refine ⟨?_, m2⟩
   congr 1
   simp only [gQ, show 1 ≤ l.length by omega, show l.length ≤ 8 by omega, decide_true, Bool.true_and]
   cases hb : (l.all jM) with
   | true =>
    rw [List.all_eq_true] at hb
    have : l.any (fun o => !jM o) = false := by
     rw [List.any_eq_false]
     intro o ho
     simp [hb o ho]
    rw [this]; rfl
   | false =>
    rw [List.all_eq_false] at hb
    obtain ⟨o, ho, hn⟩ := hb
    have : l.any (fun o => !jM o) = true := List.any_eq_true.2 ⟨o, ho, by simpa using hn⟩
    rw [this]; rfl
theorem aSv (a b : ByteArray) : bP (.struct [(.string ⟨#[]⟩), (.string ⟨#[]⟩), (.bool false)] [(0, 1), (1, 1), (2, 1)]) [(0, str a), (1, str b)] = some (aZ.agg ⟨a, b, false⟩) := rfl
theorem aSw (a : ByteArray) : bP (.struct [(.string ⟨#[]⟩), (.string ⟨#[]⟩), (.bool false)] [(0, 1), (1, 1), (2, 1)]) [(0, str a), (2, .bool true)] = some (aZ.agg ⟨a, ⟨#[]⟩, true⟩) := rfl
theorem aDx {l : List aZ} (s : SlE bF h fp v l) (hsz : l.length ≤ 1000000) (k : aZ) :
 ∃ h1, cR (some (3, [(.string ⟨#[]⟩), (.string ⟨#[]⟩), (.bool false)])) 1 [(0, k.agg)] h = some (.slice (some ⟨h.next, 0, none⟩) 1 2, h1) ∧
  ∃ v' h2 fp', dY (some (3, 40, [(.string ⟨#[]⟩), (.string ⟨#[]⟩), (.bool false)])) v (.slice (some ⟨h.next, 0, none⟩) 1 2) h1 = some (v', h2) ∧ SlE bF h2 fp' v' (l ++ [k]) ∧ Mod h fp h2 fp' := by
 refine ⟨h.new (.cells (bF.enc k) 3 .rw), rfl, ?_⟩
 have s1 : SlE bF (h.new (.cells (bF.enc k) 3 .rw)) fp v l := s.bW (Mod.fC (fp := []) (by simp))
 have hsrc : dR 3 (.slice (some ⟨h.next, 0, none⟩) 1 2) (h.new (.cells (bF.enc k) 3 .rw)) = some (bF.enc k) := by
  show (h.new (.cells (bF.enc k) 3 .rw)).rdN h.next 0 (1 * 3) = _
  rw [mL (h := h.new (.cells (bF.enc k) 3 .rw)) (b := h.next) (cs := bF.enc k) (e := 3) (k := .rw) (by simp)]
  rfl
 obtain ⟨v', h2, fp', e1, e2, e3⟩ := Sl.append (bytes := 40) (z := [(.string ⟨#[]⟩), (.string ⟨#[]⟩), (.bool false)]) s1 rfl (by decide) (by decide) (x := .slice (some ⟨h.next, 0, none⟩) 1 2) (k := 1) rfl (fun _ => hsrc) rfl rfl (by omega)
 refine ⟨v', h2, fp', e1, ?_, ?_⟩
 · have : SlE bF h2 fp' v' (l ++ [k]) ↔ Sl h2 fp' v' 3 (l.length + 1) (bF.flat l ++ bF.enc k) := by
    unfold SlE
    rw [bF.aI8, EL.rX, EL.aR0, List.append_nil, List.length_append, List.length_cons, List.length_nil]
    exact Iff.rfl
   exact this.2 e2
 · exact (Mod.fC (h := h) (fp := fp) s.lt).trans e3
end Go.Abs
namespace Go.Abs
open Go
variable {E : FE} {h : aA} {fp : List Nat} {v : V}
theorem fO {E1 : FE} (hM : aH E.I) (hE : E.I (E.k 9) = some (cl (F.fB E1))) {l : List aZ} (s : SlE bF h fp v l) (hn : l.length ≤ 12) :
 cl (F.fO E) [v] h fun r h' => ∃ l', (∀ x, x ∈ l' ↔ x ∈ l) ∧ l'.length ≤ l.length ∧ SlE bF h' fp r l' ∧ Mod h fp h' fp := by
 refine aO ?_
 simp only [F.fO]
 refine aL (aV3 hM aUv s (aQk hE) hn) ?_
 rintro r h1 ⟨l1, p1, _, s1, m1⟩
 refine aL (aQr s1 (by rw [p1.length_eq]; omega)) ?_
 rintro r2 h2 ⟨l2, p2, n2, s2, m2⟩
 exact ⟨l2, fun x => (p2 x).trans p1.mem_iff, by rw [← p1.length_eq]; exact n2, s2, m1.trans m2⟩
def oV (o : Oq) : aZ := if kindOf o.fn = 1 then ⟨o.space, o.key, false⟩ else ⟨o.space, ⟨#[]⟩, true⟩
theorem st5 {b : Nat} {c o : Oq} (hb : h.get b = some (.cells c.cells 5 .rw)) : stD (some 5) (ptr b 0) o.agg h = some (h.put b (.cells o.cells 5 .rw)) := by
 show h.wr b 0 o.cells = _
 simp only [aA.wr, hb]
 rw [if_pos ⟨by simp, by simp [Oq.cells]⟩]
 rfl
theorem aBp : aQ none (.agg #[(.int .i64 0), (.string ⟨#[]⟩), (.string ⟨#[]⟩), (.string ⟨#[]⟩), (.int .i64 0)]) h = some (ptr h.next 0, h.new (.cells (⟨0, ⟨#[]⟩, ⟨#[]⟩, ⟨#[]⟩, 0⟩ : Oq).cells 5 .rw)) := rfl
theorem jK {E1 : FE} (hM : aH E.I) (hE : E.I (E.k 9) = some (cl (F.fB E1))) {l : List Oq} (s : SlE dOp h fp v l) (hsz : l.length ≤ 12) :
 cl (F.jK E) [v] h fun r h' => ∃ l' fq, (∀ x, x ∈ l' ↔ x ∈ l.map oV) ∧ l'.length ≤ l.length ∧ SlE bF h' fq r l' ∧ Mod h [] h' fq := by
 refine aO ?_
 simp only [F.jK, s.len, aB]
 refine ⟨fun n vs h' => ∃ (i : Nat) (w : V) (fw : List Nat), vs = [w, i64 i] ∧ n = l.length - i ∧ i ≤ l.length ∧ SlE bF h' fw w ((l.take i).map oV) ∧ Mod h [] h' fw, l.length,
  ⟨0, _, [], rfl, by omega, by omega, by simpa using SlE.nil (D := bF), Mod.refl (by simp)⟩, ?_⟩
 rintro n e h1 ⟨i, w, fw, he, rfl, hi, sw, m1⟩
 simp only [List.cons.injEq, and_true] at he
 obtain ⟨e3, e8⟩ := he
 simp only [e3, e8, cW, aB, aF, decide_eq_true_eq]
 rcases Nat.lt_or_ge i l.length with hx | hx
 case inr =>
  rw [if_neg (show ¬ ((i : Nat) : Int) < (l.length : Nat) by omega)]
  have hil : i = l.length := by omega
  subst hil
  rw [List.take_length] at sw
  refine aL (fO hM hE sw (by rw [List.length_map]; exact hsz)) ?_
  rintro r h2 ⟨l', p, n', s', m'⟩
  exact ⟨l', fw, p, by simpa using n', s', m1.trans m'⟩
 rw [if_pos (show ((i : Nat) : Int) < (l.length : Nat) by omega)]
 have hg : l[i]? = some l[i] := List.getElem?_eq_getElem hx
 obtain ⟨b, i1, i2⟩ := (s.mod m1 (by simp)).ld hg
 have i1 : bG (.slice 5) _ _ = _ := i1
 have i2 : ldD (.agg 5) _ _ = some (l[i]).agg := i2
 generalize hoo : l[i] = o at i2
 simp only [i1, aB, i2, aBp, bA]
 rw [st5 (c := ⟨0, ⟨#[]⟩, ⟨#[]⟩, ⟨#[]⟩, 0⟩) (by simp), bR]
 have m2 : Mod h1 fw ((h1.new (.cells (⟨0, ⟨#[]⟩, ⟨#[]⟩, ⟨#[]⟩, 0⟩ : Oq).cells 5 .rw)).put h1.next (.cells o.cells 5 .rw)) fw :=
  (Mod.fC (h := h1) (fp := fw) sw.lt).tT (Nat.le_refl _)
 have g2 : ((h1.new (.cells (⟨0, ⟨#[]⟩, ⟨#[]⟩, ⟨#[]⟩, 0⟩ : Oq).cells 5 .rw)).put h1.next (.cells o.cells 5 .rw)).get h1.next = some (.cells o.cells 5 .rw) := by simp
 have s2 : SlE bF ((h1.new (.cells (⟨0, ⟨#[]⟩, ⟨#[]⟩, ⟨#[]⟩, 0⟩ : Oq).cells 5 .rw)).put h1.next (.cells o.cells 5 .rw)) fw w ((l.take i).map oV) :=
  sw.mod (((Mod.fC (h := h1) (fp := []) (by simp)).tT (Nat.le_refl _))) (by simp)
 generalize ((h1.new (.cells (⟨0, ⟨#[]⟩, ⟨#[]⟩, ⟨#[]⟩, 0⟩ : Oq).cells 5 .rw)).put h1.next (.cells o.cells 5 .rw)) = h2 at m2 g2 s2 ⊢
 have r0 : h2.rd h1.next 0 = some (i64 o.fn) := aG g2 0
 have r1 : h2.rd h1.next 1 = some (str o.space) := aG g2 1
 have r2 : h2.rd h1.next 2 = some (str o.key) := aG g2 2
 simp only [bH, aB, bC, Nat.zero_add, r0]
 refine aL (jO _) ?_
 rintro r h3 ⟨rfl, rfl⟩
 have hlen : ((l.take i).map oV).length = i := by rw [List.length_map, List.length_take]; omega
 have hnext : (l.take (i + 1)).map oV = (l.take i).map oV ++ [oV o] := by
  rw [List.take_add_one, hg, hoo]; simp
 simp only [dS, aB, aF, decide_eq_true_eq, beq_iff_eq]
 by_cases hk : kindOf o.fn = 1
 · rw [if_pos hk, r1, aB, r2, aB, aSv, aB]
   obtain ⟨h4, b1, w', h5, fw', b2, s5, m5⟩ := aDx s2 (by omega) ⟨o.space, o.key, false⟩
   rw [b1, bA, b2, bA, dN _ 1 (by omega) (by omega), aB]
   refine ⟨l.length - (i + 1), by omega, i + 1, w', fw', by simp, rfl, by omega, ?_, m1.trans (m2.trans m5)⟩
   rw [hnext, oV, if_pos hk]
   exact s5
 · rw [if_neg hk, r1, aB, aSw, aB]
   obtain ⟨h4, b1, w', h5, fw', b2, s5, m5⟩ := aDx s2 (by omega) ⟨o.space, ⟨#[]⟩, true⟩
   rw [b1, bA, b2, bA, dN _ 1 (by omega) (by omega), aB]
   refine ⟨l.length - (i + 1), by omega, i + 1, w', fw', by simp, rfl, by omega, ?_, m1.trans (m2.trans m5)⟩
   rw [hnext, oV, if_neg hk]
   exact s5
end Go.Abs
namespace Go.Abs
open Go
variable {E : FE} {h : aA} {fp : List Nat} {v : V}
theorem aLe (k : aZ) : aQ none k.agg h = some (ptr h.next 0, h.new (.cells (bF.enc k) 3 .rw)) := rfl
theorem ld3 {b : Nat} {k : aZ} (hb : h.get b = some (.cells (bF.enc k) 3 .rw)) : ldD (.agg 3) (ptr b 0) h = some k.agg := by
 simp only [sG, mL hb]
 rfl
theorem jL (a b : aZ) : cl (F.jL E) [a.agg, b.agg] h fun r h' => r = .bool (eJ a b) ∧ Mod h [] h' [] := by
 refine aO ?_
 simp only [F.jL, aLe, bA, qZ]
 generalize hh : ((h.new (.cells (bF.enc a) 3 .rw)).new (.cells (bF.enc b) 3 .rw)) = h2
 have m2 : Mod h [] h2 [] := by rw [← hh]; exact Mod.pC
 have ga : h2.get h.next = some (.cells [str a.space, str a.key, .bool a.all] 3 .rw) := by rw [← hh]; simp [bF]
 have gb : h2.get (h.next + 1) = some (.cells [str b.space, str b.key, .bool b.all] 3 .rw) := by rw [← hh]; simp [bF]
 have r0 : h2.rd h.next 0 = some (str a.space) := aG ga 0
 have r1 : h2.rd h.next 1 = some (str a.key) := aG ga 1
 have r2 : h2.rd h.next 2 = some (.bool a.all) := aG ga 2
 have r3 : h2.rd (h.next + 1) 0 = some (str b.space) := aG gb 0
 have r4 : h2.rd (h.next + 1) 1 = some (str b.key) := aG gb 1
 have r5 : h2.rd (h.next + 1) 2 = some (.bool b.all) := aG gb 2
 simp only [bH, aB, bC, Nat.zero_add, r0, r3, wF]
 have eq : pQ BinOp.eql a.key b.key = some (.bool (decide (a.key = b.key))) := wF (h := h) .bad false a.key b.key
 by_cases hs : a.space = b.space <;> cases ha : a.all <;> cases hb : b.all <;> simp [aT, aY, eJ, hs, ha, hb, r1, r2, r4, r5, eq, m2]
theorem aQs {f : V} {l : List aZ} (hM : aH E.I) (s : SlE bF h fp v l) (hsz : l.length ≤ 1000000) (P : aZ → Bool)
 (hf : ∀ h' o, o ∈ l → Mod h [] h' [] → cU E.I f [o.agg] h' fun r h'' => r = .bool (P o) ∧ Mod h' [] h'' []) :
 cl (F.lC E) [v, f] h fun r h' => r = .bool (l.any P) ∧ Mod h [] h' [] := by
 refine aO ?_
 simp only [F.lC]
 suffices hi : cl (F.mU E) [v, f] h fun r h' => ∃ k : Int, r = i64 k ∧ (0 ≤ k ↔ l.any P = true) ∧ Mod h [] h' [] by
  refine aL hi ?_
  rintro r h1 ⟨k, rfl, hk, m⟩
  simp only [fY, aB]
  refine ⟨?_, m⟩
  congr 1
  cases hs : l.any P with
  | true => simp [hk.2 hs]
  | false =>
   have : ¬ 0 ≤ k := fun hh => by rw [hk, hs] at hh; cases hh
   simp [this]
 refine aO ?_
 simp only [F.mU, s.len, aB]
 refine ⟨fun n vs h' => ∃ i : Nat, vs = [i64 i] ∧ n = l.length - i ∧ i ≤ l.length ∧ Mod h [] h' [] ∧ ∀ j o, j < i → l[j]? = some o → P o = false, l.length, ⟨0, rfl, by omega, by omega, Mod.refl (by simp), fun j o hj => by omega⟩, ?_⟩
 rintro n e h1 ⟨i, he, rfl, hi, m1, hno⟩
 simp only [List.cons.injEq, and_true] at he
 simp only [he, cW, aB, aF, decide_eq_true_eq]
 rcases Nat.lt_or_ge i l.length with hx | hx
 · rw [if_pos (show ((i : Nat) : Int) < (l.length : Nat) by omega)]
   have hg : l[i]? = some l[i] := List.getElem?_eq_getElem hx
   obtain ⟨b, i1, i2⟩ := (s.bW m1).ld hg
   have i1 : bG (.slice 3) _ _ = _ := i1
   have i2 : ldD (.agg 3) _ _ = _ := i2
   simp only [i1, aB, i2]
   refine uJ hM ?_ (hf h1 l[i] (List.getElem_mem hx) m1)
   rintro r h2 ⟨rfl, m2⟩
   have m3 : Mod h [] h2 [] := m1.trans m2
   simp only [aF]
   cases hp : P l[i] with
   | true =>
    simp only [if_true]
    exact ⟨i, rfl, ⟨fun _ => List.any_eq_true.2 ⟨l[i], List.getElem_mem hx, hp⟩, fun _ => by omega⟩, m3⟩
   | false =>
    simp only [Bool.false_eq_true, if_false]
    rw [dN _ 1 (by omega) (by omega), aB]
    refine ⟨l.length - (i + 1), by omega, i + 1, by simp, rfl, by omega, m3, fun j o hj ho => ?_⟩
    by_cases hji : j = i
    · subst hji
      rw [hg] at ho
      cases ho
      exact hp
    · exact hno j o (by omega) ho
 · rw [if_neg (show ¬ ((i : Nat) : Int) < (l.length : Nat) by omega)]
   refine ⟨-1, rfl, ⟨fun hh => by omega, fun hh => ?_⟩, m1⟩
   obtain ⟨o, ho, hp⟩ := List.any_eq_true.1 hh
   obtain ⟨j, hj, rfl⟩ := List.mem_iff_getElem.1 ho
   rw [hno j l[j] (by omega) (List.getElem?_eq_getElem hj)] at hp
   cases hp
theorem aWr {E1 E2 : FE} {b : Nat} (k : aZ) (hE : E.I (E.k 8) = some (cl (F.jI E1))) (x : aZ) (hb : h.get b = some (.cells (bF.enc k) 3 .rw)) (hlt : b < h.next) :
 cU E.I (.func (.func (E.k 8)) #[] #[ptr b 0]) [x.agg] h fun r h' => r = .bool (eJ x k) ∧ Mod h [] h' [] := by
 unfold cU
 simp only [hE]
 refine aO ?_
 simp only [F.jI, List.nil_append, List.append_nil, List.cons_append, aLe, bA]
 have m0 := Mod.fC (h := h) (fp := []) (o := .cells (bF.enc x) 3 .rw) (by simp)
 have g0 : (h.new (.cells (bF.enc x) 3 .rw)).get h.next = some (.cells (bF.enc x) 3 .rw) := by simp
 have g1 : (h.new (.cells (bF.enc x) 3 .rw)).get b = some (.cells (bF.enc k) 3 .rw) := by
  rw [m0.same b hlt (by simp)]; exact hb
 generalize h.new (.cells (bF.enc x) 3 .rw) = h2 at g0 g1 m0 ⊢
 rw [ld3 g0, aB, ld3 g1, aB]
 refine aL (jL x k) ?_
 rintro r h3 ⟨rfl, m3⟩
 exact ⟨rfl, m0.trans m3⟩
theorem bars {E1 : FE} (hM : aH E.I) {b : Nat} (k : aZ) (hE : E.I (E.k 8) = some (cl (F.jI E1))) {l : List aZ} (s : SlE bF h fp v l) (hsz : l.length ≤ 1000000)
 (hb : h.get b = some (.cells (bF.enc k) 3 .rw)) (hlt : b < h.next) :
 cl (F.lC E) [v, .func (.func (E.k 8)) #[] #[ptr b 0]] h fun r h' => r = .bool (l.any fun x => eJ x k) ∧ Mod h [] h' [] :=
 aQs hM s hsz (fun x => eJ x k) fun h' o _ m => aWr (E2 := E1) k hE o (by rw [m.same b hlt (by simp)]; exact hb) (Nat.lt_of_lt_of_le hlt m.next)
end Go.Abs
namespace Go.Abs
open Go
variable {E : FE} {F : Fr} {h : aA} {L : List Pl} {p v : V} {lk : List (aZ × IdM)} {ks : List aZ}
def fE (v : V) (l : List aZ) : Pl := ⟨fun h f => SlE bF h f v l, fun _ _ q => q.lt, fun _ _ _ q hl hs => SlE.same q hl hs⟩
def lkV (_ : aZ) (v : V) (x : IdM) : Pl := dE (v = x.agg)
def dJ (p : V) (lk : List (aZ × IdM)) : Pl := sL fun (y : Nat × Nat) => kY [dE (p = ptr y.1 0), aI y.1 [.map (some y.2)] 1, aK eD lkV y.2 lk]
theorem Sep.yL (s : Sep F h (dJ p lk :: L)) : ∃ b m, p = ptr b 0 ∧ Sep F h (aI b [.map (some m)] 1 :: aK eD lkV m lk :: L) := by
 obtain ⟨⟨b, m⟩, s⟩ := s.ex
 have s1 := s.all
 obtain ⟨e, s2⟩ := Sep.pure (L := aI b [.map (some m)] 1 :: aK eD lkV m lk :: L) s1
 exact ⟨b, m, e, s2⟩
theorem Sep.uS {b m : Nat} (s : Sep F h (aI b [.map (some m)] 1 :: aK eD lkV m lk :: L)) : Sep F h (dJ (ptr b 0) lk :: L) :=
 Sep.vR (A := fun (y : Nat × Nat) => kY [dE (ptr b 0 = ptr y.1 0), aI y.1 [.map (some y.2)] 1, aK eD lkV y.2 lk]) (b, m)
  (Sep.vQ (L' := [dE (ptr b 0 = ptr b 0), aI b [.map (some m)] 1, aK eD lkV m lk]) (Sep.mkPure rfl s))
theorem Sep.aMc {t : List (Et aZ IdM)} : ∀ {h : aA} {L : List Pl}, Sep F h (t.map (Et.p lkV) ++ L) → ∀ e ∈ t, e.v = e.x.agg := by
 induction t with
 | nil => intro h L s e he; cases he
 | cons a t ih =>
  intro h L s e he
  obtain ⟨q, s1⟩ := Sep.pure (φ := a.v = a.x.agg) (L := t.map (Et.p lkV) ++ L) s
  rcases List.mem_cons.1 he with rfl | he
  · exact q
  · exact ih s1 e he
abbrev cId (i : IdM) : List V := [i64 i.client, i64 i.seq]
theorem pC (i : IdM) : aQ none i.agg h = some (ptr h.next 0, h.new (.cells (cId i) 2 .rw)) := rfl
theorem yI : aQ none (.agg #[(.string ⟨#[]⟩), (.string ⟨#[]⟩), (.bool false)]) h = some (ptr h.next 0, h.new (.cells (bF.enc ⟨⟨#[]⟩, ⟨#[]⟩, false⟩) 3 .rw)) := rfl
theorem yH : aQ none (.agg #[(.int .i64 0), (.int .i64 0)]) h = some (ptr h.next 0, h.new (.cells (cId ⟨0, 0⟩) 2 .rw)) := rfl
theorem ld2 {b : Nat} {i : IdM} (hb : h.get b = some (.cells (cId i) 2 .rw)) : ldD (.agg 2) (ptr b 0) h = some i.agg := by
 simp only [sG, mL hb]
 rfl
theorem st3 {b : Nat} {c k : aZ} (hb : h.get b = some (.cells (bF.enc c) 3 .rw)) : stD (some 3) (ptr b 0) k.agg h = some (h.put b (.cells (bF.enc k) 3 .rw)) := by
 show h.wr b 0 (bF.enc k) = _
 simp only [aA.wr, hb]
 rw [if_pos ⟨by simp [bF], by simp [bF]⟩]
 rfl
theorem st2 {b : Nat} {c k : IdM} (hb : h.get b = some (.cells (cId c) 2 .rw)) : stD (some 2) (ptr b 0) k.agg h = some (h.put b (.cells (cId k) 2 .rw)) := by
 show h.wr b 0 (cId k) = _
 simp only [aA.wr, hb]
 rw [if_pos ⟨by simp, by simp⟩]
 rfl
theorem id_eq (c : Bool) (a b : IdM) : aC (.struct [(0, .int), (1, .int)]) .eql c a.agg b.agg h = some (.bool (decide (a = b))) := by
 have := bL.eq a b
 have e : eqD (.struct [(0, .int), (1, .int)]) c a.agg b.agg h = some (decide (a = b)) := this
 show (eqD (.struct [(0, .int), (1, .int)]) c _ _ h).map Value.bool = _
 rw [e]; rfl
theorem aJo (c : Bool) (a b : IdM) : aC (.struct [(0, .int), (1, .int)]) .neq c a.agg b.agg h = some (.bool (!decide (a = b))) := by
 have := bL.eq a b
 have e : eqD (.struct [(0, .int), (1, .int)]) c a.agg b.agg h = some (decide (a = b)) := this
 show (eqD (.struct [(0, .int), (1, .int)]) c _ _ h).map (fun b => Value.bool (!b)) = _
 rw [e]; rfl
theorem aWq (id : IdM) (ks : List aZ) (k : aZ) : cF id (ks ++ [k]) lk = ins k id (cF id ks lk) := by
 simp [cF, List.foldl_append]
theorem aPw {id : IdM} {t : List (Et aZ IdM)} {clk : Nat} (q : OkE t clk lk) :
 blocked id ks lk = t.any fun e => decide (e.x ≠ id) && ks.any fun k => eJ k e.k := by
 unfold blocked
 rw [Bool.eq_iff_iff, List.any_eq_true, List.any_eq_true]
 constructor
 · rintro ⟨x, hx, hp⟩
   obtain ⟨e, he, rfl⟩ := List.mem_map.1 (q.perm.mem_iff.2 hx)
   exact ⟨e, he, hp⟩
 · rintro ⟨e, he, hp⟩
   exact ⟨(e.k, e.x), q.perm.mem_iff.1 (List.mem_map.2 ⟨e, he, rfl⟩), hp⟩
end Go.Abs
namespace Go.Abs
open Go
variable {E : FE} {F : Fr} {h : aA} {L : List Pl} {p v : V} {lk : List (aZ × IdM)} {ks : List aZ}
theorem aWs {id : IdM} {bi b m : Nat} (s : Sep F h (aK eD lkV m lk :: aI bi (cId id) 2 :: aI b [.map (some m)] 1 :: fE v ks :: L)) (hsz : ks.length ≤ 1000000) {K : V → aA → Prop}
 (hK : ∀ h', Sep F h' (aK eD lkV m (cF id ks lk) :: aI bi (cId id) 2 :: aI b [.map (some m)] 1 :: fE v ks :: L) → K (.bool true) h') :
 kv (bI .slice v h) fun v22 =>
∃ (Inv23 : Nat → List V → aA → Prop) (n23 : Nat), Inv23 n23 [(.int .i64 0)] h ∧ ∀ (n23 : Nat) (e23 : Nat → V) (h : aA), Inv23 n23 [(e23 33)] h →
kv (aC .bad .lss false (e23 33) v22 h) fun v24 =>
ifV v24 (
kv (bG (.slice 3) v (e23 33)) fun v25 =>
kv (ldD (.agg 3) v25 h) fun v26 =>
kP (aQ none (.agg #[(.string ⟨#[]⟩), (.string ⟨#[]⟩), (.bool false)]) h) fun v27 h =>
kH (stD (some 3) v27 v26 h) fun _ h =>
kv (aM (ptr b 0)) fun v28 =>
kv (aE (some 0) v28) fun v29 =>
kv (ldD .one v29 h) fun v30 =>
kv (ldD (.agg 3) v27 h) fun v31 =>
kv (ldD (.agg 2) (ptr bi 0) h) fun v32 =>
kH (cQ (some ((.struct false [(0, .string), (1, .string), (2, .bool)]), (some (.agg #[(.int .i64 0), (.int .i64 0)])))) v30 v31 v32 h) fun _ h =>
kv (aC .bad .add true (e23 33) (.int .i64 1) h) fun v33 =>
∃ m, m < n23 ∧ Inv23 m [v33] h) (
K (.bool true) h) := by
 obtain ⟨f0, q0, _⟩ := s.up3.head
 have q0 : SlE bF h f0 v ks := q0
 rw [q0.len, aB]
 refine ⟨fun n vs h' => ∃ i : Nat, vs = [i64 i] ∧ n = ks.length - i ∧ i ≤ ks.length ∧ Sep F h' (aK eD lkV m (cF id (ks.take i) lk) :: aI bi (cId id) 2 :: aI b [.map (some m)] 1 :: fE v ks :: L), ks.length, ⟨0, rfl, by omega, by omega, by simpa [cF] using s⟩, ?_⟩
 rintro n e h1 ⟨i, he, rfl, hi, s1⟩
 simp only [List.cons.injEq, and_true] at he
 simp only [he, cW, aB, aF, decide_eq_true_eq]
 rcases Nat.lt_or_ge i ks.length with hx | hx
 case inr =>
  rw [if_neg (show ¬ ((i : Nat) : Int) < (ks.length : Nat) by omega)]
  have hil : i = ks.length := by omega
  subst hil
  rw [List.take_length] at s1
  exact hK _ s1
 rw [if_pos (show ((i : Nat) : Int) < (ks.length : Nat) by omega)]
 obtain ⟨f1, q1, _⟩ := s1.up3.head
 have q1 : SlE bF h1 f1 v ks := q1
 have hg : ks[i]? = some ks[i] := List.getElem?_eq_getElem hx
 obtain ⟨c, i1, i2⟩ := q1.ld hg
 have i1 : bG (.slice 3) _ _ = _ := i1
 have i2 : ldD (.agg 3) _ _ = some (ks[i]).agg := i2
 have hnext : cF id (ks.take (i + 1)) lk = ins ks[i] id (cF id (ks.take i) lk) := by
  rw [List.take_add_one, hg]; exact aWq _ _ _
 generalize ks[i] = k at i2 hnext
 simp only [i1, aB, i2, yI, bA]
 have s2 := s1.box (bF.enc ⟨⟨#[]⟩, ⟨#[]⟩, false⟩) 3
 rw [st3 s2.get, bR]
 have s3 := s2.write (cs' := bF.enc k)
 generalize (h1.new (.cells (bF.enc ⟨⟨#[]⟩, ⟨#[]⟩, false⟩) 3 .rw)).put h1.next (.cells (bF.enc k) 3 .rw) = h3 at s3 ⊢
 have r1 : h3.rd b 0 = some (.map (some m)) := aG (s3.drop.drop.drop.get) 0
 simp only [bK, bH, aB, bC, Nat.zero_add, r1, ld3 s3.get, ld2 s3.drop.drop.get]
 obtain ⟨h4, e4, s4⟩ := Sep.tG (D := eD) (A := lkV) (k := k) (v := id.agg) (x := id) (z := .agg #[(.int .i64 0), (.int .i64 0)]) (Sep.up1 (Sep.mkPure (φ := id.agg = id.agg) rfl s3.drop))
 have e4 : cQ (some ((.struct false [(0, .string), (1, .string), (2, .bool)]), (some (.agg #[(.int .i64 0), (.int .i64 0)])))) (.map (some m)) k.agg id.agg h3 = some h4 := e4
 rw [e4, bR, dN _ 1 (by omega) (by omega), aB]
 exact ⟨ks.length - (i + 1), by omega, i + 1, by simp, rfl, by omega, by rw [hnext]; exact s4⟩
theorem aTq {E1 : FE} (hM : aH E.I) (hE : E.I (E.k 8) = some (cl (Go.Abs.F.jI E1))) (id : IdM) (s : Sep F h (dJ p lk :: fE v ks :: L)) (hsz : ks.length ≤ 1000000) :
 cl (Go.Abs.F.lT E) [p, id.agg, v] h fun r h' => r = .bool (!blocked id ks lk) ∧ Sep F h' (dJ p (if blocked id ks lk then lk else cF id ks lk) :: fE v ks :: L) := by
 refine aO ?_
 obtain ⟨b, m, rfl, s0⟩ := s.yL
 simp only [Go.Abs.F.lT, pC, bA, dF, aB, aF, Bool.false_eq_true, if_false, bK, bH, bC, Nat.zero_add]
 have s1 := s0.box (cId id) 2
 generalize h.new (.cells (cId id) 2 .rw) = h1 at s1 ⊢
 generalize h.next = bi at s1 ⊢
 have g1 := s1.drop.get
 have r1 : h1.rd b 0 = some (.map (some m)) := by rw [aG g1 0]; rfl
 rw [r1, aB]
 obtain ⟨t, clk, q, s2⟩ := s1.up2.fD
 have hv := Sep.aMc s2.drop
 rw [aPw q]
 refine Sep.range s2 (fun it h2 s3 => ?_)
 refine ⟨fun n vs h' => ∃ td seen, vs = [] ∧ n = t.length - td.length ∧ dV t td seen ∧ Sep F h' (cJ it m clk seen :: bM m (t.map (Et.m eD)) clk :: (t.map (Et.p lkV) ++ aI bi (cId id) 2 :: aI b [.map (some m)] 1 :: fE v ks :: L)) ∧
  (∀ e ∈ td, (decide (e.x ≠ id) && ks.any fun k => eJ k e.k) = false), t.length, ⟨[], #[], rfl, rfl, dV.nil t, s3, by simp⟩, ?_⟩
 rintro n e0 h3 ⟨td, seen, _, rfl, hs, s4, hno⟩
 refine Sep.sH s4 q.lt q.bn hs (fun e he hne h5 s5 hs5 hent hlen => ?_) (fun hp => ?_)
 · simp only [bQ, List.getElem?_toArray, List.getElem?_cons_zero, List.getElem?_cons_succ, aB, aF, if_true]
   rw [hent, nS]
   simp only [bQ, List.getElem?_toArray, List.getElem?_cons_zero, List.getElem?_cons_succ, aB, yI, yH, bA]
   have s6 := s5.box (bF.enc ⟨⟨#[]⟩, ⟨#[]⟩, false⟩) 3
   have s7 := s6.box (cId ⟨0, 0⟩) 2
   have ek : eD.enc e.k = e.k.agg := rfl
   rw [ek, st3 s7.drop.get, bR]
   have s8 := s7.up1.write (cs' := bF.enc e.k)
   rw [hv e he, st2 s8.drop.get, bR]
   have s9 := s8.up1.write (cs' := cId e.x)
   generalize aA.put (aA.put _ _ _) _ _ = h9 at s9 ⊢
   generalize (h5.new _).next = bx2 at s9 ⊢
   generalize h5.next = bk at s9 ⊢
   have g2 := s9.drop.drop.drop.drop.rW.get
   have g3 := s9.drop.get
   rw [ld2 s9.get, aB, ld2 g2, aB, aJo, aB]
   have more : ∀ h', Sep F h' (aI bx2 (cId e.x) 2 :: aI bk (bF.enc e.k) 3 :: cJ it m clk (seen.push e.b) :: bM m (t.map (Et.m eD)) clk :: (t.map (Et.p lkV) ++ aI bi (cId id) 2 :: aI b [.map (some m)] 1 :: fE v ks :: L)) →
    (decide (e.x ≠ id) && ks.any fun k => eJ k e.k) = false →
    ∃ m1, m1 < t.length - td.length ∧ ∃ td seen, True ∧ m1 = t.length - td.length ∧ dV t td seen ∧ Sep F h' (cJ it m clk seen :: bM m (t.map (Et.m eD)) clk :: (t.map (Et.p lkV) ++ aI bi (cId id) 2 :: aI b [.map (some m)] 1 :: fE v ks :: L)) ∧
     (∀ e ∈ td, (decide (e.x ≠ id) && ks.any fun k => eJ k e.k) = false) := fun h' sx hx =>
    ⟨t.length - (td.length + 1), by omega, td ++ [e], _, trivial, by simp, hs5, sx.drop.drop, fun e' he' => by
     rcases List.mem_append.1 he' with h | h
     · exact hno e' h
     · simp only [List.mem_singleton] at h
       subst h; exact hx⟩
   by_cases hx : e.x = id
   · simp only [hx, decide_true, Bool.not_true, aT, Bool.false_eq_true, if_false, aB]
     refine lQ (by simp) ?_
     simp only [aY, Bool.false_eq_true, if_false, aB, aF]
     rw [hx] at s9
     exact more _ (by rw [hx]; exact s9) (by simp [hx])
   · simp only [hx, decide_false, Bool.not_false, aT, if_true, aB]
     obtain ⟨f9, q9, _⟩ := s9.drop.drop.drop.drop.rW.up2.head
     have q9 : SlE bF h9 f9 v ks := q9
     obtain ⟨_, ⟨_, hlt, _⟩, _⟩ := s9.drop.head
     refine gF rfl (aL (bars hM e.k hE q9 hsz g3 hlt) ?_)
     rintro r h10 ⟨rfl, m10⟩
     have s10 := s9.skip m10
     simp only [aY, if_true, aB, aF]
     by_cases ha : (ks.any fun k => eJ k e.k) = true
     · rw [if_pos ha]
       have hb : (t.any fun e => decide (e.x ≠ id) && ks.any fun k => eJ k e.k) = true := List.any_eq_true.2 ⟨e, he, by simp [hx, ha]⟩
       rw [hb]
       refine ⟨rfl, ?_⟩
       have sc := Sep.fK (D := eD) (A := lkV) q s10.drop.drop.drop
       exact Sep.uS sc.up1.drop.up1
     · rw [if_neg ha]
       exact more _ s10 (by simp [ha])
 · simp only [bQ, List.getElem?_toArray, List.getElem?_cons_zero, List.getElem?_cons_succ, aB, aF, Bool.false_eq_true, if_false]
   have hb : (t.any fun e => decide (e.x ≠ id) && ks.any fun k => eJ k e.k) = false := by
    rw [Bool.eq_false_iff, ne_eq, List.any_eq_true]
    rintro ⟨e, he, hp1⟩
    rw [hno e (hp.mem_iff.1 he)] at hp1
    cases hp1
   rw [hb]
   have sc := Sep.fK (D := eD) (A := lkV) q s4.drop
   exact aWs (K := fun r h' => r = .bool (!false) ∧ Sep F h' (dJ (ptr b 0) (if false = true then lk else cF id ks lk) :: fE v ks :: L)) sc hsz fun h' s' => ⟨rfl, Sep.uS s'.up1.drop.up1⟩
end Go.Abs
namespace Go.Abs
open Go
variable {E : FE} {F : Fr} {h : aA} {L : List Pl} {p v : V} {lk : List (aZ × IdM)} {ks : List aZ}
theorem aKq {E1 : FE} (hM : aH E.I) (hE : E.I (E.k 9) = some (cl (Go.Abs.F.fB E1))) (id : IdM) (s : Sep F h (dJ p lk :: L)) (hl : lk.length ≤ 1000000)
 (hn : (lk.filter fun e => decide (e.2 = id)).length ≤ 12) :
 cl (Go.Abs.F.iO E) [p, id.agg] h fun r h' => ∃ l', (∀ k, k ∈ l' ↔ (k, id) ∈ lk) ∧ l'.length ≤ 12 ∧ Sep F h' (fE r l' :: dJ p lk :: L) := by
 refine aO ?_
 obtain ⟨b, m, rfl, s0⟩ := s.yL
 simp only [Go.Abs.F.iO, pC, bA, dF, aB, aF, Bool.false_eq_true, if_false, bK, bH, bC, Nat.zero_add]
 have s1 := s0.box (cId id) 2
 generalize h.new (.cells (cId id) 2 .rw) = h1 at s1 ⊢
 generalize h.next = bi at s1 ⊢
 have g1 := s1.drop.get
 have r1 : h1.rd b 0 = some (.map (some m)) := by rw [aG g1 0]; rfl
 rw [r1, aB]
 obtain ⟨t, clk, q, s2⟩ := s1.up2.fD
 have hv := Sep.aMc s2.drop
 have htl : t.length = lk.length := by have := q.perm.length_eq; simpa [cC] using this
 refine Sep.range s2 (fun it h2 s3 => ?_)
 have s3' : Sep F h2 (fE (.slice none 0 0) [] :: cJ it m clk #[] :: bM m (t.map (Et.m eD)) clk :: (t.map (Et.p lkV) ++ aI bi (cId id) 2 :: aI b [.map (some m)] 1 :: L)) :=
  s3.alloc (a' := []) (fE (.slice none 0 0) []) (Mod.refl (by simp)) (SlE.nil (D := bF))
 refine ⟨fun n vs h' => ∃ td seen w, vs = [w] ∧ n = t.length - td.length ∧ dV t td seen ∧ Sep F h' (fE w ((td.filter fun e => decide (e.x = id)).map (·.k)) :: cJ it m clk seen :: bM m (t.map (Et.m eD)) clk :: (t.map (Et.p lkV) ++ aI bi (cId id) 2 :: aI b [.map (some m)] 1 :: L)),
  t.length, ⟨[], #[], _, rfl, rfl, dV.nil t, s3'⟩, ?_⟩
 rintro n e0 h3 ⟨td, seen, w, he0, rfl, hs, s4⟩
 simp only [List.cons.injEq, and_true] at he0
 simp only [he0]
 refine Sep.sH s4.dn2 q.lt q.bn hs (fun e he hne h5 s5 hs5 hent hlen => ?_) (fun hp => ?_)
 · simp only [bQ, List.getElem?_toArray, List.getElem?_cons_zero, List.getElem?_cons_succ, aB, aF, if_true]
   rw [hent, nS]
   simp only [bQ, List.getElem?_toArray, List.getElem?_cons_zero, List.getElem?_cons_succ, aB, yI, yH, bA]
   have s6 := s5.up2.box (bF.enc ⟨⟨#[]⟩, ⟨#[]⟩, false⟩) 3
   have s7 := s6.box (cId ⟨0, 0⟩) 2
   have ek : eD.enc e.k = e.k.agg := rfl
   rw [ek, st3 s7.drop.get, bR]
   have s8 := s7.up1.write (cs' := bF.enc e.k)
   rw [hv e he, st2 s8.drop.get, bR]
   have s9 := s8.up1.write (cs' := cId e.x)
   generalize aA.put (aA.put _ _ _) _ _ = h9 at s9 ⊢
   generalize (h5.new _).next = bx2 at s9 ⊢
   generalize h5.next = bk at s9 ⊢
   have g2 := s9.drop.drop.drop.drop.drop.rW.get
   have g3 := s9.drop.get
   rw [ld2 s9.get, aB, ld2 g2, aB, id_eq, aB]
   have s10 := s9.drop.drop
   have hfl : ((td.filter fun e => decide (e.x = id)).map (·.k)).length ≤ 1000000 := by
    rw [List.length_map]
    have := List.length_filter_le (fun e : Et aZ IdM => decide (e.x = id)) td
    omega
   simp only [aF, decide_eq_true_eq]
   by_cases hx : e.x = id
   · rw [if_pos hx, ld3 g3, aB]
     obtain ⟨f, qs, kk⟩ := s10.head
     obtain ⟨h11, b1, w', h12, fw', b2, s11, m11⟩ := aDx (v := w) (fp := f) (h := h9) qs hfl e.k
     rw [b1, bA, b2, bA]
     refine ⟨t.length - (td.length + 1), by omega, td ++ [e], _, w', rfl, by simp, hs5, ?_⟩
     rw [List.filter_append, List.filter_cons_of_pos (by simp [hx]), List.filter_nil, List.map_append]
     exact kk (fE w' (_ ++ [e.k])) m11 s11
   · rw [if_neg hx]
     refine ⟨t.length - (td.length + 1), by omega, td ++ [e], _, w, rfl, by simp, hs5, ?_⟩
     rw [List.filter_append, List.filter_cons_of_neg (by simp [hx]), List.filter_nil, List.append_nil]
     exact s10
 · simp only [bQ, List.getElem?_toArray, List.getElem?_cons_zero, List.getElem?_cons_succ, aB, aF, Bool.false_eq_true, if_false]
   have hlen : ((td.filter fun e => decide (e.x = id)).map (·.k)).length ≤ 12 := by
    have h1 := ((hp.filter fun e => decide (e.x = id)).length_eq)
    have h2 := ((q.perm.filter fun e => decide (e.2 = id)).length_eq)
    rw [cC, List.filter_map, List.length_map] at h2
    rw [List.length_map, ← h1]
    have h3 : (t.filter fun e => decide (e.x = id)).length = (t.filter ((fun e : aZ × IdM => decide (e.2 = id)) ∘ fun e : Et aZ IdM => (e.k, e.x))).length := rfl
    omega
   obtain ⟨f, qs, kk⟩ := s4.head
   refine aL (fO hM hE (v := w) (fp := f) (h := h3) qs hlen) ?_
   rintro r h6 ⟨l', hm, hle, sl, ml⟩
   refine ⟨l', fun k => ?_, Nat.le_trans hle hlen, ?_⟩
   · rw [hm k, ← q.perm.mem_iff]
     simp only [List.mem_map, List.mem_filter, decide_eq_true_eq, cC, Prod.mk.injEq]
     constructor
     · rintro ⟨e, ⟨he, hx⟩, hk⟩
       exact ⟨e, hp.mem_iff.2 he, hk, hx⟩
     · rintro ⟨e, he, hk, hx⟩
       exact ⟨e, ⟨hp.mem_iff.1 he, hx⟩, hk⟩
   · have s5 := kk (fE r l') ml sl
     have s6 := Sep.fK (D := eD) (A := lkV) q (s5.dn2.drop.perm (List.Perm.cons _ List.perm_middle.symm))
     exact (Sep.uS s6.up2.drop.up2).up1
end Go.Abs

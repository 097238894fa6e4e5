/- The document's bV: rising keys. The plain law. -/
import Derived.Test.YtldjlkbjbkielaaGreatDoorVpau
import Derived.Test.YtldjlkbjbkielaaGreatDoorVpat
import Derived.Test.YtldjlkbjbkielaaGreatDoorVpas
set_option linter.unusedSimpArgs false
set_option linter.unusedVariables false
namespace Go.Abs
open Go
def kl (a : ByteArray) : List UInt8 := a.data.toList
theorem qS {a b : ByteArray} (h : kl a = kl b) : a = b := by
 obtain ⟨⟨a⟩⟩ := a
 obtain ⟨⟨b⟩⟩ := b
 have h' : a = b := h
 rw [h']
theorem fQ (a : List UInt8) : ¬ a < a := List.lt_irrefl a
theorem vN {a b c : List UInt8} (h : a < b) (h' : b < c) : a < c := List.lt_trans h h'
theorem qC {a b : List UInt8} (h : ¬ a < b) (h' : a ≠ b) : b < a := by
 have h1 : b ≤ a := List.not_lt.1 h
 rcases List.le_iff_lt_or_eq.1 h1 with h2 | h2
 · exact h2
 · exact absurd h2.symm h'
theorem aFm {a b : List UInt8} (h : a < b) : ¬ b < a := fun h' => fQ a (vN h h')
theorem aD4 : ∀ (x y : List UInt8), Op.bytesLess x y = decide (x < y)
 | [], [] => by simp [Op.bytesLess]
 | _ :: _, [] => by simp [Op.bytesLess]
 | [], _ :: _ => by simp [Op.bytesLess]
 | a :: x, b :: y => by
  rw [Op.bytesLess, aD4 x y]
  simp only [List.cons_lt_cons_iff]
  by_cases h1 : a < b <;> by_cases h2 : a = b <;> by_cases h3 : x < y <;> simp [h1, h2, h3]
theorem aWg (k : EqK) (c : Bool) (a b : ByteArray) {h : aA} : aC k .lss c (str a) (str b) h = some (.bool (decide (kl a < kl b))) := by
 rw [sV]
 show some (Value.bool (Op.bytesLess a.toList b.toList)) = _
 rw [aD4, uP, uP]
 rfl
def oL (ps : List Pr) : Prop := ps.Pairwise fun a b => kl a.key < kl b.key
def tS (k : ByteArray) : List Pr → Nat
 | [] => 0
 | p :: l => if kl p.key < kl k then tS k l + 1 else 0
def bU (k : ByteArray) : List Pr → Option Pr
 | [] => none
 | p :: l => if kl p.key < kl k then bU k l else if p.key = k then some p else none
def cG (q : Pr) : List Pr → List Pr
 | [] => [q]
 | p :: l => if kl p.key < kl q.key then p :: cG q l else if p.key = q.key then q :: l else q :: p :: l
def iK (k : ByteArray) : List Pr → List Pr
 | [] => []
 | p :: l => if kl p.key < kl k then p :: iK k l else if p.key = k then l else p :: l
theorem aU7 (k : ByteArray) : ∀ l : List Pr, tS k l ≤ l.length
 | [] => Nat.le_refl _
 | p :: l => by
  have := aU7 k l
  simp only [tS, List.length_cons]
  split <;> omega
theorem put_eq (q : Pr) : ∀ l : List Pr, cG q l = if (bU q.key l).isSome then l.set (tS q.key l) q else l.take (tS q.key l) ++ q :: l.drop (tS q.key l)
 | [] => rfl
 | p :: l => by
  simp only [cG, bU, tS]
  by_cases h1 : kl p.key < kl q.key
  · simp only [if_pos h1, put_eq q l]
    split <;> rfl
  · by_cases h2 : p.key = q.key
    · simp [h2, fQ]
    · simp [h1, h2]
theorem aJk {k : ByteArray} : ∀ {l : List Pr}, (∀ p ∈ l, kl k < kl p.key) → bU k l = none
 | [], _ => rfl
 | p :: l, h => by
  have h1 := h p (by simp)
  have h2 : ¬ p.key = k := fun e => fQ _ (e ▸ h1)
  simp only [bU, if_neg (aFm h1), if_neg h2]
theorem aAt (k : ByteArray) (q : Pr) : ∀ l : List Pr, bU k (cG q l) = if q.key = k then some q else bU k l
 | [] => by
  simp only [cG, bU]
  by_cases h : q.key = k
  · simp [h, fQ]
  · simp [h]
 | p :: l => by
  have ih := aAt k q l
  simp only [cG]
  by_cases h1 : kl p.key < kl q.key
  · simp only [if_pos h1, bU, ih]
    by_cases h : q.key = k
    · subst h; simp [h1]
    · simp [h]
  · by_cases h2 : p.key = q.key
    · simp only [if_neg h1, if_pos h2, bU]
      by_cases h : q.key = k
      · simp [h, fQ]
      · simp only [h2, if_neg h]
    · simp only [if_neg h1, if_neg h2]
      have h3 : kl q.key < kl p.key := qC h1 fun e => h2 (qS e)
      rw [show bU k (q :: p :: l) = if kl q.key < kl k then bU k (p :: l) else if q.key = k then some q else none from rfl]
      by_cases h : q.key = k
      · simp [h, fQ]
      · by_cases h4 : kl q.key < kl k
        · simp [h, h4]
        · have h5 : kl k < kl q.key := qC h4 fun e => h (qS e)
          have h6 := vN h5 h3
          have h7 : ¬ p.key = k := fun e => fQ _ (e ▸ h6)
          simp only [if_neg h, if_neg h4, bU, if_neg (aFm h6), if_neg h7]
theorem aJi (k k' : ByteArray) : ∀ {l : List Pr}, oL l → bU k (iK k' l) = if k' = k then none else bU k l
 | [], _ => by simp [iK, bU]
 | p :: l, hr => by
  have hl := (List.pairwise_cons.1 hr).1
  have ih := aJi k k' (l := l) (List.pairwise_cons.1 hr).2
  simp only [iK]
  by_cases h1 : kl p.key < kl k'
  · simp only [if_pos h1, bU, ih]
    by_cases h : k' = k
    · subst h; simp [h1]
    · simp [h]
  · by_cases h2 : p.key = k'
    · subst h2
      rw [if_neg (fQ _), if_pos rfl]
      by_cases h : p.key = k
      · subst h; rw [if_pos rfl]; exact aJk hl
      · rw [if_neg h]
        simp only [bU, if_neg h]
        by_cases h3 : kl p.key < kl k
        · rw [if_pos h3]
        · rw [if_neg h3]
          have h4 : kl k < kl p.key := qC h3 fun e => h (qS e)
          exact aJk fun x hx => vN h4 (hl x hx)
    · simp only [if_neg h1, if_neg h2]
      have h3 : kl k' < kl p.key := qC h1 fun e => h2 (qS e)
      by_cases h : k' = k
      · subst h; simp [bU, h1, h2]
      · simp [h]
theorem aK3 {q x : Pr} : ∀ {l : List Pr}, x ∈ cG q l → x = q ∨ x ∈ l
 | [], h => by simp only [cG, List.mem_singleton] at h; exact .inl h
 | p :: l, h => by
  simp only [cG] at h
  split at h
  · rcases List.mem_cons.1 h with rfl | h
    · simp
    · rcases aK3 h with h | h <;> simp [h]
  · split at h
    · rcases List.mem_cons.1 h with rfl | h <;> simp [*]
    · rcases List.mem_cons.1 h with rfl | h
      · simp
      · exact .inr h
theorem oL.put {q : Pr} : ∀ {l : List Pr}, oL l → oL (cG q l)
 | [], _ => List.pairwise_singleton _ _
 | p :: l, hr => by
  obtain ⟨hl, hr'⟩ := List.pairwise_cons.1 hr
  simp only [cG]
  split
  · rename_i h1
    refine List.pairwise_cons.2 ⟨fun x hx => ?_, oL.put hr'⟩
    rcases aK3 hx with rfl | hx
    · exact h1
    · exact hl x hx
  · rename_i h1
    split
    · rename_i h2
      exact List.pairwise_cons.2 ⟨fun x hx => h2 ▸ hl x hx, hr'⟩
    · rename_i h2
      have h3 : kl q.key < kl p.key := qC h1 fun e => h2 (qS e)
      refine List.pairwise_cons.2 ⟨fun x hx => ?_, hr⟩
      rcases List.mem_cons.1 hx with rfl | hx
      · exact h3
      · exact vN h3 (hl x hx)
theorem aIl (k : ByteArray) : ∀ l : List Pr, (iK k l).Sublist l
 | [] => List.Sublist.refl _
 | p :: l => by
  simp only [iK]
  split
  · exact (aIl k l).cons_cons p
  · split
    · exact List.sublist_cons_self _ _
    · exact List.Sublist.refl _
theorem oL.del {k : ByteArray} {l : List Pr} (h : oL l) : oL (iK k l) := h.sublist (aIl k l)
theorem aJj {k : ByteArray} : ∀ {l : List Pr} {p : Pr}, bU k l = some p → p ∈ l ∧ p.key = k
 | [], p, h => by simp [bU] at h
 | q :: l, p, h => by
  simp only [bU] at h
  split at h
  · have := aJj h; exact ⟨by simp [this.1], this.2⟩
  · split at h
    · cases h; exact ⟨by simp, by assumption⟩
    · cases h
theorem aJl {p : Pr} : ∀ {l : List Pr}, oL l → p ∈ l → bU p.key l = some p
 | [], _, h => by simp at h
 | q :: l, hr, h => by
  obtain ⟨hl, hr'⟩ := List.pairwise_cons.1 hr
  rcases List.mem_cons.1 h with rfl | h
  · simp [bU, fQ]
  · simp only [bU, if_pos (hl p h)]
    exact aJl hr' h
theorem aVo {ps : List Pr} (h : oL ps) : (ps.map (·.key)).Nodup :=
 List.pairwise_map.2 (h.imp fun {a b} hab (e : a.key = b.key) => by rw [e] at hab; exact fQ _ hab)
end Go.Abs
namespace Go.Abs
open Go
variable {E : FE} {h h' : aA} {fp : List Nat} {p : V} {s : SpM}
section
variable {α : Type} (f : α → List V) (n : Nat) (hf : ∀ a, (f a).length = n)
include hf
end
theorem Sl.at {v : V} {es n : Nat} {cs : List V} (c : Sl h fp v es n cs) {i : Nat} (hi : i < n) :
 ∃ b, fp = [b] ∧ bG (.slice es) v (i64 i) = some (ptr b (i * es)) ∧ ∀ j, j < es → h.rd b (i * es + j) = cs[i * es + j]? := by
 obtain ⟨h0, ⟨rfl, h1, rfl⟩ | ⟨b, cp, all, rfl, rfl, hb, hc, h2, h3, h4⟩⟩ := c
 · omega
 have b1 : (0 : Int) ≤ (i : Int) ∧ (i : Int) < (n : Nat) := by omega
 refine ⟨b, rfl, by simp only [bG, if_pos b1, Int.toNat_natCast, Nat.zero_add], fun j hj => ?_⟩
 have : (i + 1) * es ≤ n * es := Nat.mul_le_mul_right _ hi
 rw [Nat.succ_mul] at this
 rw [aG h2, ← h4, List.getElem?_take, if_pos (by omega)]
variable {b : Nat} {fP fI fL : List Nat} {vP vI vL : V}
end Go.Abs
namespace Go.Abs
open Go Go.Proofs
variable {E : FE} {h : aA} {fp : List Nat} {p : V} {l : List En}
theorem aWm (t : Tab h fp p l) : cl (F.jY E) [p] h fun r h' => ∃ fp', Tab h' fp' r l ∧ Mod h [] h' fp' := by
 obtain ⟨b, m, clk, rfl, rfl, hne, hb, hm, h1, h2, hn⟩ := t
 refine aO ?_
 simp only [F.jY, dF, aB, aF, Bool.false_eq_true, if_false, bK, bH, bC, Nat.zero_add, aG h1, List.getElem?_cons_zero]
 refine aO ?_
 simp only [F.nW, aKz, aB, aF, Bool.false_eq_true, if_false, iface]
 refine aO ?_
 simp only [F.pA, L.clone, h2, qM, beq_self_eq_true, Bool.and_self, if_true, Bool.false_eq_true, if_false, aB]
 have e1 : ∀ x : Nat, bP (.struct [(.map none)] [(0, 1)]) [(0, .map (some x))] = some (.agg #[.map (some x)]) := fun _ => rfl
 have e2 : ∀ (x : Nat) (g : aA), aQ none (.agg #[.map (some x)]) g = some (ptr g.next 0, g.new (.cells [.map (some x)] 1 .rw)) := fun _ _ => rfl
 simp only [e1, e2, aB, bA]
 refine ⟨[h.next + 1, h.next], ⟨h.next + 1, h.next, clk, by simp, rfl, by simp, by simp, by simp; omega, by simp, by simp, hn⟩, by simp; omega, fun x hx _ => ?_, fun x hx => ?_, fun x hx => ?_⟩
 · have a : x ≠ h.next := by omega
   have a' : x ≠ h.next + 1 := by omega
   simp [a, a']
 · simp at hx; right; omega
 · simp at hx ⊢; omega
theorem aNe (es : List MapEntry) : (eO es).length = es.length := by rw [eO, List.length_mergeSort, List.length_map]
theorem aV6 (ks : List (List UInt8)) (h : aA) : ∃ fp', Sl (rH ks h) fp' (sN ks h) 1 ks.length (ks.map encStr) ∧ Mod h [] (rH ks h) fp' := by
 unfold rH sN
 by_cases hk : ks = []
 · subst hk
   exact ⟨[], Sl.nil, Mod.refl (by simp)⟩
 · rw [if_neg hk, if_neg hk]
   refine ⟨[h.next], ⟨by simp, .inr ⟨h.next, 2 * ks.length + 1, ks.map encStr, rfl, rfl, by simp, by omega, by simp, by simp; omega, by rw [Nat.mul_one, List.take_of_length_le (by simp)]⟩⟩, by simp, fun x hx _ => ?_, by simp, by simp⟩
   have a : x ≠ h.next := by omega
   simp [a]
theorem aTa {b : Nat} {es : Nat} {k : BK} {m clk g : Nat} (hb : h.get b = some (.cells [.map (some m)] es k)) (hm : h.get m = some (.map (l.map ME) clk)) (hn : (bY l).Nodup ∧ Stp l clk) (hs : ∀ e ∈ l, e.k.size ≤ maxLen) (hl : l.length ≤ 1000)
 (hg : g = E.k 3 ∨ g = E.k 4 ∨ g = E.k 12) {K : V → aA → Prop} (hK : K (sN (eO (l.map ME)) h) (rH (eO (l.map ME)) h)) : F.pJ E [.func (.func g) #[] #[ptr b 0]] h K := by
 refine ⟨rfl, hg, b, m, l.map ME, clk, es, k, rfl, hb, hm, by simpa using hl, fun x hx => ?_, ?_, ?_, hK⟩
 · obtain ⟨e, he, rfl⟩ := List.mem_map.1 hx
   exact ⟨⟨e.k, rfl, hs e he⟩, hn.2.2 e he⟩
 · rw [List.map_map]
   exact hn.2.1
 · rw [List.map_map]
   have h1 := hn.1
   unfold bY at h1
   refine List.pairwise_map.2 ((List.pairwise_map.1 h1).imp fun {a b} hab e => hab ?_)
   simpa [ME] using e
theorem aWn (t : Tab h fp p l) (hs : ∀ e ∈ l, e.k.size ≤ maxLen) (hl : l.length ≤ 1000) :
 cl (F.iX E) [p] h fun r h' => ∃ fp', Sl h' fp' r 1 l.length ((eO (l.map ME)).map encStr) ∧ Mod h [] h' fp' := by
 obtain ⟨b, m, clk, rfl, rfl, hne, hb, hm, h1, h2, hn⟩ := t
 refine aO ?_
 simp only [F.iX, dF, aB, aF, Bool.false_eq_true, if_false, bK, bH, bC, Nat.zero_add, aG h1, List.getElem?_cons_zero]
 refine aO ?_
 have e2 : aQ none (.map (some m)) h = some (ptr h.next 0, h.new (.cells [.map (some m)] 1 .rw)) := rfl
 simp only [F.nY, e2, bA]
 refine aO ?_
 have m0 : Mod h [] (h.new (.cells [.map (some m)] 1 .rw)) [] := Mod.fC (by simp)
 show F.pJ E _ _ _
 refine aTa (l := l) (b := h.next) (m := m) (clk := clk) (es := 1) (k := .rw) (by simp) (by simp [Nat.ne_of_lt hm, h2]) hn hs hl (.inl rfl) ?_
 obtain ⟨fp', q1, q2⟩ := aV6 (eO (l.map ME)) (h.new (.cells [.map (some m)] 1 .rw))
 rw [aNe, List.length_map] at q1
 exact ⟨fp', q1, m0.trans q2⟩
end Go.Abs

/- What a call leaves, told anew: it speaks truly. -/
import Derived.Test.YtldjlkbjbkielaaGreatDoorMrg0
set_option linter.unusedSimpArgs false
set_option linter.unusedVariables false
set_option linter.unusedSectionVars false
namespace Go.Abs
open Go

def memN (b : Nat) : List Nat → Bool
  | [] => false
  | a :: l => cond (Nat.beq b a) true (memN b l)

theorem memN_iff {b : Nat} : ∀ {l : List Nat}, memN b l = true ↔ b ∈ l
  | [] => by simp [memN]
  | a :: l => by
    simp only [memN]
    cases e : Nat.beq b a with
    | true => simp [Nat.eq_of_beq_eq_true e]
    | false =>
      have : b ≠ a := fun h => by rw [h, Nat.beq_refl] at e; cases e
      simp [memN_iff (l := l), this]

def blk0 : V → List Nat
  | .pointer (some ⟨b, _, _⟩) => [b]
  | .slice (some ⟨b, _, _⟩) _ _ => [b]
  | .map (some b) => [b]
  | _ => []

def blkL : List V → List Nat
  | [] => []
  | v :: l => blk0 v ++ blkL l

def blk1 : V → List Nat
  | .agg c => blkL c.toList
  | .func _ f c => blkL f.toList ++ blkL c.toList
  | .iface _ v => blk0 v
  | v => blk0 v

def blkM : List V → List Nat
  | [] => []
  | v :: l => blk1 v ++ blkM l

def blk2 : V → List Nat
  | .tuple c => blkM c.toList
  | v => blk1 v

def blkE : List MapEntry → List Nat
  | [] => []
  | e :: l => blk1 e.key ++ (blk1 e.val ++ blkE l)

def blkO : AObj → List Nat
  | .cells c _ _ => blkM c
  | .map es _ => blkE es
  | .siter _ _ => []
  | .miter (some m) _ _ _ => [m]
  | .miter none _ _ _ => []

/-- What is new and can be come to. -/
def reachN (h : AHeap) (base : Nat) : Nat → List Nat → List Nat → Option (List Nat)
  | _, [], acc => some acc
  | 0, _ :: _, _ => none
  | k + 1, b :: l, acc =>
    cond (Nat.blt b base) (reachN h base k l acc) (cond (memN b acc) (reachN h base k l acc)
      (match h.get b with
      | some o => reachN h base k (blkO o ++ l) (b :: acc)
      | none => reachN h base k l (b :: acc)))

theorem reachN_ok {h : AHeap} {base : Nat} : ∀ {k : Nat} {l acc L : List Nat}, reachN h base k l acc = some L → acc.Nodup → (∀ b ∈ acc, base ≤ b) → L.Nodup ∧ ∀ b ∈ L, base ≤ b
  | k, [], acc, L, h, hn, hb => by
    have : acc = L := by cases k <;> simpa [reachN] using h
    subst this
    exact ⟨hn, hb⟩
  | 0, _ :: _, _, _, h, _, _ => by simp [reachN] at h
  | k + 1, b :: l, acc, L, h, hn, hb => by
    simp only [reachN] at h
    cases e1 : Nat.blt b base with
    | true => rw [e1] at h; exact reachN_ok h hn hb
    | false =>
      rw [e1] at h
      simp only [cond_false] at h
      cases e2 : memN b acc with
      | true => rw [e2] at h; exact reachN_ok h hn hb
      | false =>
        rw [e2] at h
        simp only [cond_false] at h
        have hnb : b ∉ acc := fun hm => by rw [memN_iff.2 hm] at e2; cases e2
        have hle : base ≤ b := by
          have : ¬ Nat.blt b base = true := by rw [e1]; simp
          unfold Nat.blt at this
          rw [Nat.ble_eq] at this
          omega
        have hn' : (b :: acc).Nodup := List.nodup_cons.2 ⟨hnb, hn⟩
        have hb' : ∀ x ∈ b :: acc, base ≤ x := fun x hx => by
          rcases List.mem_cons.1 hx with rfl | hx
          · exact hle
          · exact hb x hx
        split at h
        · exact reachN_ok h hn' hb'
        · exact reachN_ok h hn' hb'

def idxN : List Nat → Nat → Nat → Option Nat
  | [], _, _ => none
  | a :: l, b, i => cond (Nat.beq a b) (some i) (idxN l b (i + 1))

theorem idxN_ok {b : Nat} : ∀ {l : List Nat} {i j : Nat}, idxN l b i = some j → i ≤ j ∧ l[j - i]? = some b
  | [], _, _, h => by simp [idxN] at h
  | a :: l, i, j, h => by
    simp only [idxN] at h
    cases e : Nat.beq a b with
    | true =>
      rw [e] at h
      simp only [cond_true, Option.some.injEq] at h
      subst h
      simp [Nat.eq_of_beq_eq_true e]
    | false =>
      rw [e] at h
      obtain ⟨h1, h2⟩ := idxN_ok (l := l) (i := i + 1) (by simpa using h)
      refine ⟨by omega, ?_⟩
      rw [show j - i = (j - (i + 1)) + 1 by omega, List.getElem?_cons_succ, h2]

def nameN (base : Nat) (L : List Nat) (b : Nat) : Option Nat := cond (Nat.blt b base) (some b) (idxN L b base)

/-- Which block stands under a name. -/
def srcN (base : Nat) (L : List Nat) (x : Nat) : Option Nat := if x < base then some x else L[x - base]?

theorem blt_iff {a b : Nat} : Nat.blt a b = true ↔ a < b := by
  unfold Nat.blt
  rw [Nat.ble_eq]
  exact Iff.rfl

theorem nameN_src {base : Nat} {L : List Nat} {b x : Nat} (h : nameN base L b = some x) : srcN base L x = some b := by
  unfold nameN at h
  cases e : Nat.blt b base with
  | true =>
    rw [e] at h
    simp only [cond_true, Option.some.injEq] at h
    subst h
    have := blt_iff.1 e
    simp [srcN, this]
  | false =>
    rw [e] at h
    obtain ⟨h1, h2⟩ := idxN_ok (by simpa using h)
    simp [srcN, show ¬ x < base by omega, h2]

def layD (m : Nat → Option Nat) (h : AHeap) : List (Nat × Nat) → Option Lay2
  | [] => some []
  | (b, x) :: l =>
    match h.get b, layD m h l with
    | none, some D => some ((x, none) :: D)
    | some o, some D => (match renO m o with
      | some o' => some ((x, some o') :: D)
      | none => none)
    | _, none => none

theorem layD_mem {m : Nat → Option Nat} {h : AHeap} : ∀ {ps : List (Nat × Nat)} {D : Lay2}, layD m h ps = some D →
    D.map (·.1) = ps.map (·.2) ∧ ∀ x o, (x, some o) ∈ D → ∃ b o0, (b, x) ∈ ps ∧ h.get b = some o0 ∧ renO m o0 = some o
  | [], D, hD => by
    simp only [layD, Option.some.injEq] at hD
    subst hD
    exact ⟨rfl, fun x o hx => by simp at hx⟩
  | (b, x) :: l, D, hD => by
    simp only [layD] at hD
    split at hD
    · rename_i D' hb hl
      cases hD
      obtain ⟨h1, h2⟩ := layD_mem hl
      refine ⟨by simp [h1], fun y o hy => ?_⟩
      rcases List.mem_cons.1 hy with hy | hy
      · cases hy
      · obtain ⟨b', o0, a1, a2, a3⟩ := h2 y o hy
        exact ⟨b', o0, by simp [a1], a2, a3⟩
    · rename_i o D' hb hl
      split at hD
      · rename_i o' ho
        cases hD
        obtain ⟨h1, h2⟩ := layD_mem hl
        refine ⟨by simp [h1], fun y o1 hy => ?_⟩
        rcases List.mem_cons.1 hy with hy | hy
        · cases hy
          exact ⟨b, o, by simp, hb, ho⟩
        · obtain ⟨b', o0, a1, a2, a3⟩ := h2 y o1 hy
          exact ⟨b', o0, by simp [a1], a2, a3⟩
      · cases hD
    · cases hD

def zipN : List Nat → Nat → List (Nat × Nat)
  | [], _ => []
  | a :: l, i => (a, i) :: zipN l (i + 1)

theorem zipN_mem {b x : Nat} : ∀ {l : List Nat} {i : Nat}, (b, x) ∈ zipN l i ↔ i ≤ x ∧ l[x - i]? = some b
  | [], i => by simp [zipN]
  | a :: l, i => by
    simp only [zipN, List.mem_cons, zipN_mem (l := l), Prod.mk.injEq]
    constructor
    · rintro (⟨rfl, rfl⟩ | ⟨h1, h2⟩)
      · simp
      · refine ⟨by omega, ?_⟩
        rw [show x - i = (x - (i + 1)) + 1 by omega, List.getElem?_cons_succ, h2]
    · rintro ⟨h1, h2⟩
      by_cases hx : x = i
      · subst hx
        simp at h2
        exact .inl ⟨h2.symm, rfl⟩
      · right
        refine ⟨by omega, ?_⟩
        rw [show x - i = (x - (i + 1)) + 1 by omega, List.getElem?_cons_succ] at h2
        exact h2

/-- A call's end: its value, what it leaves over the heap that it found, how many blocks are new. -/
abbrev Nd := V × Lay2 × Nat

def rootsD (h : AHeap) : List Nat → List Nat
  | [] => []
  | b :: l => (match h.get b with | some o => blkO o | none => []) ++ rootsD h l

def normN (base : Nat) (d : List Nat) (v : V) (h : AHeap) : Option Nd :=
  match reachN h base 100000 (blk2 v ++ rootsD h d) [] with
  | none => none
  | some L =>
    match ren2 (nameN base L) v, layD (nameN base L) h (d.map (fun b => (b, b)) ++ zipN L base) with
    | some v2, some D => some (v2, D, L.length)
    | _, _ => none

variable {J : World → Prop} {B : Nat}

theorem normN_sound {r0 r : Ren} {h0 h : AHeap} {w0 w : World} (hR0 : R J B r0 h0 w0) (hR : R J B r h w) (hE : Ext r0 h0 w0 r h w) {d : List Nat} (hdb : ∀ b ∈ d, b < h0.next)
    (hd : ∀ b, b < h0.next → b ∉ d → h.get b = h0.get b) {v v' : V} (hv : VR r v v') {v2 : V} {D : Lay2} {n : Nat} (hn : normN h0.next d v h = some (v2, D, n)) :
    ∃ r2, R J B r2 (toH h0 D n) w ∧ Ext r0 h0 w0 r2 (toH h0 D n) w ∧ VR r2 v2 v' := by
  unfold normN at hn
  split at hn
  · cases hn
  rename_i L hL
  split at hn
  case h_2 => cases hn
  rename_i v2' D' hv2 hD
  simp only [Option.some.injEq, Prod.mk.injEq] at hn
  obtain ⟨rfl, rfl, rfl⟩ := hn
  obtain ⟨hnd, hge⟩ := reachN_ok hL (by simp) (by simp)
  obtain ⟨hk, hmem⟩ := layD_mem hD
  let base := h0.next
  -- the new names' places
  let r2 : Ren := fun x => (srcN base L x).bind r
  have hm : ∀ b b' t, nameN base L b = some b' → r b = some t → r2 b' = some t := fun b b' t h1 h2 => by
    show (srcN base L b').bind r = some t
    rw [nameN_src h1]
    exact h2
  have hr0 : ∀ b t, r0 b = some t → b < base := fun b t h => (hR0.lt b t h).2
  have hr2 : ∀ b, b < base → r2 b = r b := fun b hb => by show (srcN base L b).bind r = r b; simp [srcN, hb]
  -- what is under a name
  have key : ∀ x o, (toH h0 D' L.length).get x = some o → ∃ b o0, srcN base L x = some b ∧ h.get b = some o0 ∧ (∀ t, r b = some t → OR B r w t o0 → OR B r2 w t o) ∧ (o0.isRo ↔ o.isRo) := by
    intro x o hx
    rcases layG_cases hx with h1 | ⟨h1, h2⟩
    · obtain ⟨b, o0, a1, a2, a3⟩ := hmem x o h1
      refine ⟨b, o0, ?_, a2, fun t ht hO => renO_sound hm a3 hO, renO_ro a3⟩
      rcases List.mem_append.1 a1 with a1 | a1
      · obtain ⟨b', hb', e⟩ := List.mem_map.1 a1
        simp only [Prod.mk.injEq] at e
        obtain ⟨rfl, rfl⟩ := e
        have := hdb _ hb'
        show (if b' < base then some b' else _) = _
        rw [if_pos this]
      · obtain ⟨c1, c2⟩ := zipN_mem.1 a1
        show (if x < base then some x else L[x - base]?) = some b
        rw [if_neg (show ¬ x < base from Nat.not_lt.2 c1), c2]
    · obtain ⟨t0, ht0, hO0⟩ := hR0.live x o h2
      have hxb := hr0 x t0 ht0
      have hxd : x ∉ d := fun hm' => by
        have : x ∈ D'.map (·.1) := by
          rw [hk]
          exact List.mem_map.2 ⟨(x, x), List.mem_append.2 (.inl (List.mem_map.2 ⟨x, hm', rfl⟩)), rfl⟩
        obtain ⟨p, hp, e⟩ := List.mem_map.1 this
        exact h1 p hp e
      refine ⟨x, o, ?_, (hd x hxb hxd).trans h2, fun t ht hO => ?_, Iff.rfl⟩
      · show (if x < base then some x else _) = _
        rw [if_pos hxb]
      · exact OR.under (fun b t0 h3 t' h4 => by rw [hr2 b (hr0 b t0 h3)]; exact h4) hO0 hO
  have hinj : ∀ x x' b, srcN base L x = some b → srcN base L x' = some b → x = x' := by
    intro x x' b h1 h2
    unfold srcN at h1 h2
    have big : ∀ {i : Nat}, L[i]? = some b → base ≤ b := fun h => hge b (List.mem_of_getElem? h)
    split at h1 <;> split at h2
    · simp only [Option.some.injEq] at h1 h2; omega
    · have := big h2; simp only [Option.some.injEq] at h1; omega
    · have := big h1; simp only [Option.some.injEq] at h2; omega
    · have e1 := List.getElem?_eq_some_iff.1 h1
      have e2 := List.getElem?_eq_some_iff.1 h2
      have := (List.getElem_inj hnd).1 (e1.2.trans e2.2.symm)
      omega
  refine ⟨r2, ⟨hR.base, fun x t hx => ?_, fun x o hx => ?_, fun x x' o o' t t' hx hx' ht ht' e => ?_, hR.inv⟩, ⟨fun b t hb => ?_, Nat.le_add_right _ _, hE.os, hE.tape, hE.output, hE.size, hE.block, fun k hk2 hf => ?_⟩, ren2_sound hm hv2 hv⟩
  · obtain ⟨b, hb, hrb⟩ := Option.bind_eq_some_iff.1 (show (srcN base L x).bind r = some t from hx)
    refine ⟨(hR.lt b t hrb).1, ?_⟩
    show x < base + L.length
    unfold srcN at hb
    split at hb
    · omega
    · have := (List.getElem?_eq_some_iff.1 hb).1; omega
  · obtain ⟨b, o0, a1, a2, a3, _⟩ := key x o hx
    obtain ⟨t, ht, hO⟩ := hR.live b o0 a2
    exact ⟨t, by show (srcN base L x).bind r = some t; rw [a1]; exact ht, a3 t ht hO⟩
  · obtain ⟨b, o0, a1, a2, _, a4⟩ := key x o hx
    obtain ⟨b', o0', a1', a2', _, a4'⟩ := key x' o' hx'
    have ht : r b = some t := by have : (srcN base L x).bind r = some t := ht; rwa [a1] at this
    have ht' : r b' = some t' := by have : (srcN base L x').bind r = some t' := ht'; rwa [a1'] at this
    rcases hR.inj b b' o0 o0' t t' a2 a2' ht ht' e with rfl | ⟨c1, c2⟩
    · exact .inl (hinj x x' b a1 a1')
    · exact .inr ⟨a4.1 c1, a4'.1 c2⟩
  · rw [hr2 b (hr0 b t hb)]
    exact hE.ren b t hb
  · obtain ⟨x, t, ⟨o, ho, hw⟩, hx, rfl⟩ := hf
    obtain ⟨b, o0, a1, a2, _, a4⟩ := key x o ho
    have hb : r b = some t := by have : (srcN base L x).bind r = some t := hx; rwa [a1] at this
    refine hE.feet _ hk2 ⟨b, t, ⟨o0, a2, fun c e he => ?_⟩, hb, rfl⟩
    obtain ⟨c', e', he'⟩ := a4.1 ⟨c, e, he⟩
    exact hw c' e' he'

end Go.Abs

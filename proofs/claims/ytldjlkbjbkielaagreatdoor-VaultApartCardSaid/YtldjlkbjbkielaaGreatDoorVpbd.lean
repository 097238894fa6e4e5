/- Locks: Free, New; the two ways to tell what an operation locks. -/
import Derived.Test.YtldjlkbjbkielaaGreatDoorVpbc
import Derived.Test.YtldjlkbjbkielaaGreatDoorVpbb
set_option linter.unusedSimpArgs false
set_option linter.unusedVariables false
namespace Go.Abs
open Go
theorem aMr {κ α : Type} [DecidableEq κ] (k : κ) : ∀ {l : List (κ × α)}, (aX l).Nodup → rmv k l = l.filter fun e => decide (e.1 ≠ k)
 | [], _ => rfl
 | (a, u) :: l, hn => by
  have hn' : a ∉ aX l ∧ (aX l).Nodup := List.nodup_cons.1 hn
  by_cases hk : a = k
  · rw [rmv, if_pos hk, List.filter_cons_of_neg (by simp [hk])]
    refine (List.filter_eq_self.2 fun e he => ?_).symm
    have : e.1 ≠ k := fun e1 => hn'.1 (by rw [hk, ← e1]; exact List.mem_map.2 ⟨e, he, rfl⟩)
    simpa using this
  · rw [rmv, if_neg hk, List.filter_cons_of_pos (by simpa using hk), aMr k hn'.2]
theorem aMs {κ α : Type} [DecidableEq κ] : ∀ (ks : List κ) {l : List (κ × α)}, (aX l).Nodup → ks.foldl (fun m k => rmv k m) l = l.filter fun e => decide (e.1 ∉ ks)
 | [], l, _ => (List.filter_eq_self.2 fun _ _ => by simp).symm
 | k :: ks, l, hn => by
  rw [List.foldl_cons, aMs ks (tQ hn), aMr k hn, List.filter_filter]
  refine List.filter_congr fun e _ => ?_
  by_cases h1 : e.1 = k <;> by_cases h2 : e.1 ∈ ks <;> simp [h1, h2]
theorem aR6 {id : IdM} {lk : List (aZ × IdM)} (hn : (aX lk).Nodup) {ks : List aZ} (hk : ∀ k, k ∈ ks ↔ (k, id) ∈ lk) : ks.foldl (fun m k => rmv k m) lk = cX id lk := by
 rw [aMs ks hn]
 refine List.filter_congr fun e he => ?_
 congr 1
 rw [hk]
 refine propext (not_congr ⟨fun h => ?_, fun h => ?_⟩)
 · have h1 := lS hn (show (e.1, e.2) ∈ lk from he)
   have h2 := lS hn h
   rw [h1] at h2
   exact Option.some.inj h2
 · rw [← h]; exact he
theorem aTp (o : Oq) : oV o = cA o := by
 unfold oV cA
 by_cases h1 : 3 ≤ o.fn ∧ o.fn ≤ 5
 · have hk : kindOf o.fn = 1 := by unfold kindOf; rw [if_pos h1]
   rw [if_pos hk, if_pos h1]
 · have hk : kindOf o.fn ≠ 1 := by
    unfold kindOf
    rw [if_neg h1]
    by_cases h2 : 6 ≤ o.fn ∧ o.fn ≤ 9
    · rw [if_pos h2]; decide
    · rw [if_neg h2]
      by_cases h3 : 10 ≤ o.fn ∧ o.fn ≤ 12
      · rw [if_pos h3]; decide
      · rw [if_neg h3]; decide
   rw [if_neg hk, if_neg h1]
variable {E : FE} {F : Fr} {h : aA} {L : List Pl} {p v : V} {lk : List (aZ × IdM)} {ks : List aZ}
theorem Sep.aUh {κ α : Type} [DecidableEq κ] {D : KD κ} {A : κ → V → α → Pl} {m : Nat} {l : List (κ × α)} (s : Sep F h (aK D A m l :: L)) : (aX l).Nodup := by
 obtain ⟨_, _, q, _⟩ := s.fD
 exact q.nd
theorem aKp {E1 : FE} (hM : aH E.I) (hE : E.I (E.k 9) = some (cl (Go.Abs.F.fB E1))) (id : IdM) (s : Sep F h (dJ p lk :: L)) (hl : lk.length ≤ 1000000)
 (hn : (lk.filter fun e => decide (e.2 = id)).length ≤ 12) :
 cl (Go.Abs.F.iN E) [p, id.agg] h fun r h' => (∃ n : Nat, r = i64 n) ∧ Sep F h' (dJ p (cX id lk) :: L) := by
 refine aO ?_
 simp only [Go.Abs.F.iN, pC, bA]
 have s1 := s.box (cId id) 2
 rw [ld2 s1.get, aB]
 refine aL (aKq hM hE id s1.drop hl hn) ?_
 rintro r h1 ⟨ks, hks, hkn, s2⟩
 obtain ⟨f0, q0, _⟩ := s2.head
 have q0 : SlE bF h1 f0 r ks := q0
 rw [q0.len, aB]
 obtain ⟨b, m, rfl, s3⟩ := s2.up1.yL
 have hnd := s3.drop.aUh
 refine ⟨fun n vs h' => ∃ i : Nat, vs = [i64 i] ∧ n = ks.length - i ∧ i ≤ ks.length ∧ Sep F h' (aK eD lkV m ((ks.take i).foldl (fun m k => rmv k m) lk) :: aI b [.map (some m)] 1 :: fE r ks :: L), ks.length, ⟨0, rfl, by omega, by omega, by simpa using s3.up1⟩, ?_⟩
 rintro n e h2 ⟨i, he, rfl, hi, s4⟩
 simp only [List.cons.injEq, and_true] at he
 simp only [he, cW, aB, aF, decide_eq_true_eq]
 obtain ⟨f1, q1, _⟩ := s4.up2.head
 have q1 : SlE bF h2 f1 r ks := q1
 have hsz : ks.length ≤ 1000000 := by omega
 rcases Nat.lt_or_ge i ks.length with hx | hx
 case inr =>
  rw [if_neg (show ¬ ((i : Nat) : Int) < (ks.length : Nat) by omega)]
  have hil : i = ks.length := by omega
  subst hil
  rw [List.take_length, aR6 hnd hks] at s4
  rw [q1.len, aB]
  exact ⟨⟨_, rfl⟩, Sep.uS (s4.up2.drop.up1)⟩
 rw [if_pos (show ((i : Nat) : Int) < (ks.length : Nat) by omega)]
 have hg : ks[i]? = some ks[i] := List.getElem?_eq_getElem hx
 obtain ⟨c, i1, i2⟩ := q1.ld hg
 have i1 : bG (.slice 3) _ _ = _ := i1
 have i2 : ldD (.agg 3) _ _ = some (ks[i]).agg := i2
 have hnext : (ks.take (i + 1)).foldl (fun m k => rmv k m) lk = rmv ks[i] ((ks.take i).foldl (fun m k => rmv k m) lk) := by
  rw [List.take_add_one, hg, Option.toList_some, List.foldl_append]; rfl
 generalize ks[i] = k at i2 hnext
 simp only [i1, aB, i2, yI, bA]
 have s5 := s4.box (bF.enc ⟨⟨#[]⟩, ⟨#[]⟩, false⟩) 3
 rw [st3 s5.get, bR]
 have s6 := s5.write (cs' := bF.enc k)
 generalize (h2.new (.cells (bF.enc ⟨⟨#[]⟩, ⟨#[]⟩, false⟩) 3 .rw)).put h2.next (.cells (bF.enc k) 3 .rw) = h3 at s6 ⊢
 have r1 : h3.rd b 0 = some (.map (some m)) := by rw [aG s6.drop.drop.get 0]; rfl
 simp only [bK, bH, aB, bC, Nat.zero_add, r1, ld3 s6.get]
 obtain ⟨h4, e4, s7⟩ := Sep.aEh (k := k) (z := .agg #[(.int .i64 0), (.int .i64 0)]) s6.drop
 have e4 : fZ (some ((.struct false [(0, .string), (1, .string), (2, .bool)]), (some (.agg #[(.int .i64 0), (.int .i64 0)])))) (.map (some m)) k.agg h3 = some h4 := e4
 rw [e4, bR, dN _ 1 (by omega) (by omega), aB]
 exact ⟨ks.length - (i + 1), by omega, i + 1, by simp, rfl, by omega, by rw [hnext]; exact s7⟩
theorem jJ (s : Sep F h L) : cl (Go.Abs.F.jJ E) [] h fun r h' => Sep F h' (dJ r [] :: L) := by
 refine aO ?_
 simp only [Go.Abs.F.jJ]
 have e1 : gY true none h = some (.map (some h.next), h.new (.map [] 0)) := rfl
 rw [e1, bA]
 have s1 := s.vT (D := eD) (A := lkV)
 generalize h.new (.map [] 0) = h1 at s1 ⊢
 generalize h.next = m at s1 ⊢
 have e2 : bP (.struct [(.map none)] [(0, 1)]) [(0, .map (some m))] = some (.agg #[.map (some m)]) := rfl
 have e3 : aQ none (.agg #[.map (some m)]) h1 = some (ptr h1.next 0, h1.new (.cells [.map (some m)] 1 .rw)) := rfl
 rw [e2, aB, e3, bA]
 exact Sep.uS (s1.box [.map (some m)] 1)
end Go.Abs
namespace Go.Abs
open Go
variable {E : FE} {F : Fr} {h : aA} {L : List Pl} {p v : V} {ov : List IdM}
def idV (_ : IdM) (v : V) (_ : Unit) : Pl := dE (v = .bool true)
def eA (p : V) (ov : List IdM) : Pl := sL fun (y : Nat × Nat × List (IdM × Unit)) => kY [dE (p = ptr y.1 0 ∧ (aX y.2.2).Perm ov), aI y.1 [.map (some y.2.1)] 1, aK bL idV y.2.1 y.2.2]
theorem Sep.aB6 (s : Sep F h (eA p ov :: L)) : ∃ b m l, p = ptr b 0 ∧ (aX l).Perm ov ∧ Sep F h (aI b [.map (some m)] 1 :: aK bL idV m l :: L) := by
 obtain ⟨⟨b, m, l⟩, s⟩ := s.ex
 have s1 := s.all
 obtain ⟨e, s2⟩ := Sep.pure (L := aI b [.map (some m)] 1 :: aK bL idV m l :: L) s1
 exact ⟨b, m, l, e.1, e.2, s2⟩
theorem Sep.xL {b m : Nat} {l : List (IdM × Unit)} (hp : (aX l).Perm ov) (s : Sep F h (aI b [.map (some m)] 1 :: aK bL idV m l :: L)) : Sep F h (eA (ptr b 0) ov :: L) :=
 Sep.vR (A := fun (y : Nat × Nat × List (IdM × Unit)) => kY [dE (ptr b 0 = ptr y.1 0 ∧ (aX y.2.2).Perm ov), aI y.1 [.map (some y.2.1)] 1, aK bL idV y.2.1 y.2.2]) (b, m, l)
  (Sep.vQ (L' := [dE (ptr b 0 = ptr b 0 ∧ (aX l).Perm ov), aI b [.map (some m)] 1, aK bL idV m l]) (Sep.mkPure ⟨rfl, hp⟩ s))
theorem Sep.aKt {m : Nat} {l : List (IdM × Unit)} (s : Sep F h (aK bL idV m l :: L)) (hp : (aX l).Perm ov) (id : IdM) :
 bT (some ((.struct false [(0, .int), (1, .int)]), (some (.bool false)))) (.map (some m)) id.agg false h = some (.bool (decide (id ∈ ov))) := by
 cases hk : Go.Abs.lkp id l with
 | none =>
  have h1 := s.qT (z := .bool false) hk false
  have h1 : bT (some ((.struct false [(0, .int), (1, .int)]), (some (.bool false)))) (.map (some m)) id.agg false h = some (.bool false) := h1
  rw [h1]
  have : id ∉ ov := fun hm => kR.1 hk (hp.mem_iff.2 hm)
  simp [this]
 | some x =>
  obtain ⟨w, h1, s1⟩ := s.oW (z := .bool false) hk false
  have h1 : bT (some ((.struct false [(0, .int), (1, .int)]), (some (.bool false)))) (.map (some m)) id.agg false h = some w := h1
  obtain ⟨hw, _⟩ := Sep.pure (φ := w = .bool true) s1
  rw [h1, hw]
  have : id ∈ ov := hp.mem_iff.1 (List.mem_map.2 ⟨_, iM hk, rfl⟩)
  simp [this]
theorem aSj (id : IdM) (s : Sep F h (eA p ov :: L)) :
 cl (Go.Abs.F.lX E) [p, id.agg] h fun r h' => r = .bool (decide (id ∈ ov)) ∧ Sep F h' (eA p ov :: L) := by
 refine aO ?_
 obtain ⟨b, m, l, rfl, hp, s0⟩ := s.aB6
 simp only [Go.Abs.F.lX, pC, bA, aF0, aB, aT, if_true, bK, bH, bC, Nat.zero_add]
 have s1 := s0.box (cId id) 2
 generalize h.new (.cells (cId id) 2 .rw) = h1 at s1 ⊢
 generalize h.next = bi at s1 ⊢
 have r1 : h1.rd b 0 = some (.map (some m)) := by rw [aG s1.drop.get 0]; rfl
 rw [r1, aB, ld2 s1.get, aB, (Sep.aKt s1.drop.drop hp id), aB]
 simp only [aY, if_true, aB]
 exact ⟨trivial, Sep.xL hp s1.drop⟩
theorem aSi (id : IdM) (s : Sep F h (eA p ov :: L)) :
 cl (Go.Abs.F.lW E) [p, id.agg] h fun r h' => r = .bool (!decide (id ∈ ov)) ∧ Sep F h' (eA p (if id ∈ ov then ov else id :: ov) :: L) := by
 refine aO ?_
 obtain ⟨b, m, l, rfl, hp, s0⟩ := s.aB6
 simp only [Go.Abs.F.lW, pC, bA, dF, aB, aT, if_true, bK, bH, bC, Nat.zero_add]
 have s1 := s0.box (cId id) 2
 generalize h.new (.cells (cId id) 2 .rw) = h1 at s1 ⊢
 generalize h.next = bi at s1 ⊢
 have r1 : h1.rd b 0 = some (.map (some m)) := by rw [aG s1.drop.get 0]; rfl
 rw [r1, aB, ld2 s1.get, aB, (Sep.aKt s1.drop.drop hp id), aB]
 simp only [aY, Bool.false_eq_true, if_false, aB, aF, decide_eq_true_eq]
 by_cases hm : id ∈ ov
 · rw [if_pos hm, if_pos hm]
   exact ⟨by simp [hm], Sep.xL hp s1.drop⟩
 · rw [if_neg hm, if_neg hm]
   obtain ⟨h4, e4, s4⟩ := Sep.tG (D := bL) (A := idV) (k := id) (v := .bool true) (x := ()) (z := .bool false) (Sep.up1 (Sep.mkPure (φ := (Value.bool true : V) = .bool true) rfl s1.drop.up1))
   have e4 : cQ (some ((.struct false [(0, .int), (1, .int)]), (some (.bool false)))) (.map (some m)) id.agg (.bool true) h1 = some h4 := e4
   rw [e4, bR]
   refine ⟨by simp [hm], Sep.xL ?_ s4.up1⟩
   have hk : Go.Abs.lkp id l = none := kR.2 fun hh => hm (hp.mem_iff.1 hh)
   rw [aA0, if_pos hk]
   exact (List.perm_append_comm.trans (List.Perm.refl _)).trans (hp.cons id)
theorem aSk (s : Sep F h L) : cl (Go.Abs.F.lY E) [.slice none 0 0] h fun r h' => Sep F h' (eA r [] :: L) := by
 refine aO ?_
 simp only [Go.Abs.F.lY]
 have e1 : gY true none h = some (.map (some h.next), h.new (.map [] 0)) := rfl
 rw [e1, bA]
 have s1 := s.vT (D := bL) (A := idV)
 generalize h.new (.map [] 0) = h1 at s1 ⊢
 generalize h.next = m at s1 ⊢
 have e2 : bP (.struct [(.map none)] [(0, 1)]) [(0, .map (some m))] = some (.agg #[.map (some m)]) := rfl
 have e3 : aQ none (.agg #[.map (some m)]) h1 = some (ptr h1.next 0, h1.new (.cells [.map (some m)] 1 .rw)) := rfl
 rw [e2, aB, e3, bA]
 have s2 := s1.box [.map (some m)] 1
 have e5 : ∀ h : aA, bI .slice (.slice none 0 0) h = some (i64 ((0 : Nat) : Int)) := fun _ => rfl
 rw [e5, aB]
 refine ⟨fun n vs h' => vs = [i64 0] ∧ Sep F h' (aI h1.next [.map (some m)] 1 :: aK bL idV m [] :: L), 0, ⟨rfl, s2⟩, ?_⟩
 rintro n e h2 ⟨he, s3⟩
 simp only [List.cons.injEq, and_true] at he
 simp only [he, cW, aB, aF, decide_eq_true_eq]
 rw [if_neg (by simp)]
 exact Sep.xL (by simp [aX]) s3
end Go.Abs
namespace Go.Abs
open Go
variable {E : FE} {h : aA} {fp : List Nat} {v : V}
abbrev zOp : List V := [(.int .i64 0), (.string ⟨#[]⟩), (.string ⟨#[]⟩), (.string ⟨#[]⟩), (.int .i64 0)]
theorem aQf {l : List Oq} (s : SlE dOp h fp v l) (hsmall : l.length ≤ 1099511627776) :
 cl (F.mP E) [v] h fun r h' => ∃ fp', SlE dOp h' fp' r l ∧ Mod h [] h' fp' := by
 refine aO ?_
 obtain ⟨b, hb, hnil⟩ := Sl.isNil s true
 simp only [F.mP, hb, aB, aF]
 cases b with
 | true =>
  obtain ⟨h0, rfl⟩ := hnil rfl
  have : l = [] := List.eq_nil_of_length_eq_zero h0
  subst this
  simp only [if_true]
  exact ⟨[], SlE.nil (D := dOp), Mod.refl (by simp)⟩
 | false =>
  simp only [Bool.false_eq_true, if_false, cR]
  simp only [Nat.zero_mul, Nat.zero_le, List.length_cons, List.length_nil, and_self, and_true, true_and, if_true, eH, Option.map_some, bA, eG, Nat.mul_zero, List.range_zero, List.map_nil, show (0:Nat) < 5 from by decide]
  have s1 : Sl (h.new (.cells [] 5 .rw)) [h.next] (.slice (some ⟨h.next, 0, none⟩) 0 0) 5 0 [] := ⟨by simp, .inr ⟨h.next, 0, [], rfl, rfl, by simp, by simp, by simp, by simp, by simp⟩⟩
  have s2 : Sl (h.new (.cells [] 5 .rw)) fp v 5 l.length (dOp.flat l) := s.bW (Mod.fC (fp := []) (by simp))
  obtain ⟨v', h', fp', e1, e2, e3⟩ := Sl.append s1 (bytes := 64) (z := zOp) rfl (by decide) (by decide) (Sl.src s2).1 (fun _ => (Sl.src s2).2) (by rw [dOp.qQ]; rfl) (dOp.aR1 l) (by omega)
  simp only [zOp] at e1
  rw [e1]
  simp only [bA]
  refine ⟨fp', by rw [Nat.zero_add, List.nil_append] at e2; exact e2, by have := e3.next; simp at this; omega, fun x hx _ => ?_, fun x hx => ?_, e3.lt⟩
  · have hne : x ≠ h.next := by omega
    rw [e3.same x (by simp; omega) (by simpa using hne)]
    simp [hne]
  · rcases e3.new x hx with h1 | h1
    · simp at h1; right; omega
    · simp at h1; right; omega
end Go.Abs
namespace Go.Abs
open Go
variable {E : FE} {F : Fr} {h : aA} {L : List Pl} {p v : V}
def dP (k : Nat) (v : V) (s : SpM) : Pl := sL fun (S : bO) => kY [dE (SI k S ∧ KI S ∧ nR S s), pD v S]
def spV (k : Nat) (_ : ByteArray) (v : V) (s : SpM) : Pl := dP k v s
def vwV (k : Nat) (n : ByteArray) (v : V) (x : Option SpM) : Pl := match x with | none => dE (v = nil) | some s => dP k v s
theorem Sep.rA {k : Nat} {s : SpM} (z : Sep F h (dP k v s :: L)) : ∃ S, SI k S ∧ KI S ∧ nR S s ∧ Sep F h (pD v S :: L) := by
 obtain ⟨S, z⟩ := z.ex
 have z1 := z.all
 obtain ⟨e, z2⟩ := Sep.pure (L := pD v S :: L) z1
 exact ⟨S, e.1, e.2.1, e.2.2, z2⟩
theorem Sep.sY {k : Nat} {s : SpM} {S : bO} (h1 : SI k S) (h2 : KI S) (h3 : nR S s) (z : Sep F h (pD v S :: L)) : Sep F h (dP k v s :: L) :=
 Sep.vR (A := fun (S : bO) => kY [dE (SI k S ∧ KI S ∧ nR S s), pD v S]) S (Sep.vQ (L' := [dE (SI k S ∧ KI S ∧ nR S s), pD v S]) (Sep.mkPure ⟨h1, h2, h3⟩ z))
theorem aH9 {k : Nat} {s : SpM} (z : Sep F h (dP k v s :: L)) : cl (Go.Abs.F.eE E) [v] h fun r h' => Sep F h' (dP k r s :: dP k v s :: L) := by
 obtain ⟨S, h1, h2, h3, z1⟩ := z.rA
 obtain ⟨f, q, _⟩ := z1.head
 have q : SpS h f v S := q
 refine aL (aQe q h1) ?_
 rintro r h' ⟨f', q', m'⟩
 have z2 := z1.alloc (pD r S) m' q'
 exact Sep.sY h1 h2 h3 (Sep.sY h1 h2 h3 z2.up1).up1
theorem aIb : cl (Go.Abs.F.eE E) [nil] h fun r h' => r = nil ∧ h' = h := by
 refine aO ?_
 simp only [Go.Abs.F.eE, tP, aB, aF, if_true]
 exact ⟨trivial, trivial⟩
end Go.Abs
namespace Go.Abs
open Go
variable {E : FE} {F : Fr} {h : aA} {L : List Pl} {p v : V}
def aP : KD ByteArray where
 kk := .string
 enc := str
 ok := fun k => by simp [nT]
 eq := fun a b => by
  show some (a == b) = _
  by_cases h : a = b
  · simp [h]
  · simp [h]
 closed := fun a => by simp [bS, jE]
 bits := fun a => by simp [Instr.sameBits]
theorem Sep.aWv {κ α : Type} [DecidableEq κ] {D : KD κ} {A : κ → V → α → Pl} {m : Nat} {l : List (κ × α)} {k : κ} {w : V} (s : Sep F h (aK D A m l :: L)) (hk : Go.Abs.lkp k l = none) :
 Sep F h (aK D (dT k w A) m l :: L) := by
 obtain ⟨t, clk, q, s1⟩ := s.fD
 have ht : ∀ e ∈ t, e.k ≠ k := fun e he hc => by
  have h1 : k ∉ aX l := kR.1 hk
  exact h1 ((keys_perm q.perm).mem_iff.1 (by rw [oM]; exact List.mem_map.2 ⟨e, he, hc⟩))
 rw [← vC (v := w) ht] at s1
 exact Sep.fK q s1
theorem Sep.aE7 {κ α : Type} [DecidableEq κ] {D : KD κ} {A : κ → V → α → Pl} {m : Nat} {l : List (κ × α)} {k : κ} {w z : V} (x : α) (s : Sep F h (aK D A m l :: L)) (hk : Go.Abs.lkp k l = none) :
 ∃ h', cQ (some (D.kk, some z)) (.map (some m)) (D.enc k) w h = some h' ∧ Sep F h' (aK D (dT k w A) m (ins k x l) :: L) := by
 have s1 := s.aWv (w := w) hk
 refine Sep.tG (z := z) (Sep.up1 ?_)
 have e : dT k w A k w x = dE (w = w) := by simp [dT]
 rw [e]
 exact Sep.mkPure rfl s1
theorem tH {κ α : Type} [DecidableEq κ] {k : κ} {x : α} : ∀ {l : List (κ × α)}, Go.Abs.lkp k l = some x → ins k x l = l
 | [], h => by simp [Go.Abs.lkp] at h
 | (a, u) :: l, h => by
  simp only [Go.Abs.lkp] at h
  by_cases hk : a = k
  · rw [if_pos hk] at h
    cases h
    rw [ins, if_pos hk, hk]
  · rw [if_neg hk] at h
    rw [ins, if_neg hk, tH h]
theorem aXh {k pv pp ms mv : Nat} {a b c d e f : V} {sp : List (ByteArray × SpM)} {view : List (ByteArray × Option SpM)} (name : ByteArray)
 (s : Sep F h (aI pv [.map (some ms), a, b, c] 4 :: aI pp [d, e, f, .map (some mv)] 4 :: aK aP (spV k) ms sp :: aK aP (vwV k) mv view :: L)) :
 cl (Go.Abs.F.nQ E) [ptr pv 0, ptr pp 0, str name] h fun r h' =>
  Sep F h' (aK aP (dT name r (vwV k)) mv (cN sp name view).2 :: vwV k name r (cN sp name view).1 :: aI pv [.map (some ms), a, b, c] 4 :: aI pp [d, e, f, .map (some mv)] 4 :: aK aP (spV k) ms sp :: L) := by
 refine aO ?_
 have gp := s.up1.get
 have r1 : h.rd pp 3 = some (.map (some mv)) := by rw [aG gp 3]; rfl
 simp only [Go.Abs.F.nQ, bK, aB, bH, bC, Nat.zero_add, r1]
 cases hk : Go.Abs.lkp name view with
 | some x =>
  obtain ⟨w, h1, s1⟩ := s.up3.oW (z := nil) hk true
  have h1 : bT (some (.string, (some (.pointer none)))) (.map (some mv)) (str name) true h = some (.tuple #[w, .bool true]) := h1
  rw [h1, aB]
  simp only [bQ, List.getElem?_toArray, List.getElem?_cons_zero, List.getElem?_cons_succ, aB, aF, if_true]
  simp only [cN, hk]
  exact s1.up1
 | none =>
  have h1 := s.up3.qT (z := nil) hk true
  have h1 : bT (some (.string, (some (.pointer none)))) (.map (some mv)) (str name) true h = some (.tuple #[nil, .bool false]) := h1
  rw [h1, aB]
  simp only [bQ, List.getElem?_toArray, List.getElem?_cons_zero, List.getElem?_cons_succ, aB, aF, Bool.false_eq_true, if_false]
  have r2 : h.rd pv 0 = some (.map (some ms)) := by rw [aG s.get 0]; rfl
  rw [r2, aB]
  simp only [cN, hk]
  cases hs : Go.Abs.lkp name sp with
  | none =>
   have h2 := s.up2.qT (z := nil) hs false
   have h2 : bT (some (.string, (some (.pointer none)))) (.map (some ms)) (str name) false h = some nil := h2
   rw [h2, aB]
   refine aL aIb ?_
   rintro r h3 ⟨rfl, rfl⟩
   rw [r1, aB]
   obtain ⟨h4, e4, s4⟩ := Sep.aE7 (w := nil) (z := nil) (none : Option SpM) s.up3 hk
   have e4 : cQ (some (.string, (some (.pointer none)))) (.map (some mv)) (str name) nil h3 = some h4 := e4
   rw [e4, bR]
   exact (Sep.mkPure (φ := (nil : V) = nil) rfl s4).up1
  | some x =>
   obtain ⟨w, h2, s2⟩ := s.up2.oW (z := nil) hs false
   have h2 : bT (some (.string, (some (.pointer none)))) (.map (some ms)) (str name) false h = some w := h2
   rw [h2, aB]
   refine aL (aH9 s2) ?_
   intro r h3 s3
   have s4 := Sep.sU (A := spV k) (k := name) (v := w) (x := x) (x' := x) (D := aP) s3.dn2 hs
   rw [tH hs] at s4
   have r3 : h3.rd pp 3 = some (.map (some mv)) := by rw [aG s4.drop.drop.drop.get 3]; rfl
   rw [r3, aB]
   obtain ⟨h4, e4, s5⟩ := Sep.aE7 (w := r) (z := nil) (some x : Option SpM) s4.up4 hk
   have e4 : cQ (some (.string, (some (.pointer none)))) (.map (some mv)) (str name) r h3 = some h4 := e4
   rw [e4, bR]
   exact s5.perm (List.Perm.cons _ (((List.Perm.swap _ _ _).trans ((List.Perm.swap _ _ _).cons _)).trans (((List.Perm.swap _ _ _).cons _).cons _)))
end Go.Abs
namespace Go.Abs
open Go
variable {E : FE} {F : Fr} {h : aA} {L : List Pl} {p v : V}
def cS (v : V) (l : List Oq) : Pl := ⟨fun h f => SlE dOp h f v l, fun _ _ q => q.lt, fun _ _ _ q hl hs => SlE.same q hl hs⟩
def iU (v : V) (l : List ByteArray) : Pl := ⟨fun h f => Sl h f v 1 l.length (l.map str), fun _ _ q => q.lt, fun _ _ _ q hl hs => Sl.same q hl hs⟩
def yN (k : Nat) (p : V) (x : bZ) : Pl := sL fun (y : Nat × V × V × Nat) =>
 kY [dE (p = ptr y.1 0), aI y.1 [y.2.1, y.2.2.1, i64 x.now, .map (some y.2.2.2)] 4, cS y.2.1 x.ops, iU y.2.2.1 x.bN, aK aP (vwV k) y.2.2.2 x.view]
def ptV (k : Nat) (_ : IdM) (v : V) (x : bZ) : Pl := yN k v x
theorem Sep.aB7 {k : Nat} {x : bZ} (s : Sep F h (yN k p x :: L)) : ∃ b a c m, p = ptr b 0 ∧ Sep F h (aI b [a, c, i64 x.now, .map (some m)] 4 :: cS a x.ops :: iU c x.bN :: aK aP (vwV k) m x.view :: L) := by
 obtain ⟨⟨b, a, c, m⟩, s⟩ := s.ex
 have s1 := s.all
 obtain ⟨e, s2⟩ := Sep.pure (L := aI b [a, c, i64 x.now, .map (some m)] 4 :: cS a x.ops :: iU c x.bN :: aK aP (vwV k) m x.view :: L) s1
 exact ⟨b, a, c, m, e, s2⟩
theorem Sep.zS {k b m : Nat} {a c : V} {x : bZ} (s : Sep F h (aI b [a, c, i64 x.now, .map (some m)] 4 :: cS a x.ops :: iU c x.bN :: aK aP (vwV k) m x.view :: L)) : Sep F h (yN k (ptr b 0) x :: L) :=
 Sep.vR (A := fun (y : Nat × V × V × Nat) => kY [dE (ptr b 0 = ptr y.1 0), aI y.1 [y.2.1, y.2.2.1, i64 x.now, .map (some y.2.2.2)] 4, cS y.2.1 x.ops, iU y.2.2.1 x.bN, aK aP (vwV k) y.2.2.2 x.view]) (b, a, c, m)
  (Sep.vQ (L' := [dE (ptr b 0 = ptr b 0), aI b [a, c, i64 x.now, .map (some m)] 4, cS a x.ops, iU c x.bN, aK aP (vwV k) m x.view]) (Sep.mkPure rfl s))
def cT (k : Nat) (p : V) (st : dL) : Pl := sL fun (y : Nat × Nat × V × Nat × V) =>
 kY [dE (p = ptr y.1 0), aI y.1 [.map (some y.2.1), y.2.2.1, .map (some y.2.2.2.1), y.2.2.2.2] 4, aK aP (spV k) y.2.1 st.sp, dJ y.2.2.1 st.lk, aK bL (ptV k) y.2.2.2.1 st.pt, eA y.2.2.2.2 st.ov]
theorem Sep.sK {k : Nat} {st : dL} (s : Sep F h (cT k p st :: L)) : ∃ b ms a mp c, p = ptr b 0 ∧
 Sep F h (aI b [.map (some ms), a, .map (some mp), c] 4 :: aK aP (spV k) ms st.sp :: dJ a st.lk :: aK bL (ptV k) mp st.pt :: eA c st.ov :: L) := by
 obtain ⟨⟨b, ms, a, mp, c⟩, s⟩ := s.ex
 have s1 := s.all
 obtain ⟨e, s2⟩ := Sep.pure (L := aI b [.map (some ms), a, .map (some mp), c] 4 :: aK aP (spV k) ms st.sp :: dJ a st.lk :: aK bL (ptV k) mp st.pt :: eA c st.ov :: L) s1
 exact ⟨b, ms, a, mp, c, e, s2⟩
theorem Sep.lK {k b ms mp : Nat} {a c : V} {st : dL}
 (s : Sep F h (aI b [.map (some ms), a, .map (some mp), c] 4 :: aK aP (spV k) ms st.sp :: dJ a st.lk :: aK bL (ptV k) mp st.pt :: eA c st.ov :: L)) : Sep F h (cT k (ptr b 0) st :: L) :=
 Sep.vR (A := fun (y : Nat × Nat × V × Nat × V) => kY [dE (ptr b 0 = ptr y.1 0), aI y.1 [.map (some y.2.1), y.2.2.1, .map (some y.2.2.2.1), y.2.2.2.2] 4, aK aP (spV k) y.2.1 st.sp, dJ y.2.2.1 st.lk, aK bL (ptV k) y.2.2.2.1 st.pt, eA y.2.2.2.2 st.ov]) (b, ms, a, mp, c)
  (Sep.vQ (L' := [dE (ptr b 0 = ptr b 0), aI b [.map (some ms), a, .map (some mp), c] 4, aK aP (spV k) ms st.sp, dJ a st.lk, aK bL (ptV k) mp st.pt, eA c st.ov]) (Sep.mkPure rfl s))
theorem iF (k : Nat) (s : Sep F h L) : cl (Go.Abs.F.iF E) [] h fun r h' => Sep F h' (cT k r ⟨[], [], [], []⟩ :: L) := by
 refine aO ?_
 simp only [Go.Abs.F.iF]
 have e1 : ∀ h : aA, gY true none h = some (.map (some h.next), h.new (.map [] 0)) := fun _ => rfl
 rw [e1, bA]
 have s1 := s.vT (D := aP) (A := spV k)
 generalize h.new (.map [] 0) = h1 at s1 ⊢
 generalize h.next = ms at s1 ⊢
 refine aL (jJ s1) ?_
 intro a h2 s2
 rw [e1, bA]
 have s3 := s2.vT (D := bL) (A := ptV k)
 generalize h2.new (.map [] 0) = h3 at s3 ⊢
 generalize h2.next = mp at s3 ⊢
 refine aL (aSk s3) ?_
 intro c h4 s4
 have e2 : bP (.struct [(.map none), (.pointer none), (.map none), (.pointer none)] [(0, 1), (1, 1), (2, 1), (3, 1)]) [(0, .map (some ms)), (1, a), (2, .map (some mp)), (3, c)] = some (.agg #[.map (some ms), a, .map (some mp), c]) := by
  obtain ⟨bc, mc, lc, rfl, _, _⟩ := s4.aB6
  obtain ⟨ba, ma, rfl, _⟩ := s4.drop.drop.yL
  rfl
 have e3 : aQ none (.agg #[.map (some ms), a, .map (some mp), c]) h4 = some (ptr h4.next 0, h4.new (.cells [.map (some ms), a, .map (some mp), c] 4 .rw)) := rfl
 rw [e2, aB, e3, bA]
 have s5 := s4.box [.map (some ms), a, .map (some mp), c] 4
 exact Sep.lK (st := ⟨[], [], [], []⟩) s5.up1.up2.up3.up4.up4
end Go.Abs
namespace Go.Abs
open Go
variable {E : FE} {F : Fr} {h : aA} {L : List Pl} {p v : V} {k : Nat}
theorem Sep.aFt {n : ByteArray} {w : V} {x : Option SpM} (s : Sep F h (vwV k n w x :: L)) (c : Bool) : aC (.ptr true) .neq c w nil h = some (.bool x.isSome) := by
 cases x with
 | none =>
  obtain ⟨e, _⟩ := Sep.pure (φ := w = nil) s
  subst e
  exact aLm true c
 | some y =>
  obtain ⟨S, _, _, _, s1⟩ := Sep.rA (k := k) (s := y) s
  obtain ⟨f, q, _⟩ := s1.head
  have q : SpS h f w S := q
  obtain ⟨pt, q⟩ := q
  obtain ⟨b, g, rfl, _⟩ := q
  exact aF0 true c b 0
end Go.Abs
namespace Go.Abs
open Go
variable {E : FE} {F : Fr} {h : aA} {L : List Pl} {p v : V} {k : Nat}
theorem aUc (kd most : Int) (hk : kd = 1 ∨ kd = 2 ∨ kd = 3) (s : Sep F h L) :
 cl (Go.Abs.F.fU E) [i64 kd, i64 most] h fun r h' => Sep F h' (dP k r (SpM.new kd most) :: L) := by
 refine aL (aUd kd most hk) ?_
 rintro r h' ⟨S, fp, q, m, h1, h2, h3⟩
 exact Sep.sY (h1.mono (Nat.zero_le k)) h2 h3 (s.alloc (pD r S) m q)
theorem Sep.aLa {k' : Nat} {s : SpM} (z : Sep F h (dP k v s :: L)) (hk : k ≤ k') : Sep F h (dP k' v s :: L) := by
 obtain ⟨S, h1, h2, h3, z1⟩ := z.rA
 exact Sep.sY (h1.mono hk) h2 h3 z1
end Go.Abs
namespace Go.Abs
open Go
variable {E : FE} {F : Fr} {h : aA} {L : List Pl} {p v : V} {k : Nat}
theorem aRb {E0 : FE} (hM : aH E.I) (hE : E.I (E.k 0) = some (cl (Go.Abs.F.gI E0))) {s : SpM} (o : Oq) (now : Int) (hz : o.key.size ≤ 30 ∧ o.val.size ≤ 120) (hb : 120 ≤ BB) (hm : 30 ≤ maxLen) (hk : k ≤ 1000) (z : Sep F h (dP k v s :: L)) :
 cl (Go.Abs.F.eZ E) [v, o.agg, i64 now] h fun r h' => r = .tuple #[str (s.act o now).1, i64 (s.act o now).2.1] ∧ Sep F h' (dP (k + 1) v (s.act o now).2.2 :: L) := by
 obtain ⟨S, h1, h2, h3, z1⟩ := z.rA
 obtain ⟨f, q, kk⟩ := z1.head
 have q : SpS h f v S := q
 refine aL (aO2 hM hE q h1 hk o now ⟨by omega, by omega⟩) ?_
 rintro r h' ⟨c, fp', rfl, q', m'⟩
 obtain ⟨a1, a2, a3⟩ := aDs h3 h1 o now c
 rw [a1, a2]
 exact ⟨rfl, Sep.sY (h1.step o now c ⟨by omega, by omega⟩) (h2.step o now c hz) a3 (kk (pD v _) m' q')⟩
end Go.Abs
set_option linter.unusedSectionVars false
namespace Go.Abs
open Go
variable {κ α : Type} [DecidableEq κ] {t td : List (Et κ α)} {clk : Nat} {l : List (κ × α)}
theorem OkE.count (q : OkE t clk l) (hp : t.Perm td) (P : κ × α → Bool) : (td.filter fun e => P (e.k, e.x)).length = (l.filter P).length := by
 rw [← (hp.filter _).length_eq, ← (q.perm.filter P).length_eq, cC, List.filter_map, List.length_map]
 rfl
theorem OkE.sum (q : OkE t clk l) (hp : t.Perm td) (f : κ × α → Nat) : (td.map fun e => f (e.k, e.x)).sum = (l.map f).sum := by
 rw [← (hp.map _).sum_nat, ← (q.perm.map f).sum_nat, cC, List.map_map]
 rfl
end Go.Abs
namespace Go.Abs
open Go
variable {F : Fr} {h : aA} {L : List Pl} {k : Nat}
theorem Sep.aTt {mv : Nat} {view : List (ByteArray × Option SpM)} (s : Sep F h (aK aP (vwV k) mv view :: L)) (name : ByteArray) :
 ∃ w, bT (some (.string, (some (.pointer none)))) (.map (some mv)) (str name) true h = some (.tuple #[w, .bool (lkp name view).isSome]) ∧
  ∀ x, lkp name view = some x → ∀ c, aC (.ptr true) .neq c w nil h = some (.bool x.isSome) := by
 cases hk : Go.Abs.lkp name view with
 | none =>
  have h1 := s.qT (z := nil) hk true
  exact ⟨nil, h1, fun x hx => by cases hx⟩
 | some x =>
  obtain ⟨w, h1, s1⟩ := s.oW (z := nil) hk true
  exact ⟨w, h1, fun y hy c => by
   cases hy
   exact Sep.aFt (k := k) (n := name) s1 c⟩
end Go.Abs
namespace Go.Abs
open Go
theorem aTy (l : List Oq) (o : Oq) : gZ (l ++ [o]) = gZ l + if o.fn = 1 then 1 else 0 := by
 unfold gZ
 rw [List.filter_append, List.length_append]
 by_cases h : o.fn = 1 <;> simp [h]
theorem aTz (l : List Oq) (i : Nat) (hx : i < l.length) : gZ (l.take (i + 1)) = gZ (l.take i) + if (l[i]).fn = 1 then 1 else 0 := by
 rw [List.take_add_one, List.getElem?_eq_getElem hx]
 exact aTy _ _
theorem aKv (l : List Oq) : gZ l ≤ l.length := List.length_filter_le _ _
end Go.Abs
namespace Go.Abs
open Go
variable {F : Fr} {h : aA} {L : List Pl}
theorem aT0 {a : V} {ops : List Oq} (n0 : Nat) (s : Sep F h (cS a ops :: L)) (hsz : ops.length ≤ 1000) (h0 : n0 ≤ 1000000) {K : V → aA → Prop}
 (hK : ∀ h', Sep F h' (cS a ops :: L) → K (i64 ((n0 + gZ ops : Nat) : Int)) h') :
 kv (bI .slice a h) fun v52 =>
∃ (Inv53 : Nat → List V → aA → Prop) (n53 : Nat), Inv53 n53 [i64 n0, (.int .i64 0)] h ∧ ∀ (n53 : Nat) (e53 : Nat → V) (h : aA), Inv53 n53 [(e53 5), (e53 78)] h →
kv (aC .bad .lss false (e53 78) v52 h) fun v54 =>
ifV v54 (
kv (bG (.slice 5) a (e53 78)) fun v55 =>
kv (ldD (.agg 5) v55 h) fun v56 =>
kP (aQ none (.agg #[(.int .i64 0), (.string ⟨#[]⟩), (.string ⟨#[]⟩), (.string ⟨#[]⟩), (.int .i64 0)]) h) fun v57 h =>
kH (stD (some 5) v57 v56 h) fun _ h =>
kv (aE (some 0) v57) fun v58 =>
kv (ldD .one v58 h) fun v59 =>
kv (aC .bad .eql true v59 (.int .i64 1) h) fun v60 =>
ifV v60 (
kv (aC .bad .add true (e53 5) (.int .i64 1) h) fun v61 =>
kv (aC .bad .add true (e53 78) (.int .i64 1) h) fun v62 =>
∃ m, m < n53 ∧ Inv53 m [v61, v62] h) (
kv (aC .bad .add true (e53 78) (.int .i64 1) h) fun v63 =>
∃ m, m < n53 ∧ Inv53 m [(e53 5), v63] h)) (
K (e53 5) h) := by
 obtain ⟨f0, q0, _⟩ := s.head
 have q0 : SlE dOp h f0 a ops := q0
 rw [q0.len, aB]
 refine ⟨fun n vs h' => ∃ i : Nat, vs = [i64 ((n0 + gZ (ops.take i) : Nat) : Int), i64 i] ∧ n = ops.length - i ∧ i ≤ ops.length ∧ Sep F h' (cS a ops :: L), ops.length, ⟨0, by simp [gZ], by omega, by omega, s⟩, ?_⟩
 rintro n e h1 ⟨i, he, rfl, hi, s1⟩
 simp only [List.cons.injEq, and_true] at he
 obtain ⟨e5, e78⟩ := he
 simp only [e5, e78, cW, aB, aF, decide_eq_true_eq]
 rcases Nat.lt_or_ge i ops.length with hx | hx
 case inr =>
  rw [if_neg (show ¬ ((i : Nat) : Int) < (ops.length : Nat) by omega)]
  have hil : i = ops.length := by omega
  subst hil
  rw [List.take_length]
  exact hK _ s1
 rw [if_pos (show ((i : Nat) : Int) < (ops.length : Nat) by omega)]
 obtain ⟨f1, q1, _⟩ := s1.head
 have q1 : SlE dOp h1 f1 a ops := q1
 obtain ⟨c, i1, i2⟩ := q1.ld (List.getElem?_eq_getElem hx)
 have i1 : bG (.slice 5) _ _ = _ := i1
 have i2 : ldD (.agg 5) _ _ = some (ops[i]).agg := i2
 have hm := aTz ops i hx
 have hle := aKv (ops.take i)
 rw [List.length_take] at hle
 generalize ops[i] = o at i2 hm
 simp only [i1, aB, i2, aBp, bA]
 have s2 := s1.box ((⟨0, ⟨#[]⟩, ⟨#[]⟩, ⟨#[]⟩, 0⟩ : Oq).cells) 5
 rw [st5 s2.get, bR]
 have s3 := s2.write (cs' := o.cells)
 generalize aA.put _ _ _ = h3 at s3 ⊢
 have r0 : h3.rd h1.next 0 = some (i64 o.fn) := by rw [aG s3.get 0]; rfl
 simp only [bH, aB, bC, Nat.zero_add, r0, dS, aF, beq_iff_eq, decide_eq_true_eq]
 by_cases h1f : o.fn = 1
 · rw [if_pos h1f] at hm ⊢
   rw [dN _ 1 (by omega) (by omega), aB, dN _ 1 (by omega) (by omega), aB]
   exact ⟨ops.length - (i + 1), by omega, i + 1, by rw [hm]; simp; omega, rfl, by omega, s3.drop⟩
 · rw [if_neg h1f] at hm ⊢
   rw [dN _ 1 (by omega) (by omega), aB]
   exact ⟨ops.length - (i + 1), by omega, i + 1, by rw [hm]; simp, rfl, by omega, s3.drop⟩
end Go.Abs
namespace Go.Abs
open Go
variable {E : FE} {F : Fr} {h : aA} {L : List Pl} {p v : V} {k : Nat}
theorem aL4 {κ α : Type} {A : κ → V → α → Pl} {t : List (Et κ α)} {e : Et κ α} (he : e ∈ t) : ∃ T, (t.map (Et.p A)).Perm (A e.k e.v e.x :: T) := by
 obtain ⟨t1, t2, rfl⟩ := List.append_of_mem he
 refine ⟨t1.map (Et.p A) ++ t2.map (Et.p A), ?_⟩
 rw [List.map_append, List.map_cons]
 exact List.perm_middle
theorem Sep.aTs {ms : Nat} {sp : List (ByteArray × SpM)} (s : Sep F h (aK aP (spV k) ms sp :: L)) (name : ByteArray) :
 ∃ w, bT (some (.string, (some (.pointer none)))) (.map (some ms)) (str name) false h = some w ∧ ∀ c, aC (.ptr true) .eql c w nil h = some (.bool (lkp name sp).isNone) := by
 cases hk : Go.Abs.lkp name sp with
 | none =>
  have h1 := s.qT (z := nil) hk false
  exact ⟨nil, h1, fun c => tP true c⟩
 | some x =>
  obtain ⟨w, h1, s1⟩ := s.oW (z := nil) hk false
  refine ⟨w, h1, fun c => ?_⟩
  obtain ⟨S, _, _, _, s2⟩ := Sep.rA (k := k) (s := x) s1
  obtain ⟨f, q, _⟩ := s2.head
  have q : SpS h f w S := q
  obtain ⟨pt, q⟩ := q
  obtain ⟨b, g, rfl, _⟩ := q
  exact dF true c b 0
theorem aNl {α : Type} (f : α → Nat) : ∀ (l : List α), (∀ e ∈ l, f e ≤ 8) → (l.map f).sum ≤ 8 * l.length
 | [], _ => by simp
 | a :: l, h => by
  have h1 := aNl f l fun e he => h e (by simp [he])
  have h2 := h a (by simp)
  simp only [List.map_cons, List.sum_cons, List.length_cons]
  omega
theorem aQ0 {pv ms mp : Nat} {a c : V} {pt : List (IdM × bZ)} (n0 : Nat) (s : Sep F h (aK bL (ptV k) mp pt :: aI pv [.map (some ms), a, .map (some mp), c] 4 :: L)) (hn0 : n0 ≤ 500000)
 (hp : ∀ e ∈ pt, e.2.ops.length ≤ 8) (hl : pt.length ≤ 1000) {K : V → aA → Prop}
 (hK : ∀ h', Sep F h' (aK bL (ptV k) mp pt :: aI pv [.map (some ms), a, .map (some mp), c] 4 :: L) → K (i64 ((n0 + (pt.map fun e => gZ e.2.ops).sum : Nat) : Int)) h') :
 kv (h.rd pv 2) fun v42 =>
kP (gJ .map v42 h) fun v43 h =>
∃ (Inv44 : Nat → List V → aA → Prop) (n44 : Nat), Inv44 n44 [i64 n0] h ∧ ∀ (n44 : Nat) (e44 : Nat → V) (h : aA), Inv44 n44 [(e44 5)] h →
dM v43 false h fun v45 h =>
kv (bD v45 0) fun v46 =>
ifV v46 (
kV (gO v43 h) h fun v47 h =>
kv (bD v47 1) fun v48 =>
kv (aM v48) fun v49 =>
kv (aE (some 0) v49) fun v50 =>
kv (ldD .one v50 h) fun v51 =>
kv (bI .slice v51 h) fun v52 =>
∃ (Inv53 : Nat → List V → aA → Prop) (n53 : Nat), Inv53 n53 [(e44 5), (.int .i64 0)] h ∧ ∀ (n53 : Nat) (e53 : Nat → V) (h : aA), Inv53 n53 [(e53 5), (e53 78)] h →
kv (aC .bad .lss false (e53 78) v52 h) fun v54 =>
ifV v54 (
kv (bG (.slice 5) v51 (e53 78)) fun v55 =>
kv (ldD (.agg 5) v55 h) fun v56 =>
kP (aQ none (.agg #[(.int .i64 0), (.string ⟨#[]⟩), (.string ⟨#[]⟩), (.string ⟨#[]⟩), (.int .i64 0)]) h) fun v57 h =>
kH (stD (some 5) v57 v56 h) fun _ h =>
kv (aE (some 0) v57) fun v58 =>
kv (ldD .one v58 h) fun v59 =>
kv (aC .bad .eql true v59 (.int .i64 1) h) fun v60 =>
ifV v60 (
kv (aC .bad .add true (e53 5) (.int .i64 1) h) fun v61 =>
kv (aC .bad .add true (e53 78) (.int .i64 1) h) fun v62 =>
∃ m, m < n53 ∧ Inv53 m [v61, v62] h) (
kv (aC .bad .add true (e53 78) (.int .i64 1) h) fun v63 =>
∃ m, m < n53 ∧ Inv53 m [(e53 5), v63] h)) (
∃ m, m < n44 ∧ Inv44 m [(e53 5)] h)) (
K (e44 5) h) := by
 have r2 : h.rd pv 2 = some (.map (some mp)) := by rw [aG s.up1.get 2]; rfl
 rw [r2, aB]
 obtain ⟨t, clk, q, s2⟩ := s.fD
 have htl : t.length = pt.length := by have := q.perm.length_eq; simpa [cC] using this
 have hx8 : ∀ e ∈ t, gZ e.x.ops ≤ 8 ∧ e.x.ops.length ≤ 8 := fun e he => by
  have := hp (e.k, e.x) (q.perm.mem_iff.1 (List.mem_map.2 ⟨e, he, rfl⟩))
  have h2 := aKv e.x.ops
  exact ⟨Nat.le_trans h2 this, this⟩
 refine Sep.range s2 (fun it h2 s3 => ?_)
 refine ⟨fun n vs h' => ∃ td seen, vs = [i64 ((n0 + (td.map fun e => gZ e.x.ops).sum : Nat) : Int)] ∧ n = t.length - td.length ∧ dV t td seen ∧
  Sep F h' (cJ it mp clk seen :: bM mp (t.map (Et.m bL)) clk :: (t.map (Et.p (ptV k)) ++ aI pv [.map (some ms), a, .map (some mp), c] 4 :: L)),
  t.length, ⟨[], #[], by simp, rfl, dV.nil t, s3⟩, ?_⟩
 rintro n e0 h3 ⟨td, seen, he0, rfl, hs, s4⟩
 simp only [List.cons.injEq, and_true] at he0
 simp only [he0]
 have hsum := aNl (fun e : Et IdM bZ => gZ e.x.ops) td fun e he => (hx8 e (hs.sub e he)).1
 refine Sep.sH s4 q.lt q.bn hs (fun e he hne h5 s5 hs5 hent hlen => ?_) (fun hperm => ?_)
 · simp only [bQ, List.getElem?_toArray, List.getElem?_cons_zero, List.getElem?_cons_succ, aB, aF, if_true]
   rw [hent, nS]
   simp only [bQ, List.getElem?_toArray, List.getElem?_cons_zero, List.getElem?_cons_succ, aB]
   obtain ⟨T, hT⟩ := aL4 (A := ptV k) he
   have s6 : Sep F h5 (cJ it mp clk (seen.push e.b) :: bM mp (t.map (Et.m bL)) clk :: ptV k e.k e.v e.x :: (T ++ aI pv [.map (some ms), a, .map (some mp), c] 4 :: L)) := s5.perm (((hT.append_right _).cons _).cons _)
   obtain ⟨b, ao, co, mo, ev, s7⟩ := Sep.aB7 (k := k) (p := e.v) (x := e.x) s6.up2
   rw [ev]
   have r0 : h5.rd b 0 = some ao := by rw [aG s7.get 0]; rfl
   simp only [bK, aB, bH, bC, Nat.zero_add, r0]
   refine aT0 (K := fun v h => ∃ m, m < t.length - td.length ∧ ∃ td seen, [v] = [i64 ((n0 + (td.map fun e => gZ e.x.ops).sum : Nat) : Int)] ∧ m = t.length - td.length ∧ dV t td seen ∧
    Sep F h (cJ it mp clk seen :: bM mp (t.map (Et.m bL)) clk :: (t.map (Et.p (ptV k)) ++ aI pv [.map (some ms), a, .map (some mp), c] 4 :: L)))
    (n0 + (td.map fun e => gZ e.x.ops).sum) s7.up1 (by have := (hx8 e he).2; omega) (by omega) fun h6 s8 => ?_
   refine ⟨t.length - (td.length + 1), by omega, td ++ [e], _, ?_, by simp, hs5, ?_⟩
   · simp only [List.map_append, List.map_cons, List.map_nil, List.sum_append, List.sum_cons, List.sum_nil, Nat.add_zero, Nat.add_assoc]
   · have s9 := (Sep.zS (k := k) (x := e.x) s8.up1)
     rw [← ev] at s9
     have s10 : Sep F h6 (cJ it mp clk (seen.push e.b) :: bM mp (t.map (Et.m bL)) clk :: ptV k e.k e.v e.x :: (T ++ aI pv [.map (some ms), a, .map (some mp), c] 4 :: L)) := s9.dn2
     exact s10.perm (((hT.symm.append_right _).cons _).cons _)
 · simp only [bQ, List.getElem?_toArray, List.getElem?_cons_zero, List.getElem?_cons_succ, aB, aF, Bool.false_eq_true, if_false]
   rw [OkE.sum q hperm fun e => gZ e.2.ops]
   exact hK _ (Sep.fK q s4.drop)
end Go.Abs
namespace Go.Abs
open Go
variable {E : FE} {F : Fr} {h : aA} {L : List Pl} {p v : V} {k : Nat}
theorem aXe {pv pp ms mp mv : Nat} {a c d e f : V} {sp : List (ByteArray × SpM)} {view : List (ByteArray × Option SpM)} {pt : List (IdM × bZ)}
 (s : Sep F h (aK aP (spV k) ms sp :: aK aP (vwV k) mv view :: aK bL (ptV k) mp pt :: aI pv [.map (some ms), a, .map (some mp), c] 4 :: aI pp [d, e, f, .map (some mv)] 4 :: L))
 (h1 : sp.length ≤ 100000) (h2 : view.length ≤ 100000) (h3 : pt.length ≤ 1000) (h4 : ∀ e ∈ pt, e.2.ops.length ≤ 8) :
 cl (Go.Abs.F.nN E) [ptr pv 0, ptr pp 0] h fun r h' => r = i64 ((rT sp pt view : Nat) : Int) ∧
  Sep F h' (aK aP (spV k) ms sp :: aK aP (vwV k) mv view :: aK bL (ptV k) mp pt :: aI pv [.map (some ms), a, .map (some mp), c] 4 :: aI pp [d, e, f, .map (some mv)] 4 :: L) := by
 refine aO ?_
 have r0 : h.rd pv 0 = some (.map (some ms)) := by rw [aG s.up3.get 0]; rfl
 simp only [Go.Abs.F.nN, bK, aB, bH, bC, Nat.zero_add, r0]
 obtain ⟨t, clk, q, s2⟩ := s.fD
 have htl : t.length = sp.length := by have := q.perm.length_eq; simpa [cC] using this
 refine Sep.range s2 (fun it h2 s3 => ?_)
 let P1 : ByteArray × SpM → Bool := fun e => match lkp e.1 view with | none => true | some x => x.isSome
 refine ⟨fun n vs h' => ∃ td seen, vs = [i64 (((td.filter fun e => P1 (e.k, e.x)).length : Nat) : Int)] ∧ n = t.length - td.length ∧ dV t td seen ∧
  Sep F h' (cJ it ms clk seen :: bM ms (t.map (Et.m aP)) clk :: (t.map (Et.p (spV k)) ++ aK aP (vwV k) mv view :: aK bL (ptV k) mp pt :: aI pv [.map (some ms), a, .map (some mp), c] 4 :: aI pp [d, e, f, .map (some mv)] 4 :: L)),
  t.length, ⟨[], #[], by simp, rfl, dV.nil t, s3⟩, ?_⟩
 rintro n e0 h3 ⟨td, seen, he0, rfl, hs, s4⟩
 simp only [List.cons.injEq, and_true] at he0
 simp only [he0]
 have hfl := List.length_filter_le (fun e : Et ByteArray SpM => P1 (e.k, e.x)) td
 refine Sep.sH s4 q.lt q.bn hs (fun x hx hne h5 s5 hs5 hent hlen => ?_) (fun hperm => ?_)
 · simp only [bQ, List.getElem?_toArray, List.getElem?_cons_zero, List.getElem?_cons_succ, aB, aF, if_true]
   rw [hent, nS]
   simp only [bQ, List.getElem?_toArray, List.getElem?_cons_zero, List.getElem?_cons_succ, aB, bK, bH, bC, Nat.zero_add]
   have r3 : h5.rd pp 3 = some (.map (some mv)) := by rw [aG s5.drop.drop.rW.up3.get 3]; rfl
   rw [r3, aB]
   obtain ⟨w, w1, w2⟩ := s5.drop.drop.rW.aTt x.k
   have ek : aP.enc x.k = str x.k := rfl
   rw [ek, w1, aB]
   simp only [bQ, List.getElem?_toArray, List.getElem?_cons_zero, List.getElem?_cons_succ, aB, dB, aT]
   have hp1 : P1 (x.k, x.x) = match lkp x.k view with | none => true | some x => x.isSome := rfl
   have fin : ∀ b : Bool, P1 (x.k, x.x) = b → (ifV (.bool b) (
    kv (aC .bad .add true (i64 (((td.filter fun e => P1 (e.k, e.x)).length : Nat) : Int)) (.int .i64 1) h5) fun v19 =>
    ∃ m, m < t.length - td.length ∧ ∃ td seen, [v19] = [i64 (((td.filter fun e => P1 (e.k, e.x)).length : Nat) : Int)] ∧ m = t.length - td.length ∧ dV t td seen ∧
   Sep F h5 (cJ it ms clk seen :: bM ms (t.map (Et.m aP)) clk :: (t.map (Et.p (spV k)) ++ aK aP (vwV k) mv view :: aK bL (ptV k) mp pt :: aI pv [.map (some ms), a, .map (some mp), c] 4 :: aI pp [d, e, f, .map (some mv)] 4 :: L))) (
    ∃ m, m < t.length - td.length ∧ ∃ td' seen, [i64 (((td.filter fun e => P1 (e.k, e.x)).length : Nat) : Int)] = [i64 (((td'.filter fun e => P1 (e.k, e.x)).length : Nat) : Int)] ∧ m = t.length - td'.length ∧ dV t td' seen ∧
   Sep F h5 (cJ it ms clk seen :: bM ms (t.map (Et.m aP)) clk :: (t.map (Et.p (spV k)) ++ aK aP (vwV k) mv view :: aK bL (ptV k) mp pt :: aI pv [.map (some ms), a, .map (some mp), c] 4 :: aI pp [d, e, f, .map (some mv)] 4 :: L)))) := by
    intro b hb
    cases b with
    | true =>
     simp only [aF, if_true]
     rw [dN _ 1 (by omega) (by omega), aB]
     refine ⟨t.length - (td.length + 1), by omega, td ++ [x], _, ?_, by simp, hs5, s5⟩
     rw [List.filter_append, List.filter_cons_of_pos (by exact hb), List.filter_nil, List.length_append]
     rfl
    | false =>
     simp only [aF, Bool.false_eq_true, if_false]
     refine ⟨t.length - (td.length + 1), by omega, td ++ [x], _, ?_, by simp, hs5, s5⟩
     rw [List.filter_append, List.filter_cons_of_neg (by simp [hb]), List.filter_nil, List.append_nil]
   cases hk : Go.Abs.lkp x.k view with
   | none =>
    simp only [Option.isSome_none, Bool.not_false, Bool.true_eq_false, if_false, aB, aT, aY, if_true]
    exact fin true (by rw [hp1, hk])
   | some y =>
    simp only [Option.isSome_some, Bool.not_true, if_true, aB, w2 y hk true, aY, Bool.false_eq_true, if_false]
    exact fin y.isSome (by rw [hp1, hk])
 simp only [bQ, List.getElem?_toArray, List.getElem?_cons_zero, List.getElem?_cons_succ, aB, aF, Bool.false_eq_true, if_false, bK, bH, bC, Nat.zero_add]
 have hc1 : (td.filter fun e => P1 (e.k, e.x)).length = (sp.filter P1).length := OkE.count q hperm P1
 rw [hc1] at hfl ⊢
 have htd : td.length = t.length := hperm.length_eq.symm
 have s6 := Sep.fK q s4.drop
 clear s4 s3 s2 s
 have r3 : h3.rd pp 3 = some (.map (some mv)) := by rw [aG s6.up4.get 3]; rfl
 rw [r3, aB]
 obtain ⟨t2, clk2, q2, s7⟩ := s6.up1.fD
 have htl2 : t2.length = view.length := by have := q2.perm.length_eq; simpa [cC] using this
 generalize hn1 : (sp.filter P1).length = n1 at hfl ⊢
 refine Sep.range s7 (fun it2 h6 s8 => ?_)
 let P2 : ByteArray × Option SpM → Bool := fun e => e.2.isSome && (lkp e.1 sp).isNone
 refine ⟨fun n vs h' => ∃ td seen, vs = [i64 ((n1 + (td.filter fun e => P2 (e.k, e.x)).length : Nat) : Int)] ∧ n = t2.length - td.length ∧ dV t2 td seen ∧
  Sep F h' (cJ it2 mv clk2 seen :: bM mv (t2.map (Et.m aP)) clk2 :: (t2.map (Et.p (vwV k)) ++ aK aP (spV k) ms sp :: aK bL (ptV k) mp pt :: aI pv [.map (some ms), a, .map (some mp), c] 4 :: aI pp [d, e, f, .map (some mv)] 4 :: L)),
  t2.length, ⟨[], #[], by simp, rfl, dV.nil t2, s8⟩, ?_⟩
 rintro n e0 h7 ⟨td2, seen2, he0, rfl, hs2, s9⟩
 simp only [List.cons.injEq, and_true] at he0
 simp only [he0]
 have hfl2 := List.length_filter_le (fun e : Et ByteArray (Option SpM) => P2 (e.k, e.x)) td2
 refine Sep.sH s9 q2.lt q2.bn hs2 (fun x hx hne h8 s10 hs5 hent hlen => ?_) (fun hperm2 => ?_)
 · simp only [bQ, List.getElem?_toArray, List.getElem?_cons_zero, List.getElem?_cons_succ, aB, aF, if_true]
   rw [hent, nS]
   simp only [bQ, List.getElem?_toArray, List.getElem?_cons_zero, List.getElem?_cons_succ, aB]
   obtain ⟨T, hT⟩ := aL4 (A := vwV k) hx
   have s11 : Sep F h8 (vwV k x.k x.v x.x :: (T ++ aK aP (spV k) ms sp :: aK bL (ptV k) mp pt :: aI pv [.map (some ms), a, .map (some mp), c] 4 :: aI pp [d, e, f, .map (some mv)] 4 :: L)) := s10.drop.drop.perm (hT.append_right _)
   rw [Sep.aFt s11 true, aB]
   have fin : ∀ b : Bool, P2 (x.k, x.x) = b → (ifV (.bool b) (
    kv (aC .bad .add true (i64 ((n1 + (td2.filter fun e => P2 (e.k, e.x)).length : Nat) : Int)) (.int .i64 1) h8) fun v19 =>
    ∃ m, m < t2.length - td2.length ∧ ∃ td seen, [v19] = [i64 ((n1 + (td.filter fun e => P2 (e.k, e.x)).length : Nat) : Int)] ∧ m = t2.length - td.length ∧ dV t2 td seen ∧
   Sep F h8 (cJ it2 mv clk2 seen :: bM mv (t2.map (Et.m aP)) clk2 :: (t2.map (Et.p (vwV k)) ++ aK aP (spV k) ms sp :: aK bL (ptV k) mp pt :: aI pv [.map (some ms), a, .map (some mp), c] 4 :: aI pp [d, e, f, .map (some mv)] 4 :: L))) (
    ∃ m, m < t2.length - td2.length ∧ ∃ td seen, [i64 ((n1 + (td2.filter fun e => P2 (e.k, e.x)).length : Nat) : Int)] = [i64 ((n1 + (td.filter fun e => P2 (e.k, e.x)).length : Nat) : Int)] ∧ m = t2.length - td.length ∧ dV t2 td seen ∧
   Sep F h8 (cJ it2 mv clk2 seen :: bM mv (t2.map (Et.m aP)) clk2 :: (t2.map (Et.p (vwV k)) ++ aK aP (spV k) ms sp :: aK bL (ptV k) mp pt :: aI pv [.map (some ms), a, .map (some mp), c] 4 :: aI pp [d, e, f, .map (some mv)] 4 :: L)))) := by
    intro b hb
    cases b with
    | true =>
     simp only [aF, if_true]
     rw [dN _ 1 (by omega) (by omega), aB]
     refine ⟨t2.length - (td2.length + 1), by omega, td2 ++ [x], _, ?_, by simp, hs5, s10⟩
     rw [List.filter_append, List.filter_cons_of_pos (by exact hb), List.filter_nil, List.length_append]
     rfl
    | false =>
     simp only [aF, Bool.false_eq_true, if_false]
     refine ⟨t2.length - (td2.length + 1), by omega, td2 ++ [x], _, ?_, by simp, hs5, s10⟩
     rw [List.filter_append, List.filter_cons_of_neg (by simp [hb]), List.filter_nil, List.append_nil]
   have r5 : h8.rd pv 0 = some (.map (some ms)) := by rw [aG s11.drop.rW.up2.get 0]; rfl
   obtain ⟨w, w1, w2⟩ := s11.drop.rW.aTs x.k
   have ek : aP.enc x.k = str x.k := rfl
   rw [ek]
   cases hxx : x.x with
   | none =>
    simp only [Option.isSome_none, aT, Bool.false_eq_true, if_false, aB, fN, aY]
    exact fin false (by simp [P2, hxx])
   | some y =>
    simp only [Option.isSome_some, aT, if_true, aB, bK, bH, bC, Nat.zero_add, r5, w1, w2 true, aY]
    exact fin _ (by simp [P2, hxx])
 simp only [bQ, List.getElem?_toArray, List.getElem?_cons_zero, List.getElem?_cons_succ, aB, aF, Bool.false_eq_true, if_false]
 have hc2 : (td2.filter fun e => P2 (e.k, e.x)).length = (view.filter P2).length := OkE.count q2 hperm2 P2
 rw [hc2] at hfl2 ⊢
 have htd2 : td2.length = t2.length := hperm2.length_eq.symm
 have s12 := Sep.fK q2 s9.drop
 refine aQ0 (K := fun r h' => r = i64 ((rT sp pt view : Nat) : Int) ∧
  Sep F h' (aK aP (spV k) ms sp :: aK aP (vwV k) mv view :: aK bL (ptV k) mp pt :: aI pv [.map (some ms), a, .map (some mp), c] 4 :: aI pp [d, e, f, .map (some mv)] 4 :: L)) (n1 + (view.filter P2).length) (s12.up3.up3) (by omega) h4 (by assumption) fun h9 s13 => ?_
 refine ⟨?_, ?_⟩
 · rw [← hn1]; rfl
 · exact (s13.dn3.dn3).up1
end Go.Abs
namespace Go.Abs
open Go
section
variable {F : Fr} {h : aA} {A B C D X Y Z W : Pl} {L : List Pl}
theorem Sep.up5 (s : Sep F h (A :: B :: C :: D :: X :: Y :: L)) : Sep F h (Y :: A :: B :: C :: D :: X :: L) := s.perm (List.perm_middle (l₁ := [A, B, C, D, X]) (l₂ := L) (a := Y))
theorem Sep.up6 (s : Sep F h (A :: B :: C :: D :: X :: Y :: Z :: L)) : Sep F h (Z :: A :: B :: C :: D :: X :: Y :: L) := s.perm (List.perm_middle (l₁ := [A, B, C, D, X, Y]) (l₂ := L) (a := Z))
theorem Sep.dn5 (s : Sep F h (Y :: A :: B :: C :: D :: X :: L)) : Sep F h (A :: B :: C :: D :: X :: Y :: L) := s.perm (List.perm_middle (l₁ := [A, B, C, D, X]) (l₂ := L) (a := Y)).symm
end
section
variable {κ α : Type} [DecidableEq κ] {D : KD κ} {A A' : κ → V → α → Pl} {F : Fr} {h : aA} {m : Nat} {l : List (κ × α)}
theorem Sep.aK9 (hA : ∀ (F : Fr) (h : aA) (L : List Pl) (k : κ) (v : V) (x : α), Sep F h (A k v x :: L) → Sep F h (A' k v x :: L)) : ∀ {t : List (Et κ α)} {L : List Pl}, Sep F h (t.map (Et.p A) ++ L) → Sep F h (t.map (Et.p A') ++ L)
 | [], L, s => s
 | e :: t, L, s => by
  have s1 : Sep F h (A e.k e.v e.x :: (t.map (Et.p A) ++ L)) := s
  have s2 := hA _ _ _ _ _ _ s1
  have s3 : Sep F h (t.map (Et.p A) ++ A' e.k e.v e.x :: L) := s2.perm List.perm_middle.symm
  have s4 := Sep.aK9 hA s3
  exact s4.perm List.perm_middle
theorem Sep.iQ (hA : ∀ (F : Fr) (h : aA) (L : List Pl) (k : κ) (v : V) (x : α), Sep F h (A k v x :: L) → Sep F h (A' k v x :: L)) {L : List Pl} (s : Sep F h (aK D A m l :: L)) : Sep F h (aK D A' m l :: L) := by
 obtain ⟨t, clk, q, s1⟩ := s.fD
 have s2 := Sep.aK9 hA (s1.perm List.perm_middle.symm)
 exact Sep.fK q (s2.perm List.perm_middle)
theorem vD (k : κ) (v : α) : ∀ l : List (κ × α), (ins k v l).length ≤ l.length + 1
 | [] => by simp [ins]
 | (a, u) :: l => by
  have := vD k v l
  simp only [ins]
  split <;> simp
  omega
theorem aF8 (k : κ) : ∀ l : List (κ × α), (rmv k l).length ≤ l.length
 | [] => by simp [rmv]
 | (a, u) :: l => by
  have := aF8 k l
  simp only [rmv]
  split <;> simp
  omega
end
variable {F : Fr} {h : aA} {L : List Pl} {k k' : Nat}
theorem qY (hk : k ≤ k') : ∀ (F : Fr) (h : aA) (L : List Pl) (n : ByteArray) (v : V) (x : SpM), Sep F h (spV k n v x :: L) → Sep F h (spV k' n v x :: L) := fun _ _ _ _ _ _ s => Sep.aLa s hk
theorem aBi (hk : k ≤ k') : ∀ (F : Fr) (h : aA) (L : List Pl) (n : ByteArray) (v : V) (x : Option SpM), Sep F h (vwV k n v x :: L) → Sep F h (vwV k' n v x :: L) := fun _ _ _ _ _ x s => by
 cases x with
 | none => exact s
 | some y => exact Sep.aLa s hk
theorem aT5 (hk : k ≤ k') (n0 : ByteArray) (v0 : V) : ∀ (F : Fr) (h : aA) (L : List Pl) (n : ByteArray) (v : V) (x : Option SpM), Sep F h (dT n0 v0 (vwV k) n v x :: L) → Sep F h (dT n0 v0 (vwV k') n v x :: L) := fun F h L n v x s => by
 by_cases e : n = n0
 · simp only [dT, if_pos e] at s ⊢; exact s
 · simp only [dT, if_neg e] at s ⊢; exact aBi hk _ _ _ _ _ _ s
theorem aT7 (hk : k ≤ k') {p : V} {x : bZ} (s : Sep F h (yN k p x :: L)) : Sep F h (yN k' p x :: L) := by
 obtain ⟨b, a, c, m, rfl, s1⟩ := s.aB7
 exact Sep.zS (Sep.iQ (aBi hk) s1.up3).dn3
theorem aBh (hk : k ≤ k') : ∀ (F : Fr) (h : aA) (L : List Pl) (n : IdM) (v : V) (x : bZ), Sep F h (ptV k n v x :: L) → Sep F h (ptV k' n v x :: L) := fun _ _ _ _ _ _ s => aT7 hk s
theorem Sep.aEo {n : ByteArray} {w : V} {x : Option SpM} (s : Sep F h (vwV k n w x :: L)) (c : Bool) : aC (.ptr true) .eql c w nil h = some (.bool x.isNone) := by
 cases x with
 | none =>
  obtain ⟨e, _⟩ := Sep.pure (φ := w = nil) s
  subst e
  exact tP true c
 | some y =>
  obtain ⟨S, _, _, _, s1⟩ := Sep.rA (k := k) (s := y) s
  obtain ⟨f, q, _⟩ := s1.head
  have q : SpS h f w S := q
  obtain ⟨pt, q⟩ := q
  obtain ⟨b, g, rfl, _⟩ := q
  exact dF true c b 0
theorem aM1 (sp : List (ByteArray × SpM)) (n : ByteArray) (view : List (ByteArray × Option SpM)) : lkp n (cN sp n view).2 = some (cN sp n view).1 := by
 unfold cN
 cases hk : Go.Abs.lkp n view with
 | none => simp
 | some x => simpa using hk
theorem aM0 (sp : List (ByteArray × SpM)) (n : ByteArray) (view : List (ByteArray × Option SpM)) : (cN sp n view).2.length ≤ view.length + 1 := by
 unfold cN
 cases hk : Go.Abs.lkp n view with
 | none => exact vD _ _ _
 | some x => simp
def tM (s : ByteArray) : Int := match s.data.toList with | c :: _ => (c.toNat : Int) - 48 | [] => 1
structure aOd (o : Oq) : Prop where
 fn : 1 ≤ o.fn ∧ o.fn ≤ 12
 sp : 1 ≤ o.space.size ∧ o.space.size ≤ 20
 key : o.key.size ≤ 20
 val : o.val.size ≤ 100
 n : 0 ≤ o.n ∧ o.n ≤ 1099511627776
 make : o.fn = 1 → (1 ≤ o.n ∧ o.n ≤ 3) ∧ (xP o.key = true ∨ o.key.size = 0)
theorem aFn {o : Oq} (h : jM o = true) : aOd o := by
 simp only [jM, kS, Bool.and_eq_true, Bool.or_eq_true, decide_eq_true_eq] at h
 obtain ⟨⟨⟨⟨⟨⟨⟨⟨⟨⟨⟨⟨a, b⟩, c⟩, d⟩, _⟩, e⟩, f⟩, g⟩, i⟩, _⟩, _⟩, _⟩, j⟩ := h
 refine ⟨⟨a, b⟩, ⟨c, d⟩, e, f, ⟨g, i⟩, fun h1 => ?_⟩
 rcases j with j | ⟨⟨j1, j2⟩, j3⟩
 · exact absurd h1 j
 · exact ⟨⟨j1, j2⟩, j3.imp id fun x => x.1⟩
end Go.Abs
namespace Go.Abs
open Go
theorem aBr {α : Type} [DecidableEq α] : ∀ {l m : List α}, l.Nodup → (∀ x ∈ l, x ∈ m) → l.length ≤ m.length
 | [], m, _, _ => by simp
 | a :: l, m, hn, hs => by
  obtain ⟨h1, h2⟩ := List.nodup_cons.1 hn
  have ha : a ∈ m := hs a (by simp)
  have hl : l.length ≤ (m.erase a).length := aBr h2 fun x hx => by
   have hne : x ≠ a := fun e => h1 (e ▸ hx)
   exact (List.mem_erase_of_ne hne).2 (hs x (by simp [hx]))
  rw [List.length_erase_of_mem ha] at hl
  have := List.length_pos_of_mem ha
  simp only [List.length_cons]
  omega
theorem aPv {id : IdM} {lk : List (aZ × IdM)} {ks ks' : List aZ} (h : ∀ x, x ∈ ks ↔ x ∈ ks') : blocked id ks lk = blocked id ks' lk := by
 unfold blocked
 congr 1
 funext e
 congr 1
 rw [Bool.eq_iff_iff, List.any_eq_true, List.any_eq_true]
 exact ⟨fun ⟨k, a, b⟩ => ⟨k, (h k).1 a, b⟩, fun ⟨k, a, b⟩ => ⟨k, (h k).2 a, b⟩⟩
theorem uE (id : IdM) : ∀ (ks : List aZ) (lk : List (aZ × IdM)) (k : aZ), lkp k (cF id ks lk) = if k ∈ ks then some id else lkp k lk
 | [], lk, k => by simp [cF]
 | a :: ks, lk, k => by
  have e : cF id (a :: ks) lk = cF id ks (ins a id lk) := rfl
  rw [e, uE id ks, lR]
  by_cases h1 : k ∈ ks
  · simp [h1]
  · by_cases h2 : a = k
    · simp [h2]
    · have h3 : ¬ k = a := fun e => h2 e.symm
      simp [h1, h2, h3]
theorem wI (id : IdM) : ∀ (ks : List aZ) {lk : List (aZ × IdM)}, (aX lk).Nodup → (aX (cF id ks lk)).Nodup
 | [], lk, h => h
 | a :: ks, lk, h => wI id ks (qF h)
theorem aGj (id : IdM) : ∀ (ks : List aZ) (lk : List (aZ × IdM)), (cF id ks lk).length ≤ lk.length + ks.length
 | [], lk => by simp [cF]
 | a :: ks, lk => by
  have h1 := aGj id ks (ins a id lk)
  have h2 := vD a id lk
  have e : cF id (a :: ks) lk = cF id ks (ins a id lk) := rfl
  rw [e, List.length_cons]
  omega
theorem aWp {id : IdM} {ks ks' : List aZ} {lk : List (aZ × IdM)} (hn : (aX lk).Nodup) (h : ∀ x, x ∈ ks ↔ x ∈ ks') : (cF id ks lk).Perm (cF id ks' lk) :=
 aCe (wI id ks hn) (wI id ks' hn) fun k => by
  rw [uE, uE]
  by_cases h1 : k ∈ ks
  · rw [if_pos h1, if_pos ((h k).1 h1)]
  · rw [if_neg h1, if_neg fun h2 => h1 ((h k).2 h2)]
theorem keys_filter {κ α : Type} (P : κ × α → Bool) (l : List (κ × α)) : (aX (l.filter P)).Sublist (aX l) := (List.filter_sublist (p := P) (l := l)).map _
theorem aJb {id : IdM} {lk : List (aZ × IdM)} (h : (aX lk).Nodup) : (aX (cX id lk)).Nodup := h.sublist (keys_filter _ _)
theorem aKm {κ α : Type} [DecidableEq κ] {P : κ × α → Bool} : ∀ {l : List (κ × α)}, (aX l).Nodup → ∀ k, lkp k (l.filter P) = match lkp k l with | some v => if P (k, v) then some v else none | none => none
 | [], _, k => rfl
 | (a, u) :: l, h, k => by
  have h' : a ∉ aX l ∧ (aX l).Nodup := List.nodup_cons.1 h
  have ih := aKm (P := P) h'.2 k
  by_cases hk : a = k
  · subst hk
    have hn : lkp a l = none := kR.2 h'.1
    rw [hn] at ih
    simp only [lkp, if_true]
    by_cases hp : P (a, u) = true
    · rw [List.filter_cons_of_pos hp, if_pos hp]
      simp only [lkp, if_true]
    · rw [List.filter_cons_of_neg hp, if_neg hp]
      exact ih
  · simp only [lkp, if_neg hk]
    rw [← ih]
    by_cases hp : P (a, u) = true
    · rw [List.filter_cons_of_pos hp]
      simp only [lkp, if_neg hk]
    · rw [List.filter_cons_of_neg hp]
theorem aKn {id : IdM} {lk : List (aZ × IdM)} (h : (aX lk).Nodup) (k : aZ) : lkp k (cX id lk) = match lkp k lk with | some i => if i = id then none else some i | none => none := by
 unfold cX
 rw [aKm h]
 cases lkp k lk with
 | none => rfl
 | some i => by_cases e : i = id <;> simp [e]
/-! ### What an operation does to a space's kind -/
theorem aUp (s : SpM) (q : bO) : (s.ofQ q).kind = s.kind := by cases q <;> rfl
theorem aHp (s : SpM) (o : Oq) (now : Int) : (s.act o now).2.2.kind = s.kind := by
 unfold SpM.act
 repeat (first | rfl | exact aUp _ _ | split)
theorem aO3 {s : SpM} {o : Oq} {now : Int} (ho : 3 ≤ o.fn ∧ o.fn ≤ 5) (he : (s.act o now).2.1 = 0) : s.kind = 1 := by
 by_cases h1 : s.kind = 1
 · exact h1
 · exfalso
   have e6 : ¬ (6 ≤ o.fn ∧ o.fn ≤ 9) := by omega
   have e10 : ¬ (10 ≤ o.fn ∧ o.fn ≤ 12) := by omega
   unfold SpM.act at he
   rw [if_neg h1] at he
   by_cases h2 : s.kind = 2
   · rw [if_pos h2, if_neg e6] at he
     cases he
   · rw [if_neg h2, if_neg e10] at he
     cases he
/-! ### What holds of a vault -/
structure dH (k : Nat) (st : dL) : Prop where
 nsp : st.sp.length ≤ k
 npt : st.pt.length ≤ k
 nlk : st.lk.length ≤ k
 dsp : (aX st.sp).Nodup
 dpt : (aX st.pt).Nodup
 dlk : (aX st.lk).Nodup
 may : ∀ e ∈ st.pt, gQ e.2.ops = true
 own : ∀ e ∈ st.lk, ∃ p, lkp e.2 st.pt = some p ∧ e.1 ∈ p.ops.map cA
 has : ∀ e ∈ st.pt, ∀ o ∈ e.2.ops, lkp (cA o) st.lk = some e.1
 apart : ∀ e ∈ st.lk, ∀ e' ∈ st.lk, eJ e.1 e'.1 = true → e.2 = e'.2
 dvw : ∀ e ∈ st.pt, (aX e.2.view).Nodup
 val8 : ∀ e ∈ st.pt, e.2.bN.length ≤ 8
 vw : ∀ e ∈ st.pt, ∀ x ∈ e.2.view, ∃ o ∈ e.2.ops, o.space = x.1
 tab : ∀ e ∈ st.pt, ∀ x ∈ e.2.view, (∀ o ∈ e.2.ops, o.space = x.1 → 3 ≤ o.fn ∧ o.fn ≤ 5) → ∃ s t, x.2 = some s ∧ s.kind = 1 ∧ lkp x.1 st.sp = some t ∧ t.kind = 1
 zsp : ∀ n ∈ aX st.sp, n.size ≤ 20
theorem dH.nil : dH 0 ⟨[], [], [], []⟩ := ⟨by simp, by simp, by simp, by simp [aX], by simp [aX], by simp [aX], by simp, by simp, by simp, by simp, by simp, by simp, by simp, by simp, by simp [aX]⟩
variable {k : Nat} {st : dL} {id : IdM}
theorem dH.mono {k' : Nat} (i : dH k st) (h : k ≤ k') : dH k' st := { i with nsp := Nat.le_trans i.nsp h, npt := Nat.le_trans i.npt h, nlk := Nat.le_trans i.nlk h }
theorem xF {l : List Oq} (h : gQ l = true) : 1 ≤ l.length ∧ l.length ≤ 8 ∧ ∀ o ∈ l, jM o = true := by
 simp only [gQ, Bool.and_eq_true, decide_eq_true_eq, List.all_eq_true] at h
 exact ⟨h.1.1, h.1.2, h.2⟩
theorem dH.aB8 (i : dH k st) : ∀ e ∈ st.pt, e.2.ops.length ≤ 8 := fun e he => (xF (i.may e he)).2.1
theorem dH.few (i : dH k st) (id : IdM) : (st.lk.filter fun e => decide (e.2 = id)).length ≤ 8 := by
 cases hp : lkp id st.pt with
 | none =>
  have : (st.lk.filter fun e => decide (e.2 = id)) = [] := by
   rw [List.filter_eq_nil_iff]
   intro e he hh
   obtain ⟨p, h1, _⟩ := i.own e he
   rw [of_decide_eq_true hh, hp] at h1
   cases h1
  rw [this]; simp
 | some p =>
  have h8 := i.aB8 _ (iM hp)
  have hn : (aX (st.lk.filter fun e => decide (e.2 = id))).Nodup := i.dlk.sublist (keys_filter _ _)
  have := aBr hn (m := p.ops.map cA) fun x hx => by
   obtain ⟨e, he, rfl⟩ := List.mem_map.1 hx
   obtain ⟨h1, h2⟩ := List.mem_filter.1 he
   obtain ⟨p', h3, h4⟩ := i.own e h1
   rw [of_decide_eq_true h2, hp] at h3
   cases h3
   exact h4
  rw [List.length_map] at this
  have e1 : (aX (st.lk.filter fun e => decide (e.2 = id))).length = (st.lk.filter fun e => decide (e.2 = id)).length := by simp [aX]
  have h8 : p.ops.length ≤ 8 := h8
  omega
theorem dH.aRv (i : dH k st) (hp : lkp id st.pt = none) (ks : List aZ) : ((cF id ks st.lk).filter fun e => decide (e.2 = id)).length ≤ ks.length := by
 have hn : (aX ((cF id ks st.lk).filter fun e => decide (e.2 = id))).Nodup := (wI id ks i.dlk).sublist (keys_filter _ _)
 have := aBr hn (m := ks) fun x hx => by
  obtain ⟨e, he, rfl⟩ := List.mem_map.1 hx
  obtain ⟨h1, h2⟩ := List.mem_filter.1 he
  have h3 := lS (wI id ks i.dlk) (show (e.1, e.2) ∈ cF id ks st.lk from h1)
  rw [uE] at h3
  by_cases hk : e.1 ∈ ks
  · exact hk
  · rw [if_neg hk, of_decide_eq_true h2] at h3
    obtain ⟨p, h4, _⟩ := i.own _ (iM h3)
    rw [show ((e.1, id) : aZ × IdM).2 = id from rfl, hp] at h4
    cases h4
 have e1 : (aX ((cF id ks st.lk).filter fun e => decide (e.2 = id))).length = ((cF id ks st.lk).filter fun e => decide (e.2 = id)).length := by simp [aX]
 omega
end Go.Abs
namespace Go.Abs
open Go
def mC : Pl := dE True
def pF (is : List Nat) (n : Nat) : Bool := decide is.Nodup && is.all fun i => decide (i < n)
section
variable {F : Fr} {h : aA} {L : List Pl}
theorem Sep.re (pre : List Pl) (is : List Nat) (s : Sep F h (pre ++ L)) (hp : pF is pre.length = true) : Sep F h (is.map (fun i => pre.getD i mC) ++ L) := by
 simp only [pF, Bool.and_eq_true, decide_eq_true_eq, List.all_eq_true] at hp
 obtain ⟨hn, hl⟩ := hp
 let js := (List.range pre.length).filter fun i => decide (i ∉ is)
 have e1 : pre = (List.range pre.length).map fun i => pre.getD i mC := by
  refine List.ext_getElem (by simp) fun i h1 h2 => ?_
  simp [h1]
 have hperm : (List.range pre.length).Perm (js ++ is) := by
  refine (List.perm_ext_iff_of_nodup List.nodup_range ?_).2 fun x => ?_
  · rw [List.nodup_append]
    refine ⟨List.nodup_range.sublist List.filter_sublist, hn, ?_⟩
    intro a ha b hb e
    have := (List.mem_filter.1 ha).2
    rw [decide_eq_true_eq] at this
    exact this (e ▸ hb)
  · rw [List.mem_append, List.mem_filter, List.mem_range]
    constructor
    · intro hx
      by_cases hi : x ∈ is
      · exact .inr hi
      · exact .inl ⟨hx, by simpa using hi⟩
    · rintro (hx | hx)
      · exact hx.1
      · exact hl x hx
 have s1 : Sep F h ((js.map fun i => pre.getD i mC) ++ ((is.map fun i => pre.getD i mC) ++ L)) := by
  refine s.perm ?_
  rw [← List.append_assoc, ← List.map_append]
  refine List.Perm.append_right L ?_
  conv => lhs; rw [e1]
  exact hperm.map _
 exact s1.rW
theorem Sep.re3 {A0 A1 A2 : Pl} (s : Sep F h (A0 :: A1 :: A2 :: L)) (is : List Nat) (hp : pF is 3 = true) : Sep F h (is.map (fun i => [A0, A1, A2].getD i mC) ++ L) := Sep.re [A0, A1, A2] is s hp
theorem Sep.re4 {A0 A1 A2 A3 : Pl} (s : Sep F h (A0 :: A1 :: A2 :: A3 :: L)) (is : List Nat) (hp : pF is 4 = true) : Sep F h (is.map (fun i => [A0, A1, A2, A3].getD i mC) ++ L) := Sep.re [A0, A1, A2, A3] is s hp
theorem Sep.re5 {A0 A1 A2 A3 A4 : Pl} (s : Sep F h (A0 :: A1 :: A2 :: A3 :: A4 :: L)) (is : List Nat) (hp : pF is 5 = true) : Sep F h (is.map (fun i => [A0, A1, A2, A3, A4].getD i mC) ++ L) := Sep.re [A0, A1, A2, A3, A4] is s hp
theorem Sep.re6 {A0 A1 A2 A3 A4 A5 : Pl} (s : Sep F h (A0 :: A1 :: A2 :: A3 :: A4 :: A5 :: L)) (is : List Nat) (hp : pF is 6 = true) : Sep F h (is.map (fun i => [A0, A1, A2, A3, A4, A5].getD i mC) ++ L) := Sep.re [A0, A1, A2, A3, A4, A5] is s hp
theorem Sep.re7 {A0 A1 A2 A3 A4 A5 A6 : Pl} (s : Sep F h (A0 :: A1 :: A2 :: A3 :: A4 :: A5 :: A6 :: L)) (is : List Nat) (hp : pF is 7 = true) : Sep F h (is.map (fun i => [A0, A1, A2, A3, A4, A5, A6].getD i mC) ++ L) := Sep.re [A0, A1, A2, A3, A4, A5, A6] is s hp
theorem Sep.re8 {A0 A1 A2 A3 A4 A5 A6 A7 : Pl} (s : Sep F h (A0 :: A1 :: A2 :: A3 :: A4 :: A5 :: A6 :: A7 :: L)) (is : List Nat) (hp : pF is 8 = true) : Sep F h (is.map (fun i => [A0, A1, A2, A3, A4, A5, A6, A7].getD i mC) ++ L) := Sep.re [A0, A1, A2, A3, A4, A5, A6, A7] is s hp
theorem Sep.pE {A0 A1 A2 A3 A4 A5 A6 A7 A8 A9 : Pl} (s : Sep F h (A0 :: A1 :: A2 :: A3 :: A4 :: A5 :: A6 :: A7 :: A8 :: A9 :: L)) (is : List Nat) (hp : pF is 10 = true) : Sep F h (is.map (fun i => [A0, A1, A2, A3, A4, A5, A6, A7, A8, A9].getD i mC) ++ L) := Sep.re [A0, A1, A2, A3, A4, A5, A6, A7, A8, A9] is s hp
theorem Sep.fF {A0 A1 A2 A3 A4 A5 A6 A7 A8 A9 A10 : Pl} (s : Sep F h (A0 :: A1 :: A2 :: A3 :: A4 :: A5 :: A6 :: A7 :: A8 :: A9 :: A10 :: L)) (is : List Nat) (hp : pF is 11 = true) : Sep F h (is.map (fun i => [A0, A1, A2, A3, A4, A5, A6, A7, A8, A9, A10].getD i mC) ++ L) := Sep.re [A0, A1, A2, A3, A4, A5, A6, A7, A8, A9, A10] is s hp
theorem Sep.tX {A0 A1 A2 A3 A4 A5 A6 A7 A8 A9 A10 A11 : Pl} (s : Sep F h (A0 :: A1 :: A2 :: A3 :: A4 :: A5 :: A6 :: A7 :: A8 :: A9 :: A10 :: A11 :: L)) (is : List Nat) (hp : pF is 12 = true) : Sep F h (is.map (fun i => [A0, A1, A2, A3, A4, A5, A6, A7, A8, A9, A10, A11].getD i mC) ++ L) := Sep.re [A0, A1, A2, A3, A4, A5, A6, A7, A8, A9, A10, A11] is s hp
end
variable {F : Fr} {h : aA} {L : List Pl} {k k' : Nat} {p : V} {st : dL}
theorem vS (hk : k ≤ k') (s : Sep F h (cT k p st :: L)) : Sep F h (cT k' p st :: L) := by
 obtain ⟨b, ms, a, mp, c, rfl, s1⟩ := s.sK
 have s2 := (Sep.iQ (qY hk) s1.up1).up1
 have s3 := (Sep.iQ (aBh hk) s2.up3).dn3
 exact Sep.lK s3
theorem Sep.aL8 {κ α : Type} [DecidableEq κ] {D : KD κ} {A : κ → V → α → Pl} {m : Nat} {l l' : List (κ × α)} (hp : l.Perm l') (s : Sep F h (aK D A m l :: L)) : Sep F h (aK D A m l' :: L) := by
 obtain ⟨t, clk, q, s1⟩ := s.fD
 exact Sep.fK ⟨q.perm.trans hp, (keys_perm hp).nodup_iff.1 q.nd, q.bn, q.lt⟩ s1
theorem Sep.aU5 {lk lk' : List (aZ × IdM)} (hp : lk.Perm lk') (s : Sep F h (dJ p lk :: L)) : Sep F h (dJ p lk' :: L) := by
 obtain ⟨b, m, rfl, s1⟩ := s.yL
 exact Sep.uS (Sep.aL8 hp s1.up1).up1
theorem Sep.aFs (s : Sep F h L) : Sep F h (iU (.slice none 0 0) [] :: L) := s.alloc (a' := []) (iU (.slice none 0 0) []) (Mod.refl (by simp)) Sl.nil
structure VlE (E : FE) : Prop where
 op : OpE E
 ack : ∃ E0 : FE, E.I (E.k 0) = some (cl (Go.Abs.F.gI E0))
 take : ∃ E1 : FE, E.I (E.k 8) = some (cl (Go.Abs.F.jI E1))
 ord : ∃ E1 : FE, E.I (E.k 9) = some (cl (Go.Abs.F.fB E1))
 nord : ∃ E1 : FE, E.I (E.k 10) = some (cl (Go.Abs.F.iR E1))
theorem aPf {v : V} {fp : List Nat} {l : List ByteArray} (s : Ts h fp v l) (hsz : l.length ≤ 1000000) (x : ByteArray) :
 ∃ h1, cR (some (1, [(.string ⟨#[]⟩)])) 1 [(0, str x)] h = some (.slice (some ⟨h.next, 0, none⟩) 1 2, h1) ∧
  ∃ v' h2 fp', dY (some (1, 16, [(.string ⟨#[]⟩)])) v (.slice (some ⟨h.next, 0, none⟩) 1 2) h1 = some (v', h2) ∧ Ts h2 fp' v' (l ++ [x]) ∧ Mod h fp h2 fp' := by
 refine ⟨h.new (.cells [str x] 1 .rw), rfl, ?_⟩
 have s1 : Ts (h.new (.cells [str x] 1 .rw)) fp v l := s.same (by simp) fun y hy => by
  have := s.lt y hy
  have : y ≠ h.next := by omega
  simp [this]
 obtain ⟨v', h', fl', a1, a2, a3⟩ := Sl.append s1 (x := .slice (some ⟨h.next, 0, none⟩) 1 2) (k := 1) (bytes := 16) (z := [.string ⟨#[]⟩]) (new := [str x]) rfl (by decide) (by decide) rfl
  (fun _ => by simp [dR, iV, aA.rdN]) rfl rfl (by omega)
 refine ⟨v', h', fl', a1, by simpa [Ts] using a2, (Mod.fC (h := h) (fp := fp) s.lt).trans a3⟩
theorem aU1 {fp : List Nat} {v : V} {l : List Oq} (s : SlE dOp h fp v l) (n : Int) (m : Nat) (h' : aA) :
 bP (.struct [(.slice none 0 0), (.slice none 0 0), (.int .i64 0), (.map none)] [(0, 1), (1, 1), (2, 1), (3, 1)]) [(0, v), (2, i64 n), (3, .map (some m))] = some (.agg #[v, .slice none 0 0, i64 n, .map (some m)]) ∧
 aQ none (.agg #[v, .slice none 0 0, i64 n, .map (some m)]) h' = some (ptr h'.next 0, h'.new (.cells [v, .slice none 0 0, i64 n, .map (some m)] 4 .rw)) := by
 obtain ⟨_, ⟨rfl, _, _⟩ | ⟨b, c, all, rfl, _⟩⟩ := s
 · exact ⟨rfl, rfl⟩
 · exact ⟨rfl, rfl⟩
end Go.Abs
namespace Go.Abs
open Go
variable {E : FE} {F : Fr} {h : aA} {L : List Pl} {k : Nat}
theorem aXf {E0 : FE} (hM : aH E.I) (hE : E.I (E.k 0) = some (cl (Go.Abs.F.gI E0))) {pv pp ms mv mp : Nat} {a c oa va : V} {now : Int} {sp : List (ByteArray × SpM)} {view : List (ByteArray × Option SpM)} {pt : List (IdM × bZ)}
 (o : Oq) (ho : jM o = true) (hk : k ≤ 1000)
 (s : Sep F h (aI pv [.map (some ms), a, .map (some mp), c] 4 :: aI pp [oa, va, i64 now, .map (some mv)] 4 :: aK aP (spV k) ms sp :: aK aP (vwV k) mv view :: aK bL (ptV k) mp pt :: L))
 (b1 : sp.length ≤ 100000) (b2 : view.length ≤ 90000) (b3 : pt.length ≤ 1000) (b4 : ∀ e ∈ pt, e.2.ops.length ≤ 8) :
 cl (Go.Abs.F.nO E) [ptr pv 0, ptr pp 0, o.agg] h fun r h' => r = .tuple #[str (fM sp pt now view o).1, i64 (fM sp pt now view o).2.1] ∧
  Sep F h' (aI pv [.map (some ms), a, .map (some mp), c] 4 :: aI pp [oa, va, i64 now, .map (some mv)] 4 :: aK aP (spV (k + 1)) ms sp :: aK aP (vwV (k + 1)) mv (fM sp pt now view o).2.2 :: aK bL (ptV (k + 1)) mp pt :: L) := by
 have mf := aFn ho
 refine aO ?_
 simp only [Go.Abs.F.nO, qE, bA]
 have s1 := s.box o.cells 5
 clear s
 generalize h.new (.cells o.cells 5 .rw) = h1 at s1 ⊢
 generalize h.next = bo at s1 ⊢
 have r1 : h1.rd bo 1 = some (str o.space) := by rw [aG s1.get 1]; rfl
 simp only [bH, aB, bC, Nat.zero_add, r1]
 refine aL (aXh o.space s1.dn4) ?_
 intro r h2 s3
 clear s1 r1
 have hl := aM1 sp o.space view
 have hvl := aM0 sp o.space view
 have hd : fM sp pt now view o = (if o.fn = 1 then
  if (cN sp o.space view).1.isSome then (⟨#[]⟩, 3, (cN sp o.space view).2)
  else if 16 ≤ rT sp pt (cN sp o.space view).2 then (⟨#[]⟩, 6, (cN sp o.space view).2)
  else (⟨#[]⟩, 0, ins o.space (some (SpM.new o.n (tM o.key))) (cN sp o.space view).2)
  else match (cN sp o.space view).1 with
   | none => (⟨#[]⟩, 3, (cN sp o.space view).2)
   | some s =>
    if o.fn = 2 then (⟨#[]⟩, 0, ins o.space none (cN sp o.space view).2)
    else ((s.act o now).1, (s.act o now).2.1, ins o.space (some (s.act o now).2.2) (cN sp o.space view).2)) := rfl
 rw [hd]
 clear hd
 generalize (cN sp o.space view).1 = X at s3 hl ⊢
 generalize (cN sp o.space view).2 = V' at s3 hl hvl ⊢
 have fin : ∀ {h' : aA} {view' : List (ByteArray × Option SpM)}, Sep F h' (aK aP (vwV k) mv view' :: aI pv [.map (some ms), a, .map (some mp), c] 4 :: aI pp [oa, va, i64 now, .map (some mv)] 4 :: aK aP (spV k) ms sp :: aI bo o.cells 5 :: aK bL (ptV k) mp pt :: L) →
  Sep F h' (aI pv [.map (some ms), a, .map (some mp), c] 4 :: aI pp [oa, va, i64 now, .map (some mv)] 4 :: aK aP (spV (k + 1)) ms sp :: aK aP (vwV (k + 1)) mv view' :: aK bL (ptV (k + 1)) mp pt :: L) := by
  intro h' view' s
  have s1 := (Sep.iQ (aBi (Nat.le_succ k)) s).dn3.up4.drop
  have s2 := (Sep.iQ (qY (Nat.le_succ k)) s1.up2).dn2
  exact (Sep.iQ (aBh (Nat.le_succ k)) s2.up4).dn4
 have g : h2.get bo = some (.cells o.cells 5 .rw) := s3.drop.drop.drop.drop.drop.get
 have r0 : h2.rd bo 0 = some (i64 o.fn) := by rw [aG g 0]; rfl
 have nn := fun c => Sep.aFt (k := k) (n := o.space) s3.up1 c
 have ne := fun c => Sep.aEo (k := k) (n := o.space) s3.up1 c
 have shut : Sep F h2 (aK aP (vwV k) mv V' :: aI pv [.map (some ms), a, .map (some mp), c] 4 :: aI pp [oa, va, i64 now, .map (some mv)] 4 :: aK aP (spV k) ms sp :: aI bo o.cells 5 :: aK bL (ptV k) mp pt :: L) := by
  have := Sep.sU (A := vwV k) (x' := X) s3.up1 hl
  rwa [tH hl] at this
 simp only [bH, aB, bC, Nat.zero_add, r0, dS, oO]
 by_cases h1f : o.fn = 1
 · have hb : (o.fn == 1) = true := by simp [h1f]
   have hb' : (o.fn != 1) = false := by simp [h1f]
   simp only [hb, hb', aT, if_true, aB, nn, aY]
   refine ⟨fun vs h' => vs = [.bool X.isSome] ∧ h' = h2, ?_, ?_⟩
   · cases X <;> simp [aF, aT, fN, aY]
   rintro e10 h3 ⟨he, rfl⟩
   simp only [List.cons.injEq, and_true] at he
   simp only [he, r0, aB, dS, hb]
   rw [if_pos h1f]
   cases X with
   | some x =>
    simp only [Option.isSome_some, aF, if_true]
    exact ⟨trivial, fin shut⟩
   | none =>
    simp only [Option.isSome_none, aF, Bool.false_eq_true, if_false, aT, if_true, aB]
    have s4 := shut.up3.up5.dn2
    refine gF rfl (aL (aXe s4 b1 (by omega) b3 b4) ?_)
    rintro r4 h4 ⟨rfl, s5⟩
    have s6 : Sep F h4 (aK aP (vwV k) mv V' :: aI pv [.map (some ms), a, .map (some mp), c] 4 :: aI pp [oa, va, i64 now, .map (some mv)] 4 :: aK aP (spV k) ms sp :: aI bo o.cells 5 :: aK bL (ptV k) mp pt :: L) := s5.up2.dn5.dn3
    clear s4 s5 shut nn ne s3
    simp only [fY, aB, aY, if_true, aF, decide_eq_true_eq, ge_iff_le]
    by_cases h16 : 16 ≤ rT sp pt V'
    · rw [if_pos (show (16 : Int) ≤ ((rT sp pt V' : Nat) : Int) by omega), if_pos h16]
      exact ⟨rfl, fin s6⟩
    rw [if_neg (show ¬ (16 : Int) ≤ ((rT sp pt V' : Nat) : Int) by omega), if_neg h16]
    have g4 : h4.get bo = some (.cells o.cells 5 .rw) := s6.drop.drop.drop.drop.get
    have q0 : h4.rd bo 0 = some (i64 o.fn) := by rw [aG g4 0]; rfl
    have q2 : h4.rd bo 2 = some (str o.key) := by rw [aG g4 2]; rfl
    have q1 : h4.rd bo 1 = some (str o.space) := by rw [aG g4 1]; rfl
    have q4 : h4.rd bo 4 = some (i64 o.n) := by rw [aG g4 4]; rfl
    have q3 : h4.rd pp 3 = some (.map (some mv)) := by rw [aG s6.drop.drop.get 3]; rfl
    simp only [q0, aB, dS, hb, aF, if_true, q2, aC2, Bool.not_eq_true', decide_eq_false_iff_not]
    obtain ⟨⟨n1, n2⟩, hkey⟩ := mf.make h1f
    refine ⟨fun vs h' => vs = [i64 (tM o.key)] ∧ h' = h4, ?_, ?_⟩
    · by_cases hz : o.key.size = 0
      · rw [if_neg (by simp [hz])]
        have : tM o.key = 1 := by
         have : o.key = ⟨#[]⟩ := aDz.2 hz
         rw [this]; rfl
        exact ⟨by rw [this], rfl⟩
      · rw [if_pos hz]
        have hdk : xP o.key = true := hkey.resolve_right hz
        have hs1 : o.key.size = 1 := by
         by_cases h : o.key.size = 1
         · exact h
         · rw [aIn h] at hdk; cases hdk
        rw [aIm hs1] at hdk
        simp only [Bool.and_eq_true, decide_eq_true_eq] at hdk
        have hi := aJu o.key 0 (by omega)
        have hi : iL .str (str o.key) (.int .i64 0) = some (.int .u8 (o.key.get! 0).toNat) := hi
        have hm : tM o.key = ((o.key.get! 0).toNat : Int) - 48 := by
         have h1 := aE0 o.key (i := 0) (by omega)
         unfold tM
         cases hl2 : o.key.data.toList with
         | nil => rw [hl2] at h1; simp at h1
         | cons x l2 => rw [hl2] at h1; simp at h1; rw [h1]
        generalize (o.key.get! 0).toNat = z at hi hm hdk
        have hw : IntKind.u8.wrap ((z : Int) - 48) = (z : Int) - 48 := by
         simp [IntKind.wrap, IntKind.signed, IntKind.bits]
         omega
        have hw2 : IntKind.i64.wrap ((z : Int) - 48) = (z : Int) - 48 := by
         simp [IntKind.wrap, IntKind.signed, IntKind.bits]
         omega
        rw [hi, aB, xH, hw, aB]
        simp only [dZ, Option.map_some, aB, hw2]
        exact ⟨by rw [hm], trivial⟩
    rintro e32 h5 ⟨he, rfl⟩
    simp only [List.cons.injEq, and_true] at he
    simp only [he, bK, aB, bH, bC, Nat.zero_add, q3, q1, q4]
    refine aL (aUc (k := k) o.n (tM o.key) (by omega) s6) ?_
    intro r6 h6 s7
    have t3 : h6.rd pp 3 = some (.map (some mv)) := by rw [aG s7.drop.drop.drop.get 3]; rfl
    have t1 : h6.rd bo 1 = some (str o.space) := by rw [aG s7.drop.drop.drop.drop.drop.get 1]; rfl
    refine ⟨t3, t1, ?_⟩
    obtain ⟨h7, e7, s8⟩ := Sep.tG (D := aP) (A := vwV k) (k := o.space) (v := r6) (x := some (SpM.new o.n (tM o.key))) (z := nil) s7.up1
    have e7 : cQ (some (.string, (some (.pointer none)))) (.map (some mv)) (str o.space) r6 h6 = some h7 := e7
    rw [e7, bR]
    exact ⟨trivial, fin s8⟩
 · have hb : (o.fn == 1) = false := by simp [h1f]
   have hb' : (o.fn != 1) = true := by simp [h1f]
   simp only [hb, hb', aT, Bool.false_eq_true, if_false, aB, fN, aY, if_true, aF, ne]
   refine ⟨fun vs h' => vs = [.bool X.isNone] ∧ h' = h2, ⟨rfl, rfl⟩, ?_⟩
   rintro e10 h3 ⟨he, rfl⟩
   simp only [List.cons.injEq, and_true] at he
   simp only [he, r0, aB, dS, hb, aT, Bool.false_eq_true, if_false]
   rw [if_neg h1f]
   cases X with
   | none =>
    simp only [Option.isNone_none, aF, if_true]
    exact ⟨trivial, fin shut⟩
   | some x =>
    simp only [Option.isNone_some, aF, Bool.false_eq_true, if_false]
    refine lQ (by simp) ?_
    simp only [aT, Bool.false_eq_true, if_false, aB, aY, aF, r0, dS, hb]
    by_cases h2f : o.fn = 2
    · have hb2 : (o.fn == 2) = true := by simp [h2f]
      have r1 : h3.rd bo 1 = some (str o.space) := by rw [aG g 1]; rfl
      have r3 : h3.rd pp 3 = some (.map (some mv)) := by rw [aG shut.drop.drop.get 3]; rfl
      simp only [hb2, if_true, bK, aB, bH, bC, Nat.zero_add, r3, r1]
      obtain ⟨h7, e7, s8⟩ := Sep.tG (D := aP) (A := vwV k) (k := o.space) (v := nil) (x := none) (z := nil) (Sep.up1 (Sep.mkPure (φ := (nil : V) = nil) rfl shut))
      have e7 : cQ (some (.string, (some (.pointer none)))) (.map (some mv)) (str o.space) nil h3 = some h7 := e7
      rw [e7, bR, if_pos h2f]
      exact ⟨rfl, fin s8⟩
    · have hb2 : (o.fn == 2) = false := by simp [h2f]
      have r2 : h3.rd pp 2 = some (i64 now) := by rw [aG shut.drop.drop.get 2]; rfl
      simp only [hb2, Bool.false_eq_true, if_false, ld5 g, bK, aB, bH, bC, Nat.zero_add, r2]
      have hBB : BB = 1152921504606846976 := rfl
      refine aL (aRb hM hE (s := x) o now ⟨by have := mf.key; omega, by have := mf.val; omega⟩ (by omega) (by simp only [maxLen]; omega) hk s3.up1) ?_
      rintro r6 h6 ⟨rfl, s7⟩
      simp only [bQ, List.getElem?_toArray, List.getElem?_cons_zero, List.getElem?_cons_succ, aB]
      rw [if_neg h2f]
      refine ⟨rfl, ?_⟩
      have s8 := (Sep.iQ (aT5 (Nat.le_succ k) o.space r) s7.up1).up1
      have s9 := Sep.sU (A := vwV (k + 1)) (k := o.space) (v := r) (x := some x) (x' := some (x.act o now).2.2) s8 hl
      have s10 := s9.dn3.up4.drop
      have s11 := (Sep.iQ (qY (Nat.le_succ k)) s10.up2).dn2
      exact (Sep.iQ (aBh (Nat.le_succ k)) s11.up4).dn4
end Go.Abs

/- Specs on abstract heaps, part 9: topics: Seek, Fetch. -/
import Derived.Test.YtldjlkbjbkielaaGreatDoorVpas
import Derived.Laws.Strings
set_option linter.unusedSimpArgs false
set_option linter.unusedVariables false
namespace Go.Abs
open Go
variable {E : FE} {h : aA} {fp : List Nat} {p : V} {l : List ByteArray} {g : List En}
def atN (k : ByteArray) (g : List En) : Int := match bE k g with | some (.int _ n) => n | _ => 0
theorem rY {k : ByteArray} {v : V} : ∀ {g : List En}, bE k g = some v → ∃ e ∈ g, e.v = v
 | [], h => by simp [bE] at h
 | e :: g, h => by
  simp only [bE] at h
  split at h
  · exact ⟨e, by simp, by simpa using h⟩
  · obtain ⟨e', he, hv⟩ := rY h
    exact ⟨e', by simp [he], hv⟩
theorem aHx {k : ByteArray} (hg : ∀ e ∈ g, ∃ n : Int, e.v = i64 n) : atE k g = i64 (atN k g) := by
 unfold atE atN
 cases hk : bE k g with
 | none => rfl
 | some v =>
  obtain ⟨e, he, hv⟩ := rY hk
  obtain ⟨n, hn⟩ := hg e he
  rw [← hv, hn]
  rfl
theorem aK1 {k : ByteArray} {v : V} {c : Nat} : ∀ {g : List En} {e : En}, e ∈ cK k v c g → e ∈ g ∨ e.v = v
 | [], e, h => by simp [cK] at h; right; rw [h]
 | a :: g, e, h => by
  simp only [cK] at h
  split at h
  · simp only [List.mem_cons] at h
    rcases h with rfl | h
    · exact .inr rfl
    · exact .inl (by simp [h])
  · simp only [List.mem_cons] at h
    rcases h with rfl | h
    · exact .inl (by simp)
    · rcases aK1 h with h | h
      · exact .inl (by simp [h])
      · exact .inr h
theorem aWz (t : To h fp p l g) (k : ByteArray) (fr to : Int) :
 cl (F.nK E) [p, str k, i64 fr, i64 to] h fun r h' =>
  if atN k g = fr ∧ fr ≤ to ∧ to ≤ l.length ∧ ((bE k g).isSome ∨ g.length < 16) then r = .bool true ∧ ∃ c, To h' fp p l (cK k (i64 to) c g) ∧ Mod h fp h' fp
  else r = .bool false ∧ h' = h := by
 have hlt := t.lt
 have t0 := t
 obtain ⟨b, m, fl, vl, clk, rfl, rfl, hne, hb, hm, h1, h2, h3, h4, h5, h6, h7⟩ := t
 refine aO ?_
 simp only [F.nK, dF, aB, aT, if_true, aY]
 refine gF rfl (aL (aNq t0 k) ?_)
 rintro r h' ⟨rfl, rfl⟩
 rw [aHx h7]
 simp only [oO, aB, aY, aT, Bool.false_eq_true, if_false]
 by_cases ha : atN k g = fr
 · have e1 : (atN k g != fr) = false := by simp [ha]
   simp only [e1, cW, aB, aT, if_true, aY, Bool.false_eq_true, if_false]
   by_cases hb1 : to < fr
   · have e2 : decide (to < fr) = true := by simpa using hb1
     simp only [e2, Bool.true_eq_false, if_false, aB, if_true]
     refine lQ (by decide) ?_
     simp only [aT, Bool.true_eq_false, if_false, aB, aY, if_true, aF]
     rw [if_neg (by omega)]
     exact ⟨trivial, trivial⟩
   · have e2 : decide (to < fr) = false := by simpa using hb1
     simp only [e2, if_true, aB, Bool.false_eq_true, if_false]
     refine gF rfl (aL (aGm t0) ?_)
     rintro r h' ⟨rfl, rfl⟩
     simp only [iH, aB, aT, if_true, aY, Bool.false_eq_true, if_false]
     by_cases hc : to > (l.length : Int)
     · have e3 : decide (to > (l.length : Int)) = true := by simpa using hc
       simp only [e3, aF, if_true]
       rw [if_neg (by omega)]
       exact ⟨trivial, trivial⟩
     · have e3 : decide (to > (l.length : Int)) = false := by simpa using hc
       simp only [e3, aF, Bool.false_eq_true, if_false, bK, aB, bH, bC, aG h1, Nat.zero_add, List.getElem?_cons_succ, List.getElem?_cons_zero, aA7 h2]
       have fin : (bE k g).isSome = true ∨ g.length < 16 → kH (cQ (some (.string, (some (.int .i64 0)))) (.map (some m)) (str k) (i64 to) h') fun _ h =>
        if atN k g = fr ∧ fr ≤ to ∧ to ≤ ↑l.length ∧ ((bE k g).isSome = true ∨ g.length < 16) then (Value.bool true : V) = .bool true ∧ ∃ c, To h (b :: m :: fl) (ptr b 0) l (cK k (i64 to) c g) ∧ Mod h' (b :: m :: fl) h (b :: m :: fl)
        else (Value.bool true : V) = .bool false ∧ h = h' := by
        intro hs
        rw [aNt h2]
        simp only [bR]
        rw [if_pos ⟨ha, by omega, by omega, hs⟩]
        refine ⟨trivial, clk, ⟨b, m, fl, vl, (if bE k g = none then clk + 1 else clk), rfl, rfl, hne, by simpa using hb, by simpa using hm, ?_, ?_, ?_, h4, h5, ⟨aBq h6.1, aNh h6.2⟩, ?_⟩, by simp, fun x hx hn => ?_, fun x hx => .inl hx, fun x hx => by simpa using hlt x hx⟩
        · simp [hne, h1]
        · simp
        · exact h3.same (by simp) fun x hx => by
           have : x ≠ m := fun e => h5 (e ▸ hx)
           simp [this]
        · intro e he
          rcases aK1 he with he | he
          · exact h7 e he
          · exact ⟨to, he⟩
        · have : x ≠ m := fun e => hn (by simp [e])
          simp [this]
       cases hk : bE k g with
       | some v =>
        rw [hk] at fin
        simp only [bQ, List.getElem?_toArray, List.getElem?_cons_zero, List.getElem?_cons_succ, aB, Option.isSome_some, dB, Bool.not_true, aT, Bool.false_eq_true, if_false, aY, if_true, aF]
        simpa using fin (.inl rfl)
       | none =>
        rw [hk] at fin
        have lm : bI .map (.map (some m)) h' = some (i64 g.length) := by simp [bI, h2]
        simp only [bQ, List.getElem?_toArray, List.getElem?_cons_zero, List.getElem?_cons_succ, aB, Option.isSome_none, dB, Bool.not_false, aT, if_true, bK, bH, bC, aG h1, Nat.zero_add, lm, fY, aY, aF]
        by_cases h16 : (g.length : Int) ≥ 16
        · have e4 : decide ((g.length : Int) ≥ 16) = true := by simpa using h16
          simp only [e4, if_true]
          rw [if_neg (by simp; omega)]
          exact ⟨trivial, trivial⟩
        · have e4 : decide ((g.length : Int) ≥ 16) = false := by simpa using h16
          simp only [e4, Bool.false_eq_true, if_false]
          simpa using fin (.inr (by omega))
 · have e1 : (atN k g != fr) = true := by simpa using ha
   simp only [e1, Bool.true_eq_false, if_false, aB, aT, if_true, aY]
   refine lQ (by decide) ?_
   simp only [aT, Bool.true_eq_false, if_false, aB, aY, if_true, aF]
   rw [if_neg (by omega)]
   exact ⟨trivial, trivial⟩
theorem Sl.mid {fp : List Nat} {v : V} {es n : Nat} {cs : List V} (s : Sl h fp v es n cs) {a z : Nat} {t t' : IntKind} (ha : a < z) (hz : z ≤ n) :
 ∃ v', cI (.slice es) v (some (.int t a)) (some (.int t' z)) none h = some v' ∧ (∃ b, aC .slice .eql true v' (.slice none 0 0) h = some (.bool b) ∧ b = false) ∧
  (∀ o, dW v' = some (z - a) ∧ dR es v' (h.new o) = some ((cs.drop (a * es)).take ((z - a) * es))) := by
 obtain ⟨h0, ⟨rfl, rfl, rfl⟩ | ⟨b, c, all, rfl, rfl, hb, h1, h2, h3, h4⟩⟩ := s
 · omega
 · have hsl : cI (.slice es) (.slice (some ⟨b, 0, none⟩) n c) (some (.int t a)) (some (.int t' z)) none h = some (.slice (some ⟨b, 0 + a * es, none⟩) (z - a) (if a = 0 then c else c - 2 * a)) := by
    have e1 : (z : Int) ≤ ((c / 2 : Nat) : Int) := by omega
    have e2 : (a : Int) ≤ (z : Int) := by omega
    have e3 : a < c / 2 := by omega
    simp only [cI, h2, if_true, cL, dQ, Int.natCast_nonneg, true_and, if_pos e1, if_pos e2, Int.toNat_natCast]
    by_cases a0 : a = 0
    · subst a0; simp
    · rw [if_neg a0, if_pos e3, if_neg a0]
   refine ⟨_, hsl, ⟨false, rfl, rfl⟩, fun o => ⟨rfl, ?_⟩⟩
   have hne : b ≠ h.next := Nat.ne_of_lt hb
   have h2' : (h.new o).get b = some (.cells all es .rw) := by simp [hne, h2]
   show (h.new o).rdN b (0 + a * es) ((z - a) * es) = _
   have l1 : a * es ≤ z * es := Nat.mul_le_mul_right _ (by omega)
   have l2 : z * es ≤ n * es := Nat.mul_le_mul_right _ hz
   have l3 : n * es ≤ all.length := Nat.le_trans (Nat.mul_le_mul_right _ h1) h3
   rw [mL h2', Nat.sub_mul, if_pos (by omega), ← h4, Nat.zero_add, List.drop_take, List.take_take]
   congr 2
   omega
theorem aWx (t : To h fp p l g) (k : ByteArray) (hk : 0 ≤ atN k g ∧ atN k g ≤ l.length) (most : Int) (hsz : l.length ≤ 1000000) :
 cl (F.iY E) [p, str k, i64 most] h fun r h' => ∃ fp', Ts h' fp' r ((l.drop (atN k g).toNat).take (min (max most 0) (l.length - atN k g)).toNat) ∧ Mod h [] h' fp' := by
 have t0 := t
 obtain ⟨b, m, fl, vl, clk, rfl, rfl, hne, hb, hm, h1, h2, h3, h4, h5, h6, h7⟩ := t
 refine aO ?_
 simp only [F.iY]
 refine aL (aNq t0 k) ?_
 rintro r h' ⟨rfl, rfl⟩
 rw [aHx h7]
 simp only [max2, aB]
 refine aL (aGm t0) ?_
 rintro r h' ⟨rfl, rfl⟩
 generalize atN k g = a at hk
 rw [yX _ _ (by omega) (by omega)]
 simp only [aB, min2, pS, aF]
 generalize hn : min (max most 0) ((l.length : Int) - a) = n
 by_cases hn0 : n ≤ 0
 · simp only [hn0, decide_true, if_true]
   refine ⟨[], ?_, Mod.refl (by simp)⟩
   rw [show n.toNat = 0 by omega]
   exact Sl.nil
 · simp only [hn0, decide_false, Bool.false_eq_true, if_false, bK, aB, bH, bC, aG h1, Nat.zero_add, List.getElem?_cons_zero]
   rw [dN a n (by omega) (by omega), aB]
   obtain ⟨v', e1, ⟨bb, e2, rfl⟩, e3⟩ := Sl.mid h3 (t := .i64) (t' := .i64) (a := a.toNat) (z := (a + n).toNat) (by omega) (by omega)
   rw [show ((a.toNat : Nat) : Int) = a by omega, show (((a + n).toNat : Nat) : Int) = a + n by omega] at e1
   rw [e1, aB]
   have hl : ((l.map str).drop (a.toNat * 1)).take (((a + n).toNat - a.toNat) * 1) = ((l.drop a.toNat).take n.toNat).map str := by
    rw [List.map_take, List.map_drop, Nat.mul_one, Nat.mul_one, show (a + n).toNat - a.toNat = n.toNat by omega]
   refine aL (aIc (n := (a + n).toNat - a.toNat) (new := ((l.drop a.toNat).take n.toNat).map str) ⟨false, e2, fun h => by cases h⟩ (fun o => by rw [← hl]; exact e3 o) (by simp; omega) (aNj _) (by omega)) ?_
   rintro r h'' ⟨fp', s, d⟩
   refine ⟨fp', ?_, d⟩
   have hlen : ((l.drop a.toNat).take n.toNat).length = (a + n).toNat - a.toNat := by simp; omega
   unfold Ts
   rw [hlen]
   exact s
end Go.Abs
namespace Go.Abs
open Go
def Ro (N : Nat) (h : aA) (v : V) (es n : Nat) (cs : List V) : Prop :=
 cs.length = n * es ∧ N ≤ h.next ∧ ((v = .slice none 0 0 ∧ n = 0) ∨
  ∃ b o c all, v = .slice (some ⟨b, o, none⟩) n c ∧ b < N ∧ n ≤ c / 2 ∧ h.get b = some (.cells all es .ro) ∧ (all.drop o).take (n * es) = cs)
variable {N : Nat} {h h' : aA} {v : V} {es n : Nat} {cs : List V} {fp fp' : List Nat}
end Go.Abs
namespace Go.Abs
open Go
theorem uP (a : ByteArray) : a.toList = a.data.toList := by first | exact ByteArray.toList_eq a | exact Go.ByteArray.toList_eq a
theorem aH0 (a b : ByteArray) : (a.toList == b.toList) = decide (a = b) := by
 rw [uP, uP]
 by_cases h : a = b
 · subst h; simp
 · have : ¬ a.data.toList = b.data.toList := fun e => h (by cases a; cases b; exact congrArg ByteArray.mk (Array.ext' e))
   rw [beq_eq_false_iff_ne.2 this]
   simp [h]
variable {N : Nat} {h h' : aA} {v : V} {es n : Nat} {cs : List V} {fp fp' : List Nat}
theorem wF (k : EqK) (c : Bool) (a b : ByteArray) : aC k .eql c (str a) (str b) h = some (.bool (decide (a = b))) := by
 rw [sV]
 simp only [pQ, aH0]
theorem wG (k : EqK) (c : Bool) (a b : ByteArray) : aC k .neq c (str a) (str b) h = some (.bool (!decide (a = b))) := by
 rw [sV]
 simp only [pQ, aH0]
end Go.Abs
namespace Go.Abs
open Go
variable {E : FE} {N : Nat} {h h' : aA} {v : V} {fp fp' : List Nat} {l : List ByteArray}
def Rdt (h : aA) (v : V) (l : List ByteArray) : Prop :=
 bI .slice v h = some (i64 l.length) ∧ ∀ (i : Nat) (s : ByteArray), l[i]? = some s → ∃ b o, bG (.slice 1) v (i64 i) = some (ptr b o) ∧ h.rd b o = some (str s)
theorem Ts.rdt (s : Ts h fp v l) : Rdt h v l := by
 refine ⟨Sl.len s, fun i x hi => ?_⟩
 obtain ⟨hlt, hx⟩ := List.getElem?_eq_some_iff.1 hi
 obtain ⟨h0, ⟨rfl, hn, rfl⟩ | ⟨b, c, all, rfl, rfl, hb, h1, h2, h3, h4⟩⟩ := s
 · omega
 · refine ⟨b, 0 + i * 1, ?_, ?_⟩
   · have : (0 : Int) ≤ i ∧ (i : Int) < l.length := by omega
     simp only [bG, if_pos this, Int.toNat_natCast]
   · rw [aG h2]
     have : (all.take (l.length * 1))[i]? = (l.map str)[i]? := by rw [h4]
     rw [List.getElem?_take, if_pos (by omega)] at this
     rw [Nat.zero_add, Nat.mul_one, this]
     simp [hi]
end Go.Abs

/- Specs on abstract heaps, part 27: numbers that are read. -/
import Derived.Test.YtldjlkbjbkielaaGreatDoorVpaw
import Derived.Test.YtldjlkbjbkielaaGreatDoorVpau
import Derived.Test.YtldjlkbjbkielaaGreatDoorVpas
set_option linter.unusedSimpArgs false
set_option linter.unusedVariables false
namespace Go.Abs
open Go Go.Proofs
variable {E : FE} {h : aA}
def sZ : List UInt8 := [48, 49, 50, 51, 52, 53, 54, 55, 56, 57]
def gS (c : UInt8) : Bool := decide (48 ≤ c.toNat) && decide (c.toNat ≤ 57)
theorem aQ9 (c : UInt8) : sZ.contains c = gS c := by
 have : ∀ n : Fin 256, sZ.contains (UInt8.ofNat n.val) = gS (UInt8.ofNat n.val) := by decide +kernel
 have hc : c.toNat < 256 := c.toNat_lt
 have h := this ⟨c.toNat, hc⟩
 have e : UInt8.ofNat c.toNat = c := UInt8.ofNat_toNat
 rw [e] at h
 exact h
def vU (acc : Nat) : List UInt8 → Nat
 | [] => acc
 | c :: l => vU (acc * 10 + (c.toNat - 48)) l
theorem aLn (c : UInt8) (l : List UInt8) (acc k : Nat) (hd : (c :: l).all gS = true) (h : acc < 10 ^ k) : acc * 10 + (c.toNat - 48) < 10 ^ (k + 1) := by
 simp only [List.all_cons, Bool.and_eq_true] at hd
 have h1 := hd.1
 simp only [gS, Bool.and_eq_true, decide_eq_true_eq] at h1
 rw [Nat.pow_succ]
 omega
theorem aUl (l : List UInt8) : ∀ (acc k : Nat), l.all gS = true → acc < 10 ^ k → vU acc l < 10 ^ (k + l.length) := by
 induction l with
 | nil =>
  intro acc k _ h
  exact h
 | cons c l ih =>
  intro acc k hd h
  have h2 := aLn c l acc k hd h
  simp only [List.all_cons, Bool.and_eq_true] at hd
  have := ih _ (k + 1) hd.2 h2
  have e : k + (l.length + 1) = k + 1 + l.length := by omega
  rw [List.length_cons, e]
  exact this
theorem aL9 {k : Nat} (h : k ≤ 13) : 10 ^ k ≤ 10 ^ 13 := Nat.pow_le_pow_right (by decide) h
theorem aWt : (10 : Nat) ^ 13 = 10000000000000 := by decide
theorem aU0 (c : UInt8) (l : List UInt8) (M acc : Nat) (hc : gS c = true) (h1 : acc * 10 + (c.toNat - 48) < 10000000000000) (hM : 10000000000000 ≤ M) : Lib.parseUintM M acc (c :: l) = Lib.parseUintM M (acc * 10 + (c.toNat - 48)) l := by
 simp only [gS, Bool.and_eq_true, decide_eq_true_eq] at hc
 rw [Lib.parseUintM, if_pos hc, if_neg (by omega), if_neg (by omega)]
theorem aUz (M : Nat) (hM : 10000000000000 ≤ M) (l : List UInt8) : ∀ (acc k : Nat), l.all gS = true → acc < 10 ^ k → k + l.length ≤ 13 → Lib.parseUintM M acc l = .ok (vU acc l) := by
 induction l with
 | nil =>
  intro acc k _ _ _
  rfl
 | cons c l ih =>
  intro acc k hd h hk
  have h2 := aLn c l acc k hd h
  have hk' : k + 1 + l.length ≤ 13 := by rw [List.length_cons] at hk; omega
  have h3 := aL9 (k := k + 1) (by omega)
  rw [aWt] at h3
  simp only [List.all_cons, Bool.and_eq_true] at hd
  rw [aU0 c l M acc hd.1 (Nat.lt_of_lt_of_le h2 h3) hM]
  exact ih _ (k + 1) hd.2 h2 hk'
theorem aUy {c : UInt8} {l : List UInt8} (hd : (c :: l).all gS = true) (hl : (c :: l).length ≤ 12) : Lib.parseIntB 64 (c :: l) = .ok (vU 0 (c :: l) : Nat) := by
 have h1 := hd
 simp only [List.all_cons, Bool.and_eq_true] at h1
 have h1 := h1.1
 simp only [gS, Bool.and_eq_true, decide_eq_true_eq] at h1
 have h2 := aUz (2 ^ 64 - 1) (by decide) (c :: l) 0 0 hd (by decide) (by omega)
 have h3 := aUl (c :: l) 0 0 hd (by decide)
 have h4 : 10 ^ (0 + (c :: l).length) ≤ 10 ^ 13 := aL9 (by omega)
 have h5 : (10 : Nat) ^ 13 = 10000000000000 := by decide
 have n1 : ¬ (c.toNat = 43 ∨ c.toNat = 45) := by omega
 have n2 : ¬ c.toNat = 45 := by omega
 have e1 : Lib.parseUintB 64 (c :: l) = .ok (vU 0 (c :: l)) := by
  unfold Lib.parseUintB
  rw [if_neg (by simp)]
  exact h2
 have h6 : (2 : Nat) ^ (64 - 1) = 9223372036854775808 := by decide
 unfold Lib.parseIntB
 simp only []
 rw [if_neg n1, e1]
 simp only [n2, not_false_eq_true, true_and, false_and, if_false]
 rw [if_neg (by omega)]
theorem dropWhile_nil {p : UInt8 → Bool} : ∀ {l : List UInt8}, l.dropWhile p = [] ↔ l.all p = true
 | [] => by simp
 | c :: l => by
  simp only [List.dropWhile_cons, List.all_cons]
  cases hc : p c
  · simp
  · simp [dropWhile_nil]
theorem aIr {p : UInt8 → Bool} : ∀ {l : List UInt8}, (l.dropWhile p).all p = true → l.dropWhile p = []
 | [], _ => rfl
 | c :: l, h => by
  simp only [List.dropWhile_cons] at h ⊢
  cases hc : p c
  · rw [hc] at h
    simp [hc] at h
  · rw [hc] at h
    simp only [if_true] at h ⊢
    exact aIr h
theorem aW2 (l : List UInt8) : Lib.trimS l sZ = [] ↔ l.all gS = true := by
 have e : (fun c => sZ.contains c) = gS := funext aQ9
 unfold Lib.trimS Lib.trimLeftS Lib.trimRightS
 rw [e, dropWhile_nil, List.all_reverse]
 constructor
 · intro h
   have h2 := dropWhile_nil.1 (aIr h)
   rwa [List.all_reverse] at h2
 · intro h
   have : l.reverse.dropWhile gS = [] := dropWhile_nil.2 (by rw [List.all_reverse]; exact h)
   rw [this]
   rfl
def iT (s : ByteArray) : Bool := !s.data.toList.isEmpty && decide (s.data.toList.length ≤ 12) && s.data.toList.all gS && !(s.data.toList.head? == some 48 && decide (s.data.toList.length > 1))
def hG (s : ByteArray) : Nat := if iT s then vU 0 s.data.toList else 0
theorem fV (s : ByteArray) (hs : s.size ≤ 9223372036854775807) : cl (Go.Abs.F.fV E) [str s] h fun r h' => h' = h ∧ r = .tuple #[i64 (hG s), .bool (iT s)] := by
 refine aO ?_
 obtain ⟨⟨l⟩⟩ := s
 have esz : (⟨⟨l⟩⟩ : ByteArray).size = l.length := rfl
 have ln : ∀ (x : ByteArray) (h : aA), bI .str (str x) h = some (i64 (x.size : Nat)) := fun _ _ => rfl
 simp only [Go.Abs.F.fV, wF, aB]
 cases l with
 | nil =>
  have e1 : iT ⟨⟨[]⟩⟩ = false := rfl
  simp only [hG, e1, show decide ((⟨⟨[]⟩⟩ : ByteArray) = ⟨#[]⟩) = true from rfl, aT, if_true, Bool.true_eq_false, Bool.false_eq_true, if_false, aB, fN, aY, aF]
  refine lQ (by decide) ?_
  simp only [aT, Bool.true_eq_false, Bool.false_eq_true, if_false, aB, aY, if_true, fN, aF]
  exact ifV.yes rfl ⟨trivial, rfl⟩
 | cons c l =>
  have e0 : decide ((⟨⟨c :: l⟩⟩ : ByteArray) = ⟨#[]⟩) = false := by
   simp
  have hlen : (⟨⟨c :: l⟩⟩ : ByteArray).size = l.length + 1 := rfl
  simp only [e0, aT, if_true, aB, ln, hlen, iH, aY, Bool.false_eq_true, if_false]
  by_cases h12 : l.length + 1 ≤ 12
  · have hx : ¬ (((l.length + 1 : Nat) : Int) > 12) := by omega
    simp only [hx, decide_false, aT, if_true, aB]
    refine gF rfl (aO ⟨by simpa using (by omega : l.length + 1 ≤ 1000000), by decide, by decide, ?_⟩)
    change kv (gdV (.bool false) false (aC .bad .neq true (str ⟨(Lib.trimS (c :: l) sZ).toArray⟩) (str ⟨#[]⟩) h)) _
    have et : decide ((⟨(Lib.trimS (c :: l) sZ).toArray⟩ : ByteArray) = ⟨#[]⟩) = (c :: l).all gS := by
     rw [Bool.eq_iff_iff, decide_eq_true_eq, ← aW2]
     constructor
     · intro h
       have h2 : (Lib.trimS (c :: l) sZ).toArray = #[] := congrArg ByteArray.data h
       simpa using h2
     · intro h
       rw [h]
    have ix : iL .str (str ⟨⟨c :: l⟩⟩) (.int .i64 0) = some (.int .u8 c.toNat) := rfl
    simp only [aT, if_true, wG, et, aB, aY]
    have enum : iT ⟨⟨c :: l⟩⟩ = ((c :: l).all gS && !(c == 48 && decide (l.length + 1 > 1))) := by
     simp [iT, h12]
    cases hd : (c :: l).all gS
    · have e1 : iT ⟨⟨c :: l⟩⟩ = false := by rw [enum, hd]; rfl
      simp only [hG, e1, hd, Bool.not_false, aT, fN, Bool.true_eq_false, Bool.false_eq_true, if_false, if_true, aB, aY, aF]
      exact ⟨trivial, rfl⟩
    · simp only [hd, Bool.not_true, aT, fN, Bool.true_eq_false, Bool.false_eq_true, if_false, if_true, aB, aY, ix, dS]
      have inn : aC .iface .eql true .nilIface .nilIface h = some (.bool true) := rfl
      have hp := aUy hd (by simpa using h12)
      have yes : iT ⟨⟨c :: l⟩⟩ = true → cl (Go.Abs.F.wH E) [str ⟨⟨c :: l⟩⟩, .int .i64 10, .int .i64 64] h fun v30 h1 => kv (bD v30 0) fun v31 => kv (bD v30 1) fun v32 => kv (aC .iface .eql true v32 .nilIface h1) fun v35 =>
       h1 = h ∧ Value.tuple #[v31, v35] = Value.tuple #[i64 (hG ⟨⟨c :: l⟩⟩), .bool (iT ⟨⟨c :: l⟩⟩)] := by
       intro e1
       refine aO ⟨_, by simpa using (by omega : l.length + 1 ≤ 1000000), hp, ?_⟩
       simp only [bQ, List.getElem?_toArray, List.getElem?_cons_zero, List.getElem?_cons_succ, aB, inn, hG, e1, if_true]
       exact ⟨trivial, trivial⟩
      have hc48 : (((c.toNat : Int) == 48) : Bool) = (c == 48) := by
       rw [Bool.eq_iff_iff, beq_iff_eq, beq_iff_eq]
       constructor
       · intro h; apply UInt8.toNat_inj.1; have : (48 : UInt8).toNat = 48 := rfl; omega
       · intro h; rw [h]; rfl
      rw [hc48]
      cases hc : (c == 48)
      · simp only [Bool.false_eq_true, if_false, aB, aF]
        exact yes (by rw [enum, hd, hc]; rfl)
      · simp only [if_true, aB, ln, hlen, iH, aF]
        by_cases h1 : l.length + 1 > 1
        · have h1' : ((l.length + 1 : Nat) : Int) > 1 := by omega
          have e1 : iT ⟨⟨c :: l⟩⟩ = false := by rw [enum, hd, hc]; simp; omega
          simp only [h1', decide_true, if_true, hG, e1, Bool.false_eq_true, if_false]
          exact ⟨trivial, rfl⟩
        · have h1' : ¬ ((l.length + 1 : Nat) : Int) > 1 := by omega
          simp only [h1', decide_false, Bool.false_eq_true, if_false]
          exact yes (by rw [enum, hd, hc]; simpa using h1)
  · have hx : ((l.length + 1 : Nat) : Int) > 12 := by omega
    have e1 : iT ⟨⟨c :: l⟩⟩ = false := by
     simp [iT]; omega
    simp only [hx, decide_true, hG, e1]
    refine lQ (by decide) ?_
    simp only [aT, Bool.true_eq_false, Bool.false_eq_true, if_false, aB, aY, if_true, fN, aF]
    exact ⟨trivial, rfl⟩
end Go.Abs
namespace Go.Abs
open Go
variable {E E0 : FE} {h : aA} {X : Fr} {L : List Pl} {p pw : V} {most next : Int} {items lost : List Msg}
theorem aMm (most now ticks : Int) : ∀ l : List Msg, (cH most now ticks l).1.length + (cH most now ticks l).2.1.length = l.length
 | [] => rfl
 | m :: l => by
  have ih := aMm most now ticks l
  simp only [cH]
  split
  · simp; omega
  · split
    · simp; omega
    · simp
end Go.Abs

/- Specs on abstract heaps, part 27: numbers that are read. -/
import Derived.Test.YtldjlkbjbkielaaGreatDoorVlaw
import Derived.Test.YtldjlkbjbkielaaGreatDoorVlau
import Derived.Test.YtldjlkbjbkielaaGreatDoorVlas
set_option linter.unusedSimpArgs false
set_option linter.unusedVariables false
namespace Go.Abs
open Go Go.Proofs
variable {E : FE} {h : AHeap}
def digs : List UInt8 := [48, 49, 50, 51, 52, 53, 54, 55, 56, 57]
def isDig (c : UInt8) : Bool := decide (48 ≤ c.toNat) && decide (c.toNat ≤ 57)
theorem digs_iff (c : UInt8) : digs.contains c = isDig c := by
 have : ∀ n : Fin 256, digs.contains (UInt8.ofNat n.val) = isDig (UInt8.ofNat n.val) := by decide +kernel
 have hc : c.toNat < 256 := c.toNat_lt
 have h := this ⟨c.toNat, hc⟩
 have e : UInt8.ofNat c.toNat = c := UInt8.ofNat_toNat
 rw [e] at h
 exact h
def numV (acc : Nat) : List UInt8 → Nat
 | [] => acc
 | c :: l => numV (acc * 10 + (c.toNat - 48)) l
theorem numV_step (c : UInt8) (l : List UInt8) (acc k : Nat) (hd : (c :: l).all isDig = true) (h : acc < 10 ^ k) : acc * 10 + (c.toNat - 48) < 10 ^ (k + 1) := by
 simp only [List.all_cons, Bool.and_eq_true] at hd
 have h1 := hd.1
 simp only [isDig, Bool.and_eq_true, decide_eq_true_eq] at h1
 rw [Nat.pow_succ]
 omega
theorem numV_lt (l : List UInt8) : ∀ (acc k : Nat), l.all isDig = true → acc < 10 ^ k → numV acc l < 10 ^ (k + l.length) := by
 induction l with
 | nil =>
  intro acc k _ h
  exact h
 | cons c l ih =>
  intro acc k hd h
  have h2 := numV_step c l acc k hd h
  simp only [List.all_cons, Bool.and_eq_true] at hd
  have := ih _ (k + 1) hd.2 h2
  have e : k + (l.length + 1) = k + 1 + l.length := by omega
  rw [List.length_cons, e]
  exact this
theorem pow_le13 {k : Nat} (h : k ≤ 13) : 10 ^ k ≤ 10 ^ 13 := Nat.pow_le_pow_right (by decide) h
theorem ten13 : (10 : Nat) ^ 13 = 10000000000000 := by decide
theorem parse_step (c : UInt8) (l : List UInt8) (M acc : Nat) (hc : isDig c = true) (h1 : acc * 10 + (c.toNat - 48) < 10000000000000) (hM : 10000000000000 ≤ M) : Lib.parseUintM M acc (c :: l) = Lib.parseUintM M (acc * 10 + (c.toNat - 48)) l := by
 simp only [isDig, Bool.and_eq_true, decide_eq_true_eq] at hc
 rw [Lib.parseUintM, if_pos hc, if_neg (by omega), if_neg (by omega)]
theorem parse_ok (M : Nat) (hM : 10000000000000 ≤ M) (l : List UInt8) : ∀ (acc k : Nat), l.all isDig = true → acc < 10 ^ k → k + l.length ≤ 13 → Lib.parseUintM M acc l = .ok (numV acc l) := by
 induction l with
 | nil =>
  intro acc k _ _ _
  rfl
 | cons c l ih =>
  intro acc k hd h hk
  have h2 := numV_step c l acc k hd h
  have hk' : k + 1 + l.length ≤ 13 := by rw [List.length_cons] at hk; omega
  have h3 := pow_le13 (k := k + 1) (by omega)
  rw [ten13] at h3
  simp only [List.all_cons, Bool.and_eq_true] at hd
  rw [parse_step c l M acc hd.1 (Nat.lt_of_lt_of_le h2 h3) hM]
  exact ih _ (k + 1) hd.2 h2 hk'
theorem parseInt_ok {c : UInt8} {l : List UInt8} (hd : (c :: l).all isDig = true) (hl : (c :: l).length ≤ 12) : Lib.parseIntB 64 (c :: l) = .ok (numV 0 (c :: l) : Nat) := by
 have h1 := hd
 simp only [List.all_cons, Bool.and_eq_true] at h1
 have h1 := h1.1
 simp only [isDig, Bool.and_eq_true, decide_eq_true_eq] at h1
 have h2 := parse_ok (2 ^ 64 - 1) (by decide) (c :: l) 0 0 hd (by decide) (by omega)
 have h3 := numV_lt (c :: l) 0 0 hd (by decide)
 have h4 : 10 ^ (0 + (c :: l).length) ≤ 10 ^ 13 := pow_le13 (by omega)
 have h5 : (10 : Nat) ^ 13 = 10000000000000 := by decide
 have n1 : ¬ (c.toNat = 43 ∨ c.toNat = 45) := by omega
 have n2 : ¬ c.toNat = 45 := by omega
 have e1 : Lib.parseUintB 64 (c :: l) = .ok (numV 0 (c :: l)) := by
  unfold Lib.parseUintB
  rw [if_neg (by simp)]
  exact h2
 have h6 : (2 : Nat) ^ (64 - 1) = 9223372036854775808 := by decide
 unfold Lib.parseIntB
 simp only []
 rw [if_neg n1, e1]
 simp only [n2, not_false_eq_true, true_and, false_and, if_false]
 rw [if_neg (by omega)]
theorem dropWhile_nil {p : UInt8 → Bool} : ∀ {l : List UInt8}, l.dropWhile p = [] ↔ l.all p = true
 | [] => by simp
 | c :: l => by
  simp only [List.dropWhile_cons, List.all_cons]
  cases hc : p c
  · simp
  · simp [dropWhile_nil]
theorem dropWhile_all {p : UInt8 → Bool} : ∀ {l : List UInt8}, (l.dropWhile p).all p = true → l.dropWhile p = []
 | [], _ => rfl
 | c :: l, h => by
  simp only [List.dropWhile_cons] at h ⊢
  cases hc : p c
  · rw [hc] at h
    simp [hc] at h
  · rw [hc] at h
    simp only [if_true] at h ⊢
    exact dropWhile_all h
theorem trim_nil (l : List UInt8) : Lib.trimS l digs = [] ↔ l.all isDig = true := by
 have e : (fun c => digs.contains c) = isDig := funext digs_iff
 unfold Lib.trimS Lib.trimLeftS Lib.trimRightS
 rw [e, dropWhile_nil, List.all_reverse]
 constructor
 · intro h
   have h2 := dropWhile_nil.1 (dropWhile_all h)
   rwa [List.all_reverse] at h2
 · intro h
   have : l.reverse.dropWhile isDig = [] := dropWhile_nil.2 (by rw [List.all_reverse]; exact h)
   rw [this]
   rfl
def numOk (s : ByteArray) : Bool := !s.data.toList.isEmpty && decide (s.data.toList.length ≤ 12) && s.data.toList.all isDig && !(s.data.toList.head? == some 48 && decide (s.data.toList.length > 1))
def numT (s : ByteArray) : Nat := if numOk s then numV 0 s.data.toList else 0
theorem space_number (s : ByteArray) (hs : s.size ≤ 9223372036854775807) : cl (Go.Abs.F.space_number E) [str s] h fun r h' => h' = h ∧ r = .tuple #[i64 (numT s), .bool (numOk s)] := by
 refine cl_of ?_
 obtain ⟨⟨l⟩⟩ := s
 have esz : (⟨⟨l⟩⟩ : ByteArray).size = l.length := rfl
 have ln : ∀ (x : ByteArray) (h : AHeap), lenD .str (str x) h = some (i64 (x.size : Nat)) := fun _ _ => rfl
 simp only [Go.Abs.F.space_number, str_eql, kv_some]
 cases l with
 | nil =>
  have e1 : numOk ⟨⟨[]⟩⟩ = false := rfl
  simp only [numT, e1, show decide ((⟨⟨[]⟩⟩ : ByteArray) = ⟨#[]⟩) = true from rfl, gdV_bool, if_true, Bool.true_eq_false, Bool.false_eq_true, if_false, kv_some, gdV_gone, pickV_bool, ifV_bool]
  refine gdC_no (by decide) ?_
  simp only [gdV_bool, Bool.true_eq_false, Bool.false_eq_true, if_false, kv_some, pickV_bool, if_true, gdV_gone, ifV_bool]
  exact ifV.yes rfl ⟨trivial, rfl⟩
 | cons c l =>
  have e0 : decide ((⟨⟨c :: l⟩⟩ : ByteArray) = ⟨#[]⟩) = false := by
   simp
  have hlen : (⟨⟨c :: l⟩⟩ : ByteArray).size = l.length + 1 := rfl
  simp only [e0, gdV_bool, if_true, kv_some, ln, hlen, bin_gtr, pickV_bool, Bool.false_eq_true, if_false]
  by_cases h12 : l.length + 1 ≤ 12
  · have hx : ¬ (((l.length + 1 : Nat) : Int) > 12) := by omega
    simp only [hx, decide_false, gdV_bool, if_true, kv_some]
    refine gdC_yes rfl (cl_of ⟨by simpa using (by omega : l.length + 1 ≤ 1000000), by decide, by decide, ?_⟩)
    change kv (gdV (.bool false) false (binD .bad .neq true (str ⟨(Lib.trimS (c :: l) digs).toArray⟩) (str ⟨#[]⟩) h)) _
    have et : decide ((⟨(Lib.trimS (c :: l) digs).toArray⟩ : ByteArray) = ⟨#[]⟩) = (c :: l).all isDig := by
     rw [Bool.eq_iff_iff, decide_eq_true_eq, ← trim_nil]
     constructor
     · intro h
       have h2 : (Lib.trimS (c :: l) digs).toArray = #[] := congrArg ByteArray.data h
       simpa using h2
     · intro h
       rw [h]
    have ix : indexD .str (str ⟨⟨c :: l⟩⟩) (.int .i64 0) = some (.int .u8 c.toNat) := rfl
    simp only [gdV_bool, if_true, str_neq, et, kv_some, pickV_bool]
    have enum : numOk ⟨⟨c :: l⟩⟩ = ((c :: l).all isDig && !(c == 48 && decide (l.length + 1 > 1))) := by
     simp [numOk, h12]
    cases hd : (c :: l).all isDig
    · have e1 : numOk ⟨⟨c :: l⟩⟩ = false := by rw [enum, hd]; rfl
      simp only [numT, e1, hd, Bool.not_false, gdV_bool, gdV_gone, Bool.true_eq_false, Bool.false_eq_true, if_false, if_true, kv_some, pickV_bool, ifV_bool]
      exact ⟨trivial, rfl⟩
    · simp only [hd, Bool.not_true, gdV_bool, gdV_gone, Bool.true_eq_false, Bool.false_eq_true, if_false, if_true, kv_some, pickV_bool, ix, bin_eql]
      have inn : binD .iface .eql true .nilIface .nilIface h = some (.bool true) := rfl
      have hp := parseInt_ok hd (by simpa using h12)
      have yes : numOk ⟨⟨c :: l⟩⟩ = true → cl (Go.Abs.F.strconv_ParseInt E) [str ⟨⟨c :: l⟩⟩, .int .i64 10, .int .i64 64] h fun v30 h1 => kv (aExtract v30 0) fun v31 => kv (aExtract v30 1) fun v32 => kv (binD .iface .eql true v32 .nilIface h1) fun v35 =>
       h1 = h ∧ Value.tuple #[v31, v35] = Value.tuple #[i64 (numT ⟨⟨c :: l⟩⟩), .bool (numOk ⟨⟨c :: l⟩⟩)] := by
       intro e1
       refine cl_of ⟨_, by simpa using (by omega : l.length + 1 ≤ 1000000), hp, ?_⟩
       simp only [extract_tuple, List.getElem?_toArray, List.getElem?_cons_zero, List.getElem?_cons_succ, kv_some, inn, numT, e1, if_true]
       exact ⟨trivial, trivial⟩
      have hc48 : (((c.toNat : Int) == 48) : Bool) = (c == 48) := by
       rw [Bool.eq_iff_iff, beq_iff_eq, beq_iff_eq]
       constructor
       · intro h; apply UInt8.toNat_inj.1; have : (48 : UInt8).toNat = 48 := rfl; omega
       · intro h; rw [h]; rfl
      rw [hc48]
      cases hc : (c == 48)
      · simp only [Bool.false_eq_true, if_false, kv_some, ifV_bool]
        exact yes (by rw [enum, hd, hc]; rfl)
      · simp only [if_true, kv_some, ln, hlen, bin_gtr, ifV_bool]
        by_cases h1 : l.length + 1 > 1
        · have h1' : ((l.length + 1 : Nat) : Int) > 1 := by omega
          have e1 : numOk ⟨⟨c :: l⟩⟩ = false := by rw [enum, hd, hc]; simp; omega
          simp only [h1', decide_true, if_true, numT, e1, Bool.false_eq_true, if_false]
          exact ⟨trivial, rfl⟩
        · have h1' : ¬ ((l.length + 1 : Nat) : Int) > 1 := by omega
          simp only [h1', decide_false, Bool.false_eq_true, if_false]
          exact yes (by rw [enum, hd, hc]; simpa using h1)
  · have hx : ((l.length + 1 : Nat) : Int) > 12 := by omega
    have e1 : numOk ⟨⟨c :: l⟩⟩ = false := by
     simp [numOk]; omega
    simp only [hx, decide_true, numT, e1]
    refine gdC_no (by decide) ?_
    simp only [gdV_bool, Bool.true_eq_false, Bool.false_eq_true, if_false, kv_some, pickV_bool, if_true, gdV_gone, ifV_bool]
    exact ⟨trivial, rfl⟩
end Go.Abs
namespace Go.Abs
open Go
variable {E E0 : FE} {h : AHeap} {X : Fr} {L : List Pl} {p pw : V} {most next : Int} {items lost : List Msg}
theorem recvL_len (most now ticks : Int) : ∀ l : List Msg, (recvL most now ticks l).1.length + (recvL most now ticks l).2.1.length = l.length
 | [] => rfl
 | m :: l => by
  have ih := recvL_len most now ticks l
  simp only [recvL]
  split
  · simp; omega
  · split
    · simp; omega
    · simp
end Go.Abs

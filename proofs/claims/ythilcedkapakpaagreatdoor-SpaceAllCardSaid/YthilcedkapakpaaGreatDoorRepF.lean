/- Specs on abstract heaps, part 27: numbers that are read. -/
import Derived.Test.YthilcedkapakpaaGreatDoorRepE
set_option linter.unusedSimpArgs false
set_option linter.unusedVariables false
namespace Go.Abs
open Go Go.Proofs
variable {E : FE} {h : AHeap}

def digs : List UInt8 := [48, 49, 50, 51, 52, 53, 54, 55, 56, 57]
def isDig (c : UInt8) : Bool := decide (48 ≤ c.toNat) && decide (c.toNat ≤ 57)

theorem digs_iff (c : UInt8) : digs.contains c = isDig c := by
  have : ∀ n : Fin 256, digs.contains (UInt8.ofNat n.val) = isDig (UInt8.ofNat n.val) := by decide +kernel
  have hc : c.toNat < 256 := c.toNat_lt
  have h := this ⟨c.toNat, hc⟩
  have e : UInt8.ofNat c.toNat = c := UInt8.ofNat_toNat
  rw [e] at h
  exact h

/-- What digits spell. -/
def numV (acc : Nat) : List UInt8 → Nat
  | [] => acc
  | c :: l => numV (acc * 10 + (c.toNat - 48)) l

theorem numV_step (c : UInt8) (l : List UInt8) (acc k : Nat) (hd : (c :: l).all isDig = true) (h : acc < 10 ^ k) : acc * 10 + (c.toNat - 48) < 10 ^ (k + 1) := by
  simp only [List.all_cons, Bool.and_eq_true] at hd
  have h1 := hd.1
  simp only [isDig, Bool.and_eq_true, decide_eq_true_eq] at h1
  rw [Nat.pow_succ]
  omega

theorem numV_lt (l : List UInt8) : ∀ (acc k : Nat), l.all isDig = true → acc < 10 ^ k → numV acc l < 10 ^ (k + l.length) := by
  induction l with
  | nil =>
    intro acc k _ h
    exact h
  | cons c l ih =>
    intro acc k hd h
    have h2 := numV_step c l acc k hd h
    simp only [List.all_cons, Bool.and_eq_true] at hd
    have := ih _ (k + 1) hd.2 h2
    have e : k + (l.length + 1) = k + 1 + l.length := by omega
    rw [List.length_cons, e]
    exact this

theorem pow_le13 {k : Nat} (h : k ≤ 13) : 10 ^ k ≤ 10 ^ 13 := Nat.pow_le_pow_right (by decide) h

theorem ten13 : (10 : Nat) ^ 13 = 10000000000000 := by decide

theorem parse_step (c : UInt8) (l : List UInt8) (M acc : Nat) (hc : isDig c = true) (h1 : acc * 10 + (c.toNat - 48) < 10000000000000) (hM : 10000000000000 ≤ M) : Lib.parseUintM M acc (c :: l) = Lib.parseUintM M (acc * 10 + (c.toNat - 48)) l := by
  simp only [isDig, Bool.and_eq_true, decide_eq_true_eq] at hc
  rw [Lib.parseUintM, if_pos hc, if_neg (by omega), if_neg (by omega)]

theorem parse_ok (M : Nat) (hM : 10000000000000 ≤ M) (l : List UInt8) : ∀ (acc k : Nat), l.all isDig = true → acc < 10 ^ k → k + l.length ≤ 13 → Lib.parseUintM M acc l = .ok (numV acc l) := by
  induction l with
  | nil =>
    intro acc k _ _ _
    rfl
  | cons c l ih =>
    intro acc k hd h hk
    have h2 := numV_step c l acc k hd h
    have hk' : k + 1 + l.length ≤ 13 := by rw [List.length_cons] at hk; omega
    have h3 := pow_le13 (k := k + 1) (by omega)
    rw [ten13] at h3
    simp only [List.all_cons, Bool.and_eq_true] at hd
    rw [parse_step c l M acc hd.1 (Nat.lt_of_lt_of_le h2 h3) hM]
    exact ih _ (k + 1) hd.2 h2 hk'

theorem parseInt_ok {c : UInt8} {l : List UInt8} (hd : (c :: l).all isDig = true) (hl : (c :: l).length ≤ 12) : Lib.parseIntB 64 (c :: l) = .ok (numV 0 (c :: l) : Nat) := by
  have h1 := hd
  simp only [List.all_cons, Bool.and_eq_true] at h1
  have h1 := h1.1
  simp only [isDig, Bool.and_eq_true, decide_eq_true_eq] at h1
  have h2 := parse_ok (2 ^ 64 - 1) (by decide) (c :: l) 0 0 hd (by decide) (by omega)
  have h3 := numV_lt (c :: l) 0 0 hd (by decide)
  have h4 : 10 ^ (0 + (c :: l).length) ≤ 10 ^ 13 := pow_le13 (by omega)
  have h5 : (10 : Nat) ^ 13 = 10000000000000 := by decide
  have n1 : ¬ (c.toNat = 43 ∨ c.toNat = 45) := by omega
  have n2 : ¬ c.toNat = 45 := by omega
  have e1 : Lib.parseUintB 64 (c :: l) = .ok (numV 0 (c :: l)) := by
    unfold Lib.parseUintB
    rw [if_neg (by simp)]
    exact h2
  have h6 : (2 : Nat) ^ (64 - 1) = 9223372036854775808 := by decide
  unfold Lib.parseIntB
  simp only []
  rw [if_neg n1, e1]
  simp only [n2, not_false_eq_true, true_and, false_and, if_false]
  rw [if_neg (by omega)]

theorem dropWhile_nil {p : UInt8 → Bool} : ∀ {l : List UInt8}, l.dropWhile p = [] ↔ l.all p = true
  | [] => by simp
  | c :: l => by
    simp only [List.dropWhile_cons, List.all_cons]
    cases hc : p c
    · simp
    · simp [dropWhile_nil]

theorem dropWhile_all {p : UInt8 → Bool} : ∀ {l : List UInt8}, (l.dropWhile p).all p = true → l.dropWhile p = []
  | [], _ => rfl
  | c :: l, h => by
    simp only [List.dropWhile_cons] at h ⊢
    cases hc : p c
    · rw [hc] at h
      simp [hc] at h
    · rw [hc] at h
      simp only [if_true] at h ⊢
      exact dropWhile_all h

theorem trim_nil (l : List UInt8) : Lib.trimS l digs = [] ↔ l.all isDig = true := by
  have e : (fun c => digs.contains c) = isDig := funext digs_iff
  unfold Lib.trimS Lib.trimLeftS Lib.trimRightS
  rw [e, dropWhile_nil, List.all_reverse]
  constructor
  · intro h
    have h2 := dropWhile_nil.1 (dropWhile_all h)
    rwa [List.all_reverse] at h2
  · intro h
    have : l.reverse.dropWhile isDig = [] := dropWhile_nil.2 (by rw [List.all_reverse]; exact h)
    rw [this]
    rfl

/-- Is a text a number? -/
def numOk (s : ByteArray) : Bool := !s.data.toList.isEmpty && decide (s.data.toList.length ≤ 12) && s.data.toList.all isDig && !(s.data.toList.head? == some 48 && decide (s.data.toList.length > 1))

/-- The number that a text is. -/
def numT (s : ByteArray) : Nat := if numOk s then numV 0 s.data.toList else 0

theorem numT_lt (s : ByteArray) : numT s < 10000000000000 := by
  unfold numT
  split
  · rename_i h
    simp only [numOk, Bool.and_eq_true, decide_eq_true_eq] at h
    have h3 := numV_lt s.data.toList 0 0 h.1.2 (by decide)
    have h4 : 10 ^ (0 + s.data.toList.length) ≤ 10 ^ 13 := pow_le13 (by omega)
    have h5 : (10 : Nat) ^ 13 = 10000000000000 := by decide
    omega
  · decide

theorem space_number (s : ByteArray) (hs : s.size ≤ 9223372036854775807) : cl (Go.Abs.F.space_number E) [str s] h fun r h' => h' = h ∧ r = .tuple #[i64 (numT s), .bool (numOk s)] := by
  refine cl_of ?_
  obtain ⟨⟨l⟩⟩ := s
  have esz : (⟨⟨l⟩⟩ : ByteArray).size = l.length := rfl
  have ln : ∀ (x : ByteArray) (h : AHeap), lenD .str (str x) h = some (i64 (x.size : Nat)) := fun _ _ => rfl
  simp only [Go.Abs.F.space_number, str_eql, kv_some]
  cases l with
  | nil =>
    have e1 : numOk ⟨⟨[]⟩⟩ = false := rfl
    simp only [numT, e1, show decide ((⟨⟨[]⟩⟩ : ByteArray) = ⟨#[]⟩) = true from rfl, gdV_bool, if_true, Bool.true_eq_false, Bool.false_eq_true, if_false, kv_some, gdV_gone, pickV_bool, ifV_bool]
    refine gdC_no (by decide) ?_
    simp only [gdV_bool, Bool.true_eq_false, Bool.false_eq_true, if_false, kv_some, pickV_bool, if_true, gdV_gone, ifV_bool]
    exact ifV.yes rfl ⟨trivial, rfl⟩
  | cons c l =>
    have e0 : decide ((⟨⟨c :: l⟩⟩ : ByteArray) = ⟨#[]⟩) = false := by
      simp
    have hlen : (⟨⟨c :: l⟩⟩ : ByteArray).size = l.length + 1 := rfl
    simp only [e0, gdV_bool, if_true, kv_some, ln, hlen, bin_gtr, pickV_bool, Bool.false_eq_true, if_false]
    by_cases h12 : l.length + 1 ≤ 12
    · have hx : ¬ (((l.length + 1 : Nat) : Int) > 12) := by omega
      simp only [hx, decide_false, gdV_bool, if_true, kv_some]
      refine gdC_yes rfl (cl_of ⟨by simpa using (by omega : l.length + 1 ≤ 1000000), by decide, by decide, ?_⟩)
      change kv (gdV (.bool false) false (binD .bad .neq true (str ⟨(Lib.trimS (c :: l) digs).toArray⟩) (str ⟨#[]⟩) h)) _
      have et : decide ((⟨(Lib.trimS (c :: l) digs).toArray⟩ : ByteArray) = ⟨#[]⟩) = (c :: l).all isDig := by
        rw [Bool.eq_iff_iff, decide_eq_true_eq, ← trim_nil]
        constructor
        · intro h
          have h2 : (Lib.trimS (c :: l) digs).toArray = #[] := congrArg ByteArray.data h
          simpa using h2
        · intro h
          rw [h]
      have ix : indexD .str (str ⟨⟨c :: l⟩⟩) (.int .i64 0) = some (.int .u8 c.toNat) := rfl
      simp only [gdV_bool, if_true, str_neq, et, kv_some, pickV_bool]
      have enum : numOk ⟨⟨c :: l⟩⟩ = ((c :: l).all isDig && !(c == 48 && decide (l.length + 1 > 1))) := by
        simp [numOk, h12]
      cases hd : (c :: l).all isDig
      · have e1 : numOk ⟨⟨c :: l⟩⟩ = false := by rw [enum, hd]; rfl
        simp only [numT, e1, hd, Bool.not_false, gdV_bool, gdV_gone, Bool.true_eq_false, Bool.false_eq_true, if_false, if_true, kv_some, pickV_bool, ifV_bool]
        exact ⟨trivial, rfl⟩
      · simp only [hd, Bool.not_true, gdV_bool, gdV_gone, Bool.true_eq_false, Bool.false_eq_true, if_false, if_true, kv_some, pickV_bool, ix, bin_eql]
        have inn : binD .iface .eql true .nilIface .nilIface h = some (.bool true) := rfl
        have hp := parseInt_ok hd (by simpa using h12)
        have yes : numOk ⟨⟨c :: l⟩⟩ = true → cl (Go.Abs.F.strconv_ParseInt E) [str ⟨⟨c :: l⟩⟩, .int .i64 10, .int .i64 64] h fun v30 h1 => kv (aExtract v30 0) fun v31 => kv (aExtract v30 1) fun v32 => kv (binD .iface .eql true v32 .nilIface h1) fun v35 =>
            h1 = h ∧ Value.tuple #[v31, v35] = Value.tuple #[i64 (numT ⟨⟨c :: l⟩⟩), .bool (numOk ⟨⟨c :: l⟩⟩)] := by
          intro e1
          refine cl_of ⟨_, by simpa using (by omega : l.length + 1 ≤ 1000000), hp, ?_⟩
          simp only [extract_tuple, List.getElem?_toArray, List.getElem?_cons_zero, List.getElem?_cons_succ, kv_some, inn, numT, e1, if_true]
          exact ⟨trivial, trivial⟩
        have hc48 : (((c.toNat : Int) == 48) : Bool) = (c == 48) := by
          rw [Bool.eq_iff_iff, beq_iff_eq, beq_iff_eq]
          constructor
          · intro h; apply UInt8.toNat_inj.1; have : (48 : UInt8).toNat = 48 := rfl; omega
          · intro h; rw [h]; rfl
        rw [hc48]
        cases hc : (c == 48)
        · simp only [Bool.false_eq_true, if_false, kv_some, ifV_bool]
          exact yes (by rw [enum, hd, hc]; rfl)
        · simp only [if_true, kv_some, ln, hlen, bin_gtr, ifV_bool]
          by_cases h1 : l.length + 1 > 1
          · have h1' : ((l.length + 1 : Nat) : Int) > 1 := by omega
            have e1 : numOk ⟨⟨c :: l⟩⟩ = false := by rw [enum, hd, hc]; simp; omega
            simp only [h1', decide_true, if_true, numT, e1, Bool.false_eq_true, if_false]
            exact ⟨trivial, rfl⟩
          · have h1' : ¬ ((l.length + 1 : Nat) : Int) > 1 := by omega
            simp only [h1', decide_false, Bool.false_eq_true, if_false]
            exact yes (by rw [enum, hd, hc]; simpa using h1)
    · have hx : ((l.length + 1 : Nat) : Int) > 12 := by omega
      have e1 : numOk ⟨⟨c :: l⟩⟩ = false := by
        simp [numOk]; omega
      simp only [hx, decide_true, numT, e1]
      refine gdC_no (by decide) ?_
      simp only [gdV_bool, Bool.true_eq_false, Bool.false_eq_true, if_false, kv_some, pickV_bool, if_true, gdV_gone, ifV_bool]
      exact ⟨trivial, rfl⟩

end Go.Abs

set_option linter.unusedSimpArgs false
set_option linter.unusedVariables false
namespace Go.Abs
open Go Go.Proofs
variable {E : FE} {h h' : AHeap} {fp : List Nat} {p : V} {l : List ByteArray} {g : List En}

/-- A map's keys as texts, sorted. -/
def keysT (g : List En) : List ByteArray := (srtK (g.map ME)).map fun k => ⟨k.toArray⟩

theorem keysT_str (g : List En) : (srtK (g.map ME)).map encStr = (keysT g).map str := by
  unfold keysT
  rw [List.map_map]
  rfl

theorem keysT_len (g : List En) : (keysT g).length = g.length := by
  unfold keysT
  rw [List.length_map, srtK_len, List.length_map]

theorem keysT_perm (g : List En) : (keysT g).Perm (keysE g) := by
  unfold keysT srtK
  have h1 := (List.mergeSort_perm ((g.map ME).map fun e => keyB e.key) (fun x y => decide (x ≤ y))).map (fun k : List UInt8 => (⟨k.toArray⟩ : ByteArray))
  refine h1.trans ?_
  rw [List.map_map, List.map_map]
  unfold keysE
  have : (((fun k : List UInt8 => (⟨k.toArray⟩ : ByteArray)) ∘ fun e : MapEntry => keyB e.key) ∘ ME) = fun e : En => e.k := by
    funext e
    obtain ⟨⟨⟨k⟩⟩, v, b⟩ := e
    rfl
  rw [Function.comp_def] at this
  rw [← Function.comp_def, ← Function.comp_def] at *
  simpa [Function.comp_def] using (by
    have e2 : (List.map (((fun k : List UInt8 => (⟨k.toArray⟩ : ByteArray)) ∘ fun e : MapEntry => keyB e.key) ∘ ME) g) = g.map fun e => e.k := by
      refine List.map_congr_left fun e _ => ?_
      obtain ⟨⟨⟨k⟩⟩, v, b⟩ := e
      rfl
    rw [e2] : (List.map (((fun k : List UInt8 => (⟨k.toArray⟩ : ByteArray)) ∘ fun e : MapEntry => keyB e.key) ∘ ME) g).Perm (g.map fun e => e.k))

theorem topic_Groups (t : To h fp p l g) (hs : ∀ e ∈ g, e.k.size ≤ maxLen) (hl : g.length ≤ 1000) :
    cl (Go.Abs.F.topic_Topic_Groups E) [p] h fun r h' => ∃ fp', Ts h' fp' r (keysT g) ∧ Mod h [] h' fp' := by
  obtain ⟨b, m, fl, vl, clk, rfl, rfl, hne, hb, hm, h1, h2, h3, h4, h5, h6, h7⟩ := t
  refine cl_of ?_
  simp only [Go.Abs.F.topic_Topic_Groups, ptr_eq_nil, kv_some, ifV_bool, Bool.false_eq_true, if_false, aNil_ptr, fieldAddr_ptr, ld_one, Nat.zero_add, rd_of h1, List.getElem?_cons_zero, List.getElem?_cons_succ]
  refine cl_of ?_
  have e2 : newD none (.map (some m)) h = some (ptr h.next 0, h.new (.cells [.map (some m)] 1 .rw)) := rfl
  simp only [Go.Abs.F.maps_Keys_map_string_int64_string_int64, e2, kP_some]
  refine cl_of ?_
  have m0 : Mod h [] (h.new (.cells [.map (some m)] 1 .rw)) [] := Mod.newBox (by simp)
  show Go.Abs.F.slices_Sorted_string E _ _ _
  refine keys_sorted (l := g) (b := h.next) (m := m) (clk := clk) (es := 1) (k := .rw) (by simp) (by simp [Nat.ne_of_lt hm, h2]) h6 hs hl (.inr rfl) ?_
  obtain ⟨fp', q1, q2⟩ := sorted_row (srtK (g.map ME)) (h.new (.cells [.map (some m)] 1 .rw))
  refine ⟨fp', ?_, m0.trans q2⟩
  unfold Ts
  rw [keysT_len, ← keysT_str]
  rw [srtK_len, List.length_map] at q1
  exact q1

theorem table_KeysT {l : List En} (t : Tab h fp p l) (hs : ∀ e ∈ l, e.k.size ≤ maxLen) (hl : l.length ≤ 1000) :
    cl (Go.Abs.F.table_Table_Keys E) [p] h fun r h' => ∃ fp', Ts h' fp' r (keysT l) ∧ Mod h [] h' fp' := by
  refine cl_then (table_Keys t hs hl) ?_
  rintro r h' ⟨fp', q1, q2⟩
  refine ⟨fp', ?_, q2⟩
  unfold Ts
  rw [keysT_len, ← keysT_str]
  exact q1

theorem topic_Clone (t : To h fp p l g) (hsz : l.length ≤ 1000000) : cl (Go.Abs.F.topic_Topic_Clone E) [p] h fun r h' => ∃ fp', To h' fp' r l g ∧ Mod h [] h' fp' := by
  have t0 := t
  obtain ⟨b, m, fl, vl, clk, rfl, rfl, hne, hb, hm, h1, h2, h3, h4, h5, h6, h7⟩ := t
  refine cl_of ?_
  simp only [Go.Abs.F.topic_Topic_Clone, ptr_eq_nil, kv_some, ifV_bool, Bool.false_eq_true, if_false, aNil_ptr, fieldAddr_ptr, ld_one, Nat.zero_add, rd_of h1, List.getElem?_cons_zero, List.getElem?_cons_succ]
  refine cl_then (clone_strs h3 hsz) ?_
  rintro r g1 ⟨f1, s1, m1⟩
  have g1b : g1.get b = some (.cells [vl, .map (some m)] 2 .rw) := by rw [m1.same b hb (by simp), h1]
  have g1m : g1.get m = some (.map (g.map ME) clk) := by rw [m1.same m hm (by simp), h2]
  simp only [rd_of g1b, List.getElem?_cons_zero, List.getElem?_cons_succ, true_and]
  refine cl_of ?_
  simp only [Go.Abs.F.maps_Clone_map_string_int64_string_int64, map_eq_nil, kv_some, ifV_bool, Bool.false_eq_true, if_false, iface]
  refine cl_of ?_
  simp only [Go.Abs.F.maps_clone, L.clone, g1m, assertD, beq_self_eq_true, Bool.and_self, if_true, Bool.false_eq_true, if_false, kv_some]
  obtain ⟨c1, c2⟩ := Sl.cell s1
  have e1 : ∀ x : Nat, buildD (.struct [(.slice none 0 0), (.map none)] [(0, 1), (1, 1)]) [(0, r), (1, .map (some x))] = some (.agg #[r, .map (some x)]) := by
    intro x
    obtain ⟨h0, ⟨rfl, _, _⟩ | ⟨b', c, all, rfl, _⟩⟩ := s1 <;> rfl
  have e2 : ∀ (x : Nat) (g : AHeap), newD none (.agg #[r, .map (some x)]) g = some (ptr g.next 0, g.new (.cells [r, .map (some x)] 2 .rw)) := fun _ _ => rfl
  simp only [e1, e2, kv_some, kP_some]
  have n1 := m1.next
  have lt1 := s1.lt
  have new1 : ∀ x ∈ f1, h.next ≤ x := fun x hx => by rcases m1.new x hx with h | h; simp at h; exact h
  refine ⟨(g1.next + 1) :: g1.next :: f1, ⟨g1.next + 1, g1.next, f1, r, clk, by simp, rfl, by simp, by simp, by simp; omega, by simp, by simp, s1.same (by simp; omega) fun x hx => ?_, fun hx => ?_, fun hx => ?_, h6, h7⟩, by simp; omega, fun x hx _ => ?_, fun x hx => ?_, fun x hx => ?_⟩
  · have := lt1 x hx
    have a : x ≠ g1.next := by omega
    have a' : x ≠ g1.next + 1 := by omega
    simp [a, a']
  · have := lt1 _ hx; omega
  · have := lt1 _ hx; omega
  · have a : x ≠ g1.next := by omega
    have a' : x ≠ g1.next + 1 := by omega
    simp only [new_get, new_next, a, a', if_false]
    exact m1.same x hx (by simp)
  · simp only [List.mem_cons] at hx
    right
    rcases hx with rfl | rfl | hx
    · omega
    · omega
    · exact new1 x hx
  · simp only [List.mem_cons] at hx
    simp only [new_next]
    rcases hx with rfl | rfl | hx
    · omega
    · omega
    · have := lt1 x hx; omega

/-- slices.Equal of texts. -/
theorem eq_texts {x y : V} {a b : List ByteArray} (hx : Rdt h x a) (hy : Rdt h y b) (hsz : a.length ≤ 1000000) : cl (Go.Abs.F.slices_Equal_Sstring_string E) [x, y] h fun r h' => h' = h ∧ r = .bool (decide (a = b)) := by
  refine cl_of ?_
  simp only [Go.Abs.F.slices_Equal_Sstring_string, hx.1, hy.1, kv_some, bin_neq, ifV_bool]
  by_cases hl : a.length = b.length
  · have e : ((a.length : Int) != (b.length : Int)) = false := by simp [hl]
    rw [e]
    simp only [Bool.false_eq_true, if_false]
    refine ⟨fun k l' h' => h' = h ∧ ∃ i : Nat, l' = [i64 i] ∧ i ≤ a.length ∧ k = a.length - i ∧ a.take i = b.take i, a.length, ⟨rfl, 0, rfl, by omega, by omega, by simp⟩, ?_⟩
    rintro k e5 h5 ⟨rfl, i, hl5, hi, rfl, htk⟩
    simp only [List.cons.injEq, and_true] at hl5
    rw [hl5]
    simp only [kv_some, bin_lss, ifV_bool, decide_eq_true_eq]
    by_cases hlt : (i : Int) < (a.length : Int)
    · rw [if_pos hlt]
      have hia : i < a.length := by omega
      have hib : i < b.length := by omega
      obtain ⟨b1, o1, x1, r1⟩ := hx.2 i a[i] (List.getElem?_eq_getElem hia)
      obtain ⟨b2, o2, x2, r2⟩ := hy.2 i b[i] (List.getElem?_eq_getElem hib)
      simp only [x1, x2, kv_some, ld_one, r1, r2, str_neq, ifV_bool]
      by_cases he : a[i] = b[i]
      · simp only [he, decide_true, Bool.not_true, Bool.false_eq_true, if_false]
        rw [add_i64 _ 1 (by omega) (by omega), kv_some]
        refine ⟨a.length - (i + 1), by omega, trivial, i + 1, by simp, by omega, rfl, ?_⟩
        rw [List.take_succ_eq_append_getElem hia, List.take_succ_eq_append_getElem hib, htk, he]
      · simp only [he, decide_false, Bool.not_false, if_true]
        refine ⟨trivial, ?_⟩
        have : a ≠ b := fun h => he (by subst h; rfl)
        simp [this]
    · rw [if_neg hlt]
      refine ⟨trivial, ?_⟩
      have : a = b := by
        rw [List.take_of_length_le (by omega), List.take_of_length_le (by omega)] at htk
        exact htk
      simp [this]
  · have e : ((a.length : Int) != (b.length : Int)) = true := by simp; omega
    rw [e]
    simp only [if_true]
    refine ⟨trivial, ?_⟩
    have : a ≠ b := fun h => hl (by rw [h])
    simp [this]

theorem any_take {P : ByteArray → Bool} {l : List ByteArray} {i : Nat} (hi : i < l.length) : (l.take (i + 1)).any P = ((l.take i).any P || P l[i]) := by
  rw [List.take_succ_eq_append_getElem hi, List.any_append]
  simp

/-- slices.ContainsFunc of texts. -/
theorem any_texts {x f : V} (hM : MonoI E.I) (hx : Rdt h x l) (hsz : l.length ≤ 1000000) (P : ByteArray → Bool) (hf : ∀ s ∈ l, aCall E.I f [str s] h fun r h' => h' = h ∧ r = .bool (P s)) :
    cl (Go.Abs.F.slices_ContainsFunc_Sstring_string E) [x, f] h fun r h' => h' = h ∧ r = .bool (l.any P) := by
  have key : cl (Go.Abs.F.slices_IndexFunc_Sstring_string E) [x, f] h fun r h' => h' = h ∧ ∃ z : Int, r = i64 z ∧ decide (z ≥ 0) = l.any P := by
    refine cl_of ?_
    simp only [Go.Abs.F.slices_IndexFunc_Sstring_string, hx.1, kv_some]
    refine ⟨fun k l' h' => h' = h ∧ ∃ i : Nat, l' = [i64 i] ∧ i ≤ l.length ∧ k = l.length - i ∧ (l.take i).any P = false, l.length, ⟨rfl, 0, rfl, by omega, by omega, by simp⟩, ?_⟩
    rintro k e h5 ⟨e5, i, hl5, hi, rfl, hno⟩
    rw [e5]
    simp only [List.cons.injEq, and_true] at hl5
    rw [hl5]
    simp only [kv_some, bin_lss, ifV_bool, decide_eq_true_eq]
    by_cases hlt : i < l.length
    · have hlt' : (i : Int) < (l.length : Nat) := by omega
      rw [if_pos hlt']
      obtain ⟨b1, o1, x1, r1⟩ := hx.2 i l[i] (List.getElem?_eq_getElem hlt)
      simp only [x1, kv_some, ld_one, r1]
      refine aCall_mono hM ?_ (hf l[i] (List.getElem_mem hlt))
      rintro r h6 ⟨e6, rfl⟩
      rw [e6]
      simp only [ifV_bool]
      cases hp : P l[i] with
      | true =>
        simp only [if_true]
        refine ⟨trivial, i, rfl, ?_⟩
        have : l.any P = true := List.any_eq_true.2 ⟨l[i], List.getElem_mem hlt, hp⟩
        rw [this]
        simp
      | false =>
        simp only [Bool.false_eq_true, if_false]
        rw [add_i64 _ 1 (by omega) (by omega), kv_some]
        exact ⟨l.length - (i + 1), by omega, trivial, i + 1, by simp, by omega, rfl, by rw [any_take hlt, hno, hp]; rfl⟩
    · have hlt' : ¬ (i : Int) < (l.length : Nat) := by omega
      rw [if_neg hlt']
      refine ⟨trivial, -1, rfl, ?_⟩
      rw [List.take_of_length_le (by omega)] at hno
      rw [hno]
      rfl
  refine cl_of ?_
  simp only [Go.Abs.F.slices_ContainsFunc_Sstring_string]
  refine cl_then key ?_
  rintro r h' ⟨rfl, z, rfl, hz⟩
  simp only [bin_geq, kv_some]
  exact ⟨trivial, by rw [hz]⟩

/-- slices.Contains of texts. -/
theorem has_text {x : V} (hx : Rdt h x l) (hsz : l.length ≤ 1000000) (s : ByteArray) : cl (Go.Abs.F.slices_Contains_Sstring_string E) [x, str s] h fun r h' => h' = h ∧ r = .bool (l.any fun y => decide (s = y)) := by
  have key : cl (Go.Abs.F.slices_Index_Sstring_string E) [x, str s] h fun r h' => h' = h ∧ ∃ z : Int, r = i64 z ∧ decide (z ≥ 0) = l.any fun y => decide (s = y) := by
    refine cl_of ?_
    simp only [Go.Abs.F.slices_Index_Sstring_string, hx.1, kv_some]
    refine ⟨fun k l' h' => h' = h ∧ ∃ i : Nat, l' = [i64 i] ∧ i ≤ l.length ∧ k = l.length - i ∧ ((l.take i).any fun y => decide (s = y)) = false, l.length, ⟨rfl, 0, rfl, by omega, by omega, by simp⟩, ?_⟩
    rintro k e h5 ⟨e5, i, hl5, hi, rfl, hno⟩
    rw [e5]
    simp only [List.cons.injEq, and_true] at hl5
    rw [hl5]
    simp only [kv_some, bin_lss, ifV_bool, decide_eq_true_eq]
    by_cases hlt : i < l.length
    · have hlt' : (i : Int) < (l.length : Nat) := by omega
      rw [if_pos hlt']
      obtain ⟨b1, o1, x1, r1⟩ := hx.2 i l[i] (List.getElem?_eq_getElem hlt)
      simp only [x1, kv_some, ld_one, r1, str_eql, ifV_bool]
      cases hp : decide (s = l[i]) with
      | true =>
        simp only [if_true]
        refine ⟨trivial, i, rfl, ?_⟩
        have : (l.any fun y => decide (s = y)) = true := List.any_eq_true.2 ⟨l[i], List.getElem_mem hlt, hp⟩
        rw [this]
        simp
      | false =>
        simp only [Bool.false_eq_true, if_false]
        rw [add_i64 _ 1 (by omega) (by omega), kv_some]
        exact ⟨l.length - (i + 1), by omega, trivial, i + 1, by simp, by omega, rfl, by rw [any_take hlt, hno, hp]; rfl⟩
    · have hlt' : ¬ (i : Int) < (l.length : Nat) := by omega
      rw [if_neg hlt']
      refine ⟨trivial, -1, rfl, ?_⟩
      rw [List.take_of_length_le (by omega)] at hno
      rw [hno]
      rfl
  refine cl_of ?_
  simp only [Go.Abs.F.slices_Contains_Sstring_string]
  refine cl_then key ?_
  rintro r h' ⟨rfl, z, rfl, hz⟩
  simp only [bin_geq, kv_some]
  exact ⟨trivial, by rw [hz]⟩

end Go.Abs

/- Specs on abstract heaps, part 0: what the operations do to values that are known. -/
import Derived.Test.YtldjlkbjbkielaaGreatDoorAbs25
set_option linter.unusedSimpArgs false
set_option linter.unusedVariables false
namespace Go.Abs
open Go

abbrev ptr (b o : Nat) : V := .pointer (some ⟨b, o, none⟩)
abbrev nil : V := .pointer none
abbrev str (s : ByteArray) : V := .string s
abbrev i64 (n : Int) : V := .int .i64 n

section
variable {h : AHeap}

@[simp] theorem kv_no (K : V → Prop) : kv none K = False := kv_none K
@[simp] theorem aNil_ptr (b o : Nat) : aNil (ptr b o) = some (ptr b o) := rfl
@[simp] theorem fieldAddr_ptr (b o n : Nat) : fieldAddrD (some n) (ptr b o) = some (ptr b (o + n)) := rfl
@[simp] theorem extract_tuple (vs : Array V) (i : Nat) : aExtract (.tuple vs) i = vs[i]? := rfl
@[simp] theorem not_bool (b : Bool) : aUn .not (.bool b) = some (.bool (!b)) := rfl
@[simp] theorem ptr_eq_nil (p c : Bool) (b o : Nat) : binD (.ptr p) .eql c (ptr b o) nil h = some (.bool false) := rfl
@[simp] theorem ptr_ne_nil (p c : Bool) (b o : Nat) : binD (.ptr p) .neq c (ptr b o) nil h = some (.bool true) := rfl
@[simp] theorem nil_eq_nil (p c : Bool) : binD (.ptr p) .eql c nil nil h = some (.bool true) := rfl
@[simp] theorem nil_ne_nil (p c : Bool) : binD (.ptr p) .neq c nil nil h = some (.bool false) := rfl
@[simp] theorem map_eq_nil (c : Bool) (b : Nat) : binD .map .eql c (.map (some b)) (.map none) h = some (.bool false) := rfl
@[simp] theorem mapnil_eq_nil (c : Bool) : binD .map .eql c (.map none) (.map none) h = some (.bool true) := rfl
@[simp] theorem gdV_bool (b w : Bool) (x : Option V) : gdV (.bool b) w x = if b = w then x else some gone := by cases b <;> cases w <;> rfl
@[simp] theorem gdV_gone (w : Bool) (x : Option V) : gdV gone w x = some gone := rfl
@[simp] theorem ld_one (b o : Nat) : ldD .one (ptr b o) h = h.rd b o := rfl
@[simp] theorem ld_agg (n b o : Nat) : ldD (.agg n) (ptr b o) h = (h.rdN b o n).map fun l => .agg l.toArray := rfl

@[simp] theorem bin_add (k c) (t : IntKind) (a b : Int) : binD k .add c (.int t a) (.int t b) h = some (.int t (t.wrap (a + b))) := by simp [binD, aInt]
@[simp] theorem bin_sub (k c) (t : IntKind) (a b : Int) : binD k .sub c (.int t a) (.int t b) h = some (.int t (t.wrap (a - b))) := by simp [binD, aInt]
@[simp] theorem bin_mul (k c) (t : IntKind) (a b : Int) : binD k .mul c (.int t a) (.int t b) h = some (.int t (t.wrap (a * b))) := by simp [binD, aInt]
@[simp] theorem bin_quo (k c) (t : IntKind) (a b : Int) : binD k .quo c (.int t a) (.int t b) h = if b = 0 then none else some (.int t (t.wrap (a.tdiv b))) := by simp [binD, aInt]
@[simp] theorem bin_rem (k c) (t : IntKind) (a b : Int) : binD k .rem c (.int t a) (.int t b) h = if b = 0 then none else some (.int t (a.tmod b)) := by simp [binD, aInt]
@[simp] theorem bin_eql (k c) (t : IntKind) (a b : Int) : binD k .eql c (.int t a) (.int t b) h = some (.bool (a == b)) := by simp [binD, aInt]
@[simp] theorem bin_neq (k c) (t : IntKind) (a b : Int) : binD k .neq c (.int t a) (.int t b) h = some (.bool (a != b)) := by simp [binD, aInt]
@[simp] theorem bin_lss (k c) (t : IntKind) (a b : Int) : binD k .lss c (.int t a) (.int t b) h = some (.bool (decide (a < b))) := by simp [binD, aInt]
@[simp] theorem bin_leq (k c) (t : IntKind) (a b : Int) : binD k .leq c (.int t a) (.int t b) h = some (.bool (decide (a ≤ b))) := by simp [binD, aInt]
@[simp] theorem bin_gtr (k c) (t : IntKind) (a b : Int) : binD k .gtr c (.int t a) (.int t b) h = some (.bool (decide (a > b))) := by simp [binD, aInt]
@[simp] theorem bin_geq (k c) (t : IntKind) (a b : Int) : binD k .geq c (.int t a) (.int t b) h = some (.bool (decide (a ≥ b))) := by simp [binD, aInt]
@[simp] theorem bin_str (k c) (op : BinOp) (a b : ByteArray) : binD k op c (str a) (str b) h = aStr op a b := rfl
@[simp] theorem bin_bool_eq (c) (a b : Bool) : binD .bool .eql c (.bool a) (.bool b) h = some (.bool (a == b)) := rfl
@[simp] theorem bin_bool_ne (c) (a b : Bool) : binD .bool .neq c (.bool a) (.bool b) h = some (.bool (!(a == b))) := rfl

@[simp] theorem max2 (t : IntKind) (a b : Int) : aMinMax true [.int t a, .int t b] = some (.int t (max a b)) := by
  simp only [aMinMax, aMinMaxFrom, if_true]
  congr 2
  split <;> omega
@[simp] theorem min2 (t : IntKind) (a b : Int) : aMinMax false [.int t a, .int t b] = some (.int t (min a b)) := by
  simp only [aMinMax, aMinMaxFrom, if_true, Bool.false_eq_true, if_false]
  congr 2
  split <;> omega

theorem rd_of {b : Nat} {cs : List V} {e : Nat} {k : BK} (hb : h.get b = some (.cells cs e k)) (o : Nat) : h.rd b o = cs[o]? := by simp [AHeap.rd, hb]
theorem rdN_of {b : Nat} {cs : List V} {e : Nat} {k : BK} (hb : h.get b = some (.cells cs e k)) (o n : Nat) : h.rdN b o n = if o + n ≤ cs.length then some ((cs.drop o).take n) else none := by simp [AHeap.rdN, hb]

@[simp] theorem put_get (b : Nat) (o : AObj) (x : Nat) : (h.put b o).get x = if x = b then some o else h.get x := rfl
@[simp] theorem put_next (b : Nat) (o : AObj) : (h.put b o).next = h.next := rfl
@[simp] theorem new_get (o : AObj) (x : Nat) : (h.new o).get x = if x = h.next then some o else h.get x := rfl
@[simp] theorem new_next (o : AObj) : (h.new o).next = h.next + 1 := rfl
@[simp] theorem kill_get (b x : Nat) : (h.kill b).get x = if x = b then none else h.get x := rfl
@[simp] theorem kill_next (b : Nat) : (h.kill b).next = h.next := rfl

end

/-! ### What of a heap may have changed -/

/-- Of h all is as it was, but for the blocks in fp; what is in fp' is of fp, or new. -/
structure Mod (h : AHeap) (fp : List Nat) (h' : AHeap) (fp' : List Nat) : Prop where
  next : h.next ≤ h'.next
  same : ∀ x, x < h.next → x ∉ fp → h'.get x = h.get x
  new : ∀ x ∈ fp', x ∈ fp ∨ h.next ≤ x
  lt : ∀ x ∈ fp', x < h'.next

theorem Mod.refl {h : AHeap} {fp : List Nat} (hl : ∀ x ∈ fp, x < h.next) : Mod h fp h fp := ⟨Nat.le_refl _, fun _ _ _ => rfl, fun _ h => .inl h, hl⟩

theorem Mod.trans {h h1 h2 : AHeap} {a b c : List Nat} (x : Mod h a h1 b) (y : Mod h1 b h2 c) : Mod h a h2 c :=
  ⟨Nat.le_trans x.next y.next, fun k hk hn => (y.same k (Nat.lt_of_lt_of_le hk x.next) fun hb => by rcases x.new k hb with h | h; exact hn h; omega).trans (x.same k hk hn),
   fun k hk => by rcases y.new k hk with h | h; exact x.new k h; exact .inr (Nat.le_trans x.next h), y.lt⟩

/-- What stands apart stands apart still. -/
theorem Mod.apart {h h' : AHeap} {fp fp' g : List Nat} (m : Mod h fp h' fp') (hg : ∀ x ∈ g, x < h.next) (hd : ∀ x ∈ g, x ∉ fp) : (∀ x ∈ g, x < h'.next) ∧ (∀ x ∈ g, x ∉ fp') ∧ ∀ x ∈ g, h'.get x = h.get x :=
  ⟨fun x hx => Nat.lt_of_lt_of_le (hg x hx) m.next, fun x hx hf => by rcases m.new x hf with h | h; exact hd x hx h; have := hg x hx; omega, fun x hx => m.same x (hg x hx) (hd x hx)⟩

/-! ### Maps with texts as keys -/

/-- A map's entry: key, value, when it came. -/
structure En where
  k : ByteArray
  v : V
  b : Nat

def ME (e : En) : MapEntry := { key := .string e.k, val := e.v, born := e.b }

def getE (k : ByteArray) : List En → Option V
  | [] => none
  | e :: l => if e.k = k then some e.v else getE k l

def putE (k : ByteArray) (v : V) (c : Nat) : List En → List En
  | [] => [⟨k, v, c⟩]
  | e :: l => if e.k = k then ⟨k, v, e.b⟩ :: l else e :: putE k v c l

def delE (k : ByteArray) : List En → List En
  | [] => []
  | e :: l => if e.k = k then l else e :: delE k l

def idxE (k : ByteArray) : List En → Option Nat
  | [] => none
  | e :: l => if e.k = k then some 0 else (idxE k l).map (· + 1)

theorem ba_beq (a b : ByteArray) : (a == b) = decide (a = b) := by
  obtain ⟨a⟩ := a
  obtain ⟨b⟩ := b
  have e : ((⟨a⟩ : ByteArray) == ⟨b⟩) = (a == b) := rfl
  rw [e]
  by_cases h : a = b
  · subst h; simp
  · have : ¬ ((⟨a⟩ : ByteArray) = ⟨b⟩) := fun hh => h (by cases hh; rfl)
    simp [h, this]

instance : LawfulBEq ByteArray where
  eq_of_beq {a b} h := by rw [ba_beq] at h; exact of_decide_eq_true h
  rfl {a} := by rw [ba_beq]; simp

theorem keyEq_str (a b : ByteArray) : keyEqD .string (.string a) (.string b) = some (decide (a = b)) := by
  show some (a == b) = _
  rw [ba_beq]

theorem find_ME (k : ByteArray) : ∀ (l : List En) (i : Nat), findD .string (.string k) (l.map ME) i = some (match idxE k l, getE k l with | some j, some v => some (i + j, v) | _, _ => none)
  | [], i => rfl
  | e :: l, i => by
    have hk : keyEqD .string (.string k) (ME e).key = some (decide (k = e.k)) := keyEq_str _ _
    have hc : closedV (ME e).key = true := rfl
    simp only [List.map_cons, findD, hk, hc, if_true, idxE, getE]
    by_cases hk : k = e.k
    · have hk' : e.k = k := hk.symm
      simp only [decide_eq_true hk, if_pos hk']
      rfl
    · have hk' : ¬ e.k = k := fun h => hk h.symm
      simp only [decide_eq_false hk, if_neg hk', find_ME k l (i + 1)]
      cases idxE k l <;> cases getE k l <;> simp <;> omega

theorem idx_get (k : ByteArray) : ∀ (l : List En), (idxE k l).isSome = (getE k l).isSome
  | [] => rfl
  | e :: l => by
    simp only [idxE, getE]
    split
    · rfl
    · simp [idx_get k l]

@[simp] theorem get_put (k k' : ByteArray) (v : V) (c : Nat) : ∀ (l : List En), getE k (putE k' v c l) = if k' = k then some v else getE k l
  | [] => by simp [putE, getE]
  | e :: l => by
    simp only [putE]
    by_cases h : e.k = k'
    · subst h
      simp only [if_true, getE]
      split <;> rfl
    · simp only [if_neg h, getE, get_put k k' v c l]
      by_cases h2 : e.k = k
      · simp only [h2, if_true]
        have : ¬ k' = k := fun h3 => h (h2.trans h3.symm)
        simp [this]
      · simp [h2]

def keysE (l : List En) : List ByteArray := l.map (·.k)

theorem get_none {k : ByteArray} : ∀ {l : List En}, k ∉ keysE l ↔ getE k l = none
  | [] => by simp [keysE, getE]
  | e :: l => by
    have := @get_none k l
    simp only [keysE, List.map_cons, List.mem_cons, not_or, getE] at *
    by_cases h : e.k = k
    · simp [h]
    · simp only [if_neg h, ← this]
      constructor
      · exact fun h => h.2
      · exact fun h2 => ⟨fun h3 => h h3.symm, h2⟩

theorem keys_put (k : ByteArray) (v : V) (c : Nat) : ∀ (l : List En), keysE (putE k v c l) = if getE k l = none then keysE l ++ [k] else keysE l
  | [] => rfl
  | e :: l => by
    simp only [putE, getE]
    by_cases h : e.k = k
    · simp [h, keysE]
    · simp only [if_neg h]
      have := keys_put k v c l
      simp only [keysE, List.map_cons] at *
      rw [this]
      split <;> rfl

theorem nodup_put {k : ByteArray} {v : V} {c : Nat} {l : List En} (h : (keysE l).Nodup) : (keysE (putE k v c l)).Nodup := by
  rw [keys_put]
  split
  · rename_i hg
    have := get_none.2 hg
    rw [List.nodup_append]
    refine ⟨h, by simp, ?_⟩
    intro a ha b hb
    simp at hb
    subst hb
    exact fun e => this (e ▸ ha)
  · exact h

theorem keys_del (k : ByteArray) : ∀ (l : List En), keysE (delE k l) = (keysE l).erase k
  | [] => rfl
  | e :: l => by
    simp only [delE, keysE, List.map_cons, List.erase_cons]
    by_cases h : e.k = k
    · simp [h]
    · have := keys_del k l
      simp only [keysE] at this
      simp [h, this]

theorem get_del {k k' : ByteArray} : ∀ {l : List En}, (keysE l).Nodup → getE k (delE k' l) = if k' = k then none else getE k l
  | [], _ => by simp [delE, getE]
  | e :: l, h => by
    simp only [keysE, List.map_cons, List.nodup_cons] at h
    simp only [delE]
    by_cases hk : e.k = k'
    · subst hk
      simp only [if_true, getE]
      by_cases h2 : e.k = k
      · subst h2; simp only [if_true]; exact get_none.1 h.1
      · simp [h2]
    · simp only [if_neg hk, getE]
      by_cases h2 : e.k = k
      · subst h2
        have : ¬ k' = e.k := fun h3 => hk h3.symm
        simp [this]
      · simp only [if_neg h2]
        exact get_del h.2

theorem modify_ME (k : ByteArray) (v : V) (c : Nat) : ∀ (l : List En) (j : Nat), idxE k l = some j → (l.map ME).modify j (fun e => { e with key := .string k, val := v }) = (putE k v c l).map ME
  | [], j, h => by simp [idxE] at h
  | e :: l, j, h => by
    simp only [idxE] at h
    simp only [putE]
    split at h
    · rename_i hk
      cases h
      simp [hk, ME]
    · rename_i hk
      obtain ⟨i, hi, rfl⟩ := Option.map_eq_some_iff.1 h
      simp only [if_neg hk, List.map_cons, List.modify_succ_cons, modify_ME k v c l i hi]

theorem erase_ME (k : ByteArray) : ∀ (l : List En) (j : Nat), idxE k l = some j → (l.map ME).eraseIdx j = (delE k l).map ME
  | [], j, h => by simp [idxE] at h
  | e :: l, j, h => by
    simp only [idxE] at h
    simp only [delE]
    split at h
    · rename_i hk
      cases h
      simp [hk]
    · rename_i hk
      obtain ⟨i, hi, rfl⟩ := Option.map_eq_some_iff.1 h
      simp only [if_neg hk, List.map_cons, List.eraseIdx_cons_succ, erase_ME k l i hi]

theorem put_new (k : ByteArray) (v : V) (c : Nat) : ∀ (l : List En), getE k l = none → (putE k v c l) = l ++ [⟨k, v, c⟩]
  | [], _ => rfl
  | e :: l, h => by
    simp only [getE] at h
    split at h
    · cases h
    · rename_i hk; simp only [putE, if_neg hk, put_new k v c l h]; rfl

theorem del_none (k : ByteArray) : ∀ (l : List En), getE k l = none → delE k l = l
  | [], _ => rfl
  | e :: l, h => by
    simp only [getE] at h
    split at h
    · cases h
    · rename_i hk; simp only [delE, if_neg hk, del_none k l h]

theorem idx_key (k : ByteArray) : ∀ (l : List En) (j : Nat), idxE k l = some j → ∃ e, l[j]? = some e ∧ e.k = k
  | [], j, h => by simp [idxE] at h
  | e :: l, j, h => by
    simp only [idxE] at h
    split at h
    · rename_i hk; cases h; exact ⟨e, rfl, hk⟩
    · obtain ⟨i, hi, rfl⟩ := Option.map_eq_some_iff.1 h
      obtain ⟨e', h1, h2⟩ := idx_key k l i hi
      exact ⟨e', by simpa using h1, h2⟩

section
variable {h : AHeap} {b clk : Nat} {l : List En} {z : V}

theorem lookup_map (hb : h.get b = some (.map (l.map ME) clk)) (k : ByteArray) (ok : Bool) :
    lookupD (some (.string, some z)) (.map (some b)) (str k) ok h = some (if ok then .tuple #[(getE k l).getD z, .bool (getE k l).isSome] else (getE k l).getD z) := by
  have hi := idx_get k l
  simp only [lookupD, keyOkD, if_true, hb, find_ME]
  cases h1 : idxE k l with
  | none =>
    rw [h1] at hi
    have : getE k l = none := by cases h2 : getE k l <;> simp_all
    simp [this]
  | some j =>
    rw [h1] at hi
    cases h2 : getE k l with
    | none => simp [h2] at hi
    | some v => simp

theorem update_map (hb : h.get b = some (.map (l.map ME) clk)) (k : ByteArray) (v : V) :
    mapUpdateD (some (.string, some z)) (.map (some b)) (str k) v h = some (h.put b (.map ((putE k v clk l).map ME) (if getE k l = none then clk + 1 else clk))) := by
  have hi := idx_get k l
  simp only [mapUpdateD, keyOkD, if_true, hb, find_ME]
  cases h1 : idxE k l with
  | none =>
    rw [h1] at hi
    have : getE k l = none := by cases h2 : getE k l <;> simp_all
    simp [this, put_new k v clk l this, ME]
  | some j =>
    rw [h1] at hi
    cases h2 : getE k l with
    | none => simp [h2] at hi
    | some u =>
      obtain ⟨e, he, hk⟩ := idx_key k l j h1
      have hs : ((l.map ME)[j]?).any (fun e => Instr.sameBits 10000 e.key (str k)) = true := by
        simp [he, ME, hk, Instr.sameBits]
      have := modify_ME k v clk l j h1
      simp only [Nat.zero_add, hs, if_true, this]
      simp

theorem delete_map (hb : h.get b = some (.map (l.map ME) clk)) (k : ByteArray) :
    deleteD (some (.string, some z)) (.map (some b)) (str k) h = some (h.put b (.map ((delE k l).map ME) clk)) := by
  have hi := idx_get k l
  simp only [deleteD, keyOkD, if_true, hb, find_ME]
  cases h1 : idxE k l with
  | none =>
    rw [h1] at hi
    have : getE k l = none := by cases h2 : getE k l <;> simp_all
    simp [del_none k l this]
  | some j =>
    rw [h1] at hi
    cases h2 : getE k l with
    | none => simp [h2] at hi
    | some u =>
      have := erase_ME k l j h1
      simp [this]

end
end Go.Abs

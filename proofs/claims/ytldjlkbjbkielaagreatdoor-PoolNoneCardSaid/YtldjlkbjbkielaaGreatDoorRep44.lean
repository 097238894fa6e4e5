/- Specs on abstract heaps, part 44: maps with keys of any kind. -/
import Derived.Test.YtldjlkbjbkielaaGreatDoorRep0
import Derived.Laws.Strings
set_option linter.unusedSimpArgs false
set_option linter.unusedVariables false
namespace Go.Abs
open Go

/-- How keys stand as values. -/
structure KD (κ : Type) [DecidableEq κ] where
  kk : KeyK
  enc : κ → V
  ok : ∀ k, keyOkD kk (enc k) = true
  eq : ∀ a b, keyEqD kk (enc a) (enc b) = some (decide (a = b))
  closed : ∀ a, closedV (enc a) = true
  bits : ∀ a, Instr.sameBits 10000 (enc a) (enc a) = true

/-- A map's entry: key, value, when it came. -/
structure Eg (κ : Type) where
  k : κ
  v : V
  b : Nat

section
variable {κ : Type} [DecidableEq κ] (D : KD κ)

def KD.me (e : Eg κ) : MapEntry := { key := D.enc e.k, val := e.v, born := e.b }

def getG (k : κ) : List (Eg κ) → Option V
  | [] => none
  | e :: l => if e.k = k then some e.v else getG k l

def putG (k : κ) (v : V) (c : Nat) : List (Eg κ) → List (Eg κ)
  | [] => [⟨k, v, c⟩]
  | e :: l => if e.k = k then ⟨k, v, e.b⟩ :: l else e :: putG k v c l

def delG (k : κ) : List (Eg κ) → List (Eg κ)
  | [] => []
  | e :: l => if e.k = k then l else e :: delG k l

def idxG (k : κ) : List (Eg κ) → Option Nat
  | [] => none
  | e :: l => if e.k = k then some 0 else (idxG k l).map (· + 1)

theorem find_G (k : κ) : ∀ (l : List (Eg κ)) (i : Nat), findD D.kk (D.enc k) (l.map D.me) i = some (match idxG k l, getG k l with | some j, some v => some (i + j, v) | _, _ => none)
  | [], i => rfl
  | e :: l, i => by
    have hk : keyEqD D.kk (D.enc k) (D.me e).key = some (decide (k = e.k)) := D.eq _ _
    have hc : closedV (D.me e).key = true := D.closed _
    simp only [List.map_cons, findD, hk, hc, if_true, idxG, getG]
    by_cases hk : k = e.k
    · have hk' : e.k = k := hk.symm
      simp only [decide_eq_true hk, if_pos hk']
      rfl
    · have hk' : ¬ e.k = k := fun h => hk h.symm
      simp only [decide_eq_false hk, if_neg hk', find_G k l (i + 1)]
      cases idxG k l <;> cases getG k l <;> simp <;> omega

theorem idx_getG (k : κ) : ∀ (l : List (Eg κ)), (idxG k l).isSome = (getG k l).isSome
  | [] => rfl
  | e :: l => by
    simp only [idxG, getG]
    split
    · rfl
    · simp [idx_getG k l]

@[simp] theorem getG_put (k k' : κ) (v : V) (c : Nat) : ∀ (l : List (Eg κ)), getG k (putG k' v c l) = if k' = k then some v else getG k l
  | [] => by simp [putG, getG]
  | e :: l => by
    simp only [putG]
    by_cases h : e.k = k'
    · subst h
      simp only [if_true, getG]
      split <;> rfl
    · simp only [if_neg h, getG, getG_put k k' v c l]
      by_cases h2 : e.k = k
      · simp only [h2, if_true]
        have : ¬ k' = k := fun h3 => h (h2.trans h3.symm)
        simp [this]
      · simp [h2]

def keysG (l : List (Eg κ)) : List κ := l.map (·.k)

theorem getG_none {k : κ} : ∀ {l : List (Eg κ)}, k ∉ keysG l ↔ getG k l = none
  | [] => by simp [keysG, getG]
  | e :: l => by
    have := @getG_none k l
    simp only [keysG, List.map_cons, List.mem_cons, not_or, getG] at *
    by_cases h : e.k = k
    · simp [h]
    · simp only [if_neg h, ← this]
      constructor
      · exact fun h => h.2
      · exact fun h2 => ⟨fun h3 => h h3.symm, h2⟩

theorem keysG_put (k : κ) (v : V) (c : Nat) : ∀ (l : List (Eg κ)), keysG (putG k v c l) = if getG k l = none then keysG l ++ [k] else keysG l
  | [] => rfl
  | e :: l => by
    simp only [putG, getG]
    by_cases h : e.k = k
    · simp [h, keysG]
    · simp only [if_neg h]
      have := keysG_put k v c l
      simp only [keysG, List.map_cons] at *
      rw [this]
      split <;> rfl

theorem nodupG_put {k : κ} {v : V} {c : Nat} {l : List (Eg κ)} (h : (keysG l).Nodup) : (keysG (putG k v c l)).Nodup := by
  rw [keysG_put]
  split
  · rename_i hg
    have := getG_none.2 hg
    rw [List.nodup_append]
    refine ⟨h, by simp, ?_⟩
    intro a ha b hb
    simp at hb
    subst hb
    exact fun e => this (e ▸ ha)
  · exact h

theorem keysG_del (k : κ) : ∀ (l : List (Eg κ)), keysG (delG k l) = (keysG l).erase k
  | [] => rfl
  | e :: l => by
    simp only [delG, keysG, List.map_cons, List.erase_cons]
    by_cases h : e.k = k
    · simp [h]
    · have := keysG_del k l
      simp only [keysG] at this
      simp [h, this]

theorem getG_del {k k' : κ} : ∀ {l : List (Eg κ)}, (keysG l).Nodup → getG k (delG k' l) = if k' = k then none else getG k l
  | [], _ => by simp [delG, getG]
  | e :: l, h => by
    simp only [keysG, List.map_cons, List.nodup_cons] at h
    simp only [delG]
    by_cases hk : e.k = k'
    · subst hk
      simp only [if_true, getG]
      by_cases h2 : e.k = k
      · subst h2; simp only [if_true]; exact getG_none.1 h.1
      · simp [h2]
    · simp only [if_neg hk, getG]
      by_cases h2 : e.k = k
      · subst h2
        have : ¬ k' = e.k := fun h3 => hk h3.symm
        simp [this]
      · simp only [if_neg h2]
        exact getG_del h.2

theorem getG_mem {k : κ} {v : V} : ∀ {l : List (Eg κ)}, getG k l = some v → ∃ e ∈ l, e.k = k ∧ e.v = v
  | [], h => by simp [getG] at h
  | e :: l, h => by
    simp only [getG] at h
    split at h
    · rename_i hk
      cases h
      exact ⟨e, by simp, hk, rfl⟩
    · obtain ⟨e', h1, h2⟩ := getG_mem h
      exact ⟨e', by simp [h1], h2⟩

theorem getG_of {e : Eg κ} : ∀ {l : List (Eg κ)}, (keysG l).Nodup → e ∈ l → getG e.k l = some e.v
  | [], _, h => by simp at h
  | a :: l, hn, h => by
    simp only [keysG, List.map_cons, List.nodup_cons] at hn
    simp only [getG]
    rcases List.mem_cons.1 h with rfl | h
    · simp
    · have : a.k ≠ e.k := fun he => hn.1 (he ▸ List.mem_map.2 ⟨e, h, rfl⟩)
      rw [if_neg this]
      exact getG_of hn.2 h

theorem modify_G (k : κ) (v : V) (c : Nat) : ∀ (l : List (Eg κ)) (j : Nat), idxG k l = some j → (l.map D.me).modify j (fun e => { e with key := D.enc k, val := v }) = (putG k v c l).map D.me
  | [], j, h => by simp [idxG] at h
  | e :: l, j, h => by
    simp only [idxG] at h
    simp only [putG]
    split at h
    · rename_i hk
      cases h
      simp [hk, KD.me]
    · rename_i hk
      obtain ⟨i, hi, rfl⟩ := Option.map_eq_some_iff.1 h
      simp only [if_neg hk, List.map_cons, List.modify_succ_cons, modify_G k v c l i hi]

theorem erase_G (k : κ) : ∀ (l : List (Eg κ)) (j : Nat), idxG k l = some j → (l.map D.me).eraseIdx j = (delG k l).map D.me
  | [], j, h => by simp [idxG] at h
  | e :: l, j, h => by
    simp only [idxG] at h
    simp only [delG]
    split at h
    · rename_i hk
      cases h
      simp [hk]
    · rename_i hk
      obtain ⟨i, hi, rfl⟩ := Option.map_eq_some_iff.1 h
      simp only [if_neg hk, List.map_cons, List.eraseIdx_cons_succ, erase_G k l i hi]

theorem putG_new (k : κ) (v : V) (c : Nat) : ∀ (l : List (Eg κ)), getG k l = none → (putG k v c l) = l ++ [⟨k, v, c⟩]
  | [], _ => rfl
  | e :: l, h => by
    simp only [getG] at h
    split at h
    · cases h
    · rename_i hk; simp only [putG, if_neg hk, putG_new k v c l h]; rfl

theorem delG_none (k : κ) : ∀ (l : List (Eg κ)), getG k l = none → delG k l = l
  | [], _ => rfl
  | e :: l, h => by
    simp only [getG] at h
    split at h
    · cases h
    · rename_i hk; simp only [delG, if_neg hk, delG_none k l h]

theorem idxG_key (k : κ) : ∀ (l : List (Eg κ)) (j : Nat), idxG k l = some j → ∃ e, l[j]? = some e ∧ e.k = k
  | [], j, h => by simp [idxG] at h
  | e :: l, j, h => by
    simp only [idxG] at h
    split at h
    · rename_i hk; cases h; exact ⟨e, rfl, hk⟩
    · obtain ⟨i, hi, rfl⟩ := Option.map_eq_some_iff.1 h
      obtain ⟨e', h1, h2⟩ := idxG_key k l i hi
      exact ⟨e', by simpa using h1, h2⟩

theorem putG_len (k : κ) (v : V) (c : Nat) : ∀ (l : List (Eg κ)), (putG k v c l).length ≤ l.length + 1
  | [] => by simp [putG]
  | e :: l => by
    have := putG_len k v c l
    simp only [putG]
    split <;> simp <;> omega

variable {h : AHeap} {b clk : Nat} {l : List (Eg κ)} {z : V}

theorem lookup_G (hb : h.get b = some (.map (l.map D.me) clk)) (k : κ) (ok : Bool) :
    lookupD (some (D.kk, some z)) (.map (some b)) (D.enc k) ok h = some (if ok then .tuple #[(getG k l).getD z, .bool (getG k l).isSome] else (getG k l).getD z) := by
  have hi := idx_getG k l
  simp only [lookupD, D.ok, if_true, hb, find_G]
  cases h1 : idxG k l with
  | none =>
    rw [h1] at hi
    have : getG k l = none := by cases h2 : getG k l <;> simp_all
    simp [this]
  | some j =>
    rw [h1] at hi
    cases h2 : getG k l with
    | none => simp [h2] at hi
    | some v => simp

theorem update_G (hb : h.get b = some (.map (l.map D.me) clk)) (k : κ) (v : V) :
    mapUpdateD (some (D.kk, some z)) (.map (some b)) (D.enc k) v h = some (h.put b (.map ((putG k v clk l).map D.me) (if getG k l = none then clk + 1 else clk))) := by
  have hi := idx_getG k l
  simp only [mapUpdateD, D.ok, if_true, hb, find_G]
  cases h1 : idxG k l with
  | none =>
    rw [h1] at hi
    have : getG k l = none := by cases h2 : getG k l <;> simp_all
    simp [this, putG_new k v clk l this, KD.me]
  | some j =>
    rw [h1] at hi
    cases h2 : getG k l with
    | none => simp [h2] at hi
    | some u =>
      obtain ⟨e, he, hk⟩ := idxG_key k l j h1
      have hs : ((l.map D.me)[j]?).any (fun e => Instr.sameBits 10000 e.key (D.enc k)) = true := by
        simp [he, KD.me, hk, D.bits]
      have := modify_G D k v clk l j h1
      simp only [Nat.zero_add, hs, if_true, this]
      simp

theorem delete_G (hb : h.get b = some (.map (l.map D.me) clk)) (k : κ) :
    deleteD (some (D.kk, some z)) (.map (some b)) (D.enc k) h = some (h.put b (.map ((delG k l).map D.me) clk)) := by
  have hi := idx_getG k l
  simp only [deleteD, D.ok, if_true, hb, find_G]
  cases h1 : idxG k l with
  | none =>
    rw [h1] at hi
    have : getG k l = none := by cases h2 : getG k l <;> simp_all
    simp [delG_none k l this]
  | some j =>
    rw [h1] at hi
    cases h2 : getG k l with
    | none => simp [h2] at hi
    | some u =>
      have := erase_G D k l j h1
      simp [this]

end

/-! ### A transaction's name; a lock -/

structure IdM where
  client : Int
  seq : Int
  deriving DecidableEq, Inhabited

def IdM.agg (i : IdM) : V := .agg #[i64 i.client, i64 i.seq]

def flatI (l : List IdM) : List V := l.flatMap fun i => [i64 i.client, i64 i.seq]

theorem flatI_snoc (l : List IdM) (x : IdM) : flatI (l ++ [x]) = flatI l ++ [i64 x.client, i64 x.seq] := by simp [flatI]

theorem flatI_len (l : List IdM) : (flatI l).length = l.length * 2 := by
  induction l with
  | nil => rfl
  | cons a l ih =>
    simp only [flatI, List.flatMap_cons, List.length_append, List.length_cons, List.length_nil] at ih ⊢
    omega

theorem flatI_closed {l : List IdM} : ∀ v ∈ flatI l, closedV v = true := by
  intro v hv
  obtain ⟨i, _, hv⟩ := List.mem_flatMap.1 hv
  simp only [List.mem_cons, List.not_mem_nil, or_false] at hv
  rcases hv with rfl | rfl <;> rfl

theorem IdM.agg_inj {a b : IdM} (h : a.agg = b.agg) : a = b := by
  cases a; cases b
  simp [IdM.agg] at h
  simp [h]

structure KeyM where
  space : ByteArray
  key : ByteArray
  all : Bool
  deriving DecidableEq, Inhabited

def KeyM.agg (k : KeyM) : V := .agg #[str k.space, str k.key, .bool k.all]

def kdId : KD IdM where
  kk := .struct false [(0, .int), (1, .int)]
  enc := IdM.agg
  ok := fun k => by simp [keyOkD, IdM.agg, closedV, closed0]
  eq := fun a b => by
    obtain ⟨a1, a2⟩ := a
    obtain ⟨b1, b2⟩ := b
    simp only [keyEqD, IdM.agg, Bool.false_eq_true, if_false]
    by_cases h1 : a1 = b1
    · by_cases h2 : a2 = b2
      · simp [h1, h2, eqFieldsD, eqD]
      · simp [h1, h2, eqFieldsD, eqD]
    · simp [h1, eqFieldsD, eqD]
  closed := fun a => by simp [IdM.agg, closedV, closed0]
  bits := fun a => by simp [IdM.agg, Instr.sameBits]

theorem ba_toList0 (a : ByteArray) : a.toList = a.data.toList := by first | exact ByteArray.toList_eq a | exact Go.ByteArray.toList_eq a

theorem ba_ne {a b : ByteArray} (h : ¬ a = b) : ¬ a.toList = b.toList := by
  intro e
  rw [ba_toList0, ba_toList0] at e
  exact h (by cases a; cases b; exact congrArg ByteArray.mk (Array.ext' e))

def kdKey : KD KeyM where
  kk := .struct false [(0, .string), (1, .string), (2, .bool)]
  enc := KeyM.agg
  ok := fun k => by simp [keyOkD, KeyM.agg, closedV, closed0]
  eq := fun a b => by
    obtain ⟨a1, a2, a3⟩ := a
    obtain ⟨b1, b2, b3⟩ := b
    simp only [keyEqD, KeyM.agg, Bool.false_eq_true, if_false]
    by_cases h1 : a1 = b1
    · by_cases h2 : a2 = b2
      · cases a3 <;> cases b3 <;> simp [h1, h2, eqFieldsD, eqD]
      · have := ba_ne h2
        simp [h1, h2, eqFieldsD, eqD, this]
    · have := ba_ne h1
      simp [h1, eqFieldsD, eqD, this]
  closed := fun a => by simp [KeyM.agg, closedV, closed0]
  bits := fun a => by simp [KeyM.agg, Instr.sameBits]

end Go.Abs

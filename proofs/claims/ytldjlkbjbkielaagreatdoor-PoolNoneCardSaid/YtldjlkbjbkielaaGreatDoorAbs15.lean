/- Our own abstract machine, part 15: the operations once more, over what they need to know of types, so that no program stands in them. -/
import Derived.Test.YtldjlkbjbkielaaGreatDoorAbs14
set_option linter.unusedSimpArgs false
set_option linter.unusedVariables false
namespace Go.Abs
open Go

inductive Lay where
  | one
  | agg (n : Nat)
  | bad

def layT (P : Program) (t : TypeId) : Lay :=
  match aggT P t, szT P t with
  | some true, some n => .agg n
  | some false, _ => .one
  | _, _ => .bad

def ldD (l : Lay) (a : V) (h : AHeap) : Option V :=
  match a with
  | .pointer (some ⟨b, o, none⟩) =>
    match l with
    | .agg n => (h.rdN b o n).map fun l => .agg l.toArray
    | .one => h.rd b o
    | .bad => none
  | _ => none

theorem aLoad_eq (P : Program) (t : TypeId) (a : V) (h : AHeap) : aLoad P t a h = ldD (layT P t) a h := by
  unfold aLoad ldD layT
  cases aggT P t with
  | none => rfl
  | some b => cases b <;> cases szT P t <;> rfl

def stD (n : Option Nat) (a x : V) (h : AHeap) : Option AHeap :=
  match a with
  | .pointer (some ⟨b, o, none⟩) =>
    match n, cellsOf x with
    | some n, some vs => if vs.length = n ∧ vs.all oneCell = true then h.wr b o vs else none
    | _, _ => none
  | _ => none

theorem aStore_eq (P : Program) (t : TypeId) (a x : V) (h : AHeap) : aStore P t a x h = stD (szT P t) a x h := rfl

def eszD (P : Program) (t : TypeId) : Option Nat :=
  match P.underlying t with
  | some (.array _ e) => some ((szT P e).getD 0)
  | _ => none

def newD (e : Option Nat) (v : V) (h : AHeap) : Option (V × AHeap) :=
  match cellsOf v with
  | some vs => some (.pointer (some ⟨h.next, 0, none⟩), h.new (.cells vs (e.getD vs.length) .rw))
  | none => none

theorem aNew_eq (P : Program) (t : TypeId) (v : V) (h : AHeap) : aNew P t v h = newD (eszD P t) v h := by
  unfold aNew newD eszD eszOf
  cases cellsOf v with
  | none => rfl
  | some vs =>
    cases P.underlying t with
    | none => rfl
    | some d => cases d <;> rfl

/-- Where the parts of a struct or an array belong, and what it holds at first. -/
inductive BuildK where
  | struct (z : List V) (places : List (Nat × Nat))
  | array (z : List V) (n : Nat)
  | bad

def buildK (P : Program) (t : TypeId) : BuildK :=
  match (zeroOf P t).bind cellsOf with
  | some z =>
    match P.underlying t with
    | some (.struct fs) => if fieldsOk P fs then .struct z (fs.toList.map fun f => (f.offset, (szT P f.type).getD 0)) else .bad
    | some (.array _ e) => (match szT P e with | some n => .array z n | none => .bad)
    | _ => .bad
  | none => .bad

def buildD (k : BuildK) (parts : List (Nat × V)) : Option V :=
  match k with
  | .struct z ps => (aFill (fun i => ps[i]?) z parts).map fun l => .agg l.toArray
  | .array z n => (aFill (fun i => some (i * n, n)) z parts).map fun l => .agg l.toArray
  | .bad => none

theorem aBuild_eq (P : Program) (t : TypeId) (ps : List (Nat × V)) : aBuild P t ps = buildD (buildK P t) ps := by
  unfold aBuild buildD buildK
  cases (zeroOf P t).bind cellsOf with
  | none => rfl
  | some z =>
    simp only
    cases P.underlying t with
    | none => rfl
    | some d =>
      cases d <;> try rfl
      · rename_i n e
        simp only
        cases szT P e <;> rfl
      · rename_i fs
        simp only
        by_cases hok : fieldsOk P fs = true
        · rw [if_pos hok, if_pos hok]
          have : structPlace P fs = fun i => (fs.toList.map fun f => (f.offset, (szT P f.type).getD 0))[i]? := by
            funext i
            simp only [structPlace, List.getElem?_map, Array.getElem?_toList]
            cases hf : fs[i]? with
            | none => rfl
            | some f =>
              obtain ⟨hi, rfl⟩ := Array.getElem?_eq_some_iff.1 hf
              have := (Array.all_eq_true.1 hok) i hi
              obtain ⟨n, hn⟩ := Option.isSome_iff_exists.1 this
              simp [hn]
          rw [this]
        · rw [if_neg hok, if_neg hok]

/-- What is known of an element: how many cells, its zero cells. -/
def elK (P : Program) (t : TypeId) : Option (Nat × List V) :=
  match eltT P t with
  | some e =>
    match szT P e, (zeroOf P e).bind cellsOf with
    | some n, some z => some (n, z)
    | _, _ => none
  | none => none

def buildSliceD (k : Option (Nat × List V)) (len : Nat) (parts : List (Nat × V)) (h : AHeap) : Option (V × AHeap) :=
  match k with
  | some (n, z) =>
    if 0 < n ∧ len * n ≤ 16777216 ∧ z.length = n then
      (aFill (fun i => some (i * n, n)) (zeros z (len * n)) parts).map fun l => (.slice (some ⟨h.next, 0, none⟩) len (2 * len), h.new (.cells l n .rw))
    else none
  | none => none

theorem aBuildSlice_eq (P : Program) (t : TypeId) (n : Nat) (ps : List (Nat × V)) (h : AHeap) : aBuildSlice P t n ps h = buildSliceD (elK P t) n ps h := by
  unfold aBuildSlice buildSliceD elK
  cases eltT P t with
  | none => rfl
  | some e =>
    simp only
    cases szT P e with
    | none => rfl
    | some m => cases (zeroOf P e).bind cellsOf <;> rfl

/-! ### Comparisons -/

inductive FK where
  | int | string | bool | bad

def fkT (P : Program) (f : Field) : FK :=
  if f.name = "_" then .bad else
  match P.underlying f.type with
  | some (.int _) => .int
  | some .string => .string
  | some .bool => .bool
  | _ => .bad

def fkL (P : Program) (fs : List Field) : List (Nat × FK) := fs.map fun f => (f.offset, fkT P f)

def eqFieldsD (xs ys : Array V) : List (Nat × FK) → Option Bool
  | [] => some true
  | (o, k) :: fs =>
    match k, xs[o]?, ys[o]? with
    | .int, some (.int k a), some (.int k' b) => if k = k' then (if a == b then eqFieldsD xs ys fs else some false) else none
    | .string, some (.string a), some (.string b) => if a.toList == b.toList then eqFieldsD xs ys fs else some false
    | .bool, some (.bool a), some (.bool b) => if a == b then eqFieldsD xs ys fs else some false
    | _, _, _ => none

theorem aEqFields_eq (P : Program) (xs ys : Array V) (fs : List Field) : aEqFields P xs ys fs = eqFieldsD xs ys (fkL P fs) := by
  induction fs with
  | nil => rfl
  | cons f fs ih =>
    have e1 : fkL P (f :: fs) = (f.offset, fkT P f) :: fkL P fs := rfl
    rw [e1]
    simp only [aEqFields, eqFieldsD, ih]
    generalize eqFieldsD xs ys (fkL P fs) = rest
    unfold fkT
    by_cases hn : f.name = "_"
    · simp only [hn, if_true]
    · simp only [hn, if_false]
      generalize xs[f.offset]? = p
      generalize ys[f.offset]? = q
      rcases P.underlying f.type with _ | d
      · rfl
      · rcases p with _ | v
        · cases d <;> rfl
        · rcases q with _ | u
          · cases d <;> first | rfl | (cases v <;> rfl)
          · cases d <;> first | rfl | (cases v <;> first | rfl | (cases u <;> rfl))

inductive EqK where
  | bool
  | ptr (pos : Bool)
  | slice
  | map
  | func
  | iface
  | struct (fs : List (Nat × FK))
  | bad

def eqK (P : Program) (t : TypeId) : EqK :=
  match P.underlying t with
  | some .bool => .bool
  | some (.pointer e) => .ptr (match szT P e with | some (_ + 1) => true | _ => false)
  | some (.slice _) => .slice
  | some (.map _ _) => .map
  | some (.func _ _ _) => .func
  | some (.interface _) => .iface
  | some (.struct fs) => if P.eqGuardType P.depth t || P.stoodInHeld t then .bad else .struct (fkL P fs.toList)
  | _ => .bad

def eqD (k : EqK) (c : Bool) (x y : V) (h : AHeap) : Option Bool :=
  match k, x, y with
  | .bool, .bool a, .bool b => some (a == b)
  | .ptr _, .pointer none, .pointer b => some b.isNone
  | .ptr _, .pointer (some _), .pointer none => some false
  | .ptr p, .pointer (some a), .pointer (some b) => if p && (rwLive h a.block && rwLive h b.block) then some (a == b) else none
  | .slice, .slice none 0 0, .slice none 0 0 => some true
  | .slice, .slice none 0 0, .slice (some _) _ _ => some false
  | .slice, .slice (some _) _ _, .slice none 0 0 => some false
  | .map, .map none, .map b => some b.isNone
  | .map, .map (some _), .map none => some false
  | .func, .nilFunc, .nilFunc => some true
  | .func, .nilFunc, .func _ _ _ => some false
  | .func, .func _ _ _, .nilFunc => some false
  | .iface, .nilIface, .nilIface => if c then some true else none
  | .iface, .nilIface, .iface _ _ => some false
  | .iface, .iface _ _, .nilIface => some false
  | .struct fs, .agg a, .agg b => eqFieldsD a b fs
  | _, _, _ => none

theorem aEq_eq (P : Program) (t : TypeId) (c : Bool) (x y : V) (h : AHeap) : aEq P t c x y h = eqD (eqK P t) c x y h := by
  unfold aEq eqK
  cases hu : P.underlying t with
  | none => simp [eqD]
  | some d =>
    cases d
    case pointer e =>
      simp only
      cases x with
      | pointer a =>
        cases y with
        | pointer b =>
          rcases a with _ | a
          · rfl
          · rcases b with _ | b
            · rfl
            · simp only [eqD]
              cases szT P e with
              | none => simp
              | some n => cases n <;> simp
        | _ => cases a <;> rfl
      | _ => rfl
    case slice e =>
      simp only
      cases x with
      | slice a n k =>
        cases y with
        | slice b m j => cases a <;> cases b <;> first | rfl | (cases n <;> cases k <;> cases m <;> cases j <;> rfl)
        | _ => cases a <;> first | rfl | (cases n <;> cases k <;> rfl)
      | _ => rfl
    case map k e =>
      simp only
      cases x with
      | map a =>
        cases y with
        | map b => cases a <;> cases b <;> rfl
        | _ => cases a <;> rfl
      | _ => rfl
    case struct fs =>
      simp only
      by_cases hg : (P.eqGuardType P.depth t || P.stoodInHeld t) = true
      · rw [if_pos hg]
        cases x <;> try rfl
        cases y <;> try rfl
        simp [hg, eqD]
      · rw [if_neg hg]
        cases x <;> try rfl
        cases y <;> try rfl
        simp only [eqD, if_neg hg, aEqFields_eq]
    all_goals cases x <;> first | rfl | (cases y <;> rfl)

end Go.Abs

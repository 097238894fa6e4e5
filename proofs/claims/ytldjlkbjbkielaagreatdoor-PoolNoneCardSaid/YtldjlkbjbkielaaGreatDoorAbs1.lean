/- Our own abstract machine, part 1: abstract heaps, the relation between abstract and true values, and between abstract heaps and worlds. No program in sight. -/
import Derived.Calls
import Derived.LoopN
import Derived.Below
import Derived.Orders
import Derived.Laws.Sem
import Derived.Laws.World
import Derived.Laws.StructEq
set_option linter.unusedSimpArgs false
set_option linter.unusedVariables false
namespace Go.Abs
open Go

abbrev V := Value

/-- Where an abstract block lies: its true block, how many cells that has, how many cells an element takes. -/
structure Tgt where
  blk : Nat
  sz : Nat
  esz : Nat

abbrev Ren := Nat → Option Tgt

inductive BK where
  | ro | rw | str
  deriving DecidableEq

inductive AObj where
  | cells (c : List V) (esz : Nat) (k : BK)
  | map (es : List MapEntry) (clock : Nat)
  | siter (s : ByteArray) (pos : Nat)
  | miter (m : Option Nat) (since : Nat) (seen : Array Nat) (stepped : Nat)

structure AHeap where
  get : Nat → Option AObj
  next : Nat

/-- Of which nothing is known. -/
def junk : V := .tuple #[]

/-- What was not carried out: no value of the program's. -/
def gone : V := .chan none

def AHeap.put (h : AHeap) (b : Nat) (o : AObj) : AHeap := { h with get := fun x => if x = b then some o else h.get x }
def AHeap.new (h : AHeap) (o : AObj) : AHeap := { h with get := fun x => if x = h.next then some o else h.get x, next := h.next + 1 }
def AHeap.kill (h : AHeap) (b : Nat) : AHeap := { h with get := fun x => if x = b then none else h.get x }

/-- Capacities: 2c: just c; 2c + 1: at least c. ('.slice none 0 1': empty, of whatever place.) -/
def capRel (c c' : Nat) : Prop := c / 2 ≤ c' ∧ (c % 2 = 0 → c' = c / 2)

inductive VR (r : Ren) : V → V → Prop
  | junk (v : V) : VR r (.tuple #[]) v
  | gone : VR r (.chan none) (.tuple #[])
  | bool (b : Bool) : VR r (.bool b) (.bool b)
  | int (k : IntKind) (n : Int) : VR r (.int k n) (.int k n)
  | float (k : FloatKind) (n : Nat) : VR r (.float k n) (.float k n)
  | string (s : ByteArray) : VR r (.string s) (.string s)
  | ptrNil : VR r (.pointer none) (.pointer none)
  | ptr {b o : Nat} {t : Tgt} (h : r b = some t) : VR r (.pointer (some ⟨b, o, none⟩)) (.pointer (some ⟨t.blk, o, none⟩))
  | sliceNil : VR r (.slice none 0 0) (.slice none 0 0)
  | slice {b o n c c' : Nat} {t : Tgt} (h : r b = some t) (hc : capRel c c') (hn : n ≤ c / 2) (hs : o + c' * t.esz ≤ t.sz) :
      VR r (.slice (some ⟨b, o, none⟩) n c) (.slice (some ⟨t.blk, o, none⟩) n c')
  | sliceGone (a : Option Addr) (c : Nat) : VR r (.slice none 0 1) (.slice a 0 c)
  | mapNil : VR r (.map none) (.map none)
  | map {b : Nat} {t : Tgt} (h : r b = some t) : VR r (.map (some b)) (.map (some t.blk))
  | nilFunc : VR r .nilFunc .nilFunc
  | func (fn : Fn) {f f' c c' : Array V} (hf : f.size = f'.size) (hfe : ∀ (i : Nat) (h1 : i < f.size) (h2 : i < f'.size), VR r f[i] f'[i])
      (hc : c.size = c'.size) (hce : ∀ (i : Nat) (h1 : i < c.size) (h2 : i < c'.size), VR r c[i] c'[i]) : VR r (.func fn f c) (.func fn f' c')
  | iface (t : TypeId) {v v' : V} (h : VR r v v') : VR r (.iface t v) (.iface t v')
  | nilIface : VR r .nilIface .nilIface
  | agg {c c' : Array V} (hc : c.size = c'.size) (hce : ∀ (i : Nat) (h1 : i < c.size) (h2 : i < c'.size), VR r c[i] c'[i]) : VR r (.agg c) (.agg c')
  | tuple {c c' : Array V} (hc : c.size = c'.size) (hce : ∀ (i : Nat) (h1 : i < c.size) (h2 : i < c'.size), VR r c[i] c'[i]) : VR r (.tuple c) (.tuple c')

/-- Pointwise, for arrays. -/
def VRa (r : Ren) (a b : Array V) : Prop := a.size = b.size ∧ ∀ (i : Nat) (h1 : i < a.size) (h2 : i < b.size), VR r a[i] b[i]

def Ren.le (r r' : Ren) : Prop := ∀ b t, r b = some t → r' b = some t

theorem Ren.le_refl (r : Ren) : r.le r := fun _ _ h => h
theorem Ren.le_trans {a b c : Ren} (h : a.le b) (k : b.le c) : a.le c := fun x t e => k x t (h x t e)

theorem VR.mono {r r' : Ren} (hr : r.le r') {v v' : V} (h : VR r v v') : VR r' v v' := by
  induction h with
  | junk v => exact .junk v
  | gone => exact .gone
  | bool b => exact .bool b
  | int k n => exact .int k n
  | float k n => exact .float k n
  | string s => exact .string s
  | ptrNil => exact .ptrNil
  | ptr h => exact .ptr (hr _ _ h)
  | sliceNil => exact .sliceNil
  | slice h hc hn hs => exact .slice (hr _ _ h) hc hn hs
  | sliceGone a c => exact .sliceGone a c
  | mapNil => exact .mapNil
  | map h => exact .map (hr _ _ h)
  | nilFunc => exact .nilFunc
  | func fn hf _ hc _ i1 i2 => exact .func fn hf i1 hc i2
  | iface t _ ih => exact .iface t ih
  | nilIface => exact .nilIface
  | agg hc _ ih => exact .agg hc ih
  | tuple hc _ ih => exact .tuple hc ih

theorem VRa.mono {r r' : Ren} (hr : r.le r') {a b : Array V} (h : VRa r a b) : VRa r' a b := ⟨h.1, fun i h1 h2 => (h.2 i h1 h2).mono hr⟩

/-- Plain values without an address. -/
def closed0 : V → Bool
  | .bool _ | .int .. | .float .. | .string _ | .pointer none | .slice none 0 0 | .map none | .nilFunc | .nilIface => true
  | .func _ f c => f.size == 0 && c.size == 0
  | _ => false

/-- Values without an address: each is related to itself alone. -/
def closedV : V → Bool
  | .bool _ | .int .. | .float .. | .string _ | .pointer none | .slice none 0 0 | .map none | .nilFunc | .nilIface => true
  | .func _ f c => f.size == 0 && c.size == 0
  | .iface _ v => closed0 v
  | .agg c => c.toList.all closed0
  | _ => false

theorem closed0_V {v : V} (h : closed0 v = true) : closedV v = true := by
  unfold closed0 at h
  split at h <;> first | rfl | cases h | exact h

theorem VR.closed0 {r : Ren} {v : V} (h : closed0 v = true) : VR r v v := by
  unfold Abs.closed0 at h
  split at h
  case h_10 fn f c =>
    simp at h
    refine .func fn rfl (fun i h1 => ?_) rfl (fun i h1 => ?_) <;> simp [h] at h1
  case h_11 => cases h
  all_goals constructor

theorem VR.closed {r : Ren} {v : V} (h : closedV v = true) : VR r v v := by
  unfold closedV at h
  split at h
  case h_10 fn f c => exact VR.closed0 (v := .func fn f c) h
  case h_11 t v => exact .iface t (VR.closed0 h)
  case h_12 c =>
    simp only [List.all_eq_true] at h
    exact .agg rfl fun i h1 _ => VR.closed0 (h _ (by simp))
  case h_13 => cases h
  all_goals constructor

theorem VR.eq_of_closed {r : Ren} : ∀ {v v' : V}, closedV v = true → VR r v v' → v' = v := by
  intro v v' hc h
  induction h with
  | junk v => simp [closedV] at hc
  | ptr | slice | sliceGone | map | tuple | gone => simp [closedV] at hc
  | func fn hf _ hcc _ _ _ =>
    simp [closedV] at hc
    obtain ⟨h1, h2⟩ := hc
    subst h1 h2
    have e1 := Array.eq_empty_of_size_eq_zero (by simpa using hf.symm)
    have e2 := Array.eq_empty_of_size_eq_zero (by simpa using hcc.symm)
    rw [e1, e2]
  | iface t _ ih => simp only [closedV] at hc; rw [ih (closed0_V hc)]
  | agg hs he ih =>
    simp only [closedV, List.all_eq_true] at hc
    congr 1
    refine Array.ext hs.symm fun i h1 h2 => ih i h2 h1 ?_
    exact closed0_V (hc _ (by simp))
  | _ => rfl

/-! ### Lists of cells -/

def VRl (r : Ren) (a b : List V) : Prop := a.length = b.length ∧ ∀ (i : Nat) (h1 : i < a.length) (h2 : i < b.length), VR r a[i] b[i]

theorem VRl.mono {r r' : Ren} (hr : r.le r') {a b : List V} (h : VRl r a b) : VRl r' a b := ⟨h.1, fun i h1 h2 => (h.2 i h1 h2).mono hr⟩

theorem VRl.nil (r : Ren) : VRl r [] [] := ⟨rfl, fun i h => by simp at h⟩

theorem VRl.cons {r : Ren} {v v' : V} {a b : List V} (h : VR r v v') (k : VRl r a b) : VRl r (v :: a) (v' :: b) := by
  refine ⟨by simp [k.1], fun i h1 h2 => ?_⟩
  cases i with
  | zero => exact h
  | succ i => exact k.2 i (by simpa using h1) (by simpa using h2)

theorem VRl.append {r : Ren} {a b a' b' : List V} (h : VRl r a b) (k : VRl r a' b') : VRl r (a ++ a') (b ++ b') := by
  refine ⟨by simp [h.1, k.1], fun i h1 h2 => ?_⟩
  simp only [List.getElem_append]
  have hl := h.1
  by_cases hi : i < a.length
  · rw [dif_pos hi, dif_pos (hl ▸ hi)]; exact h.2 i hi _
  · rw [dif_neg hi, dif_neg (hl ▸ hi)]
    simp only [← hl]
    exact k.2 _ _ _

theorem VRa.toList {r : Ren} {a b : Array V} (h : VRa r a b) : VRl r a.toList b.toList := ⟨by simpa using h.1, fun i h1 h2 => by simpa using h.2 i (by simpa using h1) (by simpa using h2)⟩

theorem VRl.toArray {r : Ren} {a b : List V} (h : VRl r a b) : VRa r a.toArray b.toArray := ⟨by simpa using h.1, fun i h1 h2 => by simpa using h.2 i (by simpa using h1) (by simpa using h2)⟩

theorem VRl.agg {r : Ren} {a b : List V} (h : VRl r a b) : VR r (.agg a.toArray) (.agg b.toArray) := .agg h.toArray.1 h.toArray.2

/-- A value's cells; none of what is not known, or is a tuple. -/
def cellsOf : V → Option (List V)
  | .agg c => some c.toList
  | .tuple _ => none
  | .chan _ => none
  | v => some [v]

theorem VR.cells {r : Ren} {v v' : V} (h : VR r v v') {c : List V} (hc : cellsOf v = some c) : VRl r c v'.cells.toList := by
  cases h <;> simp only [cellsOf, Option.some.injEq, reduceCtorEq] at hc <;> subst hc
  case agg hs he => exact VRa.toList ⟨hs, he⟩
  all_goals exact VRl.cons (by constructor <;> assumption) (VRl.nil r)

/-- One cell: neither a struct nor a tuple (that is known). -/
def oneCell : V → Bool
  | .agg _ => false
  | .tuple _ => false
  | .chan _ => false
  | _ => true

theorem VR.oneCell {r : Ren} {v v' : V} (h : VR r v v') (h1 : oneCell v = true) : v'.oneCell' = true := by
  cases h <;> simp_all [Abs.oneCell, Value.oneCell']

end Go.Abs

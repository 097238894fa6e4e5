/- Our own abstract machine, part 4: what each operation does to abstract values and heaps (definitions alone). -/
import Derived.Test.YtldjlkbjbkielaaGreatDoorAbs3
set_option linter.unusedSimpArgs false
set_option linter.unusedVariables false
namespace Go.Abs
open Go

section
variable (P : Program)

def aggT (t : TypeId) : Option Bool :=
  match P.underlying t with
  | some (.struct _) => some true
  | some (.array _ _) => some true
  | some _ => some false
  | none => none

def szT (t : TypeId) : Option Nat := (P.info? t).map (·.size)

def eltT (t : TypeId) : Option TypeId :=
  match P.underlying t with
  | some (.slice e) => some e
  | _ => none

def AHeap.rd (h : AHeap) (b o : Nat) : Option V :=
  match h.get b with
  | some (.cells c _ _) => c[o]?
  | _ => none

def AHeap.rdN (h : AHeap) (b o n : Nat) : Option (List V) :=
  match h.get b with
  | some (.cells c _ _) => if o + n ≤ c.length then some ((c.drop o).take n) else none
  | _ => none

def AHeap.wr (h : AHeap) (b o : Nat) (vs : List V) : Option AHeap :=
  match h.get b with
  | some (.cells c e k) => if k ≠ .ro ∧ o + vs.length ≤ c.length then some (h.put b (.cells (setList c o vs) e k)) else none
  | _ => none

def aLoad (t : TypeId) (a : V) (h : AHeap) : Option V :=
  match a with
  | .pointer (some ⟨b, o, none⟩) =>
    match aggT P t, szT P t with
    | some true, some n => (h.rdN b o n).map fun l => .agg l.toArray
    | some false, _ => h.rd b o
    | _, _ => none
  | _ => none

def aStore (t : TypeId) (a x : V) (h : AHeap) : Option AHeap :=
  match a with
  | .pointer (some ⟨b, o, none⟩) =>
    match szT P t, cellsOf x with
    | some n, some vs => if vs.length = n ∧ vs.all oneCell = true then h.wr b o vs else none
    | _, _ => none
  | _ => none

def eszOf (t : TypeId) (n : Nat) : Nat :=
  match P.underlying t with
  | some (.array _ e) => (szT P e).getD 0
  | _ => n

def zeroOf (t : TypeId) : Option V :=
  match (P.info? t).bind (·.zero) with
  | some z => if closedV z then some z else none
  | none => none

/-- A new variable that holds v. -/
def aNew (t : TypeId) (v : V) (h : AHeap) : Option (V × AHeap) :=
  match cellsOf v with
  | some vs => some (.pointer (some ⟨h.next, 0, none⟩), h.new (.cells vs (eszOf P t vs.length) .rw))
  | none => none

def aFill (place : Nat → Option (Nat × Nat)) (cells : List V) : List (Nat × V) → Option (List V)
  | [] => some cells
  | (i, v) :: rest =>
    match place i, cellsOf v with
    | some (off, size), some vs => if vs.length = size ∧ off + vs.length ≤ cells.length then aFill place (setList cells off vs) rest else none
    | _, _ => none

def structPlace (fs : Array Field) (i : Nat) : Option (Nat × Nat) :=
  match fs[i]? with
  | some f => (szT P f.type).map fun n => (f.offset, n)
  | none => none

def fieldsOk (fs : Array Field) : Bool := fs.all fun f => (szT P f.type).isSome

def aBuild (t : TypeId) (parts : List (Nat × V)) : Option V :=
  match (zeroOf P t).bind cellsOf with
  | some z =>
    match P.underlying t with
    | some (.struct fs) => if fieldsOk P fs then (aFill (structPlace P fs) z parts).map fun l => .agg l.toArray else none
    | some (.array _ e) =>
      match szT P e with
      | some n => (aFill (fun i => some (i * n, n)) z parts).map fun l => .agg l.toArray
      | none => none
    | _ => none
  | none => none

def zeros (z : List V) (n : Nat) : List V := (List.range n).map fun i => z.getD (i % z.length) Abs.junk

def aBuildSlice (t : TypeId) (len : Nat) (parts : List (Nat × V)) (h : AHeap) : Option (V × AHeap) :=
  match eltT P t with
  | some e =>
    match szT P e, (zeroOf P e).bind cellsOf with
    | some n, some z =>
      if 0 < n ∧ len * n ≤ 16777216 ∧ z.length = n then
        (aFill (fun i => some (i * n, n)) (zeros z (len * n)) parts).map fun l => (.slice (some ⟨h.next, 0, none⟩) len (2 * len), h.new (.cells l n .rw))
      else none
    | _, _ => none
  | none => none

def aNil (x : V) : Option V :=
  match x with
  | .pointer (some a) => some (.pointer (some a))
  | .iface t v => some (.iface t v)
  | .func (.func g) f c => some (.func (.func g) f c)
  | _ => none

def aInt (op : BinOp) (k : IntKind) (a b : Int) : Option V :=
  match op with
  | .add => some (.int k (k.wrap (a + b)))
  | .sub => some (.int k (k.wrap (a - b)))
  | .mul => some (.int k (k.wrap (a * b)))
  | .quo => if b = 0 then none else some (.int k (k.wrap (a.tdiv b)))
  | .rem => if b = 0 then none else some (.int k (a.tmod b))
  | .and => some (.int k (k.wrap ((BitVec.ofInt k.bits a &&& BitVec.ofInt k.bits b).toNat)))
  | .or => some (.int k (k.wrap ((BitVec.ofInt k.bits a ||| BitVec.ofInt k.bits b).toNat)))
  | .xor => some (.int k (k.wrap ((BitVec.ofInt k.bits a ^^^ BitVec.ofInt k.bits b).toNat)))
  | .andNot => some (.int k (k.wrap ((BitVec.ofInt k.bits a &&& ~~~ BitVec.ofInt k.bits b).toNat)))
  | .eql => some (.bool (a == b))
  | .neq => some (.bool (a != b))
  | .lss => some (.bool (decide (a < b)))
  | .leq => some (.bool (decide (a ≤ b)))
  | .gtr => some (.bool (decide (a > b)))
  | .geq => some (.bool (decide (a ≥ b)))
  | _ => none

def aShift (op : BinOp) (k : IntKind) (x y : Int) : Option V :=
  if y < 0 then none else
  match op with
  | .shl => some (.int k (k.wrap (x * 2 ^ (min y.toNat k.bits))))
  | .shr => some (.int k (x.fdiv (2 ^ (min y.toNat k.bits))))
  | _ => none

def aStr (op : BinOp) (x y : ByteArray) : Option V :=
  match op with
  | .add => if ((x.size + y.size : Nat) : Int) > IntKind.i64.max then none else some (.string (x ++ y))
  | .eql => some (.bool (x.toList == y.toList))
  | .neq => some (.bool (!(x.toList == y.toList)))
  | .lss => some (.bool (Op.bytesLess x.toList y.toList))
  | .leq => some (.bool (Op.bytesLess x.toList y.toList || x.toList == y.toList))
  | .gtr => some (.bool (!(Op.bytesLess x.toList y.toList || x.toList == y.toList)))
  | .geq => some (.bool (!Op.bytesLess x.toList y.toList))
  | _ => none

/-- Are two structs of plain fields the same? -/
def aEqFields (xs ys : Array V) : List Field → Option Bool
  | [] => some true
  | f :: fs =>
    if f.name = "_" then none else
    match P.underlying f.type, xs[f.offset]?, ys[f.offset]? with
    | some (.int _), some (.int k a), some (.int k' b) => if k = k' then (if a == b then aEqFields xs ys fs else some false) else none
    | some .string, some (.string a), some (.string b) => if a.toList == b.toList then aEqFields xs ys fs else some false
    | some .bool, some (.bool a), some (.bool b) => if a == b then aEqFields xs ys fs else some false
    | _, _, _ => none

def rwLive (h : AHeap) (b : Nat) : Bool :=
  match h.get b with
  | some (.cells _ _ .rw) => true
  | _ => false

/-- '==' of what are neither numbers nor strings; c: one of the two is written as a constant. -/
def aEq (t : TypeId) (c : Bool) (x y : V) (h : AHeap) : Option Bool :=
  match P.underlying t, x, y with
  | some .bool, .bool a, .bool b => some (a == b)
  | some (.pointer _), .pointer none, .pointer b => some b.isNone
  | some (.pointer _), .pointer (some _), .pointer none => some false
  | some (.pointer e), .pointer (some a), .pointer (some b) =>
    match szT P e with
    | some (_ + 1) => if rwLive h a.block && rwLive h b.block then some (a == b) else none
    | _ => none
  | some (.slice _), .slice none 0 0, .slice none 0 0 => some true
  | some (.slice _), .slice none 0 0, .slice (some _) _ _ => some false
  | some (.slice _), .slice (some _) _ _, .slice none 0 0 => some false
  | some (.map _ _), .map none, .map b => some b.isNone
  | some (.map _ _), .map (some _), .map none => some false
  | some (.func _ _ _), .nilFunc, .nilFunc => some true
  | some (.func _ _ _), .nilFunc, .func _ _ _ => some false
  | some (.func _ _ _), .func _ _ _, .nilFunc => some false
  | some (.interface _), .nilIface, .nilIface => if c then some true else none
  | some (.interface _), .nilIface, .iface _ _ => some false
  | some (.interface _), .iface _ _, .nilIface => some false
  | some (.struct fs), .agg a, .agg b => if P.eqGuardType P.depth t || P.stoodInHeld t then none else aEqFields P a b fs.toList
  | _, _, _ => none

def isConstO : Operand → Bool
  | .const _ => true
  | _ => false

def aBin (op : BinOp) (t : TypeId) (c : Bool) (x y : V) (h : AHeap) : Option V :=
  match x, y with
  | .int k a, .int k' b =>
    match op with
    | .shl => aShift .shl k a b
    | .shr => aShift .shr k a b
    | op => if k = k' then aInt op k a b else none
  | .string a, .string b => aStr op a b
  | x, y =>
    match op with
    | .eql => (aEq P t c x y h).map .bool
    | .neq => (aEq P t c x y h).map fun b => .bool (!b)
    | _ => none

def aUn (op : UnOp) (x : V) : Option V :=
  match op, x with
  | .neg, .int k n => aInt .sub k 0 n
  | .xor, .int k n => aInt .xor k (if k.signed then -1 else k.max) n
  | .not, .bool b => some (.bool (!b))
  | _, _ => none

def bytesOf : List V → Option (List UInt8)
  | [] => some []
  | .int .u8 n :: r => (bytesOf r).map fun l => UInt8.ofNat n.toNat :: l
  | _ => none

/-- The cells of a slice value, whole. -/
def sliceCells (size : Nat) (x : V) (h : AHeap) : Option (List V) :=
  match x with
  | .slice none 0 0 => some []
  | .slice (some ⟨b, o, none⟩) n _ => h.rdN b o (n * size)
  | _ => none

/-- A written list of bytes, as it stands for a text. -/
def aMark (x : V) (h : AHeap) : Option (V × AHeap) :=
  match x with
  | .slice (some ⟨b, o, none⟩) n c =>
    match h.get b with
    | some (.cells cs esz .rw) => some (.slice (some ⟨b, o, none⟩) n c, h.put b (.cells cs esz .str))
    | _ => none
  | _ => none

def aConvert (s d : TypeId) (x : V) (h : AHeap) : Option (V × AHeap) :=
  match P.underlying s, P.underlying d, x with
  | some (.int _), some (.int k), .int _ n => some (.int k (k.wrap n), h)
  | some .string, some .string, .string b => some (.string b, h)
  | some (.slice e), some .string, x =>
    match P.underlying e with
    | some (.int .u8) => ((sliceCells 1 x h).bind bytesOf).map fun l => (.string ⟨l.toArray⟩, h)
    | _ => none
  | some .string, some (.slice e), .string b =>
    match P.underlying e with
    | some (.int .u8) => some (.slice (some ⟨h.next, 0, none⟩) b.size (2 * b.size + 1), h.new (.cells (b.data.toList.map fun x => .int .u8 x.toNat) 1 .str))
    | _ => none
  | some (.slice _), some (.slice e), x =>
    match P.underlying e with
    | some (.int .u8) => if s = d then aMark x h else none
    | _ => none
  | _, _, _ => none

def aBound (x : V) (y : Nat) : Option Nat :=
  match x with
  | .int _ i => if 0 ≤ i ∧ i ≤ y then some i.toNat else none
  | _ => none

def aBoundO (x : Option V) (y d : Nat) : Option Nat :=
  match x with
  | some x => aBound x y
  | none => some d

def aSlice (t : TypeId) (x : V) (lo hi mx : Option V) (h : AHeap) : Option V :=
  match P.underlying t, x with
  | some .string, .string s =>
    match mx, aBoundO hi s.size s.size with
    | none, some u => (aBoundO lo u 0).map fun l => .string (s.extract l u)
    | _, _ => none
  | some (.slice e), .slice none 0 0 =>
    match szT P e, mx, hi with
    | some _, none, hi =>
      match aBoundO hi 0 0, aBoundO lo 0 0 with
      | some _, some _ => some (.slice none 0 0)
      | _, _ => none
    | some _, some m, some u =>
      match aBound m 0, aBound u 0, aBoundO lo 0 0 with
      | some _, some _, some _ => some (.slice none 0 0)
      | _, _, _ => none
    | _, _, _ => none
  | some (.slice e), .slice (some ⟨b, o, none⟩) n c =>
    match szT P e, h.get b with
    | some size, some (.cells _ esz _) =>
      if size = esz then
        match mx with
        | none =>
          match aBoundO hi (c / 2) n with
          | some u =>
            match aBoundO lo u 0 with
            | some l =>
              if l = 0 then some (.slice (some ⟨b, o, none⟩) u c)
              else if l < c / 2 then some (.slice (some ⟨b, o + l * size, none⟩) (u - l) (c - 2 * l))
              else if c % 2 = 0 then some (.slice (some ⟨b, o, none⟩) (u - l) 0)
              else some (.slice none 0 1)
            | none => none
          | none => none
        | some m =>
          match aBound m (c / 2), hi with
          | some m, some u =>
            match aBound u m with
            | some u =>
              match aBoundO lo u 0 with
              | some l => some (.slice (some ⟨b, if m = l then o else o + l * size, none⟩) (u - l) (2 * (m - l)))
              | none => none
            | none => none
          | _, _ => none
      else none
    | _, _ => none
  | _, _ => none

def fieldOff (t : TypeId) (i : Nat) : Option Nat :=
  match P.underlying t with
  | some (.struct fs) =>
    match fs[i]? with
    | some f => (match szT P f.type with | some (_ + 1) => some f.offset | _ => none)
    | none => none
  | _ => none

def aFieldAddr (t : TypeId) (x : V) (i : Nat) : Option V :=
  match x, fieldOff P t i with
  | .pointer (some ⟨b, o, none⟩), some off => some (.pointer (some ⟨b, o + off, none⟩))
  | _, _ => none

def aPart (t : TypeId) (cs : Array V) (off : Nat) : Option V :=
  match aggT P t, szT P t with
  | some true, some n => some (.agg (cs.extract off (off + n)))
  | some false, _ => cs[off]?
  | _, _ => none

def aField (t : TypeId) (x : V) (i : Nat) : Option V :=
  match P.underlying t, x with
  | some (.struct fs), .agg cs =>
    match fs[i]? with
    | some f => aPart P f.type cs f.offset
    | none => none
  | _, _ => none

def aIndexAddr (t : TypeId) (x i : V) : Option V :=
  match P.underlying t, x, i with
  | some (.slice e), .slice (some ⟨b, o, none⟩) n _, .int _ i =>
    match szT P e with
    | some size => if 0 ≤ i ∧ i < n then some (.pointer (some ⟨b, o + i.toNat * size, none⟩)) else none
    | none => none
  | some (.array n e), .pointer (some ⟨b, o, none⟩), .int _ i =>
    match szT P e with
    | some size => if 0 ≤ i ∧ i < n then some (.pointer (some ⟨b, o + i.toNat * size, none⟩)) else none
    | none => none
  | _, _, _ => none

def aIndex (t : TypeId) (x i : V) : Option V :=
  match P.underlying t, x, i with
  | some (.array n e), .agg cs, .int _ i =>
    match szT P e with
    | some size => if 0 ≤ i ∧ i < n then aPart P e cs (i.toNat * size) else none
    | none => none
  | some .string, .string s, .int _ i =>
    match (if 0 ≤ i then s[i.toNat]? else none) with
    | some b => some (.int .u8 b.toNat)
    | none => none
  | _, _, _ => none

/-- Keys of a map: whole numbers, strings, structs of these. -/
def aKeyEq (kt : TypeId) (x y : V) : Option Bool :=
  match P.underlying kt, x, y with
  | some (.int _), .int k a, .int k' b => if k = k' then some (a == b) else none
  | some .string, .string a, .string b => some (a == b)
  | some (.struct fs), .agg a, .agg b => if P.stoodInHeld kt then none else aEqFields P a b fs.toList
  | _, _, _ => none

/-- Is it a key that may be asked for? -/
def aKeyOk (kt : TypeId) (x : V) : Bool :=
  match P.underlying kt, x with
  | some (.int _), .int _ _ => true
  | some .string, .string _ => true
  | some (.struct fs), .agg cs => closedV (.agg cs) && fs.all fun f => f.name != "_" && (match P.underlying f.type, cs[f.offset]? with
      | some (.int _), some (.int _ _) => true
      | some .string, some (.string _) => true
      | some .bool, some (.bool _) => true
      | _, _ => false)
  | _, _ => false

def aFind (kt : TypeId) (k : V) : List MapEntry → Nat → Option (Option (Nat × V))
  | [], _ => some none
  | e :: es, i =>
    match aKeyEq P kt k e.key with
    | some true => if closedV e.key then some (some (i, e.val)) else none
    | some false => if closedV e.key then aFind kt k es (i + 1) else none
    | none => none

def aLookup (t : TypeId) (x k : V) (ok : Bool) (h : AHeap) : Option V :=
  match P.underlying t with
  | some (.map kt et) =>
    if aKeyOk P kt k then
      match zeroOf P et, (match x with
          | .map none => some none
          | .map (some b) => (match h.get b with | some (.map es _) => aFind P kt k es 0 | _ => none)
          | _ => none) with
      | some _, some (some (_, v)) => some (if ok then .tuple #[v, .bool true] else v)
      | some z, some none => some (if ok then .tuple #[z, .bool false] else z)
      | _, _ => none
    else none
  | _ => none

def aMapUpdate (t : TypeId) (x k v : V) (h : AHeap) : Option AHeap :=
  match P.underlying t with
  | some (.map kt _) =>
    if aKeyOk P kt k then
      match x with
      | .map (some b) =>
        match h.get b with
        | some (.map es clock) =>
          match aFind P kt k es 0 with
          | some (some (i, _)) => if (es[i]?).any (fun e => Instr.sameBits 10000 e.key k) then some (h.put b (.map (es.modify i fun e => { e with key := k, val := v }) clock)) else none
          | some none => some (h.put b (.map (es ++ [{ key := k, val := v, born := clock }]) (clock + 1)))
          | none => none
        | _ => none
      | _ => none
    else none
  | _ => none

def aDelete (t : TypeId) (x k : V) (h : AHeap) : Option AHeap :=
  match P.underlying t with
  | some (.map kt _) =>
    if aKeyOk P kt k then
      match x with
      | .map none => some h
      | .map (some b) =>
        match h.get b with
        | some (.map es clock) =>
          match aFind P kt k es 0 with
          | some (some (i, _)) => some (h.put b (.map (es.eraseIdx i) clock))
          | some none => some (h.put b (.map es clock))
          | none => none
        | _ => none
      | _ => none
    else none
  | _ => none

def aRange (t : TypeId) (x : V) (h : AHeap) : Option (V × AHeap) :=
  let p : V := .pointer (some ⟨h.next, 0, none⟩)
  match P.underlying t, x with
  | some .string, .string s => some (p, h.new (.siter s 0))
  | some (.map _ _), .map none => some (p, h.new (.miter none 0 #[] 0))
  | some (.map _ _), .map (some b) => (match h.get b with | some (.map _ clock) => some (p, h.new (.miter (some b) clock #[] clock)) | _ => none)
  | _, _ => none

/-- The entries that may come next. -/
def cands (es : List MapEntry) (since : Nat) (seen : Array Nat) : List (Option MapEntry) :=
  let left := es.filter fun e => !seen.contains e.born
  let old := left.filter (·.born < since)
  let new := left.filter (·.born ≥ since)
  (if old.isEmpty then [none] else []) ++ (old ++ new).map some

def aNext (x : V) (isString : Bool) (h : AHeap) (K : V → AHeap → Prop) : Prop :=
  match x with
  | .pointer (some ⟨b, 0, none⟩) =>
    match h.get b, isString with
    | some (.siter s pos), true =>
      if pos < s.size then
        K (.tuple #[.bool true, .int .i64 pos, .int .i32 (Utf8.decode s pos).1]) (h.put b (.siter s (pos + (Utf8.decode s pos).2)))
      else K (.tuple #[.bool false]) h
    | some (.miter none _ _ _), false => K (.tuple #[.bool false]) h
    | some (.miter (some m) since seen last), false =>
      match h.get m with
      | some (.map es clock) =>
        (!seen.isEmpty && !es.isEmpty && es.all (·.born ≥ last)) = false ∧
        ∀ c ∈ cands es since seen,
          match c with
          | some e => K (.tuple #[.bool true, e.key, e.val]) (h.put b (.miter (some m) since (seen.push e.born) clock))
          | none => K (.tuple #[.bool false]) h
      | _ => False
    | _, _ => False
  | _ => False

def aEntry (x : V) (h : AHeap) : Option V :=
  match x with
  | .pointer (some ⟨b, 0, none⟩) =>
    match h.get b with
    | some (.miter (some m) _ seen stepped) =>
      match seen.back?, h.get m with
      | some stamp, some (.map es clock) =>
        if clock = stepped then (es.find? (·.born == stamp)).map fun e => .tuple #[e.key, e.val] else none
      | _, _ => none
    | _ => none
  | _ => none

def aAssert (x : V) (asserted : TypeId) (ok : Bool) : Option V :=
  match P.underlying asserted, x with
  | some (.interface _), _ => none
  | some _, .iface t v => if t = asserted then some (if ok then .tuple #[v, .bool true] else v) else none
  | _, _ => none

def aExtract (x : V) (i : Nat) : Option V :=
  match x with
  | .tuple vs => vs[i]?
  | _ => none

def aMakeSlice (t : TypeId) (l c : V) (h : AHeap) : Option (V × AHeap) :=
  match eltT P t, l, c with
  | some e, .int _ l, .int _ c =>
    match P.info? e, (zeroOf P e).bind cellsOf with
    | some i, some z =>
      if 0 ≤ l ∧ l ≤ c ∧ c ≤ 1099511627776 ∧ i.bytes ≤ 64 ∧ z.length = i.size ∧ 0 < i.size then
        some (.slice (some ⟨h.next, 0, none⟩) l.toNat (2 * c.toNat), h.new (.cells (zeros z (c.toNat * i.size)) i.size .rw))
      else none
    | _, _ => none
  | _, _, _ => none

def aLenOf : V → Option Nat
  | .slice none 0 0 => some 0
  | .slice none 0 1 => some 0
  | .slice (some ⟨_, _, none⟩) n _ => some n
  | .string s => some s.size
  | _ => none

/-- What is appended: the cells of a slice, or a string's bytes. -/
def aSrc (size : Nat) (x : V) (h : AHeap) : Option (List V) :=
  match x with
  | .string s => if size = 1 then some (s.data.toList.map fun b => .int .u8 b.toNat) else none
  | x => sliceCells size x h

def srcT (t : TypeId) : Bool :=
  match P.underlying t with
  | some (.slice _) => true
  | some .string => true
  | _ => false

def aAppend (ts : Array TypeId) (s x : V) (h : AHeap) : Option (V × AHeap) :=
  match (ts[0]?).bind (eltT P), ts[1]? with
  | some e, some xt =>
    match P.info? e, aLenOf x, (zeroOf P e).bind cellsOf with
    | some i, some n, some z =>
      if srcT P xt = true ∧ 0 < i.size ∧ i.bytes ≤ 64 ∧ z.length = i.size then
        match s with
        | .slice none 0 0 =>
          if n = 0 then some (.slice none 0 0, h)
          else if n ≤ 1099511627776 then
            (aSrc i.size x h).map fun new => (.slice (some ⟨h.next, 0, none⟩) n (2 * n + 1), h.new (.cells new i.size .rw))
          else none
        | .slice (some ⟨b, o, none⟩) m c =>
          if n = 0 then some (.slice (some ⟨b, o, none⟩) m c, h) else
          if m + n ≤ c / 2 then
            match aSrc i.size x h, h.get b with
            | some new, some (.cells _ esz _) => if esz = i.size ∧ new.all oneCell = true then (h.wr b (o + m * i.size) new).map fun h' => (.slice (some ⟨b, o, none⟩) (m + n) c, h') else none
            | _, _ => none
          else if m + n ≤ 1099511627776 then
            match aSrc i.size x h, h.rdN b o (m * i.size) with
            | some new, some old =>
              if c % 2 = 0 then some (.slice (some ⟨h.next, 0, none⟩) (m + n) (2 * (m + n) + 1), h.new (.cells (old ++ new) i.size .rw))
              else
                match h.get b with
                | some (.cells _ esz k) =>
                  if o = 0 ∧ esz = i.size ∧ k ≠ .ro ∧ new.all oneCell = true then some (.slice (some ⟨h.next, 0, none⟩) (m + n) (2 * (m + n) + 1), (h.kill b).new (.cells (old ++ new) i.size k))
                  else none
                | _ => none
            | _, _ => none
          else none
        | _ => none
      else none
    | _, _, _ => none
  | _, _ => none

def aCopy (ts : Array TypeId) (d s : V) (h : AHeap) : Option (V × AHeap) :=
  match (ts[0]?).bind (eltT P) with
  | some e =>
    match szT P e, d, aLenOf s with
    | some size, .slice none 0 0, some _ => some (.int .i64 0, h)
    | some size, .slice (some ⟨b, o, none⟩) m _, some n =>
      if 0 < size then
        match aSrc size s h with
        | some cs => let k := Nat.min n m; if (cs.take (k * size)).all oneCell = true then (h.wr b o (cs.take (k * size))).map fun h' => (.int .i64 k, h') else none
        | none => none
      else none
    | _, _, _ => none
  | none => none

def aLen (ts : Array TypeId) (x : V) (h : AHeap) : Option V :=
  match (ts[0]?).bind P.underlying, x with
  | some .string, .string s => some (.int .i64 s.size)
  | some (.array n _), _ => some (.int .i64 n)
  | some (.slice _), .slice _ n _ => some (.int .i64 n)
  | some (.map _ _), .map none => some (.int .i64 0)
  | some (.map _ _), .map (some b) => (match h.get b with | some (.map es _) => some (.int .i64 es.length) | _ => none)
  | _, _ => none

def aClear (ts : Array TypeId) (x : V) (h : AHeap) : Option AHeap :=
  match (ts[0]?).bind (eltT P), x with
  | some e, .slice a n c =>
    match a, n with
    | none, 0 => if c = 0 then some h else none
    | some _, 0 => some h
    | some ⟨b, o, none⟩, n + 1 =>
      match (zeroOf P e).bind cellsOf with
      | some z => if z.length ≠ 0 ∧ z.all oneCell = true then h.wr b o (zeros z ((n + 1) * z.length)) else none
      | none => none
    | _, _ => none
  | _, _ => none

def aMinMaxFrom (mx : Bool) : List V → V → Option V
  | [], .int k a => some (.int k a)
  | .int k' b :: r, .int k a => if k = k' then aMinMaxFrom mx r (.int k (if mx then (if b > a then b else a) else (if b < a then b else a))) else none
  | _, _ => none

def aMinMax (mx : Bool) : List V → Option V
  | .int k a :: r => aMinMaxFrom mx r (.int k a)
  | _ => none

def aBuiltin (b : Builtin) (ts : Array TypeId) (args : List V) (h : AHeap) : Option (V × AHeap) :=
  match b, args with
  | .append, [s, x] => aAppend P ts s x h
  | .copy, [d, s] => aCopy P ts d s h
  | .len, [x] => (aLen P ts x h).map fun v => (v, h)
  | .delete, [m, k] => ((ts[0]?).bind fun t => aDelete P t m k h).map fun h => (Abs.junk, h)
  | .clear, [x] => (aClear P ts x h).map fun h => (Abs.junk, h)
  | .min, l => (aMinMax false l).map fun v => (v, h)
  | .max, l => (aMinMax true l).map fun v => (v, h)
  | _, _ => none

/-- What a function does to arguments and a heap: what has to hold so that it ends, and ends in Q. -/
abbrev Spec := List V → AHeap → (V → AHeap → Prop) → Prop

def aEv (e : Nat → V) : Operand → V
  | .tmp t => e t
  | .const v => if closedV v then v else Abs.junk
  | .global _ => Abs.junk
  | .func f => .func (.func f) #[] #[]

def evArr (e : Nat → V) (xs : Array Operand) : List V := xs.toList.map (aEv e)

def aCall (I : FuncId → Option Spec) (f : V) (args : List V) (h : AHeap) (K : V → AHeap → Prop) : Prop :=
  match f with
  | .func (.func g) first captured =>
    match I g with
    | some s => s (first.toList ++ args ++ captured.toList) h K
    | none => False
  | _ => False

def aOp (o : Op) (e : Nat → V) (h : AHeap) : Option (V × AHeap) :=
  match o with
  | .move x => some (aEv e x, h)
  | .assign x => some (aEv e x, h)
  | .pick c a b => (match aEv e c with | .bool t => some (if t then aEv e a else aEv e b, h) | _ => none)
  | .alloc t => (zeroOf P t).bind fun z => aNew P t z h
  | .box t x => aNew P t (aEv e x) h
  | .build t ps => (aBuild P t (ps.toList.map fun p => (p.1, aEv e p.2))).map fun v => (v, h)
  | .buildSlice t n ps => aBuildSlice P t n (ps.toList.map fun p => (p.1, aEv e p.2)) h
  | .insert t m k v => (aMapUpdate P t (aEv e m) (aEv e k) (aEv e v) h).map fun h => (Abs.junk, h)
  | .load t a => (aLoad P t (aEv e a) h).map fun v => (v, h)
  | .store t a x => (aStore P t (aEv e a) (aEv e x) h).map fun h => (Abs.junk, h)
  | .nilCheck x => (aNil (aEv e x)).map fun v => (v, h)
  | .binOp op t x y _ => (aBin P op t (isConstO x || isConstO y) (aEv e x) (aEv e y) h).map fun v => (v, h)
  | .unOp op _ x => (aUn op (aEv e x)).map fun v => (v, h)
  | .convert s d x => aConvert P s d (aEv e x) h
  | .makeInterface t x => (match P.underlying t with | some (.interface _) => none | some _ => some (.iface t (aEv e x), h) | none => none)
  | .makeFunc fn f c => some (.func fn (f.map (aEv e)) (c.map (aEv e)), h)
  | .makeMap t r =>
    match r, P.underlying t with
    | none, some (.map _ _) => some (.map (some h.next), h.new (.map [] 0))
    | some x, some (.map _ _) => (match aEv e x with | .int _ _ => some (.map (some h.next), h.new (.map [] 0)) | _ => none)
    | _, _ => none
  | .makeSlice t l c => aMakeSlice P t (aEv e l) (aEv e c) h
  | .slice t x lo hi mx => (aSlice P t (aEv e x) (lo.map (aEv e)) (hi.map (aEv e)) (mx.map (aEv e)) h).map fun v => (v, h)
  | .fieldAddr t x i => (aFieldAddr P t (aEv e x) i).map fun v => (v, h)
  | .field t x i => (aField P t (aEv e x) i).map fun v => (v, h)
  | .indexAddr t x i => (aIndexAddr P t (aEv e x) (aEv e i)).map fun v => (v, h)
  | .index t x i => (aIndex P t (aEv e x) (aEv e i)).map fun v => (v, h)
  | .lookup t x i ok => (aLookup P t (aEv e x) (aEv e i) ok h).map fun v => (v, h)
  | .mapUpdate t m k v => (aMapUpdate P t (aEv e m) (aEv e k) (aEv e v) h).map fun h => (Abs.junk, h)
  | .range t x => aRange P t (aEv e x) h
  | .entry it => (aEntry (aEv e it) h).map fun v => (v, h)
  | .typeAssert x _ t ok => (aAssert P (aEv e x) t ok).map fun v => (v, h)
  | .extract t i => (aExtract (aEv e t) i).map fun v => (v, h)
  | .call c =>
    match c.callee with
    | .builtin b => aBuiltin P b c.argTypes (evArr e c.args) h
    | _ => none
  | _ => none

/-- An operation, and what comes behind it. -/
def aDo (I : FuncId → Option Spec) (o : Op) (e : Nat → V) (h : AHeap) (K : V → AHeap → Prop) : Prop :=
  match o with
  | .next it s => aNext (aEv e it) s h K
  | .call c =>
    match c.callee with
    | .value f => aCall I (aEv e f) (evArr e c.args) h K
    | _ =>
      match aOp P o e h with
      | some (v, h) => K v h
      | none => False
  | _ =>
    match aOp P o e h with
    | some (v, h) => K v h
    | none => False

end
end Go.Abs

/- Our own abstract machine, part 16: the other operations over what they need to know of types; the evaluator over them. -/
import Derived.Test.YthhegdifbnghpaaGreatDoorWad
set_option linter.unusedSimpArgs false
set_option linter.unusedVariables false
namespace Go.Abs
open Go
def binD (k : EqK) (op : BinOp) (c : Bool) (x y : V) (h : AHeap) : Option V :=
 match x, y with
 | .int k a, .int k' b =>
  match op with
  | .shl => aShift .shl k a b
  | .shr => aShift .shr k a b
  | op => if k = k' then aInt op k a b else none
 | .string a, .string b => aStr op a b
 | x, y =>
  match op with
  | .eql => (eqD k c x y h).map .bool
  | .neq => (eqD k c x y h).map fun b => .bool (!b)
  | _ => none
theorem aBin_eq (P : Program) (op : BinOp) (t : TypeId) (c : Bool) (x y : V) (h : AHeap) : aBin P op t c x y h = binD (eqK P t) op c x y h := by
 unfold aBin binD
 simp only [aEq_eq]
 rfl
inductive ConvK where
 | int (k : IntKind)
 | str
 | toStr
 | toBytes
 | mark
 | bad
def convK (P : Program) (s d : TypeId) : ConvK :=
 match P.underlying s, P.underlying d with
 | some (.int _), some (.int k) => .int k
 | some .string, some .string => .str
 | some (.slice e), some .string => (match P.underlying e with | some (.int .u8) => .toStr | _ => .bad)
 | some .string, some (.slice e) => (match P.underlying e with | some (.int .u8) => .toBytes | _ => .bad)
 | some (.slice _), some (.slice e) => (match P.underlying e with | some (.int .u8) => if s = d then .mark else .bad | _ => .bad)
 | _, _ => .bad
def convD (k : ConvK) (x : V) (h : AHeap) : Option (V × AHeap) :=
 match k with
 | .int k => (match x with | .int _ n => some (.int k (k.wrap n), h) | _ => none)
 | .str => (match x with | .string b => some (.string b, h) | _ => none)
 | .toStr => ((sliceCells 1 x h).bind bytesOf).map fun l => (.string ⟨l.toArray⟩, h)
 | .toBytes => (match x with
  | .string b => some (.slice (some ⟨h.next, 0, none⟩) b.size (2 * b.size + 1), h.new (.cells (b.data.toList.map fun x => .int .u8 x.toNat) 1 .str))
  | _ => none)
 | .mark => aMark x h
 | .bad => none
theorem aConvert_eq (P : Program) (s d : TypeId) (x : V) (h : AHeap) : aConvert P s d x h = convD (convK P s d) x h := by
 unfold aConvert convK
 generalize P.underlying s = us
 generalize P.underlying d = ud
 cases us with
 | none => rfl
 | some u =>
  cases ud with
  | none => cases u <;> first | rfl | (cases x <;> rfl)
  | some v =>
   cases u
   case slice e =>
    cases v
    case string =>
     simp only
     generalize P.underlying e = q
     cases q with
     | none => rfl
     | some q =>
      cases q
      case int k => cases k <;> rfl
      all_goals rfl
    case slice e' =>
     simp only
     generalize P.underlying e' = q
     cases q with
     | none => rfl
     | some q =>
      cases q
      case int k => cases k <;> first | rfl | (simp only; split <;> rfl)
      all_goals rfl
    all_goals first | rfl | (cases x <;> rfl)
   case string =>
    cases v
    case slice e =>
     cases x
     case string b =>
      simp only
      generalize P.underlying e = q
      cases q with
      | none => rfl
      | some q =>
       cases q
       case int k => cases k <;> rfl
       all_goals rfl
     all_goals
      simp only
      generalize P.underlying e = q
      cases q with
      | none => rfl
      | some q =>
       cases q
       case int k => cases k <;> rfl
       all_goals rfl
    all_goals first | rfl | (cases x <;> rfl)
   all_goals (cases v <;> first | rfl | (cases x <;> rfl))
inductive SlK where
 | str
 | slice (size : Nat)
 | bad
def slK (P : Program) (t : TypeId) : SlK :=
 match P.underlying t with
 | some .string => .str
 | some (.slice e) => (match szT P e with | some n => .slice n | none => .bad)
 | _ => .bad
def sliceD (k : SlK) (x : V) (lo hi mx : Option V) (h : AHeap) : Option V :=
 match k, x with
 | .str, .string s =>
  match mx, aBoundO hi s.size s.size with
  | none, some u => (aBoundO lo u 0).map fun l => .string (s.extract l u)
  | _, _ => none
 | .slice _, .slice none 0 0 =>
  match mx, hi with
  | none, hi =>
   match aBoundO hi 0 0, aBoundO lo 0 0 with
   | some _, some _ => some (.slice none 0 0)
   | _, _ => none
  | some m, some u =>
   match aBound m 0, aBound u 0, aBoundO lo 0 0 with
   | some _, some _, some _ => some (.slice none 0 0)
   | _, _, _ => none
  | _, _ => none
 | .slice _, .slice none 0 1 =>
  match mx, aBoundO hi 0 0, aBoundO lo 0 0 with
  | none, some _, some _ => some (.slice none 0 1)
  | _, _, _ => none
 | .slice size, .slice (some ⟨b, o, none⟩) n c =>
  match h.get b with
  | some (.cells _ esz _) =>
   if size = esz then
    match mx with
    | none =>
     match aBoundO hi (c / 2) n with
     | some u =>
      match aBoundO lo u 0 with
      | some l =>
       if l = 0 then some (.slice (some ⟨b, o, none⟩) u c)
       else if l < c / 2 then some (.slice (some ⟨b, o + l * size, none⟩) (u - l) (c - 2 * l))
       else if c % 2 = 0 then some (.slice (some ⟨b, o, none⟩) (u - l) 0)
       else some (.slice none 0 1)
      | none => none
     | none => none
    | some m =>
     match aBound m (c / 2), hi with
     | some m, some u =>
      match aBound u m with
      | some u =>
       match aBoundO lo u 0 with
       | some l => some (.slice (some ⟨b, if m = l then o else o + l * size, none⟩) (u - l) (2 * (m - l)))
       | none => none
      | none => none
     | _, _ => none
   else none
  | _ => none
 | _, _ => none
theorem aSlice_eq (P : Program) (t : TypeId) (x : V) (lo hi mx : Option V) (h : AHeap) : aSlice P t x lo hi mx h = sliceD (slK P t) x lo hi mx h := by
 unfold aSlice slK
 generalize P.underlying t = u
 cases u with
 | none => rfl
 | some d =>
  cases d
  case slice e =>
   cases x with
   | slice a n c =>
    cases a with
    | none =>
     cases n with
     | zero =>
      cases c with
      | zero =>
       simp only
       generalize szT P e = m
       cases m with
       | none => rfl
       | some m => cases mx <;> cases hi <;> rfl
      | succ c =>
       cases c with
       | zero =>
        simp only
        generalize szT P e = m
        cases m with
        | none => rfl
        | some m => cases mx <;> simp only [sliceD] <;> cases aBoundO hi 0 0 <;> cases aBoundO lo 0 0 <;> rfl
       | succ c => simp only; cases szT P e <;> rfl
     | succ n => simp only; cases szT P e <;> rfl
    | some a =>
     obtain ⟨b, o, sp⟩ := a
     cases sp with
     | none =>
      simp only
      generalize szT P e = m
      cases m with
      | none => rfl
      | some m =>
       simp only [sliceD]
       generalize h.get b = q
       cases q with
       | none => rfl
       | some q => cases q <;> rfl
     | some s => simp only; cases szT P e <;> rfl
   | _ => simp only; cases szT P e <;> rfl
  case string => cases x <;> rfl
  all_goals rfl
def fieldAddrD (off : Option Nat) (x : V) : Option V :=
 match x, off with
 | .pointer (some ⟨b, o, none⟩), some off => some (.pointer (some ⟨b, o + off, none⟩))
 | _, _ => none
def partD (l : Lay) (cs : Array V) (off : Nat) : Option V :=
 match l with
 | .agg n => some (.agg (cs.extract off (off + n)))
 | .one => cs[off]?
 | .bad => none
theorem aPart_eq (P : Program) (t : TypeId) (cs : Array V) (off : Nat) : aPart P t cs off = partD (layT P t) cs off := by
 unfold aPart partD layT
 cases aggT P t with
 | none => rfl
 | some b => cases b <;> cases szT P t <;> rfl
def fieldK (P : Program) (t : TypeId) (i : Nat) : Option (Lay × Nat) :=
 match P.underlying t with
 | some (.struct fs) => (fs[i]?).map fun f => (layT P f.type, f.offset)
 | _ => none
def fieldD (k : Option (Lay × Nat)) (x : V) : Option V :=
 match k, x with
 | some (l, off), .agg cs => partD l cs off
 | _, _ => none
theorem aField_eq (P : Program) (t : TypeId) (x : V) (i : Nat) : aField P t x i = fieldD (fieldK P t i) x := by
 unfold aField fieldK
 rcases P.underlying t with _ | d
 · rfl
 · cases d
   case struct fs =>
    cases x <;> simp only [aPart_eq] <;> cases fs[i]? <;> rfl
   all_goals first | rfl | (cases x <;> rfl)
inductive IxK where
 | slice (size : Nat)
 | array (n size : Nat) (l : Lay)
 | str
 | bad
def ixK (P : Program) (t : TypeId) : IxK :=
 match P.underlying t with
 | some (.slice e) => (match szT P e with | some n => .slice n | none => .bad)
 | some (.array n e) => (match szT P e with | some s => .array n s (layT P e) | none => .bad)
 | some .string => .str
 | _ => .bad
def indexAddrD (k : IxK) (x i : V) : Option V :=
 match k, x, i with
 | .slice size, .slice (some ⟨b, o, none⟩) n _, .int _ i => if 0 ≤ i ∧ i < n then some (.pointer (some ⟨b, o + i.toNat * size, none⟩)) else none
 | .array n size _, .pointer (some ⟨b, o, none⟩), .int _ i => if 0 ≤ i ∧ i < n then some (.pointer (some ⟨b, o + i.toNat * size, none⟩)) else none
 | _, _, _ => none
theorem aIndexAddr_eq (P : Program) (t : TypeId) (x i : V) : aIndexAddr P t x i = indexAddrD (ixK P t) x i := by
 unfold aIndexAddr ixK
 generalize P.underlying t = u
 cases u with
 | none => rfl
 | some d =>
  cases d
  case slice e =>
   cases x with
   | slice a n c =>
    cases a with
    | none => simp only; cases szT P e <;> rfl
    | some a =>
     obtain ⟨b, o, sp⟩ := a
     cases sp with
     | none => cases i <;> (simp only; generalize szT P e = m; cases m <;> rfl)
     | some s => simp only; cases szT P e <;> rfl
   | _ => simp only; cases szT P e <;> rfl
  case array n e =>
   cases x with
   | pointer a =>
    cases a with
    | none => simp only; cases szT P e <;> rfl
    | some a =>
     obtain ⟨b, o, sp⟩ := a
     cases sp with
     | none => cases i <;> (simp only; generalize szT P e = m; generalize layT P e = l; cases m <;> rfl)
     | some s => simp only; cases szT P e <;> rfl
   | _ => simp only; cases szT P e <;> rfl
  all_goals rfl
def indexD (k : IxK) (x i : V) : Option V :=
 match k, x, i with
 | .array n size l, .agg cs, .int _ i => if 0 ≤ i ∧ i < n then partD l cs (i.toNat * size) else none
 | .str, .string s, .int _ i =>
  match (if 0 ≤ i then s[i.toNat]? else none) with
  | some b => some (.int .u8 b.toNat)
  | none => none
 | _, _, _ => none
theorem aIndex_eq (P : Program) (t : TypeId) (x i : V) : aIndex P t x i = indexD (ixK P t) x i := by
 unfold aIndex ixK
 simp only [aPart_eq]
 generalize P.underlying t = u
 cases u with
 | none => rfl
 | some d =>
  cases d
  case slice e => simp only; cases szT P e <;> rfl
  case array n e =>
   cases x with
   | agg cs => cases i <;> (simp only; generalize szT P e = m; generalize layT P e = l; cases m <;> rfl)
   | _ => simp only; cases szT P e <;> rfl
  case string => cases x with
   | string s => cases i <;> rfl
   | _ => rfl
  all_goals rfl
/-! ### Maps -/
inductive KeyK where
 | int | string
 | struct (st : Bool) (fs : List (Nat × FK))
 | bad
def keyK (P : Program) (t : TypeId) : KeyK :=
 match P.underlying t with
 | some (.int _) => .int
 | some .string => .string
 | some (.struct fs) => .struct (P.stoodInHeld t) (fkL P fs.toList)
 | _ => .bad
def keyEqD (k : KeyK) (x y : V) : Option Bool :=
 match k, x, y with
 | .int, .int k a, .int k' b => if k = k' then some (a == b) else none
 | .string, .string a, .string b => some (a == b)
 | .struct st fs, .agg a, .agg b => if st then none else eqFieldsD a b fs
 | _, _, _ => none
theorem aKeyEq_eq (P : Program) (t : TypeId) (x y : V) : aKeyEq P t x y = keyEqD (keyK P t) x y := by
 unfold aKeyEq keyK
 simp only [aEqFields_eq]
 generalize P.underlying t = u
 cases u with
 | none => rfl
 | some d =>
  cases d
  case struct fs => cases x with
   | agg a => cases y <;> rfl
   | _ => rfl
  case int k => cases x with
   | int k a => cases y <;> rfl
   | _ => rfl
  case string => cases x with
   | string a => cases y <;> rfl
   | _ => rfl
  all_goals rfl
def keyOkD (k : KeyK) (x : V) : Bool :=
 match k, x with
 | .int, .int _ _ => true
 | .string, .string _ => true
 | .struct _ fs, .agg cs => closedV (.agg cs) && fs.all fun (o, k) => match k, cs[o]? with
  | .int, some (.int _ _) => true
  | .string, some (.string _) => true
  | .bool, some (.bool _) => true
  | _, _ => false
 | _, _ => false
theorem aKeyOk_eq (P : Program) (t : TypeId) (x : V) : aKeyOk P t x = keyOkD (keyK P t) x := by
 unfold aKeyOk keyK
 rcases P.underlying t with _ | d
 · rfl
 · cases d
   case struct fs =>
    cases x <;> try rfl
    rename_i cs
    simp only [keyOkD]
    congr 1
    rw [← Array.all_toList, fkL, List.all_map]
    congr 1
    funext f
    simp only [Function.comp, fkT]
    by_cases hn : f.name = "_"
    · simp [hn]
    · have : (f.name != "_") = true := by simpa using hn
      simp only [this, hn, Bool.true_and, if_false]
      generalize cs[f.offset]? = p
      rcases P.underlying f.type with _ | d
      · rfl
      · rcases p with _ | v
        · cases d <;> rfl
        · cases d <;> first | rfl | (cases v <;> rfl)
   all_goals first | rfl | (cases x <;> rfl)
def findD (kk : KeyK) (k : V) : List MapEntry → Nat → Option (Option (Nat × V))
 | [], _ => some none
 | e :: es, i =>
  match keyEqD kk k e.key with
  | some true => if closedV e.key then some (some (i, e.val)) else none
  | some false => if closedV e.key then findD kk k es (i + 1) else none
  | none => none
theorem aFind_eq (P : Program) (t : TypeId) (k : V) (es : List MapEntry) (i : Nat) : aFind P t k es i = findD (keyK P t) k es i := by
 induction es generalizing i with
 | nil => rfl
 | cons e es ih => simp only [aFind, findD, aKeyEq_eq, ih]; rfl
def mapK (P : Program) (t : TypeId) : Option (KeyK × Option V) :=
 match P.underlying t with
 | some (.map kt et) => some (keyK P kt, zeroOf P et)
 | _ => none
def lookupD (m : Option (KeyK × Option V)) (x k : V) (ok : Bool) (h : AHeap) : Option V :=
 match m with
 | some (kk, z) =>
  if keyOkD kk k then
   match z, (match x with
    | .map none => some none
    | .map (some b) => (match h.get b with | some (.map es _) => findD kk k es 0 | _ => none)
    | _ => none) with
   | some _, some (some (_, v)) => some (if ok then .tuple #[v, .bool true] else v)
   | some z, some none => some (if ok then .tuple #[z, .bool false] else z)
   | _, _ => none
  else none
 | none => none
theorem aLookup_eq (P : Program) (t : TypeId) (x k : V) (ok : Bool) (h : AHeap) : aLookup P t x k ok h = lookupD (mapK P t) x k ok h := by
 unfold aLookup mapK
 rcases P.underlying t with _ | d
 · rfl
 · cases d <;> try rfl
   simp only [lookupD, aKeyOk_eq, aFind_eq]
   rfl
def mapUpdateD (m : Option (KeyK × Option V)) (x k v : V) (h : AHeap) : Option AHeap :=
 match m with
 | some (kk, _) =>
  if keyOkD kk k then
   match x with
   | .map (some b) =>
    match h.get b with
    | some (.map es clock) =>
     match findD kk k es 0 with
     | some (some (i, _)) => if (es[i]?).any (fun e => Instr.sameBits 10000 e.key k) then some (h.put b (.map (es.modify i fun e => { e with key := k, val := v }) clock)) else none
     | some none => some (h.put b (.map (es ++ [{ key := k, val := v, born := clock }]) (clock + 1)))
     | none => none
    | _ => none
   | _ => none
  else none
 | none => none
theorem aMapUpdate_eq (P : Program) (t : TypeId) (x k v : V) (h : AHeap) : aMapUpdate P t x k v h = mapUpdateD (mapK P t) x k v h := by
 unfold aMapUpdate mapK
 rcases P.underlying t with _ | d
 · rfl
 · cases d <;> try rfl
   simp only [mapUpdateD, aKeyOk_eq, aFind_eq]
   rfl
def deleteD (m : Option (KeyK × Option V)) (x k : V) (h : AHeap) : Option AHeap :=
 match m with
 | some (kk, _) =>
  if keyOkD kk k then
   match x with
   | .map none => some h
   | .map (some b) =>
    match h.get b with
    | some (.map es clock) =>
     match findD kk k es 0 with
     | some (some (i, _)) => some (h.put b (.map (es.eraseIdx i) clock))
     | some none => some (h.put b (.map es clock))
     | none => none
    | _ => none
   | _ => none
  else none
 | none => none
theorem aDelete_eq (P : Program) (t : TypeId) (x k : V) (h : AHeap) : aDelete P t x k h = deleteD (mapK P t) x k h := by
 unfold aDelete mapK
 rcases P.underlying t with _ | d
 · rfl
 · cases d <;> try rfl
   simp only [deleteD, aKeyOk_eq, aFind_eq]
   rfl
inductive RgK where
 | str | map | bad
def rgK (P : Program) (t : TypeId) : RgK :=
 match P.underlying t with
 | some .string => .str
 | some (.map _ _) => .map
 | _ => .bad
def rangeD (k : RgK) (x : V) (h : AHeap) : Option (V × AHeap) :=
 match k, x with
 | .str, .string s => some (.pointer (some ⟨h.next, 0, none⟩), h.new (.siter s 0))
 | .map, .map none => some (.pointer (some ⟨h.next, 0, none⟩), h.new (.miter none 0 #[] 0))
 | .map, .map (some b) => (match h.get b with | some (.map _ clock) => some (.pointer (some ⟨h.next, 0, none⟩), h.new (.miter (some b) clock #[] clock)) | _ => none)
 | _, _ => none
theorem aRange_eq (P : Program) (t : TypeId) (x : V) (h : AHeap) : aRange P t x h = rangeD (rgK P t) x h := by
 unfold aRange rgK
 rcases P.underlying t with _ | d
 · rfl
 · cases d
   case map k e =>
    cases x <;> try rfl
    rename_i r
    cases r <;> rfl
   all_goals first | rfl | (cases x <;> rfl)
def assertD (good : Bool) (x : V) (asserted : TypeId) (ok : Bool) : Option V :=
 match x with
 | .iface t v => if good && t == asserted then some (if ok then .tuple #[v, .bool true] else v) else none
 | _ => none
def concT (P : Program) (t : TypeId) : Bool :=
 match P.underlying t with
 | some (.interface _) => false
 | some _ => true
 | none => false
theorem aAssert_eq (P : Program) (x : V) (t : TypeId) (ok : Bool) : aAssert P x t ok = assertD (concT P t) x t ok := by
 unfold aAssert concT
 rcases P.underlying t with _ | d
 · cases x <;> simp [assertD]
 · cases d <;> cases x <;> simp [assertD]
def mkK (P : Program) (t : TypeId) : Option (Nat × Nat × List V) :=
 match eltT P t with
 | some e =>
  match P.info? e, (zeroOf P e).bind cellsOf with
  | some i, some z => some (i.size, i.bytes, z)
  | _, _ => none
 | none => none
def makeSliceD (k : Option (Nat × Nat × List V)) (l c : V) (h : AHeap) : Option (V × AHeap) :=
 match k, l, c with
 | some (size, bytes, z), .int _ l, .int _ c =>
  if 0 ≤ l ∧ l ≤ c ∧ c ≤ 1099511627776 ∧ bytes ≤ 64 ∧ z.length = size ∧ 0 < size then
   some (.slice (some ⟨h.next, 0, none⟩) l.toNat (2 * c.toNat), h.new (.cells (zeros z (c.toNat * size)) size .rw))
  else none
 | _, _, _ => none
theorem aMakeSlice_eq (P : Program) (t : TypeId) (l c : V) (h : AHeap) : aMakeSlice P t l c h = makeSliceD (mkK P t) l c h := by
 unfold aMakeSlice mkK
 generalize eltT P t = u
 cases u with
 | none => rfl
 | some e =>
  cases l with
  | int k l =>
   cases c with
   | int k c => simp only; generalize P.info? e = i; generalize (zeroOf P e).bind cellsOf = z; cases i <;> cases z <;> rfl
   | _ => simp only; cases P.info? e <;> cases (zeroOf P e).bind cellsOf <;> rfl
  | _ => simp only; cases P.info? e <;> cases (zeroOf P e).bind cellsOf <;> rfl
def appendK (P : Program) (ts : Array TypeId) : Option (Nat × Nat × List V) :=
 match ts[0]?, ts[1]? with
 | some t, some xt => if srcT P xt then mkK P t else none
 | _, _ => none
def appendD (k : Option (Nat × Nat × List V)) (s x : V) (h : AHeap) : Option (V × AHeap) :=
 match k, aLenOf x with
 | some (size, bytes, z), some n =>
  if 0 < size ∧ bytes ≤ 64 ∧ z.length = size then
   match s with
   | .slice none 0 0 =>
    if n = 0 then some (.slice none 0 0, h)
    else if n ≤ 1099511627776 then
     (aSrc size x h).map fun new => (.slice (some ⟨h.next, 0, none⟩) n (2 * n + 1), h.new (.cells new size .rw))
    else none
   | .slice (some ⟨b, o, none⟩) m c =>
    if n = 0 then some (.slice (some ⟨b, o, none⟩) m c, h) else
    if m + n ≤ c / 2 then
     match aSrc size x h, h.get b with
     | some new, some (.cells _ esz _) => if esz = size ∧ new.all oneCell = true then (h.wr b (o + m * size) new).map fun h' => (.slice (some ⟨b, o, none⟩) (m + n) c, h') else none
     | _, _ => none
    else if m + n ≤ 1099511627776 then
     match aSrc size x h, h.rdN b o (m * size) with
     | some new, some old =>
      if c % 2 = 0 then some (.slice (some ⟨h.next, 0, none⟩) (m + n) (2 * (m + n) + 1), h.new (.cells (old ++ new) size .rw))
      else
       match h.get b with
       | some (.cells _ esz k) =>
        if esz = size ∧ k ≠ .ro ∧ new.all oneCell = true then some (.slice (some ⟨h.next, 0, none⟩) (m + n) (2 * (m + n) + 1), (h.kill b).new (.cells (old ++ new) size (if o = 0 then k else .rs)))
        else none
       | _ => none
     | _, _ => none
    else none
   | _ => none
  else none
 | _, _ => none
theorem aAppend_eq (P : Program) (ts : Array TypeId) (s x : V) (h : AHeap) : aAppend P ts s x h = appendD (appendK P ts) s x h := by
 unfold aAppend appendK mkK
 cases ts[0]? with
 | none => rfl
 | some t =>
  cases ts[1]? with
  | none => simp only [Option.bind_some]; cases eltT P t <;> rfl
  | some xt =>
   simp only [Option.bind_some]
   cases eltT P t with
   | none => simp only [ite_self]; rfl
   | some e =>
    simp only
    cases P.info? e with
    | none => simp only [ite_self]; rfl
    | some i =>
     cases (zeroOf P e).bind cellsOf with
     | none => simp only [ite_self]; cases aLenOf x <;> rfl
     | some z =>
      cases hn : aLenOf x with
      | none =>
       by_cases hs : srcT P xt = true
       · rw [if_pos hs]; unfold appendD; rw [hn]
       · rw [if_neg hs]; rfl
      | some n =>
       simp only
       by_cases hs : srcT P xt = true
       · rw [if_pos hs]
         unfold appendD
         rw [hn]
         simp only
         by_cases hc : 0 < i.size ∧ i.bytes ≤ 64 ∧ z.length = i.size
         · rw [if_pos ⟨hs, hc⟩, if_pos hc]
           rfl
         · rw [if_neg (fun h => hc h.2), if_neg hc]
       · rw [if_neg hs, if_neg (fun h => hs h.1)]
         rfl
def copyK (P : Program) (ts : Array TypeId) : Option Nat := ((ts[0]?).bind (eltT P)).bind (szT P)
def copyD (k : Option Nat) (d s : V) (h : AHeap) : Option (V × AHeap) :=
 match k, d, aLenOf s with
 | some _, .slice none 0 0, some _ => some (.int .i64 0, h)
 | some size, .slice (some ⟨b, o, none⟩) m _, some n =>
  if 0 < size then
   match aSrc size s h with
   | some cs => let k := Nat.min n m; if (cs.take (k * size)).all oneCell = true then (h.wr b o (cs.take (k * size))).map fun h' => (.int .i64 k, h') else none
   | none => none
  else none
 | _, _, _ => none
theorem aCopy_eq (P : Program) (ts : Array TypeId) (d s : V) (h : AHeap) : aCopy P ts d s h = copyD (copyK P ts) d s h := by
 unfold aCopy copyK
 cases (ts[0]?).bind (eltT P) with
 | none => rfl
 | some e => simp only [Option.bind_some]; cases szT P e <;> rfl
inductive LenK where
 | str | array (n : Nat) | slice | map | bad
def lenK (P : Program) (ts : Array TypeId) : LenK :=
 match (ts[0]?).bind P.underlying with
 | some .string => .str
 | some (.array n _) => .array n
 | some (.slice _) => .slice
 | some (.map _ _) => .map
 | _ => .bad
def lenD (k : LenK) (x : V) (h : AHeap) : Option V :=
 match k, x with
 | .str, .string s => some (.int .i64 s.size)
 | .array n, _ => some (.int .i64 n)
 | .slice, .slice _ n _ => some (.int .i64 n)
 | .map, .map none => some (.int .i64 0)
 | .map, .map (some b) => (match h.get b with | some (.map es _) => some (.int .i64 es.length) | _ => none)
 | _, _ => none
theorem aLen_eq (P : Program) (ts : Array TypeId) (x : V) (h : AHeap) : aLen P ts x h = lenD (lenK P ts) x h := by
 unfold aLen lenK
 rcases (ts[0]?).bind P.underlying with _ | d
 · rfl
 · cases d
   case map k e =>
    cases x <;> try rfl
    rename_i r
    cases r <;> rfl
   all_goals first | rfl | (cases x <;> rfl)
def clearK (P : Program) (ts : Array TypeId) : Option (Option (List V)) := ((ts[0]?).bind (eltT P)).map fun e => (zeroOf P e).bind cellsOf
def clearD (k : Option (Option (List V))) (x : V) (h : AHeap) : Option AHeap :=
 match k, x with
 | some z, .slice a n c =>
  match a, n with
  | none, 0 => if c = 0 then some h else none
  | some _, 0 => some h
  | some ⟨b, o, none⟩, n + 1 =>
   match z with
   | some z => if z.length ≠ 0 ∧ z.all oneCell = true then h.wr b o (zeros z ((n + 1) * z.length)) else none
   | none => none
  | _, _ => none
 | _, _ => none
theorem aClear_eq (P : Program) (ts : Array TypeId) (x : V) (h : AHeap) : aClear P ts x h = clearD (clearK P ts) x h := by
 unfold aClear clearK
 cases (ts[0]?).bind (eltT P) with
 | none => rfl
 | some e => cases x <;> rfl
end Go.Abs
namespace Go.Abs
open Go
inductive kV (x : Option V) (h : AHeap) (K : V → AHeap → Prop) : Prop
 | mk (v : V) (hx : x = some v) (hk : K v h)
inductive kP (x : Option (V × AHeap)) (K : V → AHeap → Prop) : Prop
 | mk (v : V) (h : AHeap) (hx : x = some (v, h)) (hk : K v h)
inductive kH (x : Option AHeap) (K : V → AHeap → Prop) : Prop
 | mk (h : AHeap) (hx : x = some h) (hk : K junk h)
@[simp] theorem kV_some (v : V) (h : AHeap) (K : V → AHeap → Prop) : kV (some v) h K = K v h := propext ⟨fun ⟨_, hx, hk⟩ => (by cases hx; exact hk), fun hk => ⟨v, rfl, hk⟩⟩
@[simp] theorem kP_some (v : V) (h : AHeap) (K : V → AHeap → Prop) : kP (some (v, h)) K = K v h := propext ⟨fun ⟨_, _, hx, hk⟩ => (by cases hx; exact hk), fun hk => ⟨v, h, rfl, hk⟩⟩
@[simp] theorem kH_some (h : AHeap) (K : V → AHeap → Prop) : kH (some h) K = K junk h := propext ⟨fun ⟨_, hx, hk⟩ => (by cases hx; exact hk), fun hk => ⟨h, rfl, hk⟩⟩
@[simp] theorem kV_none (h : AHeap) (K : V → AHeap → Prop) : kV none h K = False := propext ⟨fun ⟨_, hx, _⟩ => (by cases hx), False.elim⟩
@[simp] theorem kP_none (K : V → AHeap → Prop) : kP none K = False := propext ⟨fun ⟨_, _, hx, _⟩ => (by cases hx), False.elim⟩
@[simp] theorem kH_none (K : V → AHeap → Prop) : kH none K = False := propext ⟨fun ⟨_, hx, _⟩ => (by cases hx), False.elim⟩
section
variable (P : Program) (I : FuncId → Option Spec)
def ifcT (t : TypeId) : Option Bool :=
 match P.underlying t with
 | some (.interface _) => none
 | some _ => some true
 | none => none
def mapT (t : TypeId) : Bool :=
 match P.underlying t with
 | some (.map _ _) => true
 | _ => false
def makeMapD (good : Bool) (r : Option V) (h : AHeap) : Option (V × AHeap) :=
 if good then
  match r with
  | none => some (.map (some h.next), h.new (.map [] 0))
  | some (.int _ _) => some (.map (some h.next), h.new (.map [] 0))
  | _ => none
 else none
def builtinD (b : Builtin) (ts : Array TypeId) (args : List V) (h : AHeap) (K : V → AHeap → Prop) : Prop :=
 match b, args with
 | .append, [s, x] => kP (appendD (appendK P ts) s x h) K
 | .copy, [d, s] => kP (copyD (copyK P ts) d s h) K
 | .len, [x] => kV (lenD (lenK P ts) x h) h K
 | .delete, [m, k] => kH (deleteD ((ts[0]?).bind (mapK P)) m k h) K
 | .clear, [x] => kH (clearD (clearK P ts) x h) K
 | .min, l => kV (aMinMax false l) h K
 | .max, l => kV (aMinMax true l) h K
 | _, _ => False
def doD (o : Op) (e : Nat → V) (h : AHeap) (K : V → AHeap → Prop) : Prop :=
 match o with
 | .move x => K (aEv e x) h
 | .assign x => K (aEv e x) h
 | .pick c a b => (match aEv e c with | .bool true => K (aEv e a) h | .bool false => K (aEv e b) h | _ => False)
 | .alloc t => (match zeroOf P t with | some z => kP (newD (eszD P t) z h) K | none => False)
 | .box t x => kP (newD (eszD P t) (aEv e x) h) K
 | .build t ps => kV (buildD (buildK P t) (ps.toList.map fun p => (p.1, aEv e p.2))) h K
 | .buildSlice t n ps => kP (buildSliceD (elK P t) n (ps.toList.map fun p => (p.1, aEv e p.2)) h) K
 | .insert t m k v => kH (mapUpdateD (mapK P t) (aEv e m) (aEv e k) (aEv e v) h) K
 | .load t a => kV (ldD (layT P t) (aEv e a) h) h K
 | .store t a x => kH (stD (szT P t) (aEv e a) (aEv e x) h) K
 | .nilCheck x => kV (aNil (aEv e x)) h K
 | .binOp op t x y _ => kV (binD (eqK P t) op (isConstO x || isConstO y) (aEv e x) (aEv e y) h) h K
 | .unOp op _ x => kV (aUn op (aEv e x)) h K
 | .convert s d x => kP (convD (convK P s d) (aEv e x) h) K
 | .makeInterface t x => (match ifcT P t with | some _ => K (.iface t (aEv e x)) h | none => False)
 | .makeFunc fn f c => K (.func fn (f.map (aEv e)) (c.map (aEv e))) h
 | .makeMap t r => kP (makeMapD (mapT P t) (r.map (aEv e)) h) K
 | .makeSlice t l c => kP (makeSliceD (mkK P t) (aEv e l) (aEv e c) h) K
 | .slice t x lo hi mx => kV (sliceD (slK P t) (aEv e x) (lo.map (aEv e)) (hi.map (aEv e)) (mx.map (aEv e)) h) h K
 | .fieldAddr t x i => kV (fieldAddrD (fieldOff P t i) (aEv e x)) h K
 | .field t x i => kV (fieldD (fieldK P t i) (aEv e x)) h K
 | .indexAddr t x i => kV (indexAddrD (ixK P t) (aEv e x) (aEv e i)) h K
 | .index t x i => kV (indexD (ixK P t) (aEv e x) (aEv e i)) h K
 | .lookup t x i ok => kV (lookupD (mapK P t) (aEv e x) (aEv e i) ok h) h K
 | .mapUpdate t m k v => kH (mapUpdateD (mapK P t) (aEv e m) (aEv e k) (aEv e v) h) K
 | .range t x => kP (rangeD (rgK P t) (aEv e x) h) K
 | .next it s => aNext (aEv e it) s h K
 | .entry it => kV (aEntry (aEv e it) h) h K
 | .typeAssert x _ t ok => kV (assertD (concT P t) (aEv e x) t ok) h K
 | .extract t i => kV (aExtract (aEv e t) i) h K
 | .call c =>
  match c.callee with
  | .value f => aCall I (aEv e f) (evArr e c.args) h K
  | .builtin b => builtinD P b c.argTypes (evArr e c.args) h K
  | .invoke _ _ => False
 | _ => False
theorem kV_eq (x : Option V) (h : AHeap) (K : V → AHeap → Prop) : (match x.map (fun v => (v, h)) with | some (v, h) => K v h | none => False) = kV x h K := by cases x <;> simp
theorem kH_eq (x : Option AHeap) (K : V → AHeap → Prop) : (match x.map (fun h => (Abs.junk, h)) with | some (v, h) => K v h | none => False) = kH x K := by cases x <;> simp
theorem kP_eq (x : Option (V × AHeap)) (K : V → AHeap → Prop) : (match x with | some (v, h) => K v h | none => False) = kP x K := by rcases x with _ | ⟨v, h⟩ <;> simp
theorem builtin_eq (b : Builtin) (ts : Array TypeId) (args : List V) (h : AHeap) (K : V → AHeap → Prop) :
 (match aBuiltin P b ts args h with | some (v, h) => K v h | none => False) = builtinD P b ts args h K := by
 cases b <;> try rfl
 case append =>
  match args with
  | [] => rfl
  | [_] => rfl
  | [s, x] => (simp only [aBuiltin, builtinD, aAppend_eq]; exact kP_eq _ _)
  | _ :: _ :: _ :: _ => rfl
 case copy =>
  match args with
  | [] => rfl
  | [_] => rfl
  | [s, x] => (simp only [aBuiltin, builtinD, aCopy_eq]; exact kP_eq _ _)
  | _ :: _ :: _ :: _ => rfl
 case len =>
  match args with
  | [] => rfl
  | [x] => (simp only [aBuiltin, builtinD, aLen_eq]; exact kV_eq _ _ _)
  | _ :: _ :: _ => rfl
 case delete =>
  match args with
  | [] => rfl
  | [_] => rfl
  | [s, x] =>
   simp only [aBuiltin, builtinD]
   cases ts[0]? with
   | none => simp [deleteD]
   | some t => (simp only [Option.bind_some, aDelete_eq]; exact kH_eq _ _)
  | _ :: _ :: _ :: _ => rfl
 case clear =>
  match args with
  | [] => rfl
  | [x] => (simp only [aBuiltin, builtinD, aClear_eq]; exact kH_eq _ _)
  | _ :: _ :: _ => rfl
 case min => (simp only [aBuiltin, builtinD]; exact kV_eq _ _ _)
 case max => (simp only [aBuiltin, builtinD]; exact kV_eq _ _ _)
theorem do_eq (o : Op) (e : Nat → V) (h : AHeap) (K : V → AHeap → Prop) : aDo P I o e h K = doD P I o e h K := by
 cases o <;> simp only [aDo, aOp, doD]
 case pick c a b =>
  cases aEv e c <;> try rfl
  rename_i t
  cases t <;> rfl
 case alloc t =>
  cases zeroOf P t with
  | none => rfl
  | some z => (simp only [Option.bind_some, aNew_eq]; exact kP_eq _ _)
 case box t x => (simp only [aNew_eq]; exact kP_eq _ _)
 case build t ps => (simp only [aBuild_eq]; exact kV_eq _ _ _)
 case buildSlice t n ps => (simp only [aBuildSlice_eq]; exact kP_eq _ _)
 case insert t m k v => (simp only [aMapUpdate_eq]; exact kH_eq _ _)
 case load t a => (simp only [aLoad_eq]; exact kV_eq _ _ _)
 case store t a x => (simp only [aStore_eq]; exact kH_eq _ _)
 case nilCheck x => exact kV_eq _ _ _
 case binOp op t x y yt => (simp only [aBin_eq]; exact kV_eq _ _ _)
 case unOp op t x => exact kV_eq _ _ _
 case convert s d x => (simp only [aConvert_eq]; exact kP_eq _ _)
 case makeInterface t x =>
  unfold ifcT
  rcases P.underlying t with _ | d
  · rfl
  · cases d <;> rfl
 case makeMap t r =>
  unfold mapT makeMapD
  rcases P.underlying t with _ | d
  · cases r <;> simp
  · cases d <;> cases r <;> first | (simp; done) | (rename_i x; simp only [Option.map_some, if_true]; cases aEv e x <;> simp)
 case makeSlice t l c => (simp only [aMakeSlice_eq]; exact kP_eq _ _)
 case slice t x lo hi mx => (simp only [aSlice_eq]; exact kV_eq _ _ _)
 case fieldAddr t x i =>
  exact kV_eq _ _ _
 case field t x i => (simp only [aField_eq]; exact kV_eq _ _ _)
 case indexAddr t x i => (simp only [aIndexAddr_eq]; exact kV_eq _ _ _)
 case index t x i => (simp only [aIndex_eq]; exact kV_eq _ _ _)
 case lookup t x i ok => (simp only [aLookup_eq]; exact kV_eq _ _ _)
 case mapUpdate t m k v => (simp only [aMapUpdate_eq]; exact kH_eq _ _)
 case range t x => (simp only [aRange_eq]; exact kP_eq _ _)
 case entry it => exact kV_eq _ _ _
 case typeAssert x xt t ok => (simp only [aAssert_eq]; exact kV_eq _ _ _)
 case extract t i => exact kV_eq _ _ _
 case call c =>
  cases c.callee with
  | value f => rfl
  | builtin b => exact builtin_eq P b _ _ h K
  | invoke r m => rfl
/-! ### The evaluator once more -/
def opD (ops : Array Oper) (i : Nat) (s : St) (K : St → Prop) : Prop :=
 match ops[i]? with
 | none => K s
 | some o =>
  match wantedA ops o s.e with
  | some true => doD P I o.op s.e s.h fun v h => K ((s.put o.dst v).at h)
  | some false => K (s.put o.dst gone)
  | none => False
theorem op_eq (ops : Array Oper) (i : Nat) (s : St) (K : St → Prop) : evOp P I ops i s K = opD P I ops i s K := by
 unfold evOp opD
 simp only [do_eq]
 rfl
def opsD (ops : Array Oper) : List Nat → St → (St → Prop) → Prop
 | [], s, K => K s
 | i :: rest, s, K => opD P I ops i s fun s => opsD ops rest s K
theorem ops_eq (ops : Array Oper) (l : List Nat) (s : St) (K : St → Prop) : evOps P I ops l s K = opsD P I ops l s K := by
 induction l generalizing s with
 | nil => rfl
 | cons i l ih => simp only [evOps, opsD, op_eq, ih]
def anyD (ops : Array Oper) : Nat → Array Bool → St → (St → Prop) → Prop
 | 0, listed, s, K => Region.ready .any ops listed = [] ∧ K s
 | fuel + 1, listed, s, K =>
  (Region.ready .any ops listed = [] → K s) ∧
  ∀ i ∈ Region.ready .any ops listed, opD P I ops i s fun s => anyD ops fuel (listed.setIfInBounds i true) s K
theorem any_eq (ops : Array Oper) (fuel : Nat) (listed : Array Bool) (s : St) (K : St → Prop) : evAny P I ops fuel listed s K = anyD P I ops fuel listed s K := by
 induction fuel generalizing listed s with
 | zero => rfl
 | succ n ih => simp only [evAny, anyD, op_eq, ih]
def codeD : Code → St → (Ex → St → Prop) → Prop
 | .skip, s, K => K .normal s
 | .region _ ops false, s, K => opsD P I ops (List.range ops.size) s fun s => K .normal s
 | .region _ ops true, s, K => anyD P I ops ops.size (Array.replicate ops.size false) s fun s => K .normal s
 | .seq a b, s, K => codeD a s fun x s => match x with
  | .normal => codeD b s K
  | x => K x s
 | .cond c a b, s, K => match aEv s.e c with
  | .bool true => codeD a s K
  | .bool false => codeD b s K
  | _ => False
 | .block id c, s, K => codeD c s fun x s => match x with
  | .exit j => if j = id then K .normal s else K (.exit j) s
  | x => K x s
 | .loop c, s, K => ∃ n, loopK (codeD c) n s K
 | .exit id, s, K => K (.exit id) s
 | .label _, s, K => K .normal s
 | .ret, s, K => K .ret s
 | .rangeFunc _ _ _ _, _, _ => False
 | .scope _, _, _ => False
 | .goto _, _, _ => False
 | .refuse _, _, _ => False
theorem code_eq (c : Code) : ∀ (s : St) (K : Ex → St → Prop), evC P I c s K = codeD P I c s K := by
 induction c with
 | region id ops draw => intro s K; cases draw <;> simp only [evC, codeD, ops_eq, any_eq]
 | seq a b iha ihb => intro s K; simp only [evC, codeD, iha, ihb]; rfl
 | cond c a b iha ihb => intro s K; simp only [evC, codeD, iha, ihb]; rfl
 | block id c ih => intro s K; simp only [evC, codeD, ih]; rfl
 | loop c ih => intro s K; simp only [evC, codeD]; rw [show evC P I c = codeD P I c from funext fun s => funext fun K => ih s K]
 | _ => intro s K; rfl
def resD (h : AHeap) (e : Nat → V) : List ResultVar → Option (List V)
 | [] => some []
 | .tmp t :: r => (resD h e r).map fun l => e t :: l
 | .cell a t :: r => (ldD (layT P t) (e a) h).bind fun v => (resD h e r).map fun l => v :: l
theorem res_eq (h : AHeap) (e : Nat → V) (l : List ResultVar) : evRes P h e l = resD P h e l := by
 induction l with
 | nil => rfl
 | cons x l ih => cases x <;> simp only [evRes, resD, ih, aLoad_eq]
def funD (f : Func) (args : List V) (h : AHeap) (K : V → AHeap → Prop) : Prop :=
 match f.body with
 | none => False
 | some c => codeD P I c ⟨args0 args, h⟩ fun x s =>
  match x with
  | .exit _ => False
  | _ =>
   match resD P s.h s.e f.results.toList with
   | some l => K (resV l) s.h
   | none => False
theorem fun_eq (f : Func) (args : List V) (h : AHeap) (K : V → AHeap → Prop) : evF P I f args h K = funD P I f args h K := by
 unfold evF funD
 simp only [code_eq, res_eq]
 rfl
end
theorem SoundF.of_fun {P : Program} {J : World → Prop} {I : FuncId → Option Spec} (hI : SoundI P J I) (hm : P.follows .mixedOrders = true) {f : FuncId} {fn : Func} {c : Code} (hf : P.funcs[f]? = some fn) (hb : fn.body = some c) (hok : codeOk fn.ntmps c = true)
 (hcall : ∀ (args : Array V) (w : World), (callFunc f args).run P w = .ok (.enter f args) w) :
 SoundF P J f (fun args h K => args.length ≤ fn.ntmps ∧ funD P I fn args h K) := by
 have := SoundF.of_body hI hm hf hb hok hcall
 simp only [fun_eq] at this
 exact this
theorem SoundF.of_imp {P : Program} {J : World → Prop} {f : FuncId} {s s' : Spec} (h : SoundF P J f s) (hi : ∀ args h K, s' args h K → s args h K) : SoundF P J f s' :=
 fun B hJ r hp w args args' Q hs hR ha => h B hJ r hp w args args' Q (hi _ _ _ hs) hR ha
end Go.Abs

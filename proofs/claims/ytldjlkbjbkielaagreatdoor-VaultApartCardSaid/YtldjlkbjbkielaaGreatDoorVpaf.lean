/- Our own abstract machine, part 19: regions that draw their order: ONE order, with checks, serves all. -/
import Derived.Test.YtldjlkbjbkielaaGreatDoorVpae
set_option linter.unusedSimpArgs false
set_option linter.unusedVariables false
namespace Go.Abs
open Go
def aW (c a b : V) : Option V :=
 match c with
 | .bool true => some a
 | .bool false => some b
 | _ => none
@[simp] theorem aY (b : Bool) (x y : V) : aW (.bool b) x y = some (if b then x else y) := by cases b <;> rfl
section
variable (P : Program) (I : FuncId → Option Spec)
def isQ : Op → Bool
 | .move _ | .assign _ | .build _ _ | .load _ _ | .nilCheck _ | .binOp .. | .unOp .. | .slice .. | .fieldAddr .. | .field .. | .indexAddr .. | .index .. | .lookup .. | .typeAssert .. | .extract .. => true
 | .pick .. => true
 | .makeFunc .. => true
 | .convert s d _ => (match uT P s d with | .toBytes => false | .mark => false | _ => true)
 | .call { callee := .builtin .len, .. } | .call { callee := .builtin .min, .. } | .call { callee := .builtin .max, .. } => true
 | _ => false
def isP : Op → Bool
 | .move _ | .assign _ | .build _ _ | .nilCheck _ | .unOp .. | .fieldAddr .. | .field .. | .indexAddr .. | .index .. | .typeAssert .. | .extract .. => true
 | .pick .. => true
 | .makeFunc .. => true
 | .convert s d _ => (match uT P s d with | .int _ => true | .str => true | _ => false)
 | .binOp _ t _ _ _ => (match eqK P t with | .ptr _ => false | _ => true)
 | .call { callee := .builtin .min, .. } | .call { callee := .builtin .max, .. } => true
 | .call { callee := .builtin .len, argTypes, .. } => (match vM P argTypes with | .map => false | _ => true)
 | _ => false
def fW (o : Op) (e : Nat → V) (h : aA) : Option V :=
 match o with
 | .move x => some (aEv e x)
 | .assign x => some (aEv e x)
 | .pick c a b => aW (aEv e c) (aEv e a) (aEv e b)
 | .build t ps => bP (zQ P t) (ps.toList.map fun p => (p.1, aEv e p.2))
 | .load t a => ldD (nU P t) (aEv e a) h
 | .nilCheck x => aM (aEv e x)
 | .binOp op t x y _ => aC (eqK P t) op (jH x || jH y) (aEv e x) (aEv e y) h
 | .unOp op _ x => aUn op (aEv e x)
 | .convert s d x => (dZ (uT P s d) (aEv e x) h).map (·.1)
 | .makeFunc fn f c => some (.func fn (f.map (aEv e)) (c.map (aEv e)))
 | .slice t x lo hi mx => cI (slK P t) (aEv e x) (lo.map (aEv e)) (hi.map (aEv e)) (mx.map (aEv e)) h
 | .fieldAddr t x i => aE (aAl P t i) (aEv e x)
 | .field t x i => aEp (aAk P t i) (aEv e x)
 | .indexAddr t x i => bG (ixK P t) (aEv e x) (aEv e i)
 | .index t x i => iL (ixK P t) (aEv e x) (aEv e i)
 | .lookup t x i ok => bT (oY P t) (aEv e x) (aEv e i) ok h
 | .typeAssert x _ t ok => qM (zT P t) (aEv e x) t ok
 | .extract t i => bD (aEv e t) i
 | .call c =>
  match c.callee, fA e c.args with
  | .builtin .len, [x] => bI (vM P c.argTypes) x h
  | .builtin .min, l => eW false l
  | .builtin .max, l => eW true l
  | _, _ => none
 | _ => none
variable {P I}
theorem aQw {k : zE} (hk : (match k with | .toBytes => false | .mark => false | _ => true) = true) {x : V} {h : aA} (K : V → aA → Prop) : kP (dZ k x h) K = kV ((dZ k x h).map (·.1)) h K := by
 cases k with
 | toBytes => cases hk
 | mark => cases hk
 | int k => simp only [dZ]; cases x <;> simp
 | str => simp only [dZ]; cases x <;> simp
 | toStr => simp only [dZ]; cases (iV 1 x h).bind bytesOf <;> simp
 | bad => simp [dZ]
theorem rV {o : Op} (hq : isQ P o = true) (e : Nat → V) (h : aA) (K : V → aA → Prop) : doD P I o e h K = kV (fW P o e h) h K := by
 cases o <;> simp only [isQ, Bool.false_eq_true] at hq <;> simp only [doD, fW] <;> try (first | rfl | exact (nS _ _ _).symm)
 case pick c a b =>
  generalize aEv e c = cv
  cases cv <;> try (simp [aW]; done)
  rename_i t
  cases t <;> simp
 case convert s d x => exact aQw hq K
 case call c =>
  obtain ⟨callee, args, ats⟩ := c
  cases callee with
  | value f => simp at hq
  | invoke r m => simp at hq
  | builtin b =>
   cases b <;> simp at hq <;> simp only [lJ]
   case len =>
    generalize fA e args = l
    match l with
    | [] => simp
    | [x] => rfl
    | _ :: _ :: _ => simp
theorem aPq {k : EqK} (hk : ∀ p, k ≠ .ptr p) (op : BinOp) (c : Bool) (x y : V) (h h' : aA) : aC k op c x y h = aC k op c x y h' := by
 have : ∀ c x y, eqD k c x y h = eqD k c x y h' := by
  intro c x y
  unfold eqD
  split
  case h_4 => rename_i p a b; exact absurd rfl (hk _)
  all_goals rfl
 unfold aC
 simp only [this]
theorem aXb {o : Op} (hp : isP P o = true) (e : Nat → V) (h h' : aA) : fW P o e h = fW P o e h' := by
 cases o <;> simp only [isP, Bool.false_eq_true] at hp <;> simp only [fW]
 case convert s d x =>
  split at hp
  · rename_i hk; rw [hk]; simp only [dZ]; cases aEv e x <;> rfl
  · rename_i hk; rw [hk]; simp only [dZ]; cases aEv e x <;> rfl
  · cases hp
 case binOp op t x y yt =>
  refine aPq (fun p hk => ?_) _ _ _ _ _ _
  rw [hk] at hp
  cases hp
 case call c =>
  obtain ⟨callee, args, ats⟩ := c
  cases callee with
  | value f => simp at hp
  | invoke r m => simp at hp
  | builtin b =>
   cases b <;> simp at hp <;> try rfl
   case len =>
    generalize fA e args = l
    match l with
    | [] => rfl
    | [x] =>
     simp only
     unfold bI
     split at hp
     · cases hp
     · rename_i hk
       generalize vM P ats = k at hk
       cases k <;> first | (exact absurd rfl hk) | rfl | (cases x <;> rfl)
    | _ :: _ :: _ => rfl
theorem aGq {o : Op} (hq : isQ P o = true) {e e' : Nat → V} (h : ∀ x ∈ o.operands, aEv e x = aEv e' x) (hp : aA) : fW P o e hp = fW P o e' hp := by
 have h1 := aEk (P := P) (I := fun _ => none) h hp (fun v _ => fW P o e hp = some v)
 rw [rV hq, rV hq] at h1
 have h2 := aEk (P := P) (I := fun _ => none) h hp (fun v _ => fW P o e' hp = some v)
 rw [rV hq, rV hq] at h2
 cases ha : fW P o e hp with
 | some v =>
  rw [ha] at h1
  cases hb : fW P o e' hp with
  | some u =>
   rw [hb] at h1
   have : (kV (some v) hp fun x _ => some v = some x) := by simp
   rw [h1] at this
   simpa using this
  | none =>
   rw [hb] at h1
   have : (kV (some v) hp fun x _ => some v = some x) := by simp
   rw [h1] at this
   simp at this
 | none =>
  cases hb : fW P o e' hp with
  | none => rfl
  | some u =>
   rw [ha, hb] at h2
   have : (kV (some u) hp fun x _ => some u = some x) := by simp
   rw [← h2] at this
   simp at this
end
/-! ### One order serves all -/
section
variable (P : Program) (I : FuncId → Option Spec)
def bef (B : Array Nat) (i w : Nat) : Bool := (B.getD i 0).testBit w
def chk (ops : Array Oper) (j : Nat) (e : Nat → V) (h : aA) : Prop :=
 match ops[j]? with
 | some o =>
  match eF ops o e, o.dst with
  | some true, some d => fW P o.op e h = some (e d)
  | some false, _ => True
  | _, _ => False
 | none => False
def oS (ops : Array Oper) (e : Nat → V) (h : aA) : List Nat → Prop → Prop
 | [], p => p
 | j :: l, p => chk P ops j e h ∧ oS ops e h l p
inductive Tr where
 | done
 | q (i : Nat) (t : Tr)
 | c (i : Nat) (ws : List Nat) (t : Tr)
 | fork (a b : Tr)
def Tr.kO : Tr → List Nat
 | .done => []
 | .q _ _ => []
 | .c i _ _ => [i]
 | .fork a b => a.kO ++ b.kO
def Tr.isC : Tr → Bool
 | .c .. => true
 | .fork .. => true
 | _ => false
def dI (ops : Array Oper) : Tr → St → (St → Prop) → Prop
 | .done, s, K => K s
 | .q i t, s, K =>
  match ops[i]? with
  | none => False
  | some o =>
   match eF ops o s.e with
   | some true => doD P I o.op s.e s.h fun v h => dI ops t ((s.put o.dst v).at h) K
   | some false => dI ops t (s.put o.dst gone) K
   | none => False
 | .c i ws t, s, K =>
  match ops[i]? with
  | none => False
  | some o =>
   match eF ops o s.e with
   | some true => doD P I o.op s.e s.h fun v h => oS P ops s.e h ws (dI ops t ((s.put o.dst v).at h) K)
   | some false => dI ops t (s.put o.dst gone) K
   | none => False
 | .fork a b, s, K => dI ops a s K ∧ dI ops b s K
def aEl (o : Oper) : List Nat := (o.after.toList.filter fun e => Region.binds .any e).map (·.on)
def aD0 (ops : Array Oper) (B : Array Nat) : Bool :=
 (List.range ops.size).all fun i => match ops[i]? with
  | none => false
  | some o =>
   ((aEl o).all fun w => bef B i w && decide (w < ops.size)) &&
   ((List.range ops.size).all fun w => !bef B i w || (decide (B.getD w 0 < B.getD i 0) && ((aEl o).any fun k => k == w || bef B k w))) &&
   decide (B.getD i 0 < 2 ^ ops.size)
def aGk (ops : Array Oper) (B : Array Nat) : Bool :=
 (List.range ops.size).all fun w => match ops[w]? with
  | none => false
  | some ow => match ow.dst with
   | none => true
   | some d => (List.range ops.size).all fun i => match ops[i]? with
    | none => false
    | some oi => (i == w && !(oi.looksAt ops).contains d) || (i != w && oi.dst != some d && (!(oi.looksAt ops).contains d || ((bef B i w && !bef B w i) || (bef B w i && !bef B i w && (isP P oi.op || !isQ P oi.op)))))
def rU (ops : Array Oper) (B : Array Nat) (m : Nat) : Tr → Bool
 | .q .. => true
 | t => (List.range ops.size).all fun i => m.testBit i || t.kO.contains i || (B.getD i 0 &&& m) != B.getD i 0
def aCz (ops : Array Oper) (B : Array Nat) (m i : Nat) (quiet : Bool) : Bool :=
 match ops[i]? with
 | none => false
 | some o => !m.testBit i && (B.getD i 0 &&& m) == B.getD i 0 && isQ P o.op == quiet && (!quiet || o.dst.isSome)
def aNv (ops : Array Oper) (B : Array Nat) (m i : Nat) (ws : List Nat) : Bool :=
 (List.range ops.size).all fun j => !m.testBit j || bef B i j || ws.contains j || (match ops[j]? with | some o => isP P o.op || !isQ P o.op | none => true)
def eR (ops : Array Oper) (B : Array Nat) (m : Nat) : Tr → Bool
 | .done => true
 | .q i t => aCz P ops B m i true && rU ops B (m ||| 2 ^ i) t && eR ops B (m ||| 2 ^ i) t
 | .c i ws t => aCz P ops B m i false && aNv P ops B m i ws && rU ops B (m ||| 2 ^ i) t && eR ops B (m ||| 2 ^ i) t
 | .fork a b => a.isC && b.isC && eR ops B m a && eR ops B m b
def uV (ops : Array Oper) (B : Array Nat) (t : Tr) : Bool :=
 aD0 ops B && aGk P ops B && rU ops B 0 t && eR P ops B 0 t
end
end Go.Abs

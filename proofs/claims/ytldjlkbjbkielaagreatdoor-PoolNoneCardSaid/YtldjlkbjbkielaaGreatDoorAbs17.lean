/- Our own abstract machine, part 17: the evaluator over operations in which no program stands. -/
import Derived.Test.YtldjlkbjbkielaaGreatDoorAbs16
set_option linter.unusedSimpArgs false
set_option linter.unusedVariables false
namespace Go.Abs
open Go

/-- A value, the heap as it was. (An inductive family, so that the kernel's check never unfolds it.) -/
inductive kV (x : Option V) (h : AHeap) (K : V → AHeap → Prop) : Prop
  | mk (v : V) (hx : x = some v) (hk : K v h)

/-- A value and a heap. -/
inductive kP (x : Option (V × AHeap)) (K : V → AHeap → Prop) : Prop
  | mk (v : V) (h : AHeap) (hx : x = some (v, h)) (hk : K v h)

/-- A heap. -/
inductive kH (x : Option AHeap) (K : V → AHeap → Prop) : Prop
  | mk (h : AHeap) (hx : x = some h) (hk : K junk h)

@[simp] theorem kV_some (v : V) (h : AHeap) (K : V → AHeap → Prop) : kV (some v) h K = K v h := propext ⟨fun ⟨_, hx, hk⟩ => (by cases hx; exact hk), fun hk => ⟨v, rfl, hk⟩⟩
@[simp] theorem kP_some (v : V) (h : AHeap) (K : V → AHeap → Prop) : kP (some (v, h)) K = K v h := propext ⟨fun ⟨_, _, hx, hk⟩ => (by cases hx; exact hk), fun hk => ⟨v, h, rfl, hk⟩⟩
@[simp] theorem kH_some (h : AHeap) (K : V → AHeap → Prop) : kH (some h) K = K junk h := propext ⟨fun ⟨_, hx, hk⟩ => (by cases hx; exact hk), fun hk => ⟨h, rfl, hk⟩⟩
@[simp] theorem kV_none (h : AHeap) (K : V → AHeap → Prop) : kV none h K = False := propext ⟨fun ⟨_, hx, _⟩ => (by cases hx), False.elim⟩
@[simp] theorem kP_none (K : V → AHeap → Prop) : kP none K = False := propext ⟨fun ⟨_, _, hx, _⟩ => (by cases hx), False.elim⟩
@[simp] theorem kH_none (K : V → AHeap → Prop) : kH none K = False := propext ⟨fun ⟨_, hx, _⟩ => (by cases hx), False.elim⟩

section
variable (P : Program) (I : FuncId → Option Spec)

def ifcT (t : TypeId) : Option Bool :=
  match P.underlying t with
  | some (.interface _) => none
  | some _ => some true
  | none => none

def mapT (t : TypeId) : Bool :=
  match P.underlying t with
  | some (.map _ _) => true
  | _ => false

def makeMapD (good : Bool) (r : Option V) (h : AHeap) : Option (V × AHeap) :=
  if good then
    match r with
    | none => some (.map (some h.next), h.new (.map [] 0))
    | some (.int _ _) => some (.map (some h.next), h.new (.map [] 0))
    | _ => none
  else none

def builtinD (b : Builtin) (ts : Array TypeId) (args : List V) (h : AHeap) (K : V → AHeap → Prop) : Prop :=
  match b, args with
  | .append, [s, x] => kP (appendD (appendK P ts) s x h) K
  | .copy, [d, s] => kP (copyD (copyK P ts) d s h) K
  | .len, [x] => kV (lenD (lenK P ts) x h) h K
  | .delete, [m, k] => kH (deleteD ((ts[0]?).bind (mapK P)) m k h) K
  | .clear, [x] => kH (clearD (clearK P ts) x h) K
  | .min, l => kV (aMinMax false l) h K
  | .max, l => kV (aMinMax true l) h K
  | _, _ => False

def doD (o : Op) (e : Nat → V) (h : AHeap) (K : V → AHeap → Prop) : Prop :=
  match o with
  | .move x => K (aEv e x) h
  | .assign x => K (aEv e x) h
  | .pick c a b => (match aEv e c with | .bool true => K (aEv e a) h | .bool false => K (aEv e b) h | _ => False)
  | .alloc t => (match zeroOf P t with | some z => kP (newD (eszD P t) z h) K | none => False)
  | .box t x => kP (newD (eszD P t) (aEv e x) h) K
  | .build t ps => kV (buildD (buildK P t) (ps.toList.map fun p => (p.1, aEv e p.2))) h K
  | .buildSlice t n ps => kP (buildSliceD (elK P t) n (ps.toList.map fun p => (p.1, aEv e p.2)) h) K
  | .insert t m k v => kH (mapUpdateD (mapK P t) (aEv e m) (aEv e k) (aEv e v) h) K
  | .load t a => kV (ldD (layT P t) (aEv e a) h) h K
  | .store t a x => kH (stD (szT P t) (aEv e a) (aEv e x) h) K
  | .nilCheck x => kV (aNil (aEv e x)) h K
  | .binOp op t x y _ => kV (binD (eqK P t) op (isConstO x || isConstO y) (aEv e x) (aEv e y) h) h K
  | .unOp op _ x => kV (aUn op (aEv e x)) h K
  | .convert s d x => kP (convD (convK P s d) (aEv e x) h) K
  | .makeInterface t x => (match ifcT P t with | some _ => K (.iface t (aEv e x)) h | none => False)
  | .makeFunc fn f c => K (.func fn (f.map (aEv e)) (c.map (aEv e))) h
  | .makeMap t r => kP (makeMapD (mapT P t) (r.map (aEv e)) h) K
  | .makeSlice t l c => kP (makeSliceD (mkK P t) (aEv e l) (aEv e c) h) K
  | .slice t x lo hi mx => kV (sliceD (slK P t) (aEv e x) (lo.map (aEv e)) (hi.map (aEv e)) (mx.map (aEv e)) h) h K
  | .fieldAddr t x i => kV (fieldAddrD (fieldOff P t i) (aEv e x)) h K
  | .field t x i => kV (fieldD (fieldK P t i) (aEv e x)) h K
  | .indexAddr t x i => kV (indexAddrD (ixK P t) (aEv e x) (aEv e i)) h K
  | .index t x i => kV (indexD (ixK P t) (aEv e x) (aEv e i)) h K
  | .lookup t x i ok => kV (lookupD (mapK P t) (aEv e x) (aEv e i) ok h) h K
  | .mapUpdate t m k v => kH (mapUpdateD (mapK P t) (aEv e m) (aEv e k) (aEv e v) h) K
  | .range t x => kP (rangeD (rgK P t) (aEv e x) h) K
  | .next it s => aNext (aEv e it) s h K
  | .entry it => kV (aEntry (aEv e it) h) h K
  | .typeAssert x _ t ok => kV (assertD (concT P t) (aEv e x) t ok) h K
  | .extract t i => kV (aExtract (aEv e t) i) h K
  | .call c =>
    match c.callee with
    | .value f => aCall I (aEv e f) (evArr e c.args) h K
    | .builtin b => builtinD P b c.argTypes (evArr e c.args) h K
    | .invoke _ _ => False
  | _ => False

theorem kV_eq (x : Option V) (h : AHeap) (K : V → AHeap → Prop) : (match x.map (fun v => (v, h)) with | some (v, h) => K v h | none => False) = kV x h K := by cases x <;> simp
theorem kH_eq (x : Option AHeap) (K : V → AHeap → Prop) : (match x.map (fun h => (Abs.junk, h)) with | some (v, h) => K v h | none => False) = kH x K := by cases x <;> simp
theorem kP_eq (x : Option (V × AHeap)) (K : V → AHeap → Prop) : (match x with | some (v, h) => K v h | none => False) = kP x K := by rcases x with _ | ⟨v, h⟩ <;> simp

theorem builtin_eq (b : Builtin) (ts : Array TypeId) (args : List V) (h : AHeap) (K : V → AHeap → Prop) :
    (match aBuiltin P b ts args h with | some (v, h) => K v h | none => False) = builtinD P b ts args h K := by
  cases b <;> try rfl
  case append =>
    match args with
    | [] => rfl
    | [_] => rfl
    | [s, x] => (simp only [aBuiltin, builtinD, aAppend_eq]; exact kP_eq _ _)
    | _ :: _ :: _ :: _ => rfl
  case copy =>
    match args with
    | [] => rfl
    | [_] => rfl
    | [s, x] => (simp only [aBuiltin, builtinD, aCopy_eq]; exact kP_eq _ _)
    | _ :: _ :: _ :: _ => rfl
  case len =>
    match args with
    | [] => rfl
    | [x] => (simp only [aBuiltin, builtinD, aLen_eq]; exact kV_eq _ _ _)
    | _ :: _ :: _ => rfl
  case delete =>
    match args with
    | [] => rfl
    | [_] => rfl
    | [s, x] =>
      simp only [aBuiltin, builtinD]
      cases ts[0]? with
      | none => simp [deleteD]
      | some t => (simp only [Option.bind_some, aDelete_eq]; exact kH_eq _ _)
    | _ :: _ :: _ :: _ => rfl
  case clear =>
    match args with
    | [] => rfl
    | [x] => (simp only [aBuiltin, builtinD, aClear_eq]; exact kH_eq _ _)
    | _ :: _ :: _ => rfl
  case min => (simp only [aBuiltin, builtinD]; exact kV_eq _ _ _)
  case max => (simp only [aBuiltin, builtinD]; exact kV_eq _ _ _)

theorem do_eq (o : Op) (e : Nat → V) (h : AHeap) (K : V → AHeap → Prop) : aDo P I o e h K = doD P I o e h K := by
  cases o <;> simp only [aDo, aOp, doD]
  case pick c a b =>
    cases aEv e c <;> try rfl
    rename_i t
    cases t <;> rfl
  case alloc t =>
    cases zeroOf P t with
    | none => rfl
    | some z => (simp only [Option.bind_some, aNew_eq]; exact kP_eq _ _)
  case box t x => (simp only [aNew_eq]; exact kP_eq _ _)
  case build t ps => (simp only [aBuild_eq]; exact kV_eq _ _ _)
  case buildSlice t n ps => (simp only [aBuildSlice_eq]; exact kP_eq _ _)
  case insert t m k v => (simp only [aMapUpdate_eq]; exact kH_eq _ _)
  case load t a => (simp only [aLoad_eq]; exact kV_eq _ _ _)
  case store t a x => (simp only [aStore_eq]; exact kH_eq _ _)
  case nilCheck x => exact kV_eq _ _ _
  case binOp op t x y yt => (simp only [aBin_eq]; exact kV_eq _ _ _)
  case unOp op t x => exact kV_eq _ _ _
  case convert s d x => (simp only [aConvert_eq]; exact kP_eq _ _)
  case makeInterface t x =>
    unfold ifcT
    rcases P.underlying t with _ | d
    · rfl
    · cases d <;> rfl
  case makeMap t r =>
    unfold mapT makeMapD
    rcases P.underlying t with _ | d
    · cases r <;> simp
    · cases d <;> cases r <;> first | (simp; done) | (rename_i x; simp only [Option.map_some, if_true]; cases aEv e x <;> simp)
  case makeSlice t l c => (simp only [aMakeSlice_eq]; exact kP_eq _ _)
  case slice t x lo hi mx => (simp only [aSlice_eq]; exact kV_eq _ _ _)
  case fieldAddr t x i =>
    exact kV_eq _ _ _
  case field t x i => (simp only [aField_eq]; exact kV_eq _ _ _)
  case indexAddr t x i => (simp only [aIndexAddr_eq]; exact kV_eq _ _ _)
  case index t x i => (simp only [aIndex_eq]; exact kV_eq _ _ _)
  case lookup t x i ok => (simp only [aLookup_eq]; exact kV_eq _ _ _)
  case mapUpdate t m k v => (simp only [aMapUpdate_eq]; exact kH_eq _ _)
  case range t x => (simp only [aRange_eq]; exact kP_eq _ _)
  case entry it => exact kV_eq _ _ _
  case typeAssert x xt t ok => (simp only [aAssert_eq]; exact kV_eq _ _ _)
  case extract t i => exact kV_eq _ _ _
  case call c =>
    cases c.callee with
    | value f => rfl
    | builtin b => exact builtin_eq P b _ _ h K
    | invoke r m => rfl

/-! ### The evaluator once more -/

def opD (ops : Array Oper) (i : Nat) (s : St) (K : St → Prop) : Prop :=
  match ops[i]? with
  | none => K s
  | some o =>
    match wantedA ops o s.e with
    | some true => doD P I o.op s.e s.h fun v h => K ((s.put o.dst v).at h)
    | some false => K (s.put o.dst gone)
    | none => False

theorem op_eq (ops : Array Oper) (i : Nat) (s : St) (K : St → Prop) : evOp P I ops i s K = opD P I ops i s K := by
  unfold evOp opD
  simp only [do_eq]
  rfl

def opsD (ops : Array Oper) : List Nat → St → (St → Prop) → Prop
  | [], s, K => K s
  | i :: rest, s, K => opD P I ops i s fun s => opsD ops rest s K

theorem ops_eq (ops : Array Oper) (l : List Nat) (s : St) (K : St → Prop) : evOps P I ops l s K = opsD P I ops l s K := by
  induction l generalizing s with
  | nil => rfl
  | cons i l ih => simp only [evOps, opsD, op_eq, ih]

def anyD (ops : Array Oper) : Nat → Array Bool → St → (St → Prop) → Prop
  | 0, listed, s, K => Region.ready .any ops listed = [] ∧ K s
  | fuel + 1, listed, s, K =>
    (Region.ready .any ops listed = [] → K s) ∧
    ∀ i ∈ Region.ready .any ops listed, opD P I ops i s fun s => anyD ops fuel (listed.setIfInBounds i true) s K

theorem any_eq (ops : Array Oper) (fuel : Nat) (listed : Array Bool) (s : St) (K : St → Prop) : evAny P I ops fuel listed s K = anyD P I ops fuel listed s K := by
  induction fuel generalizing listed s with
  | zero => rfl
  | succ n ih => simp only [evAny, anyD, op_eq, ih]

def codeD : Code → St → (Ex → St → Prop) → Prop
  | .skip, s, K => K .normal s
  | .region _ ops false, s, K => opsD P I ops (List.range ops.size) s fun s => K .normal s
  | .region _ ops true, s, K => anyD P I ops ops.size (Array.replicate ops.size false) s fun s => K .normal s
  | .seq a b, s, K => codeD a s fun x s => match x with
    | .normal => codeD b s K
    | x => K x s
  | .cond c a b, s, K => match aEv s.e c with
    | .bool true => codeD a s K
    | .bool false => codeD b s K
    | _ => False
  | .block id c, s, K => codeD c s fun x s => match x with
    | .exit j => if j = id then K .normal s else K (.exit j) s
    | x => K x s
  | .loop c, s, K => ∃ n, loopK (codeD c) n s K
  | .exit id, s, K => K (.exit id) s
  | .label _, s, K => K .normal s
  | .ret, s, K => K .ret s
  | .rangeFunc _ _ _ _, _, _ => False
  | .scope _, _, _ => False
  | .goto _, _, _ => False
  | .refuse _, _, _ => False

theorem code_eq (c : Code) : ∀ (s : St) (K : Ex → St → Prop), evC P I c s K = codeD P I c s K := by
  induction c with
  | region id ops draw => intro s K; cases draw <;> simp only [evC, codeD, ops_eq, any_eq]
  | seq a b iha ihb => intro s K; simp only [evC, codeD, iha, ihb]; rfl
  | cond c a b iha ihb => intro s K; simp only [evC, codeD, iha, ihb]; rfl
  | block id c ih => intro s K; simp only [evC, codeD, ih]; rfl
  | loop c ih => intro s K; simp only [evC, codeD]; rw [show evC P I c = codeD P I c from funext fun s => funext fun K => ih s K]
  | _ => intro s K; rfl

def resD (h : AHeap) (e : Nat → V) : List ResultVar → Option (List V)
  | [] => some []
  | .tmp t :: r => (resD h e r).map fun l => e t :: l
  | .cell a t :: r => (ldD (layT P t) (e a) h).bind fun v => (resD h e r).map fun l => v :: l

theorem res_eq (h : AHeap) (e : Nat → V) (l : List ResultVar) : evRes P h e l = resD P h e l := by
  induction l with
  | nil => rfl
  | cons x l ih => cases x <;> simp only [evRes, resD, ih, aLoad_eq]

/-- A function: its body, then its results. -/
def funD (f : Func) (args : List V) (h : AHeap) (K : V → AHeap → Prop) : Prop :=
  match f.body with
  | none => False
  | some c => codeD P I c ⟨args0 args, h⟩ fun x s =>
    match x with
    | .exit _ => False
    | _ =>
      match resD P s.h s.e f.results.toList with
      | some l => K (resV l) s.h
      | none => False

theorem fun_eq (f : Func) (args : List V) (h : AHeap) (K : V → AHeap → Prop) : evF P I f args h K = funD P I f args h K := by
  unfold evF funD
  simp only [code_eq, res_eq]
  rfl

end

/-- **A function whose body the evaluator walks.** -/
theorem SoundF.of_fun {P : Program} {J : World → Prop} {I : FuncId → Option Spec} (hI : SoundI P J I) (hm : P.follows .mixedOrders = true) {f : FuncId} {fn : Func} {c : Code} (hf : P.funcs[f]? = some fn) (hb : fn.body = some c) (hok : codeOk fn.ntmps c = true)
    (hcall : ∀ (args : Array V) (w : World), (callFunc f args).run P w = .ok (.enter f args) w) :
    SoundF P J f (fun args h K => args.length ≤ fn.ntmps ∧ funD P I fn args h K) := by
  have := SoundF.of_body hI hm hf hb hok hcall
  simp only [fun_eq] at this
  exact this

/-- Of a spec that asks more. -/
theorem SoundF.of_imp {P : Program} {J : World → Prop} {f : FuncId} {s s' : Spec} (h : SoundF P J f s) (hi : ∀ args h K, s' args h K → s args h K) : SoundF P J f s' :=
  fun B hJ r hp w args args' Q hs hR ha => h B hJ r hp w args args' Q (hi _ _ _ hs) hR ha

end Go.Abs

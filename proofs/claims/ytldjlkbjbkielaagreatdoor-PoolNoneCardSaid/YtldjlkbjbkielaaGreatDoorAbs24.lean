/- Our own abstract machine, part 24: closed code is run: an evaluator that the kernel computes, and that it speaks truly. -/
import Derived.Test.YtldjlkbjbkielaaGreatDoorAbs23
set_option linter.unusedSimpArgs false
set_option linter.unusedVariables false
namespace Go.Abs
open Go

/-! ### Values that are seen to be the same -/

def eq0 : V → V → Bool
  | .bool a, .bool b => a == b
  | .int k a, .int k' b => decide (k = k') && decide (a = b)
  | .string a, .string b => decide (a.data.toList = b.data.toList)
  | .pointer none, .pointer none => true
  | .pointer (some ⟨b, o, none⟩), .pointer (some ⟨b', o', none⟩) => Nat.beq b b' && Nat.beq o o'
  | .slice none n c, .slice none n' c' => Nat.beq n n' && Nat.beq c c'
  | .slice (some ⟨b, o, none⟩) n c, .slice (some ⟨b', o', none⟩) n' c' => Nat.beq b b' && Nat.beq o o' && Nat.beq n n' && Nat.beq c c'
  | .map none, .map none => true
  | .map (some b), .map (some b') => Nat.beq b b'
  | .nilFunc, .nilFunc => true
  | .nilIface, .nilIface => true
  | _, _ => false

theorem eq0_eq {a b : V} (h : eq0 a b = true) : a = b := by
  unfold eq0 at h
  split at h
  case h_3 a b =>
    exact congrArg Value.string (by cases a; cases b; exact congrArg ByteArray.mk (Array.ext' (of_decide_eq_true h)))
  all_goals first
    | rfl
    | (simp [Nat.beq_eq] at h <;> simp [h]; done)
    | cases h

def eqL : List V → List V → Bool
  | [], [] => true
  | a :: l, b :: m => eq0 a b && eqL l m
  | _, _ => false

theorem eqL_eq : ∀ {a b : List V}, eqL a b = true → a = b
  | [], [], _ => rfl
  | a :: l, b :: m, h => by
    simp only [eqL, Bool.and_eq_true] at h
    rw [eq0_eq h.1, eqL_eq h.2]
  | [], _ :: _, h => by simp [eqL] at h
  | _ :: _, [], h => by simp [eqL] at h

def eqA : V → V → Bool
  | .agg a, .agg b => eqL a.toList b.toList
  | a, b => eq0 a b

theorem eqA_eq {a b : V} (h : eqA a b = true) : a = b := by
  unfold eqA at h
  split at h
  · congr 1; exact Array.ext' (eqL_eq h)
  · exact eq0_eq h

def eqM : List V → List V → Bool
  | [], [] => true
  | a :: l, b :: m => eqA a b && eqM l m
  | _, _ => false

theorem eqM_eq : ∀ {a b : List V}, eqM a b = true → a = b
  | [], [], _ => rfl
  | a :: l, b :: m, h => by
    simp only [eqM, Bool.and_eq_true] at h
    rw [eqA_eq h.1, eqM_eq h.2]
  | [], _ :: _, h => by simp [eqM] at h
  | _ :: _, [], h => by simp [eqM] at h

def eqV : V → V → Bool
  | .agg a, .agg b => eqL a.toList b.toList
  | .tuple a, .tuple b => eqM a.toList b.toList
  | .iface t a, .iface t' b => decide (t = t') && eq0 a b
  | a, b => eq0 a b

theorem eqV_eq {a b : V} (h : eqV a b = true) : a = b := by
  unfold eqV at h
  split at h
  · congr 1; exact Array.ext' (eqL_eq h)
  · congr 1; exact Array.ext' (eqM_eq h)
  · simp only [Bool.and_eq_true, decide_eq_true_eq] at h
    rw [h.1, eq0_eq h.2]
  · exact eq0_eq h

/-! ### The evaluator -/

abbrev KB := V → AHeap → Bool
abbrev CB := FuncId → List V → AHeap → KB → Bool

def nextB (x : V) (isString : Bool) (h : AHeap) (K : KB) : Bool :=
  match x with
  | .pointer (some ⟨b, 0, none⟩) =>
    match h.get b, isString with
    | some (.siter s pos), true =>
      if pos < s.size then
        K (.tuple #[.bool true, .int .i64 pos, .int .i32 (Utf8.decode s pos).1]) (h.put b (.siter s (pos + (Utf8.decode s pos).2)))
      else K (.tuple #[.bool false]) h
    | some (.miter none _ _ _), false => K (.tuple #[.bool false]) h
    | some (.miter (some m) since seen last), false =>
      match h.get m with
      | some (.map es clock) =>
        !(!seen.isEmpty && !es.isEmpty && es.all (·.born ≥ last)) &&
        (cands es since seen).all fun c =>
          match c with
          | some e => K (.tuple #[.bool true, e.key, e.val]) (h.put b (.miter (some m) since (seen.push e.born) clock))
          | none => K (.tuple #[.bool false]) h
      | _ => false
    | _, _ => false
  | _ => false

def kB (x : Option (V × AHeap)) (K : KB) : Bool :=
  match x with
  | some (v, h) => K v h
  | none => false

section
variable (P : Program) (C : CB)

def doB (o : Op) (e : Nat → V) (h : AHeap) (K : KB) : Bool :=
  match o with
  | .next it s => nextB (aEv e it) s h K
  | .call c =>
    match c.callee with
    | .value f =>
      (match aEv e f with
      | .func (.func g) first captured => C g (first.toList ++ evArr e c.args ++ captured.toList) h K
      | _ => false)
    | _ => kB (aOp P (.call c) e h) K
  | o => kB (aOp P o e h) K

def opB (ops : Array Oper) (o : Oper) (s : St) (K : St → Bool) : Bool :=
  match wantedA ops o s.e with
  | some true => doB P C o.op s.e s.h fun v h => K ((s.put o.dst v).at h)
  | some false => K (s.put o.dst gone)
  | none => false

def opsB (ops : Array Oper) : List Oper → St → (St → Bool) → Bool
  | [], s, K => K s
  | o :: rest, s, K => opB P C ops o s fun s => opsB ops rest s K

def chkB (ops : Array Oper) (j : Nat) (e : Nat → V) (h : AHeap) : Bool :=
  match ops[j]? with
  | some o =>
    match wantedA ops o e, o.dst with
    | some true, some d => (match valD P o.op e h with | some v => eqV v (e d) | none => false)
    | some false, _ => true
    | _, _ => false
  | none => false

def treeB (ops : Array Oper) : Tr → St → (St → Bool) → Bool
  | .done, s, K => K s
  | .q i t, s, K =>
    match ops[i]? with
    | none => false
    | some o => opB P C ops o s fun s => treeB ops t s K
  | .c i ws t, s, K =>
    match ops[i]? with
    | none => false
    | some o =>
      match wantedA ops o s.e with
      | some true => doB P C o.op s.e s.h fun v h => (ws.all fun j => chkB P ops j s.e h) && treeB ops t ((s.put o.dst v).at h) K
      | some false => treeB ops t (s.put o.dst gone) K
      | none => false
  | .fork a b, s, K => treeB ops a s K && treeB ops b s K

def loopB (step : St → (Ex → St → Bool) → Bool) : Nat → St → (Ex → St → Bool) → Bool
  | 0, _, _ => false
  | n + 1, s, K => step s fun x s => match x with
    | .normal => loopB step n s K
    | x => K x s

def codeB (F : Nat) : An → Code → St → (Ex → St → Bool) → Bool
  | .leaf, c, s, K => (match c with
    | .skip => K .normal s
    | .region _ ops false => opsB P C ops ops.toList s fun s => K .normal s
    | .exit id => K (.exit id) s
    | .label _ => K .normal s
    | .ret => K .ret s
    | _ => false)
  | .draw _ t, c, s, K => (match c with
    | .region _ ops true => treeB P C ops t s fun s => K .normal s
    | _ => false)
  | .seq a b, c, s, K => (match c with
    | .seq c d => codeB F a c s fun x s => match x with
      | .normal => codeB F b d s K
      | x => K x s
    | _ => false)
  | .cond a b, c, s, K => (match c with
    | .cond x c d => (match aEv s.e x with
      | .bool true => codeB F a c s K
      | .bool false => codeB F b d s K
      | _ => false)
    | _ => false)
  | .block a, c, s, K => (match c with
    | .block id c => codeB F a c s fun x s => match x with
      | .exit j => if j = id then K .normal s else K (.exit j) s
      | x => K x s
    | _ => false)
  | .loop _ _ a, c, s, K => (match c with
    | .loop c => loopB (codeB F a c) F s K
    | _ => false)
  | .join _ _ a, c, s, K => codeB F a c s K

def funB (F : Nat) (a : An) (f : Func) (args : List V) (h : AHeap) (K : KB) : Bool :=
  match f.body with
  | none => false
  | some c => codeB P C F a c ⟨args0 args, h⟩ fun x s =>
    match x with
    | .exit _ => false
    | _ =>
      match resD P s.h s.e f.results.toList with
      | some l => K (resV l) s.h
      | none => false

end

/-- Library functions that are reckoned; the notes of those that are walked. -/
abbrev LibB := FuncId → Option (List V → AHeap → KB → Bool)

def callB (P : Program) (L : LibB) (T : FuncId → Option An) (F : Nat) : Nat → CB
  | 0, _, _, _, _ => false
  | n + 1, f, args, h, K =>
    match L f with
    | some g => g args h K
    | none =>
      match T f, P.funcs[f]? with
      | some a, some fn => Nat.ble args.length fn.ntmps && funB P (callB P L T F n) F a fn args h K
      | _, _ => false

/-! ### It speaks truly -/

/-- What a number of rounds of it says of a function. -/
def specB (C : CB) (f : FuncId) : Spec := fun args h K => ∃ Kb : KB, C f args h Kb = true ∧ ∀ v h, Kb v h = true → K v h

def specI (C : CB) : FuncId → Option Spec := fun f => some (specB C f)

theorem specI_mono (C : CB) : MonoI (specI C) := by
  rintro f s ⟨rfl⟩ args h K K' hk ⟨Kb, h1, h2⟩
  exact ⟨Kb, h1, fun v h hh => hk v h (h2 v h hh)⟩

section
variable {P : Program} {C : CB}

theorem nextB_sound {x : V} {b : Bool} {h : AHeap} {K : KB} (hb : nextB x b h K = true) : aNext x b h fun v h => K v h = true := by
  unfold nextB at hb
  unfold aNext
  split at hb
  · simp only
    split at hb
    · rename_i hg
      simp only [hg]
      split at hb
      · rename_i hp; rw [if_pos hp]; exact hb
      · rename_i hp; rw [if_neg hp]; exact hb
    · rename_i hg; simp only [hg]; exact hb
    · rename_i hg
      simp only [hg]
      split at hb
      · rename_i hm
        simp only [hm]
        simp only [Bool.and_eq_true, List.all_eq_true, Bool.not_eq_true'] at hb
        refine ⟨hb.1, fun c hc => ?_⟩
        have := hb.2 c hc
        cases c <;> exact this
      · cases hb
    · cases hb
  · cases hb

theorem kB_true {x : Option (V × AHeap)} {K : KB} (h : kB x K = true) : ∃ v h, x = some (v, h) ∧ K v h = true := by
  unfold kB at h
  split at h
  · exact ⟨_, _, rfl, h⟩
  · cases h

theorem doB_sound {o : Op} {e : Nat → V} {h : AHeap} {K : KB} (hb : doB P C o e h K = true) : doD P (specI C) o e h fun v h => K v h = true := by
  rw [← do_eq]
  unfold doB at hb
  unfold aDo
  cases o
  case next it s => exact nextB_sound hb
  case call c =>
    obtain ⟨callee, as, ts⟩ := c
    cases callee
    case value f =>
      simp only at hb ⊢
      unfold aCall
      split at hb
      · rename_i g first captured hf
        simp only [hf, specI]
        exact ⟨K, hb, fun _ _ h => h⟩
      · cases hb
    all_goals
      obtain ⟨v, h', hx, hk⟩ := kB_true hb
      simp only [hx]
      exact hk
  all_goals
    obtain ⟨v, h', hx, hk⟩ := kB_true hb
    simp only [hx]
    exact hk

theorem opB_sound {ops : Array Oper} {o : Oper} {s : St} {K : St → Bool} (hb : opB P C ops o s K = true) :
    match wantedA ops o s.e with
    | some true => doD P (specI C) o.op s.e s.h fun v h => K ((s.put o.dst v).at h) = true
    | some false => K (s.put o.dst gone) = true
    | none => False := by
  unfold opB at hb
  generalize wantedA ops o s.e = w at hb ⊢
  cases w with
  | none => cases hb
  | some b => cases b with
    | true => exact doB_sound hb
    | false => exact hb

theorem opsB_sound {ops : Array Oper} : ∀ (l l0 : List Oper) {s : St} {K : St → Bool}, ops.toList = l0 ++ l → opsB P C ops l s K = true → opsD P (specI C) ops (List.range' l0.length l.length) s fun s => K s = true
  | [], _, _, _, _, h => h
  | o :: l, l0, s, K, he, h => by
    simp only [List.length_cons, List.range'_succ, opsD]
    have ho : ops[l0.length]? = some o := by
      rw [← Array.getElem?_toList, he]
      simp
    unfold opD
    simp only [ho]
    have := opB_sound h
    have next : ∀ s, opsB P C ops l s K = true → opsD P (specI C) ops (List.range' (l0.length + 1) l.length) s fun s => K s = true := fun s hh => by
      have := opsB_sound l (l0 ++ [o]) (by rw [he]; simp) hh
      simpa using this
    split at this
    · rename_i hw; simp only [hw]; exact doD_mono (specI_mono C) (fun v h hh => next _ hh) this
    · rename_i hw; simp only [hw]; exact next _ this
    · exact this.elim

theorem chkB_sound {ops : Array Oper} {j : Nat} {e : Nat → V} {h : AHeap} (hb : chkB P ops j e h = true) : chk P ops j e h := by
  unfold chkB at hb
  unfold chk
  split at hb
  · rename_i o ho
    simp only [ho]
    split at hb
    · rename_i d hw hd
      simp only [hw, hd]
      split at hb
      · rename_i v hv
        rw [hv, eqV_eq hb]
      · cases hb
    · rename_i hw; simp only [hw]
    · cases hb
  · cases hb

theorem chksB_sound {ops : Array Oper} {e : Nat → V} {h : AHeap} {p : Prop} (hp : p) : ∀ {l : List Nat}, (l.all fun j => chkB P ops j e h) = true → chks P ops e h l p
  | [], _ => hp
  | j :: l, hl => by
    simp only [List.all_cons, Bool.and_eq_true] at hl
    exact ⟨chkB_sound hl.1, chksB_sound hp hl.2⟩

theorem treeB_sound {ops : Array Oper} : ∀ (t : Tr) {s : St} {K : St → Bool}, treeB P C ops t s K = true → oneT P (specI C) ops t s fun s => K s = true
  | .done, _, _, h => h
  | .q i t, s, K, h => by
    simp only [treeB] at h
    simp only [oneT]
    split at h
    · cases h
    · rename_i o ho
      simp only [ho]
      have := opB_sound h
      split at this
      · rename_i hw; simp only [hw]; exact doD_mono (specI_mono C) (fun v h hh => treeB_sound t hh) this
      · rename_i hw; simp only [hw]; exact treeB_sound t this
      · exact this.elim
  | .c i ws t, s, K, h => by
    simp only [treeB] at h
    simp only [oneT]
    split at h
    · cases h
    · rename_i o ho
      simp only [ho]
      split at h
      · rename_i hw
        simp only [hw]
        refine doD_mono (specI_mono C) (fun v h hh => ?_) (doB_sound h)
        simp only [Bool.and_eq_true] at hh
        exact chksB_sound (treeB_sound t hh.2) hh.1
      · rename_i hw; simp only [hw]; exact treeB_sound t h
      · cases h
  | .fork a b, s, K, h => by
    simp only [treeB, Bool.and_eq_true] at h
    exact ⟨treeB_sound a h.1, treeB_sound b h.2⟩

theorem loopB_sound {c : Code} {step : St → (Ex → St → Bool) → Bool} (hs : ∀ s K, step s K = true → codeD P (specI C) c s fun x s => K x s = true) :
    ∀ (n : Nat) {s : St} {K : Ex → St → Bool}, loopB step n s K = true → loopK (codeD P (specI C) c) n s fun x s => K x s = true
  | 0, _, _, h => by cases h
  | n + 1, s, K, h => by
    refine codeD_mono (specI_mono C) c (fun x s hh => ?_) (hs _ _ h)
    cases x with
    | normal => exact loopB_sound hs n hh
    | exit j => exact hh
    | ret => exact hh

theorem codeB_sound (F : Nat) : ∀ (a : An) (c : Code) {s : St} {K : Ex → St → Bool}, anOk P a c = true → codeB P C F a c s K = true → codeD P (specI C) c s fun x s => K x s = true
  | .leaf, c, s, K, ha, h => by
    cases c with
    | region id ops draw =>
      cases draw with
      | false =>
        have := opsB_sound ops.toList [] (by simp) h
        simp only [codeD]
        simpa [List.range_eq_range'] using this
      | true => cases h
    | _ => first | exact h | cases h
  | .draw B t, c, s, K, ha, h => by
    cases c with
    | region id ops draw =>
      cases draw with
      | false => cases h
      | true =>
        have ha : drawOk P ops B t = true := ha
        exact one_any (specI_mono C) ha (treeB_sound t h)
    | _ => cases h
  | .seq a b, c, s, K, ha, h => by
    cases c with
    | seq c d =>
      have ha : (anOk P a c && anOk P b d) = true := ha
      simp only [Bool.and_eq_true] at ha
      refine codeD_mono (specI_mono C) c (fun x s' hh => ?_) (codeB_sound F a c ha.1 h)
      cases x with
      | normal => exact codeB_sound F b d ha.2 hh
      | exit j => exact hh
      | ret => exact hh
    | _ => cases h
  | .cond a b, c, s, K, ha, h => by
    cases c with
    | cond x c d =>
      have ha : (anOk P a c && anOk P b d) = true := ha
      simp only [Bool.and_eq_true] at ha
      simp only [codeB] at h
      simp only [codeD]
      split at h
      · rename_i hx; simp only [hx]; exact codeB_sound F a c ha.1 h
      · rename_i hx; simp only [hx]; exact codeB_sound F b d ha.2 h
      · cases h
    | _ => cases h
  | .block a, c, s, K, ha, h => by
    cases c with
    | block id c =>
      refine codeD_mono (specI_mono C) c (fun x s' hh => ?_) (codeB_sound F a c ha h)
      cases x with
      | normal => exact hh
      | exit j =>
        simp only at hh ⊢
        split at hh
        · rename_i hj; rw [if_pos hj]; exact hh
        · rename_i hj; rw [if_neg hj]; exact hh
      | ret => exact hh
    | _ => cases h
  | .loop W L a, c, s, K, ha, h => by
    cases c with
    | loop c =>
      have ha : (writesOk W c && anOk P a c) = true := ha
      simp only [Bool.and_eq_true] at ha
      exact ⟨F, loopB_sound (fun s K hh => codeB_sound F a c ha.2 hh) F h⟩
    | _ => cases h
  | .join W L a, c, s, K, ha, h => by
    have ha : (writesOk W c && anOk P a c) = true := ha
    simp only [Bool.and_eq_true] at ha
    exact codeB_sound F a c ha.2 h

theorem funB_sound (F : Nat) {a : An} {f : Func} {c : Code} (hb : f.body = some c) (ha : anOk P a c = true) {args : List V} {h : AHeap} {K : KB} (hf : funB P C F a f args h K = true) :
    funD P (specI C) f args h fun v h => K v h = true := by
  unfold funB at hf
  unfold funD
  simp only [hb] at hf ⊢
  refine codeD_mono (specI_mono C) c (fun x s hh => ?_) (codeB_sound F a c ha hf)
  cases x with
  | exit j => cases hh
  | normal =>
    simp only at hh ⊢
    split at hh
    · rename_i hr; simp only [hr]; exact hh
    · cases hh
  | ret =>
    simp only at hh ⊢
    split at hh
    · rename_i hr; simp only [hr]; exact hh
    · cases hh

end

/-- What has to be known of a function that is walked. -/
def Walked (P : Program) (f : FuncId) (a : An) : Prop :=
  ∃ fn c, P.funcs[f]? = some fn ∧ fn.body = some c ∧ codeOk fn.ntmps c = true ∧ anOk P a c = true ∧ ∀ (args : Array V) (w : World), (callFunc f args).run P w = .ok (.enter f args) w

def lkA : List (Nat × An) → FuncId → Option An
  | [], _ => none
  | (n, a) :: l, f => if Nat.beq f n then some a else lkA l f

def AllW (P : Program) : List (Nat × An) → Prop
  | [] => True
  | (n, a) :: l => Walked P n a ∧ AllW P l

theorem lkA_walked {P : Program} : ∀ {l : List (Nat × An)}, AllW P l → ∀ f a, lkA l f = some a → Walked P f a
  | [], _, f, a, h => by cases h
  | (n, b) :: l, ⟨h1, h2⟩, f, a, h => by
    unfold lkA at h
    split at h
    · rename_i hf; cases h; rw [Nat.eq_of_beq_eq_true hf]; exact h1
    · exact lkA_walked h2 f a h

def fnSpec (g : List V → AHeap → Option (V × AHeap)) : Spec := fun args h K => kP (g args h) K

/-- What is reckoned, in whatever way it goes. -/
def anySpec (g : List V → AHeap → KB → Bool) : Spec := fun args h K => ∃ Kb : KB, g args h Kb = true ∧ ∀ v h, Kb v h = true → K v h

def detB (g : List V → AHeap → Option (V × AHeap)) : List V → AHeap → KB → Bool := fun args h K => kB (g args h) K

theorem detB_sound {P : Program} {J : World → Prop} {f : FuncId} {g : List V → AHeap → Option (V × AHeap)} (h : SoundF P J f (fnSpec g)) : SoundF P J f (anySpec (detB g)) := by
  refine h.of_imp fun args h K hs => ?_
  obtain ⟨Kb, h1, h2⟩ := hs
  obtain ⟨v, h', hx, hk⟩ := kB_true h1
  unfold fnSpec
  rw [hx, kP_some]
  exact h2 _ _ hk

/-- **Closed code may be run.** -/
theorem callB_sound {P : Program} {J : World → Prop} {L : LibB} {T : FuncId → Option An} {F : Nat} (hm : P.follows .mixedOrders = true)
    (hL : ∀ f g, L f = some g → SoundF P J f (anySpec g)) (hT : ∀ f a, T f = some a → Walked P f a) : ∀ (n : Nat) (f : FuncId), SoundF P J f (specB (callB P L T F n) f)
  | 0, f => by
    rintro B hJ r hp w args args' Q ⟨Kb, h1, _⟩
    cases h1
  | n + 1, f => by
    cases hl : L f with
    | some g =>
      refine (hL f g hl).of_imp fun args h K hs => ?_
      obtain ⟨Kb, h1, h2⟩ := hs
      simp only [callB, hl] at h1
      exact ⟨Kb, h1, h2⟩
    | none =>
      cases ht : T f with
      | none =>
        rintro B hJ r hp w args args' Q ⟨Kb, h1, _⟩
        simp [callB, hl, ht] at h1
      | some a =>
        obtain ⟨fn, c, hf, hb, hok, ha, hcall⟩ := hT f a ht
        have hI : SoundI P J (specI (callB P L T F n)) := by
          rintro g s ⟨rfl⟩
          exact callB_sound hm hL hT n g
        refine (SoundF.of_fun hI hm hf hb hok hcall).of_imp fun args h K hs => ?_
        obtain ⟨Kb, h1, h2⟩ := hs
        simp only [callB, hl, ht, hf, Bool.and_eq_true] at h1
        refine ⟨Nat.le_of_ble_eq_true h1.1, ?_⟩
        have h3 := funB_sound F hb ha h1.2
        unfold funD at h3 ⊢
        simp only [hb] at h3 ⊢
        refine codeD_mono (specI_mono _) c (fun x s hh => ?_) h3
        cases x with
        | exit j => exact hh
        | normal =>
          simp only at hh ⊢
          generalize resD P s.h s.e fn.results.toList = rr at hh ⊢
          cases rr with
          | none => exact hh
          | some l => exact h2 _ _ hh
        | ret =>
          simp only at hh ⊢
          generalize resD P s.h s.e fn.results.toList = rr at hh ⊢
          cases rr with
          | none => exact hh
          | some l => exact h2 _ _ hh

/-- The heap of which nothing is said. -/
def AHeap.bare (h : AHeap) : AHeap := ⟨fun _ => none, h.next⟩

theorem Sub.bare (h : AHeap) : Sub h.bare h := ⟨Nat.le_refl _, fun _ _ h => by cases h⟩

/-- **The frame:** what holds of a call upon a heap of which nothing is said, of values without an address, holds upon each, and the heap stays. -/
theorem SoundF.alone {P : Program} {J : World → Prop} {f : FuncId} {s : Spec} (hs : SoundF P J f s) {as : List V} {v0 : V} (hv : closedV v0 = true) (has : ∀ v ∈ as, closedV v = true)
    (h0 : s as ⟨fun _ => none, 0⟩ fun v _ => v = v0) : SoundF P J f fun args h K => args = as ∧ K v0 h := by
  rintro B hJ r hp w args args' Q ⟨rfl, hK⟩ hR ha
  have hR0 : R J B (fun _ => none) ⟨fun _ => none, 0⟩ w := ⟨hR.base, fun _ _ h => (by cases h), fun _ _ h => (by cases h), fun _ _ _ _ _ _ h => (by cases h), hR.inv⟩
  have ha0 : VRl (fun _ => none) args args'.toList := by
    refine ⟨ha.1, fun i h1 h2 => ?_⟩
    rw [VR.eq_of_closed (has _ (List.getElem_mem h1)) (ha.2 i h1 h2)]
    exact VR.closed (has _ (List.getElem_mem h1))
  obtain ⟨n, w', h1, h2⟩ := hs B hJ _ _ w args args' _ h0 hR0 ha0
  refine ⟨n, w', h1, ?_⟩
  have fin : ∀ v' w', (∃ r' v h', v = v0 ∧ R J B r' h' w' ∧ Ext (fun _ => none) ⟨fun _ => none, 0⟩ w r' h' w' ∧ VR r' v v') → ∃ r' v h', Q v h' ∧ R J B r' h' w' ∧ Ext r hp w r' h' w' ∧ VR r' v v' := by
    rintro v' w' ⟨r', v, h', rfl, hR', hE, hv'⟩
    have hb : ∀ k, k < w.heap.size → w'.heap[k]? = w.heap[k]? := fun k hk => hE.block k hk fun ⟨b, t, ⟨o, ho, _⟩, _⟩ => by cases ho
    refine ⟨r, v, hp, hK, ⟨?_, ?_, ?_, hR.inj, hR'.inv⟩, ⟨Ren.le_refl r, Nat.le_refl _, hE.os, hE.tape, hE.output, hE.size, fun k hk _ => hb k hk, fun _ _ h => h⟩, ?_⟩
    · exact Nat.le_trans hR.base hE.size
    · intro b t ht; exact ⟨Nat.lt_of_lt_of_le (hR.lt b t ht).1 hE.size, (hR.lt b t ht).2⟩
    · intro b o ho
      obtain ⟨t, ht, hO⟩ := hR.live b o ho
      exact ⟨t, ht, hO.of_block (hb _ (hR.lt b t ht).1)⟩
    · rw [VR.eq_of_closed hv hv']
      exact VR.closed hv
  cases n <;> simp only at h2 ⊢
  case value v => exact fin _ _ h2
  case enter g as =>
    refine h2.mono ?_
    rintro e w'' ⟨v, rfl, hh⟩
    exact ⟨v, rfl, fin _ _ hh⟩

end Go.Abs

/- Our own abstract machine, part 14: what the evaluator says of code holds of the model's runs. -/
import Derived.Test.YtldjlkbjbkielaaGreatDoorAbs13
set_option linter.unusedSimpArgs false
set_option linter.unusedVariables false
namespace Go.Abs
open Go Go.RowKit

/-- A call of function f: it returns, in Q. -/
def CallsF (P : Program) (f : FuncId) (args : Array V) (w : World) (Q : V → World → Prop) : Prop :=
  ∃ n w', (callFunc f args).run P w = .ok n w' ∧
    match n with
    | .value v => Q v w'
    | .enter g as => Calls P g as w' fun e w'' => ∃ v, e = .returned v ∧ Q v w''
    | _ => False

/-- A spec speaks truly of a function. -/
def SoundF (P : Program) (J : World → Prop) (f : FuncId) (s : Spec) : Prop :=
  ∀ (B : Nat), Stays J B → ∀ (r : Ren) (h : AHeap) (w : World) (args : List V) (args' : Array V) (Q : V → AHeap → Prop), s args h Q → R J B r h w → VRl r args args'.toList →
    CallsF P f args' w fun v' w' => ∃ r' v h', Q v h' ∧ R J B r' h' w' ∧ Ext r h w r' h' w' ∧ VR r' v v'

def SoundI (P : Program) (J : World → Prop) (I : FuncId → Option Spec) : Prop := ∀ f s, I f = some s → SoundF P J f s

section
variable {P : Program} {J : World → Prop} {I : FuncId → Option Spec} {B : Nat}

theorem aDo_sound (hI : SoundI P J I) (hJ : Stays J B) {r : Ren} {h : AHeap} {w : World} (hR : R J B r h w) {e : Nat → V} {a : Act} (he : EnvR r e a) {o : Oper} {K : V → AHeap → Prop}
    (hd : aDo P I o.op e h K) {next : Act → World → Prop} {Q : Exit → Act → World → Prop}
    (hn : ∀ r' v v' h' w', K v h' → R J B r' h' w' → Ext r h w r' h' w' → VR r' v v' → next (a.put o.dst v') w') : o.wp P a w next Q := by
  have plain : (match aOp P o.op e h with | some (v, h) => K v h | none => False) → o.wp P a w next Q := by
    intro hk
    split at hk
    · rename_i v h' hop
      obtain ⟨r', n, w', h1, h2, h3, h4⟩ := aOp_sound (P := P) (a := a) hJ hR he hop
      unfold Oper.wp
      rw [h1]
      rcases h4 with ⟨v', rfl, hv⟩ | ⟨rfl, rfl⟩
      · exact hn r' v v' h' w' hk h2 h3 hv
      · exact hn r' junk undef h' w' hk h2 h3 (.junk _)
    · exact hk.elim
  obtain ⟨dst, op, ty, pos, after, guard⟩ := o
  unfold aDo at hd
  cases op
  case next it s =>
    obtain ⟨v, h', v', w', h1, h2, h3, h4, h5⟩ := next_sound (P := P) (t := ty) hJ hR (he.ev it) hd
    unfold Oper.wp
    simp only [execOp, Sem.run_bind, h1, Result.andThen_ok, Sem.run_pure]
    exact hn r v v' h' w' h2 h3 h4 h5
  case call c =>
    obtain ⟨callee, args, argTypes⟩ := c
    cases callee
    case value f =>
      simp only at hd
      unfold aCall at hd
      have hf := he.ev f
      split at hd
      · rename_i g first captured hfe
        split at hd
        · rename_i s hs
          rw [hfe] at hf
          generalize hfv : a.eval f = fv at hf
          cases hf with
          | func _ f1 f2 f3 f4 =>
          rename_i first' captured'
          have hargs : VRl r (first.toList ++ evArr e args ++ captured.toList) (first' ++ args.map a.eval ++ captured').toList := by
            rw [Array.toList_append, Array.toList_append]
            exact ((VRa.toList ⟨f1, f2⟩).append (he.arr args)).append (VRa.toList ⟨f3, f4⟩)
          obtain ⟨n, w', hrun, hq⟩ := hI g s hs B hJ r h w _ _ _ hd hR hargs
          unfold Oper.wp
          have e1 : (execOp a.eval { dst, op := .call { callee := .value f, args, argTypes }, type := ty, pos, after, guard }).run P w = .ok n w' := by
            simp only [execOp, resolve, hfv, Deferred.ofValue, Sem.run_bind, Sem.run_pure, Result.andThen_ok, invoke, hrun]
          rw [e1]
          cases n <;> first | exact hq.elim | skip
          · obtain ⟨r', v, h', q1, q2, q3, q4⟩ := hq
            exact hn r' v _ h' w' q1 q2 q3 q4
          · simp only [Oper.upon]
            refine hq.mono ?_
            rintro en w'' ⟨v', rfl, r', v, h', q1, q2, q3, q4⟩
            exact hn r' v v' h' w'' q1 q2 q3 q4
        · exact hd.elim
      · exact hd.elim
    all_goals exact plain hd
  all_goals exact plain hd

/-- An abstract state speaks of a frame and a world. -/
structure SR (J : World → Prop) (B n : Nat) (r : Ren) (s : St) (a : Act) (w : World) : Prop where
  R : R J B r s.h w
  env : EnvR r s.e a
  size : a.tmps.size = n
  defers : a.defers = []

theorem EnvR.put {r : Ren} {e : Nat → V} {a : Act} {v v' : V} (he : EnvR r e a) (hv : VR r v v') {d : Option Tmp} (hd : ∀ t, d = some t → t < a.tmps.size) {h : AHeap} :
    EnvR r ((⟨e, h⟩ : St).put d v).e (a.put d v') := by
  intro t
  cases d with
  | none => exact he t
  | some d =>
    simp only [St.put, Act.put]
    by_cases ht : t = d
    · subst ht
      simp [hd t rfl, hv]
    · rw [if_neg ht]
      have := he t
      rw [Array.getD_eq_getD_getElem?] at this ⊢
      rw [Array.getElem?_setIfInBounds_ne (Ne.symm ht)]
      exact this

theorem SR.put {n : Nat} {r r' : Ren} {s : St} {a : Act} {w w' : World} {h' : AHeap} {v v' : V} (hs : SR J B n r s a w) (hR : Abs.R J B r' h' w') (hle : r.le r') (hv : VR r' v v') {d : Option Tmp} (hd : ∀ t, d = some t → t < n) :
    SR J B n r' ((s.put d v).at h') (a.put d v') w' := by
  refine ⟨hR, ?_, ?_, ?_⟩
  · have := (hs.env.mono hle).put (h := s.h) hv (d := d) (fun t ht => by rw [hs.size]; exact hd t ht)
    exact this
  · cases d <;> simp [Act.put, hs.size]
  · cases d <;> exact hs.defers

/-- Behind some steps from a beginning. -/
def After (J : World → Prop) (B n : Nat) (r0 : Ren) (h0 : AHeap) (w0 : World) (K : St → Prop) (a : Act) (w : World) : Prop :=
  ∃ r s, K s ∧ SR J B n r s a w ∧ Ext r0 h0 w0 r s.h w

def opsOk (n : Nat) (ops : Array Oper) : Bool := ops.all fun o => match o.dst with | some d => decide (d < n) | none => true

theorem opsOk_get {n : Nat} {ops : Array Oper} (h : opsOk n ops = true) {i : Nat} {o : Oper} (ho : ops[i]? = some o) : ∀ t, o.dst = some t → t < n := by
  intro t ht
  obtain ⟨hi, rfl⟩ := Array.getElem?_eq_some_iff.1 ho
  have := (Array.all_eq_true.1 h) i hi
  rw [ht] at this
  simpa using this

theorem wantedA_sound {ops : Array Oper} {o : Oper} {r : Ren} {e : Nat → V} {a : Act} (he : EnvR r e a) {b : Bool} (h : wantedA ops o e = some b) : Region.wanted o (yielded ops a.tmps) = b := by
  unfold wantedA at h
  unfold Region.wanted
  split at h
  · rename_i hg; simp only [Option.some.injEq] at h; subst h; rw [hg]
  · rename_i j want hg
    rw [hg]
    simp only
    split at h
    · rename_i d hd
      split at h
      · rename_i bb hb
        simp only [Option.some.injEq] at h
        have hv := he d
        rw [hb] at hv
        have hy : yielded ops a.tmps j = some bb := by
          unfold yielded
          rw [hd]
          simp only [Option.bind_some]
          cases hc : a.tmps[d]? with
          | none => rw [Array.getD_eq_getD_getElem?, hc] at hv; cases hv
          | some x => rw [Array.getD_eq_getD_getElem?, hc] at hv; cases hv; rfl
        rw [hy, ← h]
        cases bb <;> cases want <;> rfl
      · rename_i hb
        simp only [Option.some.injEq] at h
        have hv := he d
        rw [hb] at hv
        have hy : yielded ops a.tmps j = none := by
          unfold yielded
          rw [hd]
          simp only [Option.bind_some]
          cases hc : a.tmps[d]? with
          | none => rfl
          | some x => rw [Array.getD_eq_getD_getElem?, hc] at hv; cases hv; rfl
        rw [hy, ← h]
        cases want <;> rfl
      · cases h
    · cases h

theorem evOp_sound (hI : SoundI P J I) (hJ : Stays J B) {n : Nat} {ops : Array Oper} (hok : opsOk n ops = true) {i : Nat} {s : St} {K : St → Prop} (hev : evOp P I ops i s K) {r : Ren} {a : Act} {w : World}
    (hs : SR J B n r s a w) {r0 : Ren} {h0 : AHeap} {w0 : World} (hE : Ext r0 h0 w0 r s.h w) (Q : Exit → Act → World → Prop) : wpOp P ops Q i (After J B n r0 h0 w0 K) a w := by
  unfold evOp at hev
  unfold wpOp
  split at hev
  · rename_i hi
    rw [hi]
    exact ⟨r, s, hev, hs, hE⟩
  · rename_i o hi
    rw [hi]
    simp only
    split at hev
    · rename_i hw
      rw [wantedA_sound hs.env hw, if_pos rfl]
      refine .inl (aDo_sound hI hJ hs.R hs.env hev fun r' v v' h' w' hk hR' hE' hv => ?_)
      exact ⟨r', _, hk, hs.put hR' hE'.ren hv (opsOk_get hok hi), hE.trans hE'⟩
    · rename_i hw
      rw [wantedA_sound hs.env hw, if_neg (by simp)]
      have hp := hs.put hs.R (Ren.le_refl r) (v := gone) (v' := undef) .gone (opsOk_get hok hi)
      refine ⟨r, _, hev, ?_, ?_⟩
      · cases hd : o.dst with
        | none => rw [hd] at hp; exact hp
        | some d => rw [hd] at hp; exact hp
      · cases hd : o.dst with
        | none => exact hE
        | some d => exact hE
    · exact hev.elim

theorem evOps_sound (hI : SoundI P J I) (hJ : Stays J B) {n : Nat} {ops : Array Oper} (hok : opsOk n ops = true) {r0 : Ren} {h0 : AHeap} {w0 : World} {K : St → Prop} {Q : Exit → Act → World → Prop}
    (hQ : ∀ a w, After J B n r0 h0 w0 K a w → Q .normal a w) : ∀ (l : List Nat) (s : St) (r : Ren) (a : Act) (w : World), evOps P I ops l s K → SR J B n r s a w → Ext r0 h0 w0 r s.h w → wpOps P ops Q l a w
  | [], s, r, a, w, hev, hs, hE => hQ a w ⟨r, s, hev, hs, hE⟩
  | i :: l, s, r, a, w, hev, hs, hE => by
    rw [wpOps_cons]
    refine wpOp_mono ?_ (evOp_sound hI hJ hok hev hs hE Q)
    rintro a' w' ⟨r', s', hk, hs', hE'⟩
    exact evOps_sound hI hJ hok hQ l s' r' a' w' hk hs' hE'

theorem evAny_sound (hI : SoundI P J I) (hJ : Stays J B) {n : Nat} {ops : Array Oper} (hok : opsOk n ops = true) {r0 : Ren} {h0 : AHeap} {w0 : World} {K : St → Prop} {Q : Exit → Act → World → Prop}
    (hQ : ∀ a w, After J B n r0 h0 w0 K a w → Q .normal a w) : ∀ (fuel : Nat) (listed : Array Bool) (s : St) (r : Ren) (a : Act) (w : World), evAny P I ops fuel listed s K → SR J B n r s a w → Ext r0 h0 w0 r s.h w →
      wpAny P .any ops Q fuel listed a w
  | 0, listed, s, r, a, w, hev, hs, hE => ⟨hev.1, hQ a w ⟨r, s, hev.2, hs, hE⟩⟩
  | fuel + 1, listed, s, r, a, w, hev, hs, hE => by
    refine ⟨fun h => hQ a w ⟨r, s, hev.1 h, hs, hE⟩, fun i hi => ?_⟩
    refine wpOp_mono ?_ (evOp_sound hI hJ hok (hev.2 i hi) hs hE Q)
    rintro a' w' ⟨r', s', hk, hs', hE'⟩
    exact evAny_sound hI hJ hok hQ fuel _ s' r' a' w' hk hs' hE'

/-- Every temporary that is written is one of the frame's. -/
def codeOk (n : Nat) : Code → Bool
  | .region _ ops _ => opsOk n ops
  | .seq a b => codeOk n a && codeOk n b
  | .cond _ a b => codeOk n a && codeOk n b
  | .block _ c => codeOk n c
  | .loop c => codeOk n c
  | .rangeFunc _ _ a b => codeOk n a && codeOk n b
  | .scope c => codeOk n c
  | _ => true

def QQ (J : World → Prop) (B n : Nat) (r0 : Ren) (h0 : AHeap) (w0 : World) (K : Ex → St → Prop) (e : Exit) (a : Act) (w : World) : Prop :=
  ∃ x : Ex, e = x.exit' ∧ After J B n r0 h0 w0 (K x) a w

theorem evC_sound (hI : SoundI P J I) (hJ : Stays J B) (hm : P.follows .mixedOrders = true) {n : Nat} {r0 : Ren} {h0 : AHeap} {w0 : World} :
    ∀ (c : Code) (s : St) (K : Ex → St → Prop) (r : Ren) (a : Act) (w : World), codeOk n c = true → evC P I c s K → SR J B n r s a w → Ext r0 h0 w0 r s.h w → c.wp P (QQ J B n r0 h0 w0 K) a w := by
  intro c
  induction c with
  | skip => intro s K r a w _ hev hs hE; exact wp_skip ⟨.normal, rfl, r, s, hev, hs, hE⟩
  | label l => intro s K r a w _ hev hs hE; exact wp_label ⟨.normal, rfl, r, s, hev, hs, hE⟩
  | ret => intro s K r a w _ hev hs hE; exact wp_ret ⟨.ret, rfl, r, s, hev, hs, hE⟩
  | exit id => intro s K r a w _ hev hs hE; exact wp_exit ⟨.exit id, rfl, r, s, hev, hs, hE⟩
  | goto l => intro s K r a w _ hev; exact hev.elim
  | refuse y => intro s K r a w _ hev; exact hev.elim
  | scope c => intro s K r a w _ hev; exact hev.elim
  | rangeFunc f p x y => intro s K r a w _ hev; exact hev.elim
  | region id ops draw =>
    intro s K r a w hok hev hs hE
    cases draw with
    | false => exact wp_region (evOps_sound hI hJ hok (fun a w h => ⟨.normal, rfl, h⟩) _ s r a w hev hs hE)
    | true =>
      refine wp_region_any hm (evAny_sound hI hJ hok (fun a w h => ⟨.normal, rfl, h⟩) _ _ s r a _ hev ?_ (hE.trans Ext.drew))
      exact ⟨hs.R.drew hJ, hs.env, hs.size, hs.defers⟩
  | seq x y ihx ihy =>
    intro s K r a w hok hev hs hE
    simp only [codeOk, Bool.and_eq_true] at hok
    refine wp_seq (wp_mono (ihx s _ r a w hok.1 hev hs hE) ?_)
    rintro e a' w' ⟨x', rfl, r', s', hk, hs', hE'⟩
    cases x' with
    | normal => exact ihy s' K r' a' w' hok.2 hk hs' hE'
    | exit id => exact ⟨.exit id, rfl, r', s', hk, hs', hE'⟩
    | ret => exact ⟨.ret, rfl, r', s', hk, hs', hE'⟩
  | cond c x y ihx ihy =>
    intro s K r a w hok hev hs hE
    simp only [codeOk, Bool.and_eq_true] at hok
    simp only [evC] at hev
    have hc := hs.env.ev c
    split at hev
    · rename_i hcv
      rw [hcv] at hc
      generalize hcc : a.eval c = cc at hc
      cases hc
      exact wp_cond_true hcc (ihx s K r a w hok.1 hev hs hE)
    · rename_i hcv
      rw [hcv] at hc
      generalize hcc : a.eval c = cc at hc
      cases hc
      exact wp_cond_false hcc (ihy s K r a w hok.2 hev hs hE)
    · exact hev.elim
  | block id c ih =>
    intro s K r a w hok hev hs hE
    refine wp_block (wp_mono (ih s _ r a w hok hev hs hE) ?_)
    rintro e a' w' ⟨x', rfl, r', s', hk, hs', hE'⟩
    cases x' with
    | normal => exact ⟨.normal, rfl, r', s', hk, hs', hE'⟩
    | ret => exact ⟨.ret, rfl, r', s', hk, hs', hE'⟩
    | exit j =>
      simp only [Ex.exit', Exit.inBlock] at hk ⊢
      split
      · rename_i hj; rw [if_pos hj] at hk; exact ⟨.normal, rfl, r', s', hk, hs', hE'⟩
      · rename_i hj; rw [if_neg hj] at hk; exact ⟨.exit j, rfl, r', s', hk, hs', hE'⟩
  | loop c ih =>
    intro s K r a w hok hev hs hE
    obtain ⟨fuel, hev⟩ := hev
    refine wp_loop_rounds fuel ?_
    have key : ∀ (k : Nat) (s : St) (r : Ren) (a : Act) (w : World), loopK (evC P I c) k s K → SR J B n r s a w → Ext r0 h0 w0 r s.h w → Code.rounds P c (QQ J B n r0 h0 w0 K) k a w := by
      intro k
      induction k with
      | zero => intro s r a w h; exact h.elim
      | succ k ihk =>
        intro s r a w hev hs hE
        rw [rounds_succ]
        refine wp_mono (ih s _ r a w hok hev hs hE) ?_
        rintro e a' w' ⟨x', rfl, r', s', hk, hs', hE'⟩
        cases x' with
        | normal => exact ihk s' r' a' w' hk hs' hE'
        | exit id => exact ⟨.exit id, rfl, r', s', hk, hs', hE'⟩
        | ret => exact ⟨.ret, rfl, r', s', hk, hs', hE'⟩
    exact key fuel s r a w hev hs hE

/-- One result. -/
def resOne (tmps : Array V) : ResultVar → Sem V
  | .tmp t => pure (tmps.getD t undef)
  | .cell b t => do loadVar t (← asAddr (tmps.getD b undef))

theorem resOne_sound {r : Ren} {h : AHeap} {w : World} {e : Nat → V} {a : Act} (hR : R J B r h w) (he : EnvR r e a) {x : ResultVar} {l : List ResultVar} {vs : List V} (hv : evRes P h e (x :: l) = some vs) :
    ∃ v v' vs1, vs = v :: vs1 ∧ evRes P h e l = some vs1 ∧ (resOne a.tmps x).run P w = .ok v' w ∧ VR r v v' := by
  cases x with
  | tmp t =>
    simp only [evRes] at hv
    cases hl : evRes P h e l with
    | none => simp [hl] at hv
    | some vs1 =>
      simp only [hl, Option.map_some, Option.some.injEq] at hv
      exact ⟨e t, a.tmps.getD t undef, vs1, hv.symm, rfl, rfl, he t⟩
  | cell b t =>
    simp only [evRes] at hv
    cases hld : aLoad P t (e b) h with
    | none => simp [hld] at hv
    | some v =>
      simp only [hld, Option.bind_some] at hv
      cases hl : evRes P h e l with
      | none => simp [hl] at hv
      | some vs1 =>
        simp only [hl, Option.map_some, Option.some.injEq] at hv
        have hb := he b
        simp only [resOne]
        generalize a.tmps.getD b undef = bv at hb
        obtain ⟨v', g1, g2⟩ := load_sound (P := P) hR hb hld
        have hptr : ∃ ad, bv = .pointer (some ad) := by
          unfold aLoad at hld
          split at hld
          · rename_i hbe; rw [hbe] at hb; cases hb; exact ⟨_, rfl⟩
          · cases hld
        obtain ⟨ad, rfl⟩ := hptr
        exact ⟨v, v', vs1, hv.symm, rfl, g1, g2⟩

theorem evRes_sound {r : Ren} {h : AHeap} {w : World} {e : Nat → V} {a : Act} (hR : R J B r h w) (he : EnvR r e a) : ∀ (l : List ResultVar) (vs : List V) (acc : Array V), evRes P h e l = some vs →
    ∃ vs' : List V, (l.foldlM (m := Sem) (fun (acc : Array V) (x : ResultVar) => acc.push <$> resOne a.tmps x) acc).run P w = .ok (acc ++ vs'.toArray) w ∧ VRl r vs vs'
  | [], vs, acc, hv => by simp [evRes] at hv; subst hv; exact ⟨[], by simp, VRl.nil r⟩
  | x :: l, vs, acc, hv => by
    obtain ⟨v, v', vs1, rfl, hl, g1, g2⟩ := resOne_sound hR he hv
    obtain ⟨vs', h1, h2⟩ := evRes_sound hR he l vs1 (acc.push v') hl
    refine ⟨v' :: vs', ?_, VRl.cons g2 h2⟩
    simp only [List.foldlM_cons, Sem.run_bind, Sem.run_map, g1, Result.andThen_ok]
    rw [h1]
    congr 1
    apply Array.ext'
    simp

theorem results_sound {r : Ren} {h : AHeap} {w : World} {e : Nat → V} {a : Act} {fn : Func} (hR : R J B r h w) (he : EnvR r e a) {vs : List V} (hv : evRes P h e fn.results.toList = some vs) :
    ∃ v', (results fn a.tmps).run P w = .ok v' w ∧ VR r (resV vs) v' := by
  obtain ⟨vs', h1, h2⟩ := evRes_sound (P := P) hR he fn.results.toList vs #[] hv
  have e1 : (fn.results.mapM (m := Sem) (resOne a.tmps)).run P w = .ok vs'.toArray w := by
    rw [Array.mapM_eq_foldlM, ← Array.foldlM_toList, h1]
    simp
  have hl := h2.1
  refine ⟨if h : vs'.toArray.size = 1 then vs'.toArray[0] else .tuple vs'.toArray, ?_, ?_⟩
  · have e2 : results fn a.tmps = (do
        let vs ← fn.results.mapM (resOne a.tmps)
        pure (if h : vs.size = 1 then vs[0] else .tuple vs)) := by
      unfold results
      congr 1
    rw [e2, Sem.run_bind, e1]
    rfl
  · match vs, vs', hl, h2 with
    | [], [], _, _ => exact .junk _
    | [v], [v'], _, h2 => simpa [resV] using h2.2 0 (by simp) (by simp)
    | v :: u :: vs, v' :: u' :: vs', _, h2 =>
      simp only [resV, List.size_toArray, List.length_cons]
      rw [dif_neg (by omega)]
      exact .tuple h2.toArray.1 h2.toArray.2

/-- **A function whose body the evaluator walks.** -/
theorem SoundF.of_body (hI : SoundI P J I) (hm : P.follows .mixedOrders = true) {f : FuncId} {fn : Func} {c : Code} (hf : P.funcs[f]? = some fn) (hb : fn.body = some c) (hok : codeOk fn.ntmps c = true)
    (hcall : ∀ (args : Array V) (w : World), (callFunc f args).run P w = .ok (.enter f args) w) :
    SoundF P J f (fun args h K => args.length ≤ fn.ntmps ∧ evF P I fn args h K) := by
  intro B hJ r h w args args' Q hev hR hargs
  obtain ⟨hlen, hev⟩ := hev
  unfold evF at hev
  rw [hb] at hev
  refine ⟨_, w, hcall args' w, ?_⟩
  have hl := hargs.1
  simp only [Array.length_toList] at hl
  have hsr : SR J B fn.ntmps r ⟨args0 args, h⟩ { tmps := args' ++ Array.replicate (fn.ntmps - args'.size) undef, defers := [] } w := by
    refine ⟨hR, fun t => ?_, by simp; omega, rfl⟩
    simp only [args0]
    rw [Array.getD_eq_getD_getElem?, List.getD_eq_getElem?_getD]
    by_cases ht : t < args.length
    · have ht' : t < args'.size := by omega
      rw [Array.getElem?_append_left ht', List.getElem?_eq_getElem ht, Array.getElem?_eq_getElem ht']
      have := hargs.2 t ht (by simpa using ht')
      simpa using this
    · rw [List.getElem?_eq_none (by omega)]
      exact .junk _
  have hwp := evC_sound hI hJ hm (n := fn.ntmps) (r0 := r) (h0 := h) (w0 := w) c _ _ r _ w hok hev hsr (Ext.refl _ _ _)
  refine calls_of_wp hf hb (wp_mono hwp ?_)
  rintro e a' w' ⟨x, rfl, r', s', hk, hs', hE'⟩
  cases x with
  | exit id => exact hk.elim
  | normal =>
    simp only at hk
    split at hk
    · rename_i vs hv
      obtain ⟨v', g1, g2⟩ := results_sound (P := P) hs'.R hs'.env hv
      exact ⟨hs'.defers, v', g1, v', rfl, r', _, s'.h, hk, hs'.R, hE', g2⟩
    · exact hk.elim
  | ret =>
    simp only at hk
    split at hk
    · rename_i vs hv
      obtain ⟨v', g1, g2⟩ := results_sound (P := P) hs'.R hs'.env hv
      exact ⟨hs'.defers, v', g1, v', rfl, r', _, s'.h, hk, hs'.R, hE', g2⟩
    · exact hk.elim

end
end Go.Abs

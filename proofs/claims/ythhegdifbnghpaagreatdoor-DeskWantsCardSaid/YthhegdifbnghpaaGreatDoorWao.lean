/- Closed code is run: all that a call may end in, each end once; it speaks truly. -/
import Derived.Test.YthhegdifbnghpaaGreatDoorWan
import Derived.Test.YthhegdifbnghpaaGreatDoorWak
set_option linter.unusedSimpArgs false
set_option linter.unusedVariables false
namespace Go.Abs
open Go
/-! ### Ends that are seen to be the same -/
def eqF : V → V → Bool
 | .func (.func g) f c, .func (.func g') f' c' => Nat.beq g g' && eqL f.toList f'.toList && eqL c.toList c'.toList
 | .iface t v, .iface t' v' => decide (t = t') && eq0 v v'
 | a, b => eqA a b
theorem eqF_eq {a b : V} (h : eqF a b = true) : a = b := by
 unfold eqF at h
 split at h
 · simp only [Bool.and_eq_true] at h
   rw [Nat.eq_of_beq_eq_true h.1.1, Array.ext' (eqL_eq h.1.2), Array.ext' (eqL_eq h.2)]
 · simp only [Bool.and_eq_true, decide_eq_true_eq] at h
   rw [h.1, eq0_eq h.2]
 · exact eqA_eq h
def eqFL : List V → List V → Bool
 | [], [] => true
 | a :: l, b :: m => eqF a b && eqFL l m
 | _, _ => false
theorem eqFL_eq : ∀ {a b : List V}, eqFL a b = true → a = b
 | [], [], _ => rfl
 | a :: l, b :: m, h => by
  simp only [eqFL, Bool.and_eq_true] at h
  rw [eqF_eq h.1, eqFL_eq h.2]
 | [], _ :: _, h => by simp [eqFL] at h
 | _ :: _, [], h => by simp [eqFL] at h
def eqT : V → V → Bool
 | .tuple a, .tuple b => eqFL a.toList b.toList
 | a, b => eqF a b
theorem eqT_eq {a b : V} (h : eqT a b = true) : a = b := by
 unfold eqT at h
 split at h
 · congr 1; exact Array.ext' (eqFL_eq h)
 · exact eqF_eq h
def eqEs : List MapEntry → List MapEntry → Bool
 | [], [] => true
 | a :: l, b :: m => eqF a.key b.key && eqF a.val b.val && Nat.beq a.born b.born && eqEs l m
 | _, _ => false
theorem eqEs_eq : ∀ {a b : List MapEntry}, eqEs a b = true → a = b
 | [], [], _ => rfl
 | ⟨k, v, n⟩ :: l, ⟨k', v', n'⟩ :: m, h => by
  simp only [eqEs, Bool.and_eq_true] at h
  rw [eqEs_eq h.2, eqF_eq h.1.1.1, eqF_eq h.1.1.2, Nat.eq_of_beq_eq_true h.1.2]
 | [], _ :: _, h => by simp [eqEs] at h
 | _ :: _, [], h => by simp [eqEs] at h
def eqBK : BK → BK → Bool
 | .ro, .ro => true
 | .rw, .rw => true
 | .str, .str => true
 | .rs, .rs => true
 | _, _ => false
theorem eqBK_eq {a b : BK} (h : eqBK a b = true) : a = b := by cases a <;> cases b <;> first | rfl | cases h
def eqOb : Option AObj → Option AObj → Bool
 | none, none => true
 | some (.cells c e k), some (.cells c' e' k') => eqFL c c' && Nat.beq e e' && eqBK k k'
 | some (.map es n), some (.map es' n') => eqEs es es' && Nat.beq n n'
 | _, _ => false
theorem eqOb_eq {a b : Option AObj} (h : eqOb a b = true) : a = b := by
 unfold eqOb at h
 split at h
 · rfl
 · simp only [Bool.and_eq_true] at h
   rw [eqFL_eq h.1.1, Nat.eq_of_beq_eq_true h.1.2, eqBK_eq h.2]
 · simp only [Bool.and_eq_true] at h
   rw [eqEs_eq h.1, Nat.eq_of_beq_eq_true h.2]
 · cases h
def eqLy : Lay2 → Lay2 → Bool
 | [], [] => true
 | (k, o) :: l, (k', o') :: m => Nat.beq k k' && eqOb o o' && eqLy l m
 | _, _ => false
theorem eqLy_eq : ∀ {a b : Lay2}, eqLy a b = true → a = b
 | [], [], _ => rfl
 | (k, o) :: l, (k', o') :: m, h => by
  simp only [eqLy, Bool.and_eq_true] at h
  rw [eqLy_eq h.2, Nat.eq_of_beq_eq_true h.1.1, eqOb_eq h.1.2]
 | [], _ :: _, h => by simp [eqLy] at h
 | _ :: _, [], h => by simp [eqLy] at h
def eqNd (a b : Nd) : Bool := eqT a.1 b.1 && Nat.beq a.2.2 b.2.2 && eqLy a.2.1 b.2.1
theorem eqNd_eq {a b : Nd} (h : eqNd a b = true) : a = b := by
 obtain ⟨v, D, n⟩ := a
 obtain ⟨v', D', n'⟩ := b
 simp only [eqNd, Bool.and_eq_true] at h
 rw [eqT_eq h.1.1, Nat.eq_of_beq_eq_true h.1.2, eqLy_eq h.2]
def anyNd (x : Nd) : List Nd → Bool
 | [] => false
 | y :: l => cond (eqNd x y) true (anyNd x l)
theorem anyNd_mem {x : Nd} : ∀ {l : List Nd}, anyNd x l = true → x ∈ l
 | [], h => by cases h
 | y :: l, h => by
  simp only [anyNd] at h
  cases e : eqNd x y with
  | true => simp [eqNd_eq e]
  | false => rw [e] at h; exact List.mem_cons_of_mem _ (anyNd_mem (by simpa using h))
def dedN : List Nd → List Nd
 | [] => []
 | x :: l => cond (anyNd x l) (dedN l) (x :: dedN l)
theorem mem_dedN {x : Nd} : ∀ {l : List Nd}, x ∈ l → x ∈ dedN l
 | y :: l, h => by
  simp only [dedN]
  cases e : anyNd y l with
  | true =>
   simp only [cond_true]
   rcases List.mem_cons.1 h with rfl | h
   · exact mem_dedN (anyNd_mem e)
   · exact mem_dedN h
  | false =>
   simp only [cond_false]
   rcases List.mem_cons.1 h with rfl | h
   · simp
   · exact List.mem_cons_of_mem _ (mem_dedN h)
/-! ### Answers -/
abbrev Ans := Option (List Nd)
def OkA (outs : List Nd) (a : Ans) : Prop := ∃ l, a = some l ∧ ∀ x ∈ l, x ∈ outs
def uni (a b : Ans) : Ans :=
 match a, b with
 | some x, some y => some (x ++ y)
 | _, _ => none
theorem OkA.of {a : Ans} {outs : List Nd} (h : a = some outs) : OkA outs a := ⟨outs, h, fun _ h => h⟩
theorem OkA.mono {a : Ans} {l outs : List Nd} (h : OkA l a) (hs : ∀ x ∈ l, x ∈ outs) : OkA outs a := ⟨h.choose, h.choose_spec.1, fun x hx => hs x (h.choose_spec.2 x hx)⟩
theorem uni_ok {a b : Ans} {outs : List Nd} (h : uni a b = some outs) : OkA outs a ∧ OkA outs b := by
 unfold uni at h
 split at h
 · cases h
   exact ⟨⟨_, rfl, fun x hx => by simp [hx]⟩, ⟨_, rfl, fun x hx => by simp [hx]⟩⟩
 · cases h
def allU {α : Type} (f : α → Ans) : List α → Ans
 | [] => some []
 | [x] => f x
 | x :: y :: l => uni (f x) (allU f (y :: l))
theorem allU_ok {α : Type} {f : α → Ans} : ∀ {l : List α} {outs : List Nd}, allU f l = some outs → ∀ x ∈ l, OkA outs (f x)
 | [], _, _, x, hx => by simp at hx
 | [a], outs, h, x, hx => by
  simp only [List.mem_singleton] at hx
  subst hx
  exact OkA.of h
 | a :: b :: l, outs, h, x, hx => by
  obtain ⟨h1, l2, h2, h3⟩ := uni_ok h
  rcases List.mem_cons.1 hx with rfl | hx
  · exact h1
  · exact (allU_ok h2 x hx).mono h3
/-! ### What was turned so far -/
def addN (base : Nat) : List Nat → List Nat → List Nat
 | [], d => d
 | b :: l, d => cond (Nat.blt b base) (cond (memN b d) (addN base l d) (addN base l (b :: d))) (addN base l d)
theorem addN_mem {base : Nat} : ∀ {bs d : List Nat} {b : Nat}, b < base → b ∈ bs ∨ b ∈ d → b ∈ addN base bs d
 | [], d, b, _, h => by simpa [addN] using h
 | a :: l, d, b, hb, h => by
  simp only [addN]
  have next : ∀ d', (b ∈ l ∨ b ∈ d') → b ∈ addN base l d' := fun d' => addN_mem hb
  cases e : Nat.blt a base with
  | true =>
   simp only [cond_true]
   cases e2 : memN a d with
   | true =>
    have := memN_iff.1 e2
    simp only [cond_true]
    refine next _ ?_
    rcases h with h | h
    · rcases List.mem_cons.1 h with rfl | h
      · exact .inr this
      · exact .inl h
    · exact .inr h
   | false =>
    simp only [cond_false]
    refine next _ ?_
    rcases h with h | h
    · rcases List.mem_cons.1 h with rfl | h
      · exact .inr (by simp)
      · exact .inl h
    · exact .inr (by simp [h])
  | false =>
   simp only [cond_false]
   refine next _ ?_
   rcases h with h | h
   · rcases List.mem_cons.1 h with rfl | h
     · exact absurd (blt_iff.2 hb) (by rw [e]; simp)
     · exact .inl h
   · exact .inr h
theorem addN_lt {base : Nat} : ∀ {bs d : List Nat}, (∀ b ∈ d, b < base) → ∀ b ∈ addN base bs d, b < base
 | [], d, h, b, hb => h b hb
 | a :: l, d, h, b, hb => by
  simp only [addN] at hb
  cases e : Nat.blt a base with
  | true =>
   rw [e] at hb
   simp only [cond_true] at hb
   cases e2 : memN a d with
   | true => rw [e2] at hb; exact addN_lt h b hb
   | false =>
    rw [e2] at hb
    exact addN_lt (fun x hx => by
     rcases List.mem_cons.1 hx with rfl | hx
     · exact blt_iff.1 e
     · exact h x hx) b hb
  | false => rw [e] at hb; exact addN_lt h b hb
structure IvU (h0 h : AHeap) (d : List Nat) : Prop where
 next : h0.next ≤ h.next
 lt : ∀ b ∈ d, b < h0.next
 same : ∀ b, b < h0.next → b ∉ d → h.get b = h0.get b
theorem IvU.start (h : AHeap) : IvU h h [] := ⟨Nat.le_refl _, by simp, fun _ _ _ => rfl⟩
theorem IvU.step {h0 h h' : AHeap} {d bs : List Nat} (iv : IvU h0 h d) (f : Fr2 h h' bs) : IvU h0 h' (addN h0.next bs d) :=
 ⟨Nat.le_trans iv.next f.next, addN_lt iv.lt, fun b hb hn => by
  have h1 : b ∉ bs := fun hm => hn (addN_mem hb (.inl hm))
  have h2 : b ∉ d := fun hm => hn (addN_mem hb (.inr hm))
  rw [f.same b (Nat.lt_of_lt_of_le hb iv.next) h1, iv.same b hb h2]⟩
def keysD : Lay2 → List Nat
 | [] => []
 | (k, _) :: D => k :: keysD D
theorem keysD_mem {p : Nat × Option AObj} : ∀ {D : Lay2}, p ∈ D → p.1 ∈ keysD D
 | (k, o) :: D, h => by
  rcases List.mem_cons.1 h with rfl | h
  · simp [keysD]
  · simp [keysD, keysD_mem h]
theorem toH_frame (h : AHeap) (D : Lay2) (n : Nat) : Fr2 h (toH h D n) (keysD D) :=
 ⟨Nat.le_add_right _ _, fun b _ hn => layG_out fun p hp e => hn (e ▸ keysD_mem hp)⟩
/-! ### The evaluator -/
abbrev KU := V → AHeap → List Nat → Ans
abbrev CU := FuncId → List V → AHeap → Ans
def nextU (base : Nat) (x : V) (isString : Bool) (h : AHeap) (d : List Nat) (K : KU) : Ans :=
 match x with
 | .pointer (some ⟨b, 0, none⟩) =>
  match h.get b, isString with
  | some (.siter s pos), true =>
   if pos < s.size then
    K (.tuple #[.bool true, .int .i64 pos, .int .i32 (Utf8.decode s pos).1]) (h.put b (.siter s (pos + (Utf8.decode s pos).2))) (addN base [b] d)
   else K (.tuple #[.bool false]) h d
  | some (.miter none _ _ _), false => K (.tuple #[.bool false]) h d
  | some (.miter (some m) since seen last), false =>
   match h.get m with
   | some (.map es clock) =>
    cond (!(!seen.isEmpty && !es.isEmpty && es.all (·.born ≥ last)))
     (allU (fun c =>
      match c with
      | some e => K (.tuple #[.bool true, e.key, e.val]) (h.put b (.miter (some m) since (seen.push e.born) clock)) (addN base [b] d)
      | none => K (.tuple #[.bool false]) h d) (cands es since seen)) none
   | _ => none
  | _, _ => none
 | _ => none
def kU (x : Option (V × AHeap)) (d : List Nat) (K : KU) : Ans :=
 match x with
 | some (v, h) => K v h d
 | none => none
section
variable (P : Program) (C : CU) (base : Nat)
def doU (o : Op) (e : Nat → V) (h : AHeap) (d : List Nat) (K : KU) : Ans :=
 match o with
 | .next it s => nextU base (aEv e it) s h d K
 | .call c =>
  match c.callee with
  | .value f =>
   (match aEv e f with
   | .func (.func g) first captured =>
    (match C g (first.toList ++ evArr e c.args ++ captured.toList) h with
    | some outs => allU (fun (nd : Nd) => K nd.1 (toH h nd.2.1 nd.2.2) (addN base (keysD nd.2.1) d)) outs
    | none => none)
   | _ => none)
  | _ => kU (aOp P (.call c) e h) (addN base (tchd (.call c) e) d) K
 | o => kU (aOp P o e h) (addN base (tchd o e) d) K
def opU (ops : Array Oper) (o : Oper) (s : St) (d : List Nat) (K : St → List Nat → Ans) : Ans :=
 match wantedA ops o s.e with
 | some true => doU P C base o.op s.e s.h d fun v h d => K ((s.put o.dst v).at h) d
 | some false => K (s.put o.dst gone) d
 | none => none
def opsU (ops : Array Oper) : List Oper → St → List Nat → (St → List Nat → Ans) → Ans
 | [], s, d, K => K s d
 | o :: rest, s, d, K => opU P C base ops o s d fun s d => opsU ops rest s d K
def treeU (ops : Array Oper) : Tr → St → List Nat → (St → List Nat → Ans) → Ans
 | .done, s, d, K => K s d
 | .q i t, s, d, K =>
  match ops[i]? with
  | none => none
  | some o => opU P C base ops o s d fun s d => treeU ops t s d K
 | .c i ws t, s, d, K =>
  match ops[i]? with
  | none => none
  | some o =>
   match wantedA ops o s.e with
   | some true => doU P C base o.op s.e s.h d fun v h d => cond (ws.all fun j => chkB P ops j s.e h) (treeU ops t ((s.put o.dst v).at h) d K) none
   | some false => treeU ops t (s.put o.dst gone) d K
   | none => none
 | .fork a b, s, d, K => uni (treeU ops a s d K) (treeU ops b s d K)
def loopU (step : St → List Nat → (Ex → St → List Nat → Ans) → Ans) : Nat → St → List Nat → (Ex → St → List Nat → Ans) → Ans
 | 0, _, _, _ => none
 | n + 1, s, d, K => step s d fun x s d => match x with
  | .normal => loopU step n s d K
  | x => K x s d
def codeU (F : Nat) : An → Code → St → List Nat → (Ex → St → List Nat → Ans) → Ans
 | .leaf, c, s, d, K => (match c with
  | .skip => K .normal s d
  | .region _ ops false => opsU P C base ops ops.toList s d fun s d => K .normal s d
  | .exit id => K (.exit id) s d
  | .label _ => K .normal s d
  | .ret => K .ret s d
  | _ => none)
 | .draw _ t, c, s, d, K => (match c with
  | .region _ ops true => treeU P C base ops t s d fun s d => K .normal s d
  | _ => none)
 | .seq a b, c, s, d, K => (match c with
  | .seq c1 c2 => codeU F a c1 s d fun x s d => match x with
   | .normal => codeU F b c2 s d K
   | x => K x s d
  | _ => none)
 | .cond a b, c, s, d, K => (match c with
  | .cond x c1 c2 => (match aEv s.e x with
   | .bool true => codeU F a c1 s d K
   | .bool false => codeU F b c2 s d K
   | _ => none)
  | _ => none)
 | .block a, c, s, d, K => (match c with
  | .block id c => codeU F a c s d fun x s d => match x with
   | .exit j => if j = id then K .normal s d else K (.exit j) s d
   | x => K x s d
  | _ => none)
 | .loop _ _ a, c, s, d, K => (match c with
  | .loop c => loopU (codeU F a c) F s d K
  | _ => none)
 | .join _ _ a, c, s, d, K => codeU F a c s d K
end
section
variable (P : Program) (C : CU)
def funU (F : Nat) (a : An) (f : Func) (args : List V) (h : AHeap) : Ans :=
 match f.body with
 | none => none
 | some c => codeU P C h.next F a c ⟨args0 args, h⟩ [] fun x s d =>
  match x with
  | .exit _ => none
  | _ =>
   match resD P s.h s.e f.results.toList with
   | some l => (match normN h.next d (resV l) s.h with
    | some nd => some [nd]
    | none => none)
   | none => none
end
abbrev LibU := FuncId → Option (List V → AHeap → Ans)
def callU (P : Program) (L : LibU) (T : FuncId → Option An) (F : Nat) : Nat → CU
 | 0, _, _, _ => none
 | n + 1, f, args, h =>
  match L f with
  | some g => g args h
  | none =>
   match T f, P.funcs[f]? with
   | some a, some fn => cond (Nat.ble args.length fn.ntmps) (match funU P (callU P L T F n) F a fn args h with
    | some l => some (dedN l)
    | none => none) none
   | _, _ => none
/-! ### It speaks truly -/
def specU (C : CU) (f : FuncId) : Spec := fun args h K => ∃ outs, C f args h = some outs ∧ ∀ nd ∈ outs, K nd.1 (toH h nd.2.1 nd.2.2)
def specUI (C : CU) : FuncId → Option Spec := fun f => some (specU C f)
theorem specUI_mono (C : CU) : MonoI (specUI C) := by
 rintro f s ⟨rfl⟩ args h K K' hk ⟨outs, h1, h2⟩
 exact ⟨outs, h1, fun nd hn => hk _ _ (h2 nd hn)⟩
section
variable {P : Program} {C : CU} {h0 : AHeap}
def EndU (h0 : AHeap) (outs : List Nd) (K : KU) (v : V) (h : AHeap) : Prop := ∃ d, IvU h0 h d ∧ OkA outs (K v h d)
theorem nextU_sound {x : V} {b : Bool} {h : AHeap} {d : List Nat} {K : KU} {outs : List Nd} (iv : IvU h0 h d) (hb : nextU h0.next x b h d K = some outs) : aNext x b h (EndU h0 outs K) := by
 unfold nextU at hb
 unfold aNext
 split at hb
 · rename_i bl
   have hput : ∀ o, IvU h0 (h.put bl o) (addN h0.next [bl] d) := fun o => iv.step (Fr2.put o (by simp))
   simp only
   split at hb
   · rename_i hg
     simp only [hg]
     split at hb
     · rename_i hp; rw [if_pos hp]; exact ⟨_, hput _, OkA.of hb⟩
     · rename_i hp; rw [if_neg hp]; exact ⟨_, iv, OkA.of hb⟩
   · rename_i hg; simp only [hg]; exact ⟨_, iv, OkA.of hb⟩
   · rename_i hg
     simp only [hg]
     split at hb
     · rename_i hm
       simp only [hm]
       rename_i es clock
       generalize hgd : (!(!_ && !es.isEmpty && es.all _)) = gd at hb
       cases gd with
       | false => simp only [cond_false] at hb; cases hb
       | true =>
        simp only [cond_true] at hb
        simp only [Bool.not_eq_true'] at hgd
        refine ⟨hgd, fun c hc => ?_⟩
        have := allU_ok hb c hc
        cases c with
        | some e => exact ⟨_, hput _, this⟩
        | none => exact ⟨_, iv, this⟩
     · cases hb
   · cases hb
 · cases hb
theorem kU_some {x : Option (V × AHeap)} {d : List Nat} {K : KU} {outs : List Nd} (h : kU x d K = some outs) : ∃ v h', x = some (v, h') ∧ K v h' d = some outs := by
 unfold kU at h
 split at h
 · exact ⟨_, _, rfl, h⟩
 · cases h
theorem doU_sound {o : Op} {e : Nat → V} {h : AHeap} {d : List Nat} {K : KU} {outs : List Nd} (iv : IvU h0 h d) (hb : doU P C h0.next o e h d K = some outs) : doD P (specUI C) o e h (EndU h0 outs K) := by
 rw [← do_eq]
 unfold doU at hb
 unfold aDo
 have fin : ∀ {o : Op} {v : V} {h' : AHeap}, aOp P o e h = some (v, h') → K v h' (addN h0.next (tchd o e) d) = some outs → EndU h0 outs K v h' := fun ho hk => ⟨_, iv.step (aOp_frame ho), OkA.of hk⟩
 cases o
 case next it s => exact nextU_sound iv hb
 case call c =>
  obtain ⟨callee, as, ts⟩ := c
  cases callee
  case value f =>
   simp only at hb ⊢
   unfold aCall
   split at hb
   · rename_i g first captured hf
     simp only [hf, specUI]
     split at hb
     · rename_i outs' hc
       exact ⟨outs', hc, fun nd hn => ⟨_, iv.step (toH_frame h nd.2.1 nd.2.2), allU_ok hb nd hn⟩⟩
     · cases hb
   · cases hb
  all_goals
   obtain ⟨v, h', hx, hk⟩ := kU_some hb
   have := fin hx hk
   simp only [hx]
   exact this
 all_goals
  obtain ⟨v, h', hx, hk⟩ := kU_some hb
  have := fin hx hk
  simp only [hx]
  exact this
def EndS (h0 : AHeap) (outs : List Nd) (K : St → List Nat → Ans) (s : St) : Prop := ∃ d, IvU h0 s.h d ∧ OkA outs (K s d)
theorem opU_sound {ops : Array Oper} {o : Oper} {s : St} {d : List Nat} {K : St → List Nat → Ans} {outs : List Nd} (iv : IvU h0 s.h d) (hb : opU P C h0.next ops o s d K = some outs) :
 match wantedA ops o s.e with
 | some true => doD P (specUI C) o.op s.e s.h fun v h => EndS h0 outs K ((s.put o.dst v).at h)
 | some false => EndS h0 outs K (s.put o.dst gone)
 | none => False := by
 unfold opU at hb
 generalize wantedA ops o s.e = w at hb ⊢
 cases w with
 | none => cases hb
 | some b => cases b with
  | true => exact doU_sound iv hb
  | false =>
   refine ⟨d, ?_, OkA.of hb⟩
   have : (s.put o.dst gone).h = s.h := by cases ho : o.dst <;> simp [St.put, ho]
   rw [this]; exact iv
theorem EndS.of {outs l : List Nd} {K : St → List Nat → Ans} {s : St} (h : EndS h0 l K s) (hs : ∀ x ∈ l, x ∈ outs) : EndS h0 outs K s := ⟨h.choose, h.choose_spec.1, h.choose_spec.2.mono hs⟩
theorem opsU_sound {ops : Array Oper} : ∀ (l l0 : List Oper) {s : St} {d : List Nat} {K : St → List Nat → Ans} {outs : List Nd}, IvU h0 s.h d → ops.toList = l0 ++ l → opsU P C h0.next ops l s d K = some outs → opsD P (specUI C) ops (List.range' l0.length l.length) s (EndS h0 outs K)
 | [], _, _, _, _, _, iv, _, h => ⟨_, iv, OkA.of h⟩
 | o :: l, l0, s, d, K, outs, iv, he, h => by
  simp only [List.length_cons, List.range'_succ, opsD]
  have ho : ops[l0.length]? = some o := by
   rw [← Array.getElem?_toList, he]
   simp
  unfold opD
  simp only [ho]
  have := opU_sound iv h
  have next : ∀ s, EndS h0 outs (fun s d => opsU P C h0.next ops l s d K) s → opsD P (specUI C) ops (List.range' (l0.length + 1) l.length) s (EndS h0 outs K) := fun s hh => by
   obtain ⟨d', iv', l', h1, h2⟩ := hh
   have := opsU_sound l (l0 ++ [o]) iv' (by rw [he]; simp) h1
   have := opsD_mono (specUI_mono C) (fun s hs => EndS.of hs h2) this
   simpa using this
  split at this
  · rename_i hw; simp only [hw]; exact doD_mono (specUI_mono C) (fun v h hh => next _ hh) this
  · rename_i hw; simp only [hw]; exact next _ this
  · exact this.elim
theorem oneT_mono {I : FuncId → Option Spec} (hM : MonoI I) {ops : Array Oper} : ∀ {t : Tr} {s : St} {K K' : St → Prop}, (∀ s, K s → K' s) → oneT P I ops t s K → oneT P I ops t s K'
 | .done, s, K, K', hk, h => hk _ h
 | .q i t, s, K, K', hk, h => by
  simp only [oneT] at h ⊢
  split at h
  · exact h.elim
  · split at h
    · exact doD_mono hM (fun v h hh => oneT_mono hM hk hh) h
    · exact oneT_mono hM hk h
    · exact h.elim
 | .c i ws t, s, K, K', hk, h => by
  simp only [oneT] at h ⊢
  split at h
  · exact h.elim
  · split at h
    · exact doD_mono hM (fun v h hh => chks_mono (oneT_mono hM hk) hh) h
    · exact oneT_mono hM hk h
    · exact h.elim
 | .fork a b, s, K, K', hk, h => ⟨oneT_mono hM hk h.1, oneT_mono hM hk h.2⟩
theorem treeU_sound {ops : Array Oper} : ∀ (t : Tr) {s : St} {d : List Nat} {K : St → List Nat → Ans} {outs : List Nd}, IvU h0 s.h d → treeU P C h0.next ops t s d K = some outs → oneT P (specUI C) ops t s (EndS h0 outs K)
 | .done, _, _, _, _, iv, h => ⟨_, iv, OkA.of h⟩
 | .q i t, s, d, K, outs, iv, h => by
  simp only [treeU] at h
  simp only [oneT]
  split at h
  · cases h
  · rename_i o ho
    simp only [ho]
    have next : ∀ s, EndS h0 outs (fun s d => treeU P C h0.next ops t s d K) s → oneT P (specUI C) ops t s (EndS h0 outs K) := fun s hh => by
     obtain ⟨d', iv', l', h1, h2⟩ := hh
     exact oneT_mono (specUI_mono C) (fun s hs => EndS.of hs h2) (treeU_sound t iv' h1)
    have := opU_sound iv h
    split at this
    · rename_i hw; simp only [hw]; exact doD_mono (specUI_mono C) (fun v h hh => next _ hh) this
    · rename_i hw; simp only [hw]; exact next _ this
    · exact this.elim
 | .c i ws t, s, d, K, outs, iv, h => by
  simp only [treeU] at h
  simp only [oneT]
  split at h
  · cases h
  · rename_i o ho
    simp only [ho]
    split at h
    · rename_i hw
      simp only [hw]
      refine doD_mono (specUI_mono C) (fun v h hh => ?_) (doU_sound iv h)
      obtain ⟨d', iv', l', h1, h2⟩ := hh
      cases hc : (ws.all fun j => chkB P ops j s.e h) with
      | false =>
       have h1 : (none : Ans) = some l' := by rw [← h1]; dsimp only; rw [hc]; rfl
       cases h1
      | true =>
       have h1 : treeU P C h0.next ops t ((s.put o.dst v).at h) d' K = some l' := by rw [← h1]; dsimp only; rw [hc]; rfl
       exact chksB_sound (oneT_mono (specUI_mono C) (fun s hs => EndS.of hs h2) (treeU_sound t (s := (s.put o.dst v).at h) iv' h1)) hc
    · rename_i hw
      simp only [hw]
      have : (s.put o.dst gone).h = s.h := by cases ho : o.dst <;> simp [St.put, ho]
      exact treeU_sound t (s := s.put o.dst gone) (by rw [this]; exact iv) h
    · cases h
 | .fork a b, s, d, K, outs, iv, h => by
  obtain ⟨⟨l1, a1, a2⟩, ⟨l2, b1, b2⟩⟩ := uni_ok h
  exact ⟨oneT_mono (specUI_mono C) (fun s hs => EndS.of hs a2) (treeU_sound a iv a1), oneT_mono (specUI_mono C) (fun s hs => EndS.of hs b2) (treeU_sound b iv b1)⟩
def EndX (h0 : AHeap) (outs : List Nd) (K : Ex → St → List Nat → Ans) (x : Ex) (s : St) : Prop := ∃ d, IvU h0 s.h d ∧ OkA outs (K x s d)
theorem EndX.of {outs l : List Nd} {K : Ex → St → List Nat → Ans} {x : Ex} {s : St} (h : EndX h0 l K x s) (hs : ∀ x ∈ l, x ∈ outs) : EndX h0 outs K x s := ⟨h.choose, h.choose_spec.1, h.choose_spec.2.mono hs⟩
theorem loopU_sound {c : Code} {step : St → List Nat → (Ex → St → List Nat → Ans) → Ans}
 (hs : ∀ s d K outs, IvU h0 s.h d → step s d K = some outs → codeD P (specUI C) c s (EndX h0 outs K)) :
 ∀ (n : Nat) {s : St} {d : List Nat} {K : Ex → St → List Nat → Ans} {outs : List Nd}, IvU h0 s.h d → loopU step n s d K = some outs → loopK (codeD P (specUI C) c) n s (EndX h0 outs K)
 | 0, _, _, _, _, _, h => by cases h
 | n + 1, s, d, K, outs, iv, h => by
  refine codeD_mono (specUI_mono C) c (fun x s hh => ?_) (hs _ _ _ _ iv h)
  obtain ⟨d', iv', l', h1, h2⟩ := hh
  cases x with
  | normal =>
   refine loopK_mono (step := codeD P (specUI C) c) (fun s K K' hk h => codeD_mono (specUI_mono C) c hk h) (fun x s hx => EndX.of hx h2) (loopU_sound hs n iv' h1)
  | exit j => exact ⟨d', iv', l', h1, h2⟩
  | ret => exact ⟨d', iv', l', h1, h2⟩
theorem codeU_sound (F : Nat) : ∀ (a : An) (c : Code) {s : St} {d : List Nat} {K : Ex → St → List Nat → Ans} {outs : List Nd}, anOk P a c = true → IvU h0 s.h d → codeU P C h0.next F a c s d K = some outs → codeD P (specUI C) c s (EndX h0 outs K)
 | .leaf, c, s, d, K, outs, ha, iv, h => by
  cases c with
  | region id ops draw =>
   cases draw with
   | false =>
    have := opsU_sound ops.toList [] iv (by simp) h
    simp only [codeD]
    have e : List.range' ([] : List Oper).length ops.toList.length = List.range ops.size := by simp [List.range_eq_range']
    rw [e] at this
    exact this
   | true => cases h
  | skip => exact ⟨d, iv, OkA.of h⟩
  | exit id => exact ⟨d, iv, OkA.of h⟩
  | label l => exact ⟨d, iv, OkA.of h⟩
  | ret => exact ⟨d, iv, OkA.of h⟩
  | _ => cases h
 | .draw B t, c, s, d, K, outs, ha, iv, h => by
  cases c with
  | region id ops draw =>
   cases draw with
   | false => cases h
   | true =>
    have ha : drawOk P ops B t = true := ha
    exact one_any (specUI_mono C) ha (treeU_sound t iv h)
  | _ => cases h
 | .seq a b, c, s, d, K, outs, ha, iv, h => by
  cases c with
  | seq c1 c2 =>
   have ha : (anOk P a c1 && anOk P b c2) = true := ha
   simp only [Bool.and_eq_true] at ha
   refine codeD_mono (specUI_mono C) c1 (fun x s' hh => ?_) (codeU_sound F a c1 ha.1 iv h)
   obtain ⟨d', iv', l', h1, h2⟩ := hh
   cases x with
   | normal => exact codeD_mono (specUI_mono C) c2 (fun x s hx => EndX.of hx h2) (codeU_sound F b c2 ha.2 iv' h1)
   | exit j => exact ⟨d', iv', l', h1, h2⟩
   | ret => exact ⟨d', iv', l', h1, h2⟩
  | _ => cases h
 | .cond a b, c, s, d, K, outs, ha, iv, h => by
  cases c with
  | cond x c1 c2 =>
   have ha : (anOk P a c1 && anOk P b c2) = true := ha
   simp only [Bool.and_eq_true] at ha
   simp only [codeU] at h
   simp only [codeD]
   split at h
   · rename_i hx; simp only [hx]; exact codeU_sound F a c1 ha.1 iv h
   · rename_i hx; simp only [hx]; exact codeU_sound F b c2 ha.2 iv h
   · cases h
  | _ => cases h
 | .block a, c, s, d, K, outs, ha, iv, h => by
  cases c with
  | block id c =>
   refine codeD_mono (specUI_mono C) c (fun x s' hh => ?_) (codeU_sound F a c ha iv h)
   obtain ⟨d', iv', l', h1, h2⟩ := hh
   cases x with
   | normal => exact ⟨d', iv', l', h1, h2⟩
   | exit j =>
    simp only at h1 ⊢
    split at h1
    · rename_i hj; rw [if_pos hj]; exact ⟨d', iv', l', h1, h2⟩
    · rename_i hj; rw [if_neg hj]; exact ⟨d', iv', l', h1, h2⟩
   | ret => exact ⟨d', iv', l', h1, h2⟩
  | _ => cases h
 | .loop W L a, c, s, d, K, outs, ha, iv, h => by
  cases c with
  | loop c =>
   have ha : (writesOk W c && anOk P a c) = true := ha
   simp only [Bool.and_eq_true] at ha
   exact ⟨F, loopU_sound (fun s d K outs iv hh => codeU_sound F a c ha.2 iv hh) F iv h⟩
  | _ => cases h
 | .join W L a, c, s, d, K, outs, ha, iv, h => by
  have ha : (writesOk W c && anOk P a c) = true := ha
  simp only [Bool.and_eq_true] at ha
  exact codeU_sound F a c ha.2 iv h
def EndF (h0 : AHeap) (outs : List Nd) (v : V) (h : AHeap) : Prop := ∃ d nd, IvU h0 h d ∧ normN h0.next d v h = some nd ∧ nd ∈ outs
theorem funU_sound (F : Nat) {a : An} {f : Func} {c : Code} (hb : f.body = some c) (ha : anOk P a c = true) {args : List V} {h : AHeap} {outs : List Nd} (hf : funU P C F a f args h = some outs) :
 funD P (specUI C) f args h (EndF h outs) := by
 unfold funU at hf
 unfold funD
 simp only [hb] at hf ⊢
 refine codeD_mono (specUI_mono C) c (fun x s hh => ?_) (codeU_sound (h0 := h) F a c (s := ⟨args0 args, h⟩) ha (IvU.start h) hf)
 obtain ⟨d', iv', l', h1, h2⟩ := hh
 have fin : (match resD P s.h s.e f.results.toList with
  | some l => (match normN h.next d' (resV l) s.h with | some nd => some [nd] | none => none)
  | none => none) = some l' → (match resD P s.h s.e f.results.toList with | some l => EndF h outs (resV l) s.h | none => False) := by
  intro h3
  cases hr : resD P s.h s.e f.results.toList with
  | none => rw [hr] at h3; cases h3
  | some l =>
   rw [hr] at h3
   show EndF h outs (resV l) s.h
   cases hn : normN h.next d' (resV l) s.h with
   | none =>
    have h3 : (match normN h.next d' (resV l) s.h with | some nd => some [nd] | none => none) = some l' := h3
    rw [hn] at h3; cases h3
   | some nd =>
    have h3 : (match normN h.next d' (resV l) s.h with | some nd => some [nd] | none => none) = some l' := h3
    rw [hn] at h3
    cases h3
    exact ⟨d', nd, iv', hn, h2 nd (by simp)⟩
 cases x with
 | exit j => cases h1
 | normal => exact fin h1
 | ret => exact fin h1
end
theorem CallsF.mono {P : Program} {f : FuncId} {args : Array V} {w : World} {Q Q' : V → World → Prop} (h : CallsF P f args w Q) (hq : ∀ v w', Q v w' → Q' v w') : CallsF P f args w Q' := by
 obtain ⟨n, w', h1, h2⟩ := h
 refine ⟨n, w', h1, ?_⟩
 cases n
 case value v => exact hq _ _ h2
 case enter g as =>
  refine Calls.mono h2 ?_
  rintro e w'' ⟨v, rfl, hh⟩
  exact ⟨v, rfl, hq _ _ hh⟩
 all_goals exact h2
def anySpecU (g : List V → AHeap → Ans) : Spec := fun args h K => ∃ outs, g args h = some outs ∧ ∀ nd ∈ outs, K nd.1 (toH h nd.2.1 nd.2.2)
theorem callU_sound {P : Program} {J : World → Prop} {L : LibU} {T : FuncId → Option An} {F : Nat} (hm : P.follows .mixedOrders = true)
 (hL : ∀ f g, L f = some g → SoundF P J f (anySpecU g)) (hT : ∀ f a, T f = some a → Walked P f a) : ∀ (n : Nat) (f : FuncId), SoundF P J f (specU (callU P L T F n) f)
 | 0, f => by
  rintro B hJ r hp w args args' Q ⟨outs, h1, _⟩
  cases h1
 | n + 1, f => by
  cases hl : L f with
  | some g =>
   refine (hL f g hl).of_imp fun args h K hs => ?_
   obtain ⟨outs, h1, h2⟩ := hs
   simp only [callU, hl] at h1
   exact ⟨outs, h1, h2⟩
  | none =>
   cases ht : T f with
   | none =>
    rintro B hJ r hp w args args' Q ⟨outs, h1, _⟩
    simp [callU, hl, ht] at h1
   | some a =>
    obtain ⟨fn, c, hf, hb, hok, ha, hcall⟩ := hT f a ht
    have hI : SoundI P J (specUI (callU P L T F n)) := by
     rintro g s ⟨rfl⟩
     exact callU_sound hm hL hT n g
    rintro B hJ r hp w args args' Q ⟨outs, h1, h2⟩ hR hargs
    simp only [callU, hl, ht, hf] at h1
    generalize hle : Nat.ble args.length fn.ntmps = le at h1
    cases le with
    | false => simp only [cond_false] at h1; cases h1
    | true =>
     simp only [cond_true] at h1
     split at h1
     · rename_i l hfu
       cases h1
       have h3 := funU_sound F hb ha hfu
       refine (SoundF.of_fun hI hm hf hb hok hcall B hJ r hp w args args' (EndF hp l) ⟨Nat.le_of_ble_eq_true hle, h3⟩ hR hargs).mono ?_
       rintro v' w' ⟨r', v, h', ⟨d, nd, iv, hn, hmem⟩, hR', hE, hv⟩
       obtain ⟨v2, D, k⟩ := nd
       obtain ⟨r2, a1, a2, a3⟩ := normN_sound hR hR' hE iv.lt iv.same hv hn
       exact ⟨r2, v2, _, h2 _ (mem_dedN hmem), a1, a2, a3⟩
     · cases h1
end Go.Abs
namespace Go.Abs
open Go
def Sl (h : AHeap) (fp : List Nat) (v : V) (es n : Nat) (cs : List V) : Prop :=
 cs.length = n * es ∧ ((v = .slice none 0 0 ∧ n = 0 ∧ fp = []) ∨
  ∃ b c all, v = .slice (some ⟨b, 0, none⟩) n c ∧ fp = [b] ∧ b < h.next ∧ n ≤ c / 2 ∧ h.get b = some (.cells all es .rw) ∧ c / 2 * es ≤ all.length ∧ all.take (n * es) = cs)
variable {h : AHeap} {fp : List Nat} {v : V} {es n : Nat} {cs : List V}
theorem Sl.lt (s : Sl h fp v es n cs) : ∀ x ∈ fp, x < h.next := by
 obtain ⟨_, ⟨rfl, rfl, rfl⟩ | ⟨b, c, all, rfl, rfl, hb, _⟩⟩ := s
 · simp
 · simpa using hb
theorem Sl.same {h' : AHeap} (s : Sl h fp v es n cs) (hl : h.next ≤ h'.next) (hs : ∀ x ∈ fp, h'.get x = h.get x) : Sl h' fp v es n cs := by
 obtain ⟨h0, ⟨rfl, rfl, rfl⟩ | ⟨b, c, all, rfl, rfl, hb, h1, h2, h3, h4⟩⟩ := s
 · exact ⟨h0, .inl ⟨rfl, rfl, rfl⟩⟩
 · exact ⟨h0, .inr ⟨b, c, all, rfl, rfl, by omega, h1, by rw [hs b (by simp), h2], h3, h4⟩⟩
theorem Sl.nil : Sl h [] (.slice none 0 0) es 0 [] := ⟨by simp, .inl ⟨rfl, rfl, rfl⟩⟩
theorem Sl.len (s : Sl h fp v es n cs) : lenD .slice v h = some (i64 n) := by
 obtain ⟨h0, ⟨rfl, rfl, rfl⟩ | ⟨b, c, all, rfl, rfl, hb, h1, h2, h3, h4⟩⟩ := s <;> rfl
theorem Sl.isNil (s : Sl h fp v es n cs) (c : Bool) : ∃ b, binD .slice .eql c v (.slice none 0 0) h = some (.bool b) ∧ (b = true → n = 0 ∧ v = .slice none 0 0) := by
 obtain ⟨h0, ⟨rfl, rfl, rfl⟩ | ⟨b, c, all, rfl, rfl, hb, h1, h2, h3, h4⟩⟩ := s
 · exact ⟨true, rfl, fun _ => ⟨rfl, rfl⟩⟩
 · exact ⟨false, rfl, fun h => by cases h⟩
theorem Sl.post (s : Sl h fp v es n cs) {k : Nat} {t : IntKind} (hk : k ≤ n) : ∃ v', sliceD (.slice es) v (some (.int t k)) none none h = some v' ∧ aLenOf v' = some (n - k) ∧ (n - k ≠ 0 → aSrc es v' h = some (cs.drop (k * es))) := by
 obtain ⟨h0, ⟨rfl, rfl, rfl⟩ | ⟨b, c, all, rfl, rfl, hb, h1, h2, h3, h4⟩⟩ := s
 · obtain rfl : k = 0 := by omega
   exact ⟨.slice none 0 0, by simp [sliceD, aBoundO, aBound], rfl, by simp⟩
 · have hsl : sliceD (.slice es) (.slice (some ⟨b, 0, none⟩) n c) (some (.int t k)) none none h =
       if k = 0 then some (.slice (some ⟨b, 0, none⟩) n c) else if k < c / 2 then some (.slice (some ⟨b, 0 + k * es, none⟩) (n - k) (c - 2 * k))
       else if c % 2 = 0 then some (.slice (some ⟨b, 0, none⟩) (n - k) 0) else some (.slice none 0 1) := by
    simp [sliceD, aBoundO, aBound, h2, hk]
   have hlen : n * es ≤ all.length := Nat.le_trans (Nat.mul_le_mul_right _ h1) h3
   have hdrop : ∀ o, o = k * es → h.rdN b o ((n - k) * es) = some (cs.drop (k * es)) := by
    rintro o rfl
    rw [rdN_of h2, Nat.sub_mul]
    have : k * es ≤ n * es := Nat.mul_le_mul_right _ hk
    rw [if_pos (by omega), ← h4, List.drop_take]
   rw [hsl]
   by_cases hk0 : k = 0
   · subst hk0
     refine ⟨_, if_pos rfl, rfl, fun _ => ?_⟩
     have := hdrop 0 (by simp)
     simpa [aSrc, sliceCells] using this
   · rw [if_neg hk0]
     by_cases hk1 : k < c / 2
     · refine ⟨_, if_pos hk1, rfl, fun _ => ?_⟩
       have := hdrop (0 + k * es) (by simp)
       simpa [aSrc, sliceCells] using this
     · rw [if_neg hk1]
       have hz : n - k = 0 := by omega
       split
       · exact ⟨_, rfl, by simp [aLenOf], fun h => absurd hz h⟩
       · exact ⟨_, rfl, by simp [aLenOf, hz], fun h => absurd hz h⟩
theorem Sl.src (s : Sl h fp v es n cs) : aLenOf v = some n ∧ aSrc es v h = some cs := by
 obtain ⟨h0, ⟨rfl, rfl, rfl⟩ | ⟨b, c, all, rfl, rfl, hb, h1, h2, h3, h4⟩⟩ := s
 · refine ⟨rfl, ?_⟩
   have : cs = [] := by simpa using h0
   subst this; rfl
 · refine ⟨rfl, ?_⟩
   show h.rdN b 0 (n * es) = some cs
   have hlen : n * es ≤ all.length := Nat.le_trans (Nat.mul_le_mul_right _ h1) h3
   rw [rdN_of h2, if_pos (by omega)]
   simpa using h4
theorem setList_eq (c : List V) : ∀ (vs : List V) (o : Nat), o + vs.length ≤ c.length → setList c o vs = c.take o ++ vs ++ c.drop (o + vs.length) := by
 intro vs
 induction vs generalizing c with
 | nil => intro o _; simp [setList]
 | cons v vs ih =>
  intro o ho
  simp only [setList]
  simp only [List.length_cons] at ho
  rw [ih (c.set o v) (o + 1) (by simp; omega)]
  have h1 : (c.set o v).take (o + 1) = c.take o ++ [v] := by
   rw [List.take_add_one, List.take_set_of_le (Nat.le_refl _)]
   simp [show o < c.length by omega]
  have h2 : (c.set o v).drop (o + 1 + vs.length) = c.drop (o + 1 + vs.length) := List.drop_set_of_lt (by omega)
  rw [h1, h2]
  simp [Nat.add_assoc, Nat.add_comm, Nat.add_left_comm]
theorem Sl.append (s : Sl h fp v es n cs) {x : V} {k bytes : Nat} {z : List V} {new : List V} (hz : z.length = es) (he : 0 < es) (hby : bytes ≤ 64) (hx : aLenOf x = some k) (hs : k ≠ 0 → aSrc es x h = some new)
 (hn : new.length = k * es) (h1 : new.all oneCell = true) (hsum : n + k ≤ 1099511627776) :
 ∃ v' h' fp', appendD (some (es, bytes, z)) v x h = some (v', h') ∧ Sl h' fp' v' es (n + k) (cs ++ new) ∧ Mod h fp h' fp' := by
 have hlt := s.lt
 obtain ⟨h0, ⟨rfl, rfl, rfl⟩ | ⟨b, c, all, rfl, rfl, hb, hc, h2, h3, h4⟩⟩ := s
 · have : cs = [] := by simpa using h0
   subst this
   simp only [appendD, hx, he, hby, hz, and_self, if_true]
   by_cases hk : k = 0
   · subst hk
     have : new = [] := by simpa using hn
     subst this
     exact ⟨_, _, [], if_pos rfl, Sl.nil, Mod.refl (by simp)⟩
   · rw [if_neg hk, if_pos (by omega), hs hk]
     refine ⟨_, _, [h.next], rfl, ⟨by simp [hn], .inr ⟨h.next, 2 * k + 1, new, by simp, rfl, by simp, by omega, by simp, ?_, ?_⟩⟩, by simp, fun x hx _ => ?_, by simp, by simp⟩
     · rw [show (2 * k + 1) / 2 = k by omega, hn]; exact Nat.le_refl _
     · simp [← hn]
     · simp; omega
 · have hcs : cs.length = n * es := h0
   simp only [appendD, hx, he, hby, hz, and_self, if_true]
   by_cases hk : k = 0
   · subst hk
     have : new = [] := by simpa using hn
     subst this
     exact ⟨_, _, [b], if_pos rfl, ⟨by simp [h0], .inr ⟨b, c, all, rfl, rfl, hb, by omega, h2, h3, by simp [h4]⟩⟩, Mod.refl hlt⟩
   · rw [if_neg hk]
     have hlen : n * es ≤ all.length := Nat.le_trans (Nat.mul_le_mul_right _ hc) h3
     by_cases hfit : n + k ≤ c / 2
     · rw [if_pos hfit, hs hk, h2]
       have hfl : n * es + new.length ≤ all.length := by
        rw [hn, ← Nat.add_mul]
        exact Nat.le_trans (Nat.mul_le_mul_right _ hfit) h3
       have hw : h.wr b (0 + n * es) new = some (h.put b (.cells (setList all (n * es) new) es .rw)) := by
        simp [AHeap.wr, h2, hfl]
       simp only [h1, and_self, if_true, hw, Option.map_some]
       refine ⟨_, _, [b], rfl, ⟨by simp [h0, hn, Nat.add_mul], .inr ⟨b, c, setList all (n * es) new, rfl, rfl, hb, hfit, by simp, by rw [setList_length]; exact h3, ?_⟩⟩, by simp, fun x _ hx => ?_, fun x hx => .inl hx, hlt⟩
       · rw [setList_eq all new (n * es) hfl, h4, Nat.add_mul, ← hn, ← h0, ← List.length_append, List.take_left]
       · simp at hx; simp [hx]
     · rw [if_neg hfit, if_pos hsum, hs hk]
       have hrd : h.rdN b 0 (n * es) = some cs := by
        rw [rdN_of h2, if_pos (by omega)]; simpa using h4
       simp only [hrd, h2]
       have fin : ∀ h', (h' = h ∨ h' = h.kill b) → ∃ fp', Sl (h'.new (.cells (cs ++ new) es .rw)) fp' (.slice (some ⟨h.next, 0, none⟩) (n + k) (2 * (n + k) + 1)) es (n + k) (cs ++ new) ∧ Mod h [b] (h'.new (.cells (cs ++ new) es .rw)) fp' := by
        intro h' hh
        have hnx : h'.next = h.next := by rcases hh with rfl | rfl <;> rfl
        refine ⟨[h.next], ⟨by simp [h0, hn, Nat.add_mul], .inr ⟨h.next, _, cs ++ new, rfl, rfl, by simp [hnx], by omega, by simp [hnx], ?_, ?_⟩⟩, by simp [hnx], fun x hx hb => ?_, by simp, by simp [hnx]⟩
        · rw [show (2 * (n + k) + 1) / 2 = n + k by omega]; simp [h0, hn, Nat.add_mul]
        · rw [Nat.add_mul, ← h0, ← hn, ← List.length_append, List.take_length]
        · simp at hb
          have : x ≠ h.next := by omega
          rcases hh with rfl | rfl <;> simp [hnx, this, hb]
       split
       · obtain ⟨fp', a, b'⟩ := fin h (.inl rfl)
         exact ⟨_, _, fp', rfl, a, b'⟩
       · obtain ⟨fp', a, b'⟩ := fin (h.kill b) (.inr rfl)
         simp only [h1, ne_eq, reduceCtorEq, not_false_eq_true, and_self, if_true]
         exact ⟨_, _, fp', rfl, a, b'⟩
end Go.Abs

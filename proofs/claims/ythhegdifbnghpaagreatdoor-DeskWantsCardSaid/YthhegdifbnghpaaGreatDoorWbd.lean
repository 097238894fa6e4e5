/- Operations: op.May, op.All. -/
import Derived.Test.YthhegdifbnghpaaGreatDoorWbc
import Derived.Test.YthhegdifbnghpaaGreatDoorWax
import Derived.Test.YthhegdifbnghpaaGreatDoorWau
import Derived.Test.YthhegdifbnghpaaGreatDoorWat
set_option linter.unusedSimpArgs false
set_option linter.unusedVariables false
namespace Go.Abs
open Go
variable {E : FE} {h : AHeap} {fp : List Nat} {v : V}
theorem op_May_1 (r : Int) : cl (F.op_May_1 E) [.int .i32 r] h fun x h' => x = .bool (!(decide (97 ≤ r) && decide (r ≤ 122))) ∧ h' = h := by
 refine cl_of ?_
 by_cases h1 : r < 97
 · simp [F.op_May_1, h1, show ¬ 97 ≤ r by omega, gdV_bool, pickV_bool]
 · by_cases h2 : 122 < r
   · simp [F.op_May_1, h1, h2, show ¬ r ≤ 122 by omega, gdV_bool, pickV_bool]
   · simp [F.op_May_1, h1, h2, show r ≤ 122 by omega, show 97 ≤ r by omega, gdV_bool, pickV_bool]
theorem smallT_of {s : ByteArray} (hs : ∀ i, i < s.size → small1 (s.get! i) = true) : smallT s = true := by
 rw [smallT_eq, List.all_eq_true]
 intro c hc
 obtain ⟨i, hi, rfl⟩ := List.mem_iff_getElem.1 hc
 have hi' : i < s.size := by rw [Array.length_toList] at hi; exact hi
 have := get_data s hi'
 rw [List.getElem?_eq_getElem hi, Option.some.injEq] at this
 rw [this]
 exact hs i hi'
theorem smallT_not {s : ByteArray} {i : Nat} (hi : i < s.size) (hn : small1 (s.get! i) = false) : smallT s = false := by
 have h1 := get_data s hi
 cases hc : smallT s with
 | false => rfl
 | true =>
  rw [smallT_eq, List.all_eq_true] at hc
  have := hc _ (List.mem_of_getElem? h1)
  rw [hn] at this
  cases this
theorem contains_small {E1 : FE} (hM : MonoI E.I) (hE : E.I (E.k 7) = some (cl (F.op_May_1 E1))) (s : ByteArray) (hsz : s.size ≤ maxLen) :
 cl (F.strings_ContainsFunc E) [str s, .func (.func (E.k 7)) #[] #[]] h fun r h' => r = .bool (!smallT s) ∧ Mod h [] h' [] := by
 refine cl_of ?_
 simp only [F.strings_ContainsFunc]
 suffices hi : cl (F.strings_IndexFunc E) [str s, .func (.func (E.k 7)) #[] #[]] h fun r h' => ∃ k : Int, r = i64 k ∧ (0 ≤ k ↔ smallT s = false) ∧ Mod h [] h' [] by
  refine cl_then hi ?_
  rintro r h1 ⟨k, rfl, hk, m⟩
  simp only [bin_geq, kv_some]
  refine ⟨?_, m⟩
  congr 1
  cases hs : smallT s with
  | true =>
   have : ¬ 0 ≤ k := fun hh => by rw [hk, hs] at hh; cases hh
   simp [this]
  | false =>
   have : 0 ≤ k := hk.2 hs
   simp [this]
 refine cl_of ?_
 simp only [F.strings_IndexFunc]
 suffices hi : cl (F.strings_indexFunc E) [str s, .func (.func (E.k 7)) #[] #[], .bool true] h fun r h' => ∃ k : Int, r = i64 k ∧ (0 ≤ k ↔ smallT s = false) ∧ Mod h [] h' [] by
  exact cl_then hi fun r h1 hh => hh
 refine cl_of ?_
 have er : rangeD .str (str s) h = some (ptr h.next 0, h.new (.siter s 0)) := rfl
 simp only [F.strings_indexFunc, er, kP_some]
 refine ⟨fun n vs h' => ∃ pos : Nat, n = s.size - pos ∧ pos ≤ s.size ∧ h'.get h.next = some (.siter s pos) ∧ (∀ i, i < pos → small1 (s.get! i) = true) ∧ Mod h [] h' [] ∧ h.next < h'.next, s.size,
  ⟨0, by omega, by omega, by simp, by simp, Mod.newBox (by simp), by simp⟩, ?_⟩
 rintro n e h1 ⟨pos, rfl, hp, hg, hs, m1, hn1⟩
 unfold aNext
 simp only [hg]
 by_cases hlt : pos < s.size
 · rw [if_pos hlt]
   generalize hd : Utf8.decode s pos = d
   have hput : Mod h [] (h1.put h.next (.siter s (pos + d.2))) [] := ⟨by simpa using m1.next, fun x hx _ => by
    have : x ≠ h.next := by omega
    simp [this, m1.same x hx (by simp)], by simp, by simp⟩
   simp only [extract_tuple, List.getElem?_toArray, List.getElem?_cons_zero, List.getElem?_cons_succ, kv_some, ifV_bool, if_true]
   unfold aCall
   simp only [hE]
   refine cl_then (op_May_1 _) ?_
   rintro r h2 ⟨rfl, rfl⟩
   have hr := @rune_small s pos
   rw [hd] at hr
   simp only [bin_bool_eq, kv_some, ifV_bool]
   by_cases hsm : small1 (s.get! pos) = true
   · have h3 := hr.2 hsm
     have h4 : (97 : Int) ≤ (d.1 : Int) ∧ (d.1 : Int) ≤ 122 := by omega
     have hst := small_step hsm
     rw [hd] at hst
     simp only [h4.1, h4.2, decide_true, Bool.and_self, Bool.not_true, Bool.false_eq_true, beq_iff_eq, if_false]
     refine ⟨s.size - (pos + 1), by omega, pos + 1, rfl, by omega, by simp [hst], fun i hi => ?_, hput, by simpa using hn1⟩
     by_cases hip : i = pos
     · rw [hip]; exact hsm
     · exact hs i (by omega)
   · have h4 : (decide ((97 : Int) ≤ (d.1 : Int)) && decide ((d.1 : Int) ≤ 122)) = false := by
      cases hb : (decide ((97 : Int) ≤ (d.1 : Int)) && decide ((d.1 : Int) ≤ 122)) with
      | false => rfl
      | true =>
       simp only [Bool.and_eq_true, decide_eq_true_eq] at hb
       exact absurd (hr.1 (by omega)) hsm
     simp only [h4, Bool.not_false, beq_self_eq_true, if_true]
     refine ⟨pos, rfl, ⟨fun _ => smallT_not hlt (by simpa using hsm), fun _ => by omega⟩, hput⟩
 · rw [if_neg hlt]
   simp only [extract_tuple, List.getElem?_toArray, List.getElem?_cons_zero, kv_some, ifV_bool, Bool.false_eq_true, if_false]
   refine ⟨-1, rfl, ⟨fun hh => by omega, fun hh => ?_⟩, m1⟩
   rw [smallT_of fun i hi => hs i (by omega)] at hh
   cases hh
def bad1 (o : Oq) : Bool := !(decide (1 ≤ o.fn) && decide (o.fn ≤ 12)) || !(decide (1 ≤ o.space.size) && decide (o.space.size ≤ 20) && smallT o.space)
def bad2 (o : Oq) : Bool := !(decide (o.key.size ≤ 20) && decide (o.val.size ≤ 100) && decide (0 ≤ o.n) && decide (o.n ≤ 1099511627776))
def bad3 (o : Oq) : Bool := !(((namesO o.fn).1 || decide (o.key.size = 0)) && ((namesO o.fn).2.1 || decide (o.val.size = 0)) && ((namesO o.fn).2.2 || decide (o.n = 0)))
theorem mayO_eq (o : Oq) : mayO o = (!bad1 o && !(bad2 o || bad3 o) && (decide (o.fn ≠ 1) || makesO o)) := by
 simp only [mayO, bad1, bad2, bad3, Bool.not_or, Bool.not_not, Bool.and_assoc]
theorem op_May {E1 : FE} (hM : MonoI E.I) (hE : E.I (E.k 7) = some (cl (F.op_May_1 E1))) (o : Oq) (hsz : o.space.size ≤ maxLen) :
 cl (F.op_May E) [o.agg] h fun r h' => r = .bool (mayO o) ∧ Mod h [] h' [] := by
 refine cl_of ?_
 simp only [F.op_May, new5, kP_some]
 have hb0 := Mod.newBox (h := h) (fp := []) (o := .cells o.cells 5 .rw) (by simp)
 have g0 : (h.new (.cells o.cells 5 .rw)).get h.next = some (.cells o.cells 5 .rw) := by simp
 have n0 : h.next < (h.new (.cells o.cells 5 .rw)).next := by simp
 generalize h.new (.cells o.cells 5 .rw) = h1 at hb0 g0 n0 ⊢
 generalize hbx : h.next = bx at g0 n0 ⊢
 have ln : ∀ (x : ByteArray) (h : AHeap), lenD .str (str x) h = some (i64 (x.size : Nat)) := fun _ _ => rfl
 have rd : ∀ {h' : AHeap}, h'.get bx = some (.cells o.cells 5 .rw) → h'.rd bx 0 = some (i64 o.fn) ∧ h'.rd bx 1 = some (str o.space) ∧ h'.rd bx 2 = some (str o.key) ∧ h'.rd bx 3 = some (str o.val) ∧ h'.rd bx 4 = some (i64 o.n) :=
  fun g => ⟨rd_of g 0, rd_of g 1, rd_of g 2, rd_of g 3, rd_of g 4⟩
 obtain ⟨r0, r1, r2, r3, r4⟩ := rd g0
 simp only [fieldAddr_ptr, kv_some, ld_one, Nat.zero_add, r0]
 refine cl_then (op_names _) ?_
 rintro r h2 ⟨rfl, rfl⟩
 simp only [extract_tuple, List.getElem?_toArray, List.getElem?_cons_zero, List.getElem?_cons_succ, kv_some, r0, bin_lss]
 have hfn : ∀ X : V → Prop, X (.bool (!(decide (1 ≤ o.fn) && decide (o.fn ≤ 12)))) → kv (gdV (.bool (decide (o.fn < 1))) false (some (ptr bx 0))) fun v19 => kv (gdV (.bool (decide (o.fn < 1))) false (ldD .one v19 h2)) fun v20 =>
  kv (gdV (.bool (decide (o.fn < 1))) false (binD .bad .gtr true v20 (.int .i64 12) h2)) fun v21 => kv (pickV (.bool (decide (o.fn < 1))) (.bool true) v21) X := by
  intro X hX
  by_cases f1 : o.fn < 1
  · have : ¬ 1 ≤ o.fn := by omega
    simp only [this, decide_false, Bool.false_and, Bool.not_false] at hX
    simp [f1, gdV_bool, pickV_bool, hX]
  · have h1 : 1 ≤ o.fn := by omega
    by_cases f2 : 12 < o.fn
    · have : ¬ o.fn ≤ 12 := by omega
      simp only [this, decide_false, Bool.and_false, Bool.not_false] at hX
      simp [f1, f2, gdV_bool, pickV_bool, hX, r0]
    · have : o.fn ≤ 12 := by omega
      simp only [this, h1, decide_true, Bool.and_true, Bool.not_true] at hX
      simp [f1, f2, gdV_bool, pickV_bool, hX, r0]
 refine hfn _ ?_
 clear hfn
 refine ⟨fun vs h' => vs = [.bool (bad1 o)] ∧ Mod h2 [] h' [] ∧ h'.get bx = some (.cells o.cells 5 .rw), ?_, ?_⟩
 · simp only [ifV_bool]
   by_cases hk : (decide (1 ≤ o.fn) && decide (o.fn ≤ 12)) = true
   case neg =>
    have hk' : (decide (1 ≤ o.fn) && decide (o.fn ≤ 12)) = false := by simpa using hk
    simp only [hk', Bool.not_false, if_true]
    refine ⟨by simp [bad1, hk'], Mod.refl (by simp), g0⟩
   simp only [hk, Bool.not_true, Bool.false_eq_true, if_false, r1, kv_some, str_nil]
   have fin : ∀ (b : Bool) h', b = bad1 o → Mod h2 [] h' [] → h'.get bx = some (.cells o.cells 5 .rw) → ([.bool b] : List V) = [.bool (bad1 o)] ∧ Mod h2 [] h' [] ∧ h'.get bx = some (.cells o.cells 5 .rw) := fun b h' e m g => ⟨by rw [e], m, g⟩
   by_cases s0 : o.space.size = 0
   · have e : bad1 o = true := by simp [bad1, s0]
     simp only [s0, decide_true, gdV_bool, Bool.true_eq_false, if_false, kv_some, pickV_bool, if_true, gdV_gone]
     refine gdC_no (by simp) ?_
     try simp only [pickV_bool, if_true, kv_some]
     exact fin _ _ e.symm (Mod.refl (by simp)) g0
   have s0' : ¬ ((o.space.size : Nat) : Int) = 0 := by omega
   simp only [s0, decide_false, gdV_bool, if_true, kv_some, ld_one, r1, ln, bin_gtr, pickV_bool, Bool.false_eq_true, if_false]
   by_cases s20 : ((o.space.size : Nat) : Int) > 20
   · have e : bad1 o = true := by simp [bad1, show ¬ o.space.size ≤ 20 by omega]
     simp only [s20, decide_true, gdV_bool, Bool.true_eq_false, if_false, kv_some, gdV_gone]
     refine gdC_no (by simp) ?_
     try simp only [pickV_bool, if_true, kv_some]
     exact fin _ _ e.symm (Mod.refl (by simp)) g0
   simp only [s20, decide_false, gdV_bool, if_true, kv_some, ld_one, r1]
   refine gdC_yes rfl ?_
   refine cl_then (contains_small hM hE o.space hsz) ?_
   rintro r h3 ⟨rfl, m3⟩
   try simp only [pickV_bool, Bool.false_eq_true, if_false, kv_some]
   refine fin _ _ ?_ m3 ?_
   · simp [bad1, hk, show 1 ≤ o.space.size by omega, show o.space.size ≤ 20 by omega]
   · rw [m3.same bx (by omega) (by simp)]; exact g0
 rintro e14 h3 ⟨he, m3, g3⟩
 simp only [List.cons.injEq, and_true] at he
 clear r0 r1 r2 r3 r4
 obtain ⟨r0, r1, r2, r3, r4⟩ := rd g3
 have mfin : Mod h [] h3 [] := hb0.trans m3
 simp only [he, ifV_bool]
 by_cases b1 : bad1 o = true
 · rw [if_pos b1]
   exact ⟨by rw [mayO_eq, b1]; rfl, mfin⟩
 rw [if_neg b1]
 have b1' : bad1 o = false := by simpa using b1
 have hlong : ∀ X : V → Prop, X (.bool (bad2 o)) → kv (gdV (.bool (decide (((o.key.size : Nat) : Int) > 20))) false (some (ptr bx 3))) fun v44_33 => kv (gdV (.bool (decide (((o.key.size : Nat) : Int) > 20))) false (ldD .one v44_33 h3)) fun v45_34 =>
  kv (gdV (.bool (decide (((o.key.size : Nat) : Int) > 20))) false (lenD .str v45_34 h3)) fun v46_35 => kv (gdV (.bool (decide (((o.key.size : Nat) : Int) > 20))) false (binD .bad .gtr true v46_35 (.int .i64 100) h3)) fun v47_36 =>
  kv (pickV (.bool (decide (((o.key.size : Nat) : Int) > 20))) (.bool true) v47_36) fun v48_37 => kv (gdV v48_37 false (some (ptr bx 4))) fun v50_38 => kv (gdV v48_37 false (ldD .one v50_38 h3)) fun v51_39 =>
  kv (gdV v48_37 false (binD .bad .lss true v51_39 (.int .i64 0) h3)) fun v52_40 => kv (pickV v48_37 (.bool true) v52_40) fun v53_41 => kv (gdV v53_41 false (some (ptr bx 4))) fun v55_42 => kv (gdV v53_41 false (ldD .one v55_42 h3)) fun v56_43 =>
  kv (gdV v53_41 false (binD .bad .gtr true v56_43 (.int .i64 1099511627776) h3)) fun v57_44 => kv (pickV v53_41 (.bool true) v57_44) X := by
  intro X hX
  by_cases k1 : 20 < ((o.key.size : Nat) : Int)
  · have e : bad2 o = true := by simp [bad2, show ¬ o.key.size ≤ 20 by omega]
    rw [e] at hX
    simp [k1, gdV_bool, pickV_bool, hX]
  by_cases k2 : 100 < ((o.val.size : Nat) : Int)
  · have e : bad2 o = true := by simp [bad2, show ¬ o.val.size ≤ 100 by omega]
    rw [e] at hX
    simp [k1, k2, gdV_bool, pickV_bool, hX, r3, ln]
  by_cases k3 : o.n < 0
  · have e : bad2 o = true := by simp [bad2, show ¬ 0 ≤ o.n by omega]
    rw [e] at hX
    simp [k1, k2, k3, gdV_bool, pickV_bool, hX, r3, r4, ln]
  by_cases k4 : 1099511627776 < o.n
  · have e : bad2 o = true := by simp [bad2, show ¬ o.n ≤ 1099511627776 by omega]
    rw [e] at hX
    simp [k1, k2, k3, k4, gdV_bool, pickV_bool, hX, r3, r4, ln]
  · have e : bad2 o = false := by simp [bad2, show o.key.size ≤ 20 by omega, show o.val.size ≤ 100 by omega, show 0 ≤ o.n by omega, show o.n ≤ 1099511627776 by omega]
    rw [e] at hX
    simp [k1, k2, k3, k4, gdV_bool, pickV_bool, hX, r3, r4, ln]
 simp only [r2, kv_some, ln, bin_gtr]
 refine hlong _ ?_
 clear hlong
 refine ⟨fun vs h' => vs = [.bool (bad2 o || bad3 o)] ∧ h' = h3, ?_, ?_⟩
 · simp only [ifV_bool, not_bool, kv_some, str_nonnil]
   by_cases b2 : bad2 o = true
   · simp [b2]
   have b2' : bad2 o = false := by simpa using b2
   simp only [b2', Bool.false_eq_true, if_false, Bool.false_or]
   have hk := str_nonnil (h := h3) .bad true o.key
   have hv := str_nonnil (h := h3) .bad true o.val
   rw [bin_str] at hk hv
   unfold bad3
   cases n1 : (namesO o.fn).1 <;> cases n2 : (namesO o.fn).2.1 <;> cases n3 : (namesO o.fn).2.2 <;> by_cases k1 : o.key.size = 0 <;> by_cases k2 : o.val.size = 0 <;> by_cases k3 : o.n = 0 <;>
    simp [n1, n2, n3, k1, k2, k3, gdV_bool, pickV_bool, ifV_bool, r2, r3, r4, hk, hv]
 rintro e46 h4 ⟨he2, rfl⟩
 simp only [List.cons.injEq, and_true] at he2
 simp only [he2, ifV_bool]
 by_cases b2 : (bad2 o || bad3 o) = true
 · rw [if_pos b2]
   exact ⟨by rw [mayO_eq, b2]; simp, mfin⟩
 rw [if_neg b2]
 have b2' : (bad2 o || bad3 o) = false := by simpa using b2
 simp only [r0, kv_some, bin_neq]
 have hmay : mayO o = (decide (o.fn ≠ 1) || makesO o) := by rw [mayO_eq, b1', b2']; simp
 by_cases f1 : o.fn = 1
 · have e1 : (o.fn != 1) = false := by simp [f1]
   have hl : ldD (.agg 5) (ptr bx 0) h4 = some o.agg := by
    rw [ld_agg, rdN_of g3]; rfl
   simp only [e1, gdV_bool, if_true, hl, kv_some]
   refine gdC_yes rfl ?_
   refine cl_then (op_makes o) ?_
   rintro r h5 ⟨rfl, m5⟩
   try simp only [pickV_bool, Bool.false_eq_true, if_false, kv_some]
   exact ⟨by rw [hmay]; simp [f1], mfin.trans m5⟩
 · have e1 : (o.fn != 1) = true := by simp [f1]
   simp only [e1, gdV_bool, Bool.true_eq_false, if_false, kv_some]
   refine gdC_no (by simp) ?_
   try simp only [pickV_bool, if_true, kv_some]
   exact ⟨by rw [hmay]; simp [f1], mfin⟩
end Go.Abs
namespace Go.Abs
open Go
variable {E : FE} {h : AHeap} {fp : List Nat} {v : V}
theorem SlE.mod {α : Type} {D : EL α} {l : List α} {h' : AHeap} {fq fq' : List Nat} (s : SlE D h fp v l) (m : Mod h fq h' fq') (hd : ∀ x ∈ fp, x ∉ fq) : SlE D h' fp v l := s.same m.next fun x hx => m.same x (s.lt x hx) (hd x hx)
theorem containsFunc_op {f : V} {l : List Oq} (hM : MonoI E.I) (s : SlE dOp h fp v l) (hsz : l.length ≤ 1000000) (P : Oq → Bool)
 (hf : ∀ h' o, o ∈ l → aCall E.I f [o.agg] h' fun r h'' => r = .bool (P o) ∧ Mod h' [] h'' []) :
 cl (F.slices_ContainsFunc_Sapi_Op_api_Op E) [v, f] h fun r h' => r = .bool (l.any P) ∧ Mod h [] h' [] := by
 refine cl_of ?_
 simp only [F.slices_ContainsFunc_Sapi_Op_api_Op]
 suffices hi : cl (F.slices_IndexFunc_Sapi_Op_api_Op E) [v, f] h fun r h' => ∃ k : Int, r = i64 k ∧ (0 ≤ k ↔ l.any P = true) ∧ Mod h [] h' [] by
  refine cl_then hi ?_
  rintro r h1 ⟨k, rfl, hk, m⟩
  simp only [bin_geq, kv_some]
  refine ⟨?_, m⟩
  congr 1
  cases hs : l.any P with
  | true => simp [hk.2 hs]
  | false =>
   have : ¬ 0 ≤ k := fun hh => by rw [hk, hs] at hh; cases hh
   simp [this]
 refine cl_of ?_
 simp only [F.slices_IndexFunc_Sapi_Op_api_Op, s.len, kv_some]
 refine ⟨fun n vs h' => ∃ i : Nat, vs = [i64 i] ∧ n = l.length - i ∧ i ≤ l.length ∧ Mod h [] h' [] ∧ ∀ j o, j < i → l[j]? = some o → P o = false, l.length, ⟨0, rfl, by omega, by omega, Mod.refl (by simp), fun j o hj => by omega⟩, ?_⟩
 rintro n e h1 ⟨i, he, rfl, hi, m1, hno⟩
 simp only [List.cons.injEq, and_true] at he
 simp only [he, bin_lss, kv_some, ifV_bool, decide_eq_true_eq]
 rcases Nat.lt_or_ge i l.length with hx | hx
 · rw [if_pos (show ((i : Nat) : Int) < (l.length : Nat) by omega)]
   have hg : l[i]? = some l[i] := List.getElem?_eq_getElem hx
   obtain ⟨b, i1, i2⟩ := (s.keep m1).ld hg
   have i1 : indexAddrD (.slice 5) _ _ = _ := i1
   have i2 : ldD (.agg 5) _ _ = _ := i2
   simp only [i1, kv_some, i2]
   refine aCall_mono hM ?_ (hf h1 l[i] (List.getElem_mem hx))
   rintro r h2 ⟨rfl, m2⟩
   have m3 : Mod h [] h2 [] := m1.trans m2
   simp only [ifV_bool]
   cases hp : P l[i] with
   | true =>
    simp only [if_true]
    exact ⟨i, rfl, ⟨fun _ => List.any_eq_true.2 ⟨l[i], List.getElem_mem hx, hp⟩, fun _ => by omega⟩, m3⟩
   | false =>
    simp only [Bool.false_eq_true, if_false]
    rw [add_i64 _ 1 (by omega) (by omega), kv_some]
    refine ⟨l.length - (i + 1), by omega, i + 1, by simp, rfl, by omega, m3, fun j o hj ho => ?_⟩
    by_cases hji : j = i
    · subst hji
      rw [hg] at ho
      cases ho
      exact hp
    · exact hno j o (by omega) ho
 · rw [if_neg (show ¬ ((i : Nat) : Int) < (l.length : Nat) by omega)]
   refine ⟨-1, rfl, ⟨fun hh => by omega, fun hh => ?_⟩, m1⟩
   obtain ⟨o, ho, hp⟩ := List.any_eq_true.1 hh
   obtain ⟨j, hj, rfl⟩ := List.mem_iff_getElem.1 ho
   rw [hno j l[j] (by omega) (List.getElem?_eq_getElem hj)] at hp
   cases hp
structure OpE (E : FE) : Prop where
 mono : MonoI E.I
 all1 : ∃ E1 : FE, E.I (E.k 6) = some (cl (F.op_All_1 E1)) ∧ MonoI E1.I ∧ ∃ E2 : FE, E1.I (E1.k 7) = some (cl (F.op_May_1 E2))
 may1 : ∃ E1 : FE, E.I (E.k 7) = some (cl (F.op_May_1 E1))
theorem op_All (oe : OpE E) {l : List Oq} (s : SlE dOp h fp v l) (hsz : l.length ≤ 1000000) (hz : ∀ o ∈ l, o.space.size ≤ maxLen) :
 cl (F.op_All E) [v] h fun r h' => r = .bool (allO l) ∧ Mod h [] h' [] := by
 refine cl_of ?_
 simp only [F.op_All, s.len, kv_some, bin_geq, bin_leq, gdV_bool, s.len]
 by_cases h1 : ((l.length : Nat) : Int) ≥ 1
 case neg =>
  have e : allO l = false := by simp [allO, show ¬ 1 ≤ l.length by omega]
  simp only [h1, decide_false, Bool.false_eq_true, if_false, kv_some, pickV_bool, gdV_bool]
  refine gdC_no (by simp) ?_
  try simp only [gdV_bool, Bool.false_eq_true, if_false, kv_some, pickV_bool]
  exact ⟨by rw [e], Mod.refl (by simp)⟩
 simp only [h1, decide_true, if_true, kv_some, s.len, bin_leq, pickV_bool, gdV_bool]
 by_cases h8 : ((l.length : Nat) : Int) ≤ 8
 case neg =>
  have e : allO l = false := by simp [allO, show ¬ l.length ≤ 8 by omega]
  simp only [h8, decide_false, Bool.false_eq_true, if_false, kv_some, gdV_bool]
  refine gdC_no (by simp) ?_
  try simp only [gdV_bool, Bool.false_eq_true, if_false, kv_some, pickV_bool]
  exact ⟨by rw [e], Mod.refl (by simp)⟩
 simp only [h8, decide_true, if_true, kv_some]
 obtain ⟨E1, hE1, hM1, E2, hE2⟩ := oe.all1
 refine gdC_yes rfl (cl_then (containsFunc_op oe.mono s hsz (fun o => !mayO o) fun h' o ho => ?_) ?_)
 · unfold aCall
   simp only [hE1]
   refine cl_of ?_
   simp only [F.op_All_1, List.nil_append, List.append_nil, List.cons_append, new5, kP_some]
   have g0 : (h'.new (.cells o.cells 5 .rw)).get h'.next = some (.cells o.cells 5 .rw) := by simp
   have m0 := Mod.newBox (h := h') (fp := []) (o := .cells o.cells 5 .rw) (by simp)
   generalize h'.new (.cells o.cells 5 .rw) = h2 at g0 m0 ⊢
   have hl : ldD (.agg 5) (ptr h'.next 0) h2 = some o.agg := by rw [ld_agg, rdN_of g0]; rfl
   try simp only [hl, kv_some]
   refine cl_then (op_May hM1 hE2 o (hz o ho)) ?_
   rintro r h3 ⟨rfl, m3⟩
   simp only [not_bool, kv_some]
   exact ⟨trivial, m0.trans m3⟩
 · rintro r h2 ⟨rfl, m2⟩
   simp only [gdV_bool, if_true, not_bool, kv_some, pickV_bool]
   refine ⟨?_, m2⟩
   congr 1
   simp only [allO, show 1 ≤ l.length by omega, show l.length ≤ 8 by omega, decide_true, Bool.true_and]
   cases hb : (l.all mayO) with
   | true =>
    rw [List.all_eq_true] at hb
    have : l.any (fun o => !mayO o) = false := by
     rw [List.any_eq_false]
     intro o ho
     simp [hb o ho]
    rw [this]; rfl
   | false =>
    rw [List.all_eq_false] at hb
    obtain ⟨o, ho, hn⟩ := hb
    have : l.any (fun o => !mayO o) = true := List.any_eq_true.2 ⟨o, ho, by simpa using hn⟩
    rw [this]; rfl
end Go.Abs
namespace Go.Abs
open Go
variable {E : FE} {h : AHeap} {fp : List Nat} {v : V}
theorem st5 {b : Nat} {c o : Oq} (hb : h.get b = some (.cells c.cells 5 .rw)) : stD (some 5) (ptr b 0) o.agg h = some (h.put b (.cells o.cells 5 .rw)) := by
 show h.wr b 0 o.cells = _
 simp only [AHeap.wr, hb]
 rw [if_pos ⟨by simp, by simp [Oq.cells]⟩]
 rfl
theorem newO0 : newD none (.agg #[(.int .i64 0), (.string ⟨#[]⟩), (.string ⟨#[]⟩), (.string ⟨#[]⟩), (.int .i64 0)]) h = some (ptr h.next 0, h.new (.cells (⟨0, ⟨#[]⟩, ⟨#[]⟩, ⟨#[]⟩, 0⟩ : Oq).cells 5 .rw)) := rfl
end Go.Abs
namespace Go.Abs
open Go
variable {E : FE} {F : Fr} {h : AHeap} {L : List Pl} {p v : V} {lk : List (KeyM × IdM)} {ks : List KeyM}
abbrev cId (i : IdM) : List V := [i64 i.client, i64 i.seq]
theorem new2 (i : IdM) : newD none i.agg h = some (ptr h.next 0, h.new (.cells (cId i) 2 .rw)) := rfl
theorem newI0 : newD none (.agg #[(.int .i64 0), (.int .i64 0)]) h = some (ptr h.next 0, h.new (.cells (cId ⟨0, 0⟩) 2 .rw)) := rfl
theorem ld2 {b : Nat} {i : IdM} (hb : h.get b = some (.cells (cId i) 2 .rw)) : ldD (.agg 2) (ptr b 0) h = some i.agg := by
 simp only [ld_agg, rdN_of hb]
 rfl
theorem st3 {b : Nat} {c k : KeyM} (hb : h.get b = some (.cells (dKey.enc c) 3 .rw)) : stD (some 3) (ptr b 0) k.agg h = some (h.put b (.cells (dKey.enc k) 3 .rw)) := by
 show h.wr b 0 (dKey.enc k) = _
 simp only [AHeap.wr, hb]
 rw [if_pos ⟨by simp [dKey], by simp [dKey]⟩]
 rfl
theorem st2 {b : Nat} {c k : IdM} (hb : h.get b = some (.cells (cId c) 2 .rw)) : stD (some 2) (ptr b 0) k.agg h = some (h.put b (.cells (cId k) 2 .rw)) := by
 show h.wr b 0 (cId k) = _
 simp only [AHeap.wr, hb]
 rw [if_pos ⟨by simp, by simp⟩]
 rfl
end Go.Abs
namespace Go.Abs
open Go
variable {E : FE} {F : Fr} {h : AHeap} {L : List Pl} {p v : V} {lk : List (KeyM × IdM)} {ks : List KeyM}
theorem Sep.nodupM {κ α : Type} [DecidableEq κ] {D : KD κ} {A : κ → V → α → Pl} {m : Nat} {l : List (κ × α)} (s : Sep F h (plGM D A m l :: L)) : (keysL l).Nodup := by
 obtain ⟨_, _, q, _⟩ := s.openM
 exact q.nd
end Go.Abs
namespace Go.Abs
open Go
variable {E : FE} {F : Fr} {h : AHeap} {L : List Pl} {p v : V} {ov : List IdM}
def idV (_ : IdM) (v : V) (_ : Unit) : Pl := plPure (v = .bool true)
def plIds (p : V) (ov : List IdM) : Pl := plEx fun (y : Nat × Nat × List (IdM × Unit)) => plAll [plPure (p = ptr y.1 0 ∧ (keysL y.2.2).Perm ov), plBox y.1 [.map (some y.2.1)] 1, plGM kdId idV y.2.1 y.2.2]
theorem Sep.openIds (s : Sep F h (plIds p ov :: L)) : ∃ b m l, p = ptr b 0 ∧ (keysL l).Perm ov ∧ Sep F h (plBox b [.map (some m)] 1 :: plGM kdId idV m l :: L) := by
 obtain ⟨⟨b, m, l⟩, s⟩ := s.ex
 have s1 := s.all
 obtain ⟨e, s2⟩ := Sep.pure (L := plBox b [.map (some m)] 1 :: plGM kdId idV m l :: L) s1
 exact ⟨b, m, l, e.1, e.2, s2⟩
theorem Sep.closeIds {b m : Nat} {l : List (IdM × Unit)} (hp : (keysL l).Perm ov) (s : Sep F h (plBox b [.map (some m)] 1 :: plGM kdId idV m l :: L)) : Sep F h (plIds (ptr b 0) ov :: L) :=
 Sep.mkEx (A := fun (y : Nat × Nat × List (IdM × Unit)) => plAll [plPure (ptr b 0 = ptr y.1 0 ∧ (keysL y.2.2).Perm ov), plBox y.1 [.map (some y.2.1)] 1, plGM kdId idV y.2.1 y.2.2]) (b, m, l)
  (Sep.mkAll (L' := [plPure (ptr b 0 = ptr b 0 ∧ (keysL l).Perm ov), plBox b [.map (some m)] 1, plGM kdId idV m l]) (Sep.mkPure ⟨rfl, hp⟩ s))
end Go.Abs
namespace Go.Abs
open Go
variable {E : FE} {h : AHeap} {fp : List Nat} {v : V}
abbrev zOp : List V := [(.int .i64 0), (.string ⟨#[]⟩), (.string ⟨#[]⟩), (.string ⟨#[]⟩), (.int .i64 0)]
theorem clone_ops {l : List Oq} (s : SlE dOp h fp v l) (hsmall : l.length ≤ 1099511627776) :
 cl (F.slices_Clone_Sapi_Op_api_Op E) [v] h fun r h' => ∃ fp', SlE dOp h' fp' r l ∧ Mod h [] h' fp' := by
 refine cl_of ?_
 obtain ⟨b, hb, hnil⟩ := Sl.isNil s true
 simp only [F.slices_Clone_Sapi_Op_api_Op, hb, kv_some, ifV_bool]
 cases b with
 | true =>
  obtain ⟨h0, rfl⟩ := hnil rfl
  have : l = [] := List.eq_nil_of_length_eq_zero h0
  subst this
  simp only [if_true]
  exact ⟨[], SlE.nil (D := dOp), Mod.refl (by simp)⟩
 | false =>
  simp only [Bool.false_eq_true, if_false, buildSliceD]
  simp only [Nat.zero_mul, Nat.zero_le, List.length_cons, List.length_nil, and_self, and_true, true_and, if_true, aFill, Option.map_some, kP_some, zeros, Nat.mul_zero, List.range_zero, List.map_nil, show (0:Nat) < 5 from by decide]
  have s1 : Sl (h.new (.cells [] 5 .rw)) [h.next] (.slice (some ⟨h.next, 0, none⟩) 0 0) 5 0 [] := ⟨by simp, .inr ⟨h.next, 0, [], rfl, rfl, by simp, by simp, by simp, by simp, by simp⟩⟩
  have s2 : Sl (h.new (.cells [] 5 .rw)) fp v 5 l.length (dOp.flat l) := s.keep (Mod.newBox (fp := []) (by simp))
  obtain ⟨v', h', fp', e1, e2, e3⟩ := Sl.append s1 (bytes := 64) (z := zOp) rfl (by decide) (by decide) (Sl.src s2).1 (fun _ => (Sl.src s2).2) (by rw [dOp.flat_len]; rfl) (dOp.flat_one l) (by omega)
  simp only [zOp] at e1
  rw [e1]
  simp only [kP_some]
  refine ⟨fp', by rw [Nat.zero_add, List.nil_append] at e2; exact e2, by have := e3.next; simp at this; omega, fun x hx _ => ?_, fun x hx => ?_, e3.lt⟩
  · have hne : x ≠ h.next := by omega
    rw [e3.same x (by simp; omega) (by simpa using hne)]
    simp [hne]
  · rcases e3.new x hx with h1 | h1
    · simp at h1; right; omega
    · simp at h1; right; omega
end Go.Abs
namespace Go.Abs
open Go
variable {E : FE} {F : Fr} {h : AHeap} {L : List Pl} {p v : V}
theorem ins_same {κ α : Type} [DecidableEq κ] {k : κ} {x : α} : ∀ {l : List (κ × α)}, Go.Abs.lkp k l = some x → ins k x l = l
 | [], h => by simp [Go.Abs.lkp] at h
 | (a, u) :: l, h => by
  simp only [Go.Abs.lkp] at h
  by_cases hk : a = k
  · rw [if_pos hk] at h
    cases h
    rw [ins, if_pos hk, hk]
  · rw [if_neg hk] at h
    rw [ins, if_neg hk, ins_same h]
end Go.Abs
namespace Go.Abs
open Go
variable {E : FE} {F : Fr} {h : AHeap} {L : List Pl} {p v : V}
def plOps (v : V) (l : List Oq) : Pl := ⟨fun h f => SlE dOp h f v l, fun _ _ q => q.lt, fun _ _ _ q hl hs => SlE.same q hl hs⟩
def plStrs (v : V) (l : List ByteArray) : Pl := ⟨fun h f => Sl h f v 1 l.length (l.map str), fun _ _ q => q.lt, fun _ _ _ q hl hs => Sl.same q hl hs⟩
end Go.Abs
set_option linter.unusedSectionVars false
namespace Go.Abs
open Go
variable {κ α : Type} [DecidableEq κ] {t td : List (Et κ α)} {clk : Nat} {l : List (κ × α)}
theorem OkE.count (q : OkE t clk l) (hp : t.Perm td) (P : κ × α → Bool) : (td.filter fun e => P (e.k, e.x)).length = (l.filter P).length := by
 rw [← (hp.filter _).length_eq, ← (q.perm.filter P).length_eq, absE, List.filter_map, List.length_map]
 rfl
end Go.Abs
namespace Go.Abs
open Go
section
variable {F : Fr} {h : AHeap} {A B C D X Y Z W : Pl} {L : List Pl}
end
section
variable {κ α : Type} [DecidableEq κ] {D : KD κ} {A A' : κ → V → α → Pl} {F : Fr} {h : AHeap} {m : Nat} {l : List (κ × α)}
end
variable {F : Fr} {h : AHeap} {L : List Pl} {k k' : Nat}
structure MayF (o : Oq) : Prop where
 fn : 1 ≤ o.fn ∧ o.fn ≤ 12
 sp : 1 ≤ o.space.size ∧ o.space.size ≤ 20
 key : o.key.size ≤ 20
 val : o.val.size ≤ 100
 n : 0 ≤ o.n ∧ o.n ≤ 1099511627776
 make : o.fn = 1 → (1 ≤ o.n ∧ o.n ≤ 3) ∧ (digitK o.key = true ∨ o.key.size = 0)
theorem mayF {o : Oq} (h : mayO o = true) : MayF o := by
 simp only [mayO, makesO, Bool.and_eq_true, Bool.or_eq_true, decide_eq_true_eq] at h
 obtain ⟨⟨⟨⟨⟨⟨⟨⟨⟨⟨⟨⟨a, b⟩, c⟩, d⟩, _⟩, e⟩, f⟩, g⟩, i⟩, _⟩, _⟩, _⟩, j⟩ := h
 refine ⟨⟨a, b⟩, ⟨c, d⟩, e, f, ⟨g, i⟩, fun h1 => ?_⟩
 rcases j with j | ⟨⟨j1, j2⟩, j3⟩
 · exact absurd h1 j
 · exact ⟨⟨j1, j2⟩, j3.imp id fun x => x.1⟩
end Go.Abs
namespace Go.Abs
open Go
structure VInv (k : Nat) (st : VltM) : Prop where
 nsp : st.sp.length ≤ k
 npt : st.pt.length ≤ k
 nlk : st.lk.length ≤ k
 dsp : (keysL st.sp).Nodup
 dpt : (keysL st.pt).Nodup
 dlk : (keysL st.lk).Nodup
 may : ∀ e ∈ st.pt, allO e.2.ops = true
 own : ∀ e ∈ st.lk, ∃ p, lkp e.2 st.pt = some p ∧ e.1 ∈ p.ops.map lockOf
 has : ∀ e ∈ st.pt, ∀ o ∈ e.2.ops, lkp (lockOf o) st.lk = some e.1
 apart : ∀ e ∈ st.lk, ∀ e' ∈ st.lk, meetK e.1 e'.1 = true → e.2 = e'.2
 dvw : ∀ e ∈ st.pt, (keysL e.2.view).Nodup
 val8 : ∀ e ∈ st.pt, e.2.vals.length ≤ 8
 vw : ∀ e ∈ st.pt, ∀ x ∈ e.2.view, ∃ o ∈ e.2.ops, o.space = x.1
 tab : ∀ e ∈ st.pt, ∀ x ∈ e.2.view, (∀ o ∈ e.2.ops, o.space = x.1 → 3 ≤ o.fn ∧ o.fn ≤ 5) → ∃ s t, x.2 = some s ∧ s.kind = 1 ∧ lkp x.1 st.sp = some t ∧ t.kind = 1
 zsp : ∀ n ∈ keysL st.sp, n.size ≤ 20
theorem VInv.nil : VInv 0 ⟨[], [], [], []⟩ := ⟨by simp, by simp, by simp, by simp [keysL], by simp [keysL], by simp [keysL], by simp, by simp, by simp, by simp, by simp, by simp, by simp, by simp, by simp [keysL]⟩
variable {k : Nat} {st : VltM} {id : IdM}
theorem VInv.mono {k' : Nat} (i : VInv k st) (h : k ≤ k') : VInv k' st := { i with nsp := Nat.le_trans i.nsp h, npt := Nat.le_trans i.npt h, nlk := Nat.le_trans i.nlk h }
theorem allF {l : List Oq} (h : allO l = true) : 1 ≤ l.length ∧ l.length ≤ 8 ∧ ∀ o ∈ l, mayO o = true := by
 simp only [allO, Bool.and_eq_true, decide_eq_true_eq, List.all_eq_true] at h
 exact ⟨h.1.1, h.1.2, h.2⟩
end Go.Abs
namespace Go.Abs
open Go
def plNo : Pl := plPure True
def reOk (is : List Nat) (n : Nat) : Bool := decide is.Nodup && is.all fun i => decide (i < n)
section
variable {F : Fr} {h : AHeap} {L : List Pl}
theorem Sep.re (pre : List Pl) (is : List Nat) (s : Sep F h (pre ++ L)) (hp : reOk is pre.length = true) : Sep F h (is.map (fun i => pre.getD i plNo) ++ L) := by
 simp only [reOk, Bool.and_eq_true, decide_eq_true_eq, List.all_eq_true] at hp
 obtain ⟨hn, hl⟩ := hp
 let js := (List.range pre.length).filter fun i => decide (i ∉ is)
 have e1 : pre = (List.range pre.length).map fun i => pre.getD i plNo := by
  refine List.ext_getElem (by simp) fun i h1 h2 => ?_
  simp [h1]
 have hperm : (List.range pre.length).Perm (js ++ is) := by
  refine (List.perm_ext_iff_of_nodup List.nodup_range ?_).2 fun x => ?_
  · rw [List.nodup_append]
    refine ⟨List.nodup_range.sublist List.filter_sublist, hn, ?_⟩
    intro a ha b hb e
    have := (List.mem_filter.1 ha).2
    rw [decide_eq_true_eq] at this
    exact this (e ▸ hb)
  · rw [List.mem_append, List.mem_filter, List.mem_range]
    constructor
    · intro hx
      by_cases hi : x ∈ is
      · exact .inr hi
      · exact .inl ⟨hx, by simpa using hi⟩
    · rintro (hx | hx)
      · exact hx.1
      · exact hl x hx
 have s1 : Sep F h ((js.map fun i => pre.getD i plNo) ++ ((is.map fun i => pre.getD i plNo) ++ L)) := by
  refine s.perm ?_
  rw [← List.append_assoc, ← List.map_append]
  refine List.Perm.append_right L ?_
  conv => lhs; rw [e1]
  exact hperm.map _
 exact s1.dropL
theorem Sep.re3 {A0 A1 A2 : Pl} (s : Sep F h (A0 :: A1 :: A2 :: L)) (is : List Nat) (hp : reOk is 3 = true) : Sep F h (is.map (fun i => [A0, A1, A2].getD i plNo) ++ L) := Sep.re [A0, A1, A2] is s hp
theorem Sep.re4 {A0 A1 A2 A3 : Pl} (s : Sep F h (A0 :: A1 :: A2 :: A3 :: L)) (is : List Nat) (hp : reOk is 4 = true) : Sep F h (is.map (fun i => [A0, A1, A2, A3].getD i plNo) ++ L) := Sep.re [A0, A1, A2, A3] is s hp
theorem Sep.re5 {A0 A1 A2 A3 A4 : Pl} (s : Sep F h (A0 :: A1 :: A2 :: A3 :: A4 :: L)) (is : List Nat) (hp : reOk is 5 = true) : Sep F h (is.map (fun i => [A0, A1, A2, A3, A4].getD i plNo) ++ L) := Sep.re [A0, A1, A2, A3, A4] is s hp
theorem Sep.re6 {A0 A1 A2 A3 A4 A5 : Pl} (s : Sep F h (A0 :: A1 :: A2 :: A3 :: A4 :: A5 :: L)) (is : List Nat) (hp : reOk is 6 = true) : Sep F h (is.map (fun i => [A0, A1, A2, A3, A4, A5].getD i plNo) ++ L) := Sep.re [A0, A1, A2, A3, A4, A5] is s hp
theorem Sep.re7 {A0 A1 A2 A3 A4 A5 A6 : Pl} (s : Sep F h (A0 :: A1 :: A2 :: A3 :: A4 :: A5 :: A6 :: L)) (is : List Nat) (hp : reOk is 7 = true) : Sep F h (is.map (fun i => [A0, A1, A2, A3, A4, A5, A6].getD i plNo) ++ L) := Sep.re [A0, A1, A2, A3, A4, A5, A6] is s hp
theorem Sep.re8 {A0 A1 A2 A3 A4 A5 A6 A7 : Pl} (s : Sep F h (A0 :: A1 :: A2 :: A3 :: A4 :: A5 :: A6 :: A7 :: L)) (is : List Nat) (hp : reOk is 8 = true) : Sep F h (is.map (fun i => [A0, A1, A2, A3, A4, A5, A6, A7].getD i plNo) ++ L) := Sep.re [A0, A1, A2, A3, A4, A5, A6, A7] is s hp
theorem Sep.re9 {A0 A1 A2 A3 A4 A5 A6 A7 A8 : Pl} (s : Sep F h (A0 :: A1 :: A2 :: A3 :: A4 :: A5 :: A6 :: A7 :: A8 :: L)) (is : List Nat) (hp : reOk is 9 = true) : Sep F h (is.map (fun i => [A0, A1, A2, A3, A4, A5, A6, A7, A8].getD i plNo) ++ L) := Sep.re [A0, A1, A2, A3, A4, A5, A6, A7, A8] is s hp
theorem Sep.re10 {A0 A1 A2 A3 A4 A5 A6 A7 A8 A9 : Pl} (s : Sep F h (A0 :: A1 :: A2 :: A3 :: A4 :: A5 :: A6 :: A7 :: A8 :: A9 :: L)) (is : List Nat) (hp : reOk is 10 = true) : Sep F h (is.map (fun i => [A0, A1, A2, A3, A4, A5, A6, A7, A8, A9].getD i plNo) ++ L) := Sep.re [A0, A1, A2, A3, A4, A5, A6, A7, A8, A9] is s hp
theorem Sep.re11 {A0 A1 A2 A3 A4 A5 A6 A7 A8 A9 A10 : Pl} (s : Sep F h (A0 :: A1 :: A2 :: A3 :: A4 :: A5 :: A6 :: A7 :: A8 :: A9 :: A10 :: L)) (is : List Nat) (hp : reOk is 11 = true) : Sep F h (is.map (fun i => [A0, A1, A2, A3, A4, A5, A6, A7, A8, A9, A10].getD i plNo) ++ L) := Sep.re [A0, A1, A2, A3, A4, A5, A6, A7, A8, A9, A10] is s hp
theorem Sep.re12 {A0 A1 A2 A3 A4 A5 A6 A7 A8 A9 A10 A11 : Pl} (s : Sep F h (A0 :: A1 :: A2 :: A3 :: A4 :: A5 :: A6 :: A7 :: A8 :: A9 :: A10 :: A11 :: L)) (is : List Nat) (hp : reOk is 12 = true) : Sep F h (is.map (fun i => [A0, A1, A2, A3, A4, A5, A6, A7, A8, A9, A10, A11].getD i plNo) ++ L) := Sep.re [A0, A1, A2, A3, A4, A5, A6, A7, A8, A9, A10, A11] is s hp
theorem Sep.re13 {A0 A1 A2 A3 A4 A5 A6 A7 A8 A9 A10 A11 A12 : Pl} (s : Sep F h (A0 :: A1 :: A2 :: A3 :: A4 :: A5 :: A6 :: A7 :: A8 :: A9 :: A10 :: A11 :: A12 :: L)) (is : List Nat) (hp : reOk is 13 = true) : Sep F h (is.map (fun i => [A0, A1, A2, A3, A4, A5, A6, A7, A8, A9, A10, A11, A12].getD i plNo) ++ L) := Sep.re [A0, A1, A2, A3, A4, A5, A6, A7, A8, A9, A10, A11, A12] is s hp
end
variable {F : Fr} {h : AHeap} {L : List Pl} {k k' : Nat} {p : V} {st : VltM}
theorem Sep.nilOps (s : Sep F h L) : Sep F h (plOps (.slice none 0 0) [] :: L) := s.alloc (a' := []) (plOps (.slice none 0 0) []) (Mod.refl (by simp)) (SlE.nil (D := dOp))
end Go.Abs
namespace Go.Abs
open Go
variable {sp : List (ByteArray × SpM)} {pt : List (IdM × PartM)} {now : Int} {view : List (ByteArray × Option SpM)} {k : Nat} {st : VltM} {id : IdM}
structure VwOk (sp : List (ByteArray × SpM)) (done : List Oq) (view : List (ByteArray × Option SpM)) : Prop where
 nd : (keysL view).Nodup
 of : ∀ n x, lkp n view = some x → ∃ o ∈ done, o.space = n
 tab : ∀ n x, lkp n view = some x → (∀ o ∈ done, o.space = n → 3 ≤ o.fn ∧ o.fn ≤ 5) → ∃ s t, x = some s ∧ s.kind = 1 ∧ lkp n sp = some t ∧ t.kind = 1
theorem VwOk.nil : VwOk sp [] [] := ⟨by simp [keysL], by simp [lkp], by simp [lkp]⟩
end Go.Abs
namespace Go.Abs
open Go Go.Proofs
variable {E : FE} {F : Fr} {h : AHeap} {L : List Pl} {k : Nat} {p v : V} {st : VltM} {ov : List IdM}
def plIl (v : V) (l : List IdM) : Pl := ⟨fun h f => SlE dId h f v l, fun _ _ q => q.lt, fun _ _ _ q hl hs => SlE.same q hl hs⟩
theorem col_row (ks : List IdM) (h : AHeap) : ∃ fp', SlE dId (colH ks h) fp' (colV ks h) ks ∧ Mod h [] (colH ks h) fp' := by
 unfold colH colV
 by_cases hk : ks = []
 · subst hk
   exact ⟨[], SlE.nil (D := dId), Mod.refl (by simp)⟩
 · rw [if_neg hk, if_neg hk]
   refine ⟨[h.next], ⟨dId.flat_len ks, .inr ⟨h.next, 2 * ks.length + 1, flatI ks, rfl, rfl, by simp, by omega, by simp; rfl, ?_, ?_⟩⟩, by simp, fun x hx _ => ?_, by simp, by simp⟩
   · rw [flatI_len]
     have : (2 * ks.length + 1) / 2 = ks.length := by omega
     rw [this]
     exact Nat.le_refl _
   · rw [List.take_of_length_le (by rw [flatI_len]; exact Nat.le_refl _)]
     rfl
   · have a : x ≠ h.next := by omega
     simp [a]
theorem keys_collect {α : Type} {A : IdM → V → α → Pl} {m b g : Nat} {l : List (IdM × α)} (s : Sep F h (plGM kdId A m l :: plBox b [.map (some m)] 1 :: L)) (hl : l.length ≤ 1000000) (hg : g = E.k 11 ∨ g = E.k 13 ∨ g = E.k 16) {K : V → AHeap → Prop}
 (hK : ∀ r h' ks, ks.Perm (keysL l) → Sep F h' (plIl r ks :: plGM kdId A m l :: plBox b [.map (some m)] 1 :: L) → K r h') :
 cl (Go.Abs.F.slices_Collect_api_Id E) [.func (.func g) #[] #[ptr b 0]] h K := by
 refine cl_of ?_
 obtain ⟨t, clk, q, s1⟩ := s.openM
 have gm := s1.mapGet
 rw [map_meg] at gm
 have htl : t.length = l.length := by have := q.perm.length_eq; simpa [absE] using this
 refine ⟨rfl, hg, b, m, t.map Et.g, clk, 1, .rw, rfl, s.drop.get, gm, by simp; omega, ?_, ?_, fun ks hks => ?_⟩
 · rw [List.map_map]; exact q.bn
 · intro e he
   obtain ⟨e', he', rfl⟩ := List.mem_map.1 he
   exact q.lt e' he'
 · obtain ⟨fp', r1, r2⟩ := col_row ks h
   refine hK _ _ ks ?_ (s.alloc (plIl (colV ks h) ks) r2 r1)
   rw [keysG_g, ← absE_keys] at hks
   exact hks.trans (keys_perm q.perm)
def SortOk (E : FE) (n : Nat) : Prop := ∀ (h : AHeap) (fp : List Nat) (v : V) (l : List IdM), SlE dId h fp v l → l.length ≤ n →
 cl (Go.Abs.F.slices_SortFunc_Sapi_Id_api_Id E) [v, .func (.func (E.k 10)) #[] #[]] h fun r h' => ∃ l', l'.Perm l ∧ Srtd ordI l' ∧ SlE dId h' fp v l' ∧ Mod h fp h' fp
theorem ids_All {n : Nat} (so : SortOk E n) (hl : ov.length ≤ n) (hn : n ≤ 1000000) (s : Sep F h (plIds p ov :: L)) :
 cl (Go.Abs.F.name_Ids_All E) [p] h fun r h' => ∃ l', l'.Perm ov ∧ Srtd ordI l' ∧ Sep F h' (plIl r l' :: plIds p ov :: L) := by
 refine cl_of ?_
 obtain ⟨b, m, l, rfl, hp, s0⟩ := s.openIds
 have r0 : h.rd b 0 = some (.map (some m)) := by rw [rd_of s0.get 0]; rfl
 simp only [Go.Abs.F.name_Ids_All, ptr_eq_nil, kv_some, ifV_bool, Bool.false_eq_true, if_false, aNil_ptr, fieldAddr_ptr, ld_one, Nat.zero_add, r0]
 refine cl_of ?_
 have e2 : newD none (.map (some m)) h = some (ptr h.next 0, h.new (.cells [.map (some m)] 1 .rw)) := rfl
 simp only [Go.Abs.F.maps_Keys_map_api_Id_bool_api_Id_bool, e2, kP_some]
 have s1 := s0.box [.map (some m)] 1
 generalize h.new (.cells [.map (some m)] 1 .rw) = h1 at s1 ⊢
 generalize h.next = bx at s1 ⊢
 refine cl_of ?_
 simp only [Go.Abs.F.slices_SortedFunc_api_Id]
 have hll : l.length ≤ n := by
  have := hp.length_eq
  simp only [keysL, List.length_map] at this
  omega
 refine keys_collect (s1.re3 [2, 0, 1] rfl) (by omega) (.inr (.inl rfl)) fun r h2 ks hks s2 => ?_
 obtain ⟨f, q, kk⟩ := s2.head
 have q : SlE dId h2 f r ks := q
 have hkl : ks.length ≤ n := by
  have := hks.length_eq
  simp only [keysL, List.length_map] at this
  omega
 refine cl_then (so h2 f r ks q hkl) ?_
 rintro r2 h3 ⟨l', hl', hs, q2, m2⟩
 refine ⟨l', (hl'.trans hks).trans hp, hs, ?_⟩
 have s3 := kk (plIl r l') m2 q2
 exact (Sep.closeIds hp (s3.re4 [3, 1, 0] rfl)).up1
theorem ids_New {l : List IdM} (hnd : l.Nodup) (hl : l.length ≤ 1000000) (s : Sep F h (plIl v l :: L)) :
 cl (Go.Abs.F.name_New E) [v] h fun r h' => Sep F h' (plIds r l :: plIl v l :: L) := by
 refine cl_of ?_
 simp only [Go.Abs.F.name_New]
 have e1 : makeMapD true none h = some (.map (some h.next), h.new (.map [] 0)) := rfl
 rw [e1, kP_some]
 have s1 := s.newM (D := kdId) (A := idV)
 generalize h.new (.map [] 0) = h1 at s1 ⊢
 generalize h.next = m at s1 ⊢
 have e2 : buildD (.struct [(.map none)] [(0, 1)]) [(0, .map (some m))] = some (.agg #[.map (some m)]) := rfl
 have e3 : newD none (.agg #[.map (some m)]) h1 = some (ptr h1.next 0, h1.new (.cells [.map (some m)] 1 .rw)) := rfl
 rw [e2, kv_some, e3, kP_some]
 have s2 := s1.box [.map (some m)] 1
 generalize h1.new (.cells [.map (some m)] 1 .rw) = h2 at s2 ⊢
 generalize h1.next = b at s2 ⊢
 obtain ⟨f0, q0, _⟩ := s2.up2.head
 have q0 : SlE dId h2 f0 v l := q0
 rw [q0.len, kv_some]
 refine ⟨fun n vs h' => ∃ (i : Nat) (ls : List (IdM × Unit)), vs = [i64 i] ∧ n = l.length - i ∧ i ≤ l.length ∧ keysL ls = l.take i ∧ Sep F h' (plBox b [.map (some m)] 1 :: plGM kdId idV m ls :: plIl v l :: L), l.length, ⟨0, [], rfl, by omega, by omega, by simp [keysL], s2⟩, ?_⟩
 rintro n e h3 ⟨i, ls, he, rfl, hi, hk, s3⟩
 simp only [List.cons.injEq, and_true] at he
 simp only [he, bin_lss, kv_some, ifV_bool, decide_eq_true_eq]
 rcases Nat.lt_or_ge i l.length with hx | hx
 case inr =>
  rw [if_neg (show ¬ ((i : Nat) : Int) < (l.length : Nat) by omega)]
  rw [List.take_of_length_le hx] at hk
  exact Sep.closeIds (by rw [hk]) s3
 rw [if_pos (show ((i : Nat) : Int) < (l.length : Nat) by omega)]
 obtain ⟨f1, q1, _⟩ := s3.up2.head
 have q1 : SlE dId h3 f1 v l := q1
 have hg : l[i]? = some l[i] := List.getElem?_eq_getElem hx
 obtain ⟨c, i1, i2⟩ := q1.ld hg
 have i1 : indexAddrD (.slice 2) _ _ = _ := i1
 have i2 : ldD (.agg 2) _ _ = some (l[i]).agg := i2
 have htk : l.take (i + 1) = l.take i ++ [l[i]] := by rw [List.take_add_one, hg]; rfl
 have hni : l[i] ∉ l.take i := by
  have := hnd
  rw [← List.take_append_drop (i + 1) l, htk, List.append_assoc, List.nodup_append] at this
  intro hm
  exact this.2.2 _ hm l[i] (List.mem_append_left _ (List.mem_singleton.2 rfl)) rfl
 generalize l[i] = x at i2 htk hni
 simp only [i1, kv_some, i2, newI0, kP_some]
 have s4 := s3.box (cId ⟨0, 0⟩) 2
 rw [st2 s4.get, kH_some]
 have s5 := s4.write (cs' := cId x)
 generalize AHeap.put _ _ _ = h5 at s5 ⊢
 have r0 : h5.rd b 0 = some (.map (some m)) := by rw [rd_of s5.drop.get 0]; rfl
 simp only [aNil_ptr, kv_some, fieldAddr_ptr, ld_one, Nat.zero_add, r0, ld2 s5.get]
 obtain ⟨h6, e6, s6⟩ := Sep.insM (D := kdId) (A := idV) (k := x) (v := .bool true) (x := ()) (z := .bool false) (Sep.up1 (Sep.mkPure (φ := (Value.bool true : V) = .bool true) rfl s5.drop.up1))
 have e6 : mapUpdateD (some ((.struct false [(0, .int), (1, .int)]), (some (.bool false)))) (.map (some m)) x.agg (.bool true) h5 = some h6 := e6
 rw [e6, kH_some, add_i64 _ 1 (by omega) (by omega), kv_some]
 refine ⟨l.length - (i + 1), by omega, i + 1, _, by simp, rfl, by omega, ?_, s6.up1⟩
 have hk2 : Go.Abs.lkp x ls = none := lkp_none.2 (by rw [hk]; exact hni)
 rw [keys_ins, if_pos hk2, hk, htk]
end Go.Abs
namespace Go.Abs
open Go Go.Proofs
variable {E : FE} {F : Fr} {h : AHeap} {L : List Pl} {k : Nat} {p v : V} {st : VltM}
theorem kv_of {x : Option V} {v : V} {K : V → Prop} (hx : x = some v) (hk : K v) : kv x K := by subst hx; rwa [kv_some]
theorem kP_of {x : Option (V × AHeap)} {v : V} {g : AHeap} {K : V → AHeap → Prop} (hx : x = some (v, g)) (hk : K v g) : kP x K := by subst hx; rwa [kP_some]
theorem Ro.pre {N es n k : Nat} {cs : List V} (s : Ro N h v es n cs) (he : 0 < es) (hk : k ≤ n) : ∃ v', sliceD (.slice es) v none (some (i64 k)) none h = some v' ∧ aLenOf v' = some k ∧ (k ≠ 0 → aSrc es v' h = some (cs.take (k * es))) := by
 obtain ⟨h0, h1, ⟨rfl, rfl⟩ | ⟨b, o, c, all, rfl, hb, hc, hg, ha⟩⟩ := s
 · obtain rfl : k = 0 := by omega
   exact ⟨.slice none 0 0, by simp [sliceD, aBoundO, aBound], rfl, fun h => absurd rfl h⟩
 · have hk2 : (0 : Int) ≤ k ∧ (k : Int) ≤ ((c / 2 : Nat) : Int) := by omega
   refine ⟨.slice (some ⟨b, o, none⟩) k c, ?_, rfl, fun hk0 => ?_⟩
   · simp only [sliceD, hg, if_true, aBoundO, aBound, if_pos hk2, Int.toNat_natCast]
   · show h.rdN b o (k * es) = _
     have h2 : k * es ≤ n * es := Nat.mul_le_mul_right _ hk
     have h3 : ((all.drop o).take (n * es)).length = n * es := by rw [ha, h0]
     rw [List.length_take, List.length_drop] at h3
     have h4 : 0 < k * es := Nat.mul_pos (by omega) he
     rw [rdN_of hg, if_pos (by omega), ← ha, List.take_take, Nat.min_eq_left h2]
def G.cut (n : Int) : Spec := fun args h K => match args with
| [a0] =>
kv (lenD .slice a0 h) fun v5_0 =>
kv (aMinMax false [v5_0, (.int .i64 n)]) fun v6_1 =>
kv (sliceD (.slice 5) a0 none (some v6_1) none h) fun v7_2 =>
kP (appendD (some (5, 64, [(.int .i64 0), (.string ⟨#[]⟩), (.string ⟨#[]⟩), (.string ⟨#[]⟩), (.int .i64 0)])) (.slice none 0 0) v7_2 h) fun v8_3 h =>
K v8_3 h
| _ => False
theorem Ops_cut (E : FE) : Go.Abs.F.estafettelaw12_Ops E = G.cut 10 := rfl
theorem cut_ops {N : Nat} {l : List Oq} (n : Nat) (hn : n ≤ 1000) (hO : Oqs N h v l) (s : Sep F h L) : cl (G.cut n) [v] h fun r h' => Sep F h' (plOps r (l.take n) :: L) := by
 refine cl_of ?_
 have hO : Ro N h v 5 l.length (l.flatMap Oq.cells) := hO
 have e : min ((l.length : Nat) : Int) (n : Int) = ((min l.length n : Nat) : Int) := by omega
 simp only [G.cut]
 rw [Ro.len hO h, kv_some, min2, kv_some, e]
 obtain ⟨v', e1, e2, e3⟩ := Ro.pre hO (by decide) (k := min l.length n) (by omega)
 rw [e1, kv_some]
 have ht : l.take (min l.length n) = l.take n := by
  by_cases hl : l.length ≤ n
  · rw [Nat.min_eq_left hl, List.take_length, List.take_of_length_le hl]
  · rw [Nat.min_eq_right (by omega)]
 have hf : (l.flatMap Oq.cells).take (min l.length n * 5) = dOp.flat (l.take n) := by rw [← ht]; exact dOp.flat_take l _
 have hlen : (l.take n).length = min l.length n := by rw [List.length_take, Nat.min_comm]
 rw [hf] at e3
 obtain ⟨w, h', fp', a1, a2, a3⟩ := Sl.append (Sl.nil (h := h) (es := 5)) (bytes := 64) (z := zOp) (new := dOp.flat (l.take n)) rfl (by decide) (by decide) e2 e3 (by rw [dOp.flat_len, hlen]; rfl) (dOp.flat_one _) (by omega)
 simp only [zOp] at a1
 rw [a1, kP_some]
 refine s.alloc (plOps w (l.take n)) a3 ?_
 rw [Nat.zero_add, List.nil_append, ← hlen] at a2
 exact a2
variable {id : IdM} {ops : List Oq} {now : Int}
end Go.Abs
namespace Go.Abs
open Go Go.Proofs
variable {h : AHeap} {v : V}
def dStr : EL ByteArray := ⟨1, fun s => [str s], fun _ => rfl, fun _ => rfl, by decide⟩
theorem dStr_flat : ∀ l : List ByteArray, dStr.flat l = l.map str
 | [] => rfl
 | a :: l => by rw [EL.flat_cons, dStr_flat l]; rfl
theorem ts_sle {fp : List Nat} {l : List ByteArray} : Ts h fp v l ↔ SlE dStr h fp v l := by
 unfold Ts SlE
 rw [dStr_flat]
 exact Iff.rfl
/-! ### Plain -/
end Go.Abs
namespace Go.Abs
open Go
variable {E : FE} {F : Fr} {h : AHeap} {L : List Pl} {k : Nat} {p q : V}
theorem Sep.memP {A : Pl} (s : Sep F h L) (hm : A ∈ L) : ∃ f, A.P h f := by
 obtain ⟨l1, l2, rfl⟩ := List.append_of_mem hm
 obtain ⟨f, q, _⟩ := (s.perm List.perm_middle).head
 exact ⟨f, q⟩
theorem Sep.lenM {κ α : Type} [DecidableEq κ] {D : KD κ} {A : κ → V → α → Pl} {m : Nat} {l : List (κ × α)} (s : Sep F h (plGM D A m l :: L)) : lenD .map (.map (some m)) h = some (i64 (l.length : Nat)) := by
 obtain ⟨t, clk, q, s1⟩ := s.openM
 have g := s1.mapGet
 have e : t.length = l.length := by have := q.perm.length_eq; simpa [absE] using this
 simp only [lenD, g, List.length_map, e]
end Go.Abs
namespace Go.Abs
open Go Go.Proofs
variable {E : FE} {F : Fr} {h : AHeap} {L : List Pl}
def plI64s (v : V) (l : List Int) : Pl := ⟨fun h f => SlE dInt h f v l, fun _ _ q => q.lt, fun _ _ _ q hl hs => SlE.same q hl hs⟩
def clockV (now : Int) (ns : List Int) (ts : List ByteArray) : Int := match ns, ts with
 | [n], [] => if n ≤ 1099511627776 then max now n else now
 | _, _ => now
end Go.Abs
namespace Go.Abs
open Go Go.Proofs
variable {E : FE} {F : Fr} {h : AHeap} {L : List Pl}
def markS (p : Nat × Nat) (c : UInt8) : Nat × Nat := ((p.1 + c.toNat) % 65521, (p.2 + (p.1 + c.toNat) % 65521) % 65521)
def markN (s : ByteArray) : Nat := (s.data.toList.foldl markS (1, 0)).2 * 65536 + (s.data.toList.foldl markS (1, 0)).1
theorem mark_lt (l : List UInt8) : ∀ (p : Nat × Nat), p.1 < 65521 → p.2 < 65521 → (l.foldl markS p).1 < 65521 ∧ (l.foldl markS p).2 < 65521 := by
 induction l with
 | nil => exact fun p h1 h2 => ⟨h1, h2⟩
 | cons c l ih => exact fun p _ _ => ih _ (Nat.mod_lt _ (by decide)) (Nat.mod_lt _ (by decide))
theorem wrap32 {x : Int} (h0 : 0 ≤ x) (h1 : x < 4294967296) : IntKind.wrap .u32 x = x := by
 simp only [IntKind.wrap, IntKind.bits, IntKind.signed]
 have : x % 4294967296 = x := Int.emod_eq_of_lt h0 h1
 first | simpa using this | (simp; omega)
theorem tmod_nat (a b : Nat) : ((a : Int)).tmod (b : Int) = ((a % b : Nat) : Int) := by
 rw [Int.tmod_eq_emod_of_nonneg (by omega)]
 exact (Int.natCast_emod a b).symm
theorem mark_bytes {bx c : Nat} {l : List UInt8} {k : BK} (hg : h.get bx = some (.cells (l.map fun x => .int .u8 x.toNat) 1 k)) (hl : l.length ≤ 1000000000) :
 cl (Go.Abs.F.mark_Of E) [.slice (some ⟨bx, 0, none⟩) l.length c] h fun r h' => h' = h ∧ r = .int .u32 (((l.foldl markS (1, 0)).2 * 65536 + (l.foldl markS (1, 0)).1 : Nat) : Int) := by
 refine cl_of ?_
 simp only [Go.Abs.F.mark_Of]
 refine cl_of ?_
 have ln : lenD .slice (.slice (some ⟨bx, 0, none⟩) l.length c) h = some (i64 (l.length : Nat)) := rfl
 have c1 : binD .bad .rem true (.int .u32 1) (.int .u32 65536) h = some (.int .u32 1) := by rfl
 have c2 : binD .bad .rem true (.int .u32 1) (.int .u32 65521) h = some (.int .u32 1) := by rfl
 have c3 : binD .bad .quo true (.int .u32 1) (.int .u32 65536) h = some (.int .u32 0) := by rfl
 have c4 : binD .bad .rem true (.int .u32 0) (.int .u32 65521) h = some (.int .u32 0) := by rfl
 simp only [Go.Abs.F.mark_Add, c1, c2, c3, c4, kv_some, ln]
 refine ⟨fun n vs h' => h' = h ∧ ∃ i : Nat, i ≤ l.length ∧ n = l.length - i ∧ vs = [.int .u32 (((l.take i).foldl markS (1, 0)).1 : Nat), .int .u32 (((l.take i).foldl markS (1, 0)).2 : Nat), i64 i], l.length, ⟨rfl, 0, by omega, by omega, rfl⟩, ?_⟩
 rintro n e h1 ⟨rfl, i, hi, rfl, he⟩
 simp only [List.cons.injEq, and_true] at he
 obtain ⟨he1, he2, he3⟩ := he
 obtain ⟨b1, b2⟩ := mark_lt (l.take i) (1, 0) (by decide) (by decide)
 simp only [he1, he2, he3, bin_lss, kv_some, ifV_bool, decide_eq_true_eq]
 by_cases hx : i < l.length
 · rw [if_pos (show ((i : Nat) : Int) < (l.length : Nat) by omega)]
   have hg2 : l[i]? = some l[i] := List.getElem?_eq_getElem hx
   have e1 : indexAddrD (.slice 1) (.slice (some ⟨bx, 0, none⟩) l.length c) (i64 i) = some (ptr bx i) := by
    have b3 : (0 : Int) ≤ (i : Int) ∧ (i : Int) < (l.length : Nat) := by omega
    simp only [indexAddrD, if_pos b3, Int.toNat_natCast, Nat.zero_add, Nat.mul_one]
   have e2 : ldD .one (ptr bx i) h1 = some (.int .u8 (l[i]).toNat) := by
    rw [ld_one, rd_of hg i, List.getElem?_map, hg2]
    rfl
   have hstep : (l.take (i + 1)).foldl markS (1, 0) = markS ((l.take i).foldl markS (1, 0)) l[i] := by
    rw [List.take_add_one, hg2, Option.toList_some, List.foldl_append]
    rfl
   generalize (l.take i).foldl markS (1, 0) = p at b1 b2 hstep ⊢
   have hc := (l[i]).toNat_lt
   generalize l[i] = ch at e2 hstep hc ⊢
   rw [e1, kv_some, e2, kv_some]
   have e3 : (convD (.int .u32) (.int .u8 (ch.toNat : Nat)) h1).map (·.1) = some (.int .u32 (ch.toNat : Nat)) := by
    simp only [convD, Option.map_some]
    rw [wrap32 (by omega) (by omega)]
   rw [e3, kv_some]
   have e4 : IntKind.wrap .u32 ((p.1 : Nat) + (ch.toNat : Nat) : Int) = ((p.1 + ch.toNat : Nat) : Int) := by
    rw [wrap32 (by omega) (by omega)]
    omega
   simp only [bin_add, e4, kv_some, bin_rem]
   rw [if_neg (by decide), kv_some]
   have e5 : ((p.1 + ch.toNat : Nat) : Int).tmod 65521 = (((p.1 + ch.toNat) % 65521 : Nat) : Int) := tmod_nat _ 65521
   rw [e5]
   have hlt := Nat.mod_lt (p.1 + ch.toNat) (show 65521 > 0 by decide)
   have e6 : IntKind.wrap .u32 ((p.2 : Nat) + (((p.1 + ch.toNat) % 65521 : Nat) : Int) : Int) = ((p.2 + (p.1 + ch.toNat) % 65521 : Nat) : Int) := by
    rw [wrap32 (by omega) (by omega)]
    omega
   simp only [bin_add, e6, kv_some, bin_rem]
   rw [if_neg (by decide), kv_some]
   have e7 : ((p.2 + (p.1 + ch.toNat) % 65521 : Nat) : Int).tmod 65521 = (((p.2 + (p.1 + ch.toNat) % 65521) % 65521 : Nat) : Int) := tmod_nat _ 65521
   have e8 : IntKind.wrap .i64 ((i : Nat) + 1 : Int) = ((i + 1 : Nat) : Int) := by
    have := add_i64 (h := h1) (k := .bad) (c := true) (i : Nat) 1 (by omega) (by omega)
    simpa using this
   rw [e7, e8]
   exact ⟨l.length - (i + 1), by omega, trivial, i + 1, by omega, rfl, by rw [hstep]; rfl⟩
 · rw [if_neg (show ¬ ((i : Nat) : Int) < (l.length : Nat) by omega)]
   have hl : l.take i = l := List.take_of_length_le (by omega)
   rw [hl] at b1 b2 ⊢
   generalize l.foldl markS (1, 0) = p at b1 b2 ⊢
   have e4 : IntKind.wrap .u32 ((p.2 : Nat) * 65536 : Int) = ((p.2 * 65536 : Nat) : Int) := by
    rw [wrap32 (by omega) (by omega)]
    omega
   have e5 : IntKind.wrap .u32 (((p.2 * 65536 : Nat) : Int) + (p.1 : Nat)) = ((p.2 * 65536 + p.1 : Nat) : Int) := by
    rw [wrap32 (by omega) (by omega)]
    omega
   simp only [bin_mul, e4, kv_some, bin_add, e5]
   exact ⟨trivial, trivial⟩
theorem name_Shard (s : ByteArray) (hs : s.size ≤ 1000000000) (n : Nat) (hn : 1 ≤ n ∧ n ≤ 1000) : cl (Go.Abs.F.name_Shard E) [str s, i64 n] h fun r h' => r = i64 ((markN s % n : Nat) : Int) ∧ Mod h [] h' [] := by
 refine cl_of ?_
 simp only [Go.Abs.F.name_Shard]
 refine cl_of ?_
 have hn1 : ¬ (n : Int) < 1 := by omega
 have hb : convD .toBytes (str s) h = some (.slice (some ⟨h.next, 0, none⟩) s.size (2 * s.size + 1), h.new (.cells (s.data.toList.map fun x => .int .u8 x.toNat) 1 .str)) := rfl
 simp only [Go.Abs.F.mark_Shards, bin_lss, kv_some, hn1, decide_false, ifV_bool, Bool.false_eq_true, if_false, hb, kP_some]
 have hm : Mod h [] (h.new (.cells (s.data.toList.map fun x => .int .u8 x.toNat) 1 .str)) [] := ⟨by simp, fun x hx _ => by
  have : x ≠ h.next := by omega
  simp [this], by simp, by simp⟩
 have hg : (h.new (.cells (s.data.toList.map fun x => (.int .u8 x.toNat : V)) 1 .str)).get h.next = some (.cells (s.data.toList.map fun x => .int .u8 x.toNat) 1 .str) := by simp
 have hlen : s.data.toList.length = s.size := by rw [Array.length_toList]; rfl
 have hmk := mark_bytes (E := E) (c := 2 * s.size + 1) hg (by omega)
 rw [hlen] at hmk
 refine cl_then hmk ?_
 rintro r h1 ⟨rfl, rfl⟩
 have hN : (s.data.toList.foldl markS (1, 0)).2 * 65536 + (s.data.toList.foldl markS (1, 0)).1 = markN s := rfl
 rw [hN]
 have hlt : markN s < 4294967296 := by
  have := mark_lt s.data.toList (1, 0) (by decide) (by decide)
  unfold markN
  omega
 have w64 : ∀ x : Nat, x < 4294967296 → IntKind.wrap .u64 (x : Int) = x := fun x hx => by simp [IntKind.wrap, IntKind.bits, IntKind.signed]; omega
 have wi64 : ∀ x : Nat, x < 4294967296 → IntKind.wrap .i64 (x : Int) = x := fun x hx => by
  have := add_i64 (h := h) (k := .bad) (c := true) (x : Nat) 0 (by omega) (by omega)
  simpa using this
 simp only [convD, Option.map_some, kv_some, w64 _ hlt, w64 n (by omega), bin_rem]
 rw [if_neg (by omega), kv_some, tmod_nat]
 have hr : markN s % n < 4294967296 := Nat.lt_of_le_of_lt (Nat.mod_le _ _) hlt
 simp only [Option.map_some, wi64 _ hr, kv_some]
 exact ⟨trivial, hm⟩
def clientB (id : IdM) : Bool := decide (0 ≤ id.client) && decide (id.client ≤ 8) && decide (1 ≤ id.seq) && decide (id.seq ≤ 1099511627776)
theorem op_Client_ok (id : IdM) (s : Sep F h L) : cl (Go.Abs.F.op_Client E) [id.agg] h fun r h' => r = .bool (clientB id) ∧ Sep F h' L := by
 refine cl_of ?_
 simp only [Go.Abs.F.op_Client, new2, kP_some]
 have s1 := s.box (cId id) 2
 generalize h.new (.cells (cId id) 2 .rw) = h1 at s1 ⊢
 generalize h.next = bi at s1 ⊢
 have r0 : h1.rd bi 0 = some (i64 id.client) := by rw [rd_of s1.get 0]; rfl
 have r1 : h1.rd bi 1 = some (i64 id.seq) := by rw [rd_of s1.get 1]; rfl
 simp only [fieldAddr_ptr, kv_some, ld_one, Nat.zero_add, r0, bin_geq, gdV_bool, bin_leq, r1]
 unfold clientB
 by_cases a1 : 0 ≤ id.client
 case neg => simp [a1, gdV_bool, pickV_bool, r0, r1]; exact s1.drop
 by_cases a2 : id.client ≤ 8
 case neg => simp [a1, a2, gdV_bool, pickV_bool, r0, r1]; exact s1.drop
 by_cases a3 : 1 ≤ id.seq
 case neg => simp [a1, a2, a3, gdV_bool, pickV_bool, r0, r1]; exact s1.drop
 simp [a1, a2, a3, gdV_bool, pickV_bool, r0, r1]; exact s1.drop
end Go.Abs
namespace Go.Abs
open Go Go.Proofs
variable {E : FE} {F : Fr} {h : AHeap} {L : List Pl}
abbrev Tri := Option Addr × Nat × Nat
def mkS (t : Tri) : V := .slice t.1 t.2.1 t.2.2
def dSl : EL Tri := ⟨1, fun t => [mkS t], fun _ => rfl, fun _ => rfl, by decide⟩
def plSls (v : V) (l : List Tri) : Pl := ⟨fun h f => SlE dSl h f v l, fun _ _ q => q.lt, fun _ _ _ q hl hs => SlE.same q hl hs⟩
def pzI (e : Tri × List Int) : Pl := plI64s (mkS e.1) e.2
def plPts (v : V) (ps : List (List Int)) : Pl := plEx fun (qs : List (Tri × List Int)) => plAll (plPure (qs.map (·.2) = ps) :: plSls v (qs.map (·.1)) :: qs.map pzI)
theorem Sep.openPts {v : V} {ps : List (List Int)} (s : Sep F h (plPts v ps :: L)) : ∃ qs : List (Tri × List Int), qs.map (·.2) = ps ∧ Sep F h (plSls v (qs.map (·.1)) :: (qs.map pzI ++ L)) := by
 obtain ⟨qs, s⟩ := s.ex
 have s1 := s.all
 obtain ⟨e, s2⟩ := Sep.pure (L := plSls v (qs.map (·.1)) :: (qs.map pzI ++ L)) s1
 exact ⟨qs, e, s2⟩
theorem Sep.closePts {v : V} {qs : List (Tri × List Int)} (s : Sep F h (plSls v (qs.map (·.1)) :: (qs.map pzI ++ L))) : Sep F h (plPts v (qs.map (·.2)) :: L) :=
 Sep.mkEx (A := fun (q : List (Tri × List Int)) => plAll (plPure (q.map (·.2) = qs.map (·.2)) :: plSls v (q.map (·.1)) :: q.map pzI)) qs
  (Sep.mkAll (L' := plPure (qs.map (·.2) = qs.map (·.2)) :: plSls v (qs.map (·.1)) :: qs.map pzI) (Sep.mkPure rfl s))
theorem append_int {v : V} {fp : List Nat} {l : List Int} (s : SlE dInt h fp v l) (hsz : l.length ≤ 1000000) (x : Int) :
 ∃ h1, buildSliceD (some (1, [(.int .i64 0)])) 1 [(0, i64 x)] h = some (.slice (some ⟨h.next, 0, none⟩) 1 2, h1) ∧
  ∃ t h2 fp', appendD (some (1, 8, [(.int .i64 0)])) v (.slice (some ⟨h.next, 0, none⟩) 1 2) h1 = some (mkS t, h2) ∧ SlE dInt h2 fp' (mkS t) (l ++ [x]) ∧ Mod h fp h2 fp' := by
 refine ⟨h.new (.cells [i64 x] 1 .rw), rfl, ?_⟩
 have s1 : SlE dInt (h.new (.cells [i64 x] 1 .rw)) fp v l := SlE.same s (by simp) fun y hy => by
  have := s.lt y hy
  have : y ≠ h.next := by omega
  simp [this]
 obtain ⟨v', h', fl', a1, a2, a3⟩ := Sl.append s1 (x := .slice (some ⟨h.next, 0, none⟩) 1 2) (k := 1) (bytes := 8) (z := [.int .i64 0]) (new := [i64 x]) rfl (by decide) (by decide) rfl
  (fun _ => by simp [aSrc, sliceCells, AHeap.rdN, dInt]) rfl rfl (by omega)
 have a2' : SlE dInt h' fl' v' (l ++ [x]) := by
  unfold SlE
  rw [List.length_append, dInt.flat_app]
  exact a2
 obtain ⟨t, rfl⟩ : ∃ t, v' = mkS t := by
  obtain ⟨_, ⟨rfl, _, _⟩ | ⟨b, c, all, rfl, _⟩⟩ := a2
  · exact ⟨(none, 0, 0), rfl⟩
  · exact ⟨(_, _, _), rfl⟩
 exact ⟨t, h', fl', a1, a2', (Mod.newBox (h := h) (fp := fp) s.lt).trans a3⟩
def addP (ps : List (List Int)) (s : Nat) (i : Nat) : List (List Int) := ps.set s (ps.getD s [] ++ [(i : Int)])
def partsF (l : List Oq) (n : Nat) : List (List Int) := l.zipIdx.foldl (fun ps e => addP ps (markN e.1.space % n) e.2) (List.replicate n [])
theorem parts_step (l : List Oq) (n i : Nat) (hi : i < l.length) : partsF (l.take (i + 1)) n = addP (partsF (l.take i) n) (markN l[i].space % n) i := by
 unfold partsF
 rw [List.take_add_one, List.getElem?_eq_getElem hi, Option.toList_some, List.zipIdx_append, List.foldl_append]
 simp [List.length_take, Nat.min_eq_left (Nat.le_of_lt hi)]
theorem foldl_len (n : Nat) (l : List (Oq × Nat)) : ∀ ps : List (List Int), (l.foldl (fun ps e => addP ps (markN e.1.space % n) e.2) ps).length = ps.length := by
 induction l with
 | nil => exact fun _ => rfl
 | cons a l ih => exact fun ps => by rw [List.foldl_cons, ih, addP, List.length_set]
theorem parts_len (l : List Oq) (n : Nat) : (partsF l n).length = n := by
 unfold partsF
 rw [foldl_len, List.length_replicate]
theorem parts_small (l : List (Oq × Nat)) (n : Nat) : ∀ (ps : List (List Int)) (k : Nat), (∀ p ∈ ps, p.length ≤ k) → ∀ p ∈ l.foldl (fun ps e => addP ps (markN e.1.space % n) e.2) ps, p.length ≤ k + l.length := by
 induction l with
 | nil => exact fun ps k h p hp => h p hp
 | cons a l ih =>
  intro ps k hps p hp
  rw [List.foldl_cons] at hp
  have := ih _ (k + 1) (fun q hq => by
   rcases List.mem_or_eq_of_mem_set hq with hq | rfl
   · have := hps q hq; omega
   · rw [List.length_append, List.length_singleton]
     have : (ps.getD (markN a.1.space % n) []).length ≤ k := by
      rw [List.getD_eq_getElem?_getD]
      cases hg : ps[markN a.1.space % n]? with
      | none => simp
      | some q => exact hps q (List.mem_of_getElem? hg)
     omega) p hp
  rw [List.length_cons]
  omega
end Go.Abs
namespace Go.Abs
open Go Go.Proofs
variable {E : FE} {F : Fr} {h : AHeap} {L : List Pl}
theorem Sep.noInts (s : Sep F h L) : Sep F h (plI64s (mkS (none, 0, 0)) [] :: L) :=
 s.alloc (a' := []) (plI64s (mkS (none, 0, 0)) []) (Mod.refl (by simp)) Sl.nil
theorem parts_make {n : Nat} (hn : 1 ≤ n ∧ n ≤ 3) (s : Sep F h L) {K : V → AHeap → Prop} (hK : ∀ r h', Sep F h' (plPts r (List.replicate n []) :: L) → lenD .slice r h' = some (i64 n) → K r h') :
 kP (makeSliceD (some (1, 24, [(.slice none 0 0)])) (i64 n) (i64 n) h) K := by
 have gen : ∀ qs : List (Tri × List Int), qs ≠ [] → (∀ q ∈ qs, q = ((none, 0, 0), [])) → Sep F (h.new (.cells (dSl.flat (qs.map (·.1))) 1 .rw)) (plPts (.slice (some ⟨h.next, 0, none⟩) qs.length (2 * qs.length)) (qs.map (·.2)) :: L) := by
  intro qs hq hall
  refine Sep.closePts ?_
  have hpz : ∀ (l : List (Tri × List Int)), (∀ q ∈ l, q = ((none, 0, 0), [])) → ∀ {g : AHeap}, Sep F g L → Sep F g (l.map pzI ++ L) := by
   intro l
   induction l with
   | nil => exact fun _ _ s => s
   | cons a l ih =>
    intro h1 g s
    rw [h1 a (by simp)]
    exact Sep.noInts (ih (fun q hq => h1 q (by simp [hq])) s)
  have s1 := hpz qs hall s
  have s2 := s1.alloc (a' := [h.next]) (h' := h.new (.cells (dSl.flat (qs.map fun q : Tri × List Int => q.1)) 1 .rw)) (plSls (.slice (some ⟨h.next, 0, none⟩) (qs.map fun q : Tri × List Int => q.1).length (2 * (qs.map fun q : Tri × List Int => q.1).length)) (qs.map fun q : Tri × List Int => q.1)) ⟨by simp, fun x hx _ => by
   have : x ≠ h.next := by omega
   simp [this], by simp, by simp⟩ (SlE.lit dSl h (qs.map fun q : Tri × List Int => q.1) (by simpa using hq))
  rw [List.length_map] at s2
  exact s2
 have h3 : n = 1 ∨ n = 2 ∨ n = 3 := by omega
 rcases h3 with rfl | rfl | rfl
 · exact kP_of (v := .slice (some ⟨h.next, 0, none⟩) 1 2) (g := h.new (.cells (dSl.flat [(none, 0, 0)]) 1 .rw)) rfl (hK _ _ (gen [((none, 0, 0), [])] (by simp) (by simp)) rfl)
 · exact kP_of (v := .slice (some ⟨h.next, 0, none⟩) 2 4) (g := h.new (.cells (dSl.flat [(none, 0, 0), (none, 0, 0)]) 1 .rw)) rfl (hK _ _ (gen [((none, 0, 0), []), ((none, 0, 0), [])] (by simp) (by simp)) rfl)
 · exact kP_of (v := .slice (some ⟨h.next, 0, none⟩) 3 6) (g := h.new (.cells (dSl.flat [(none, 0, 0), (none, 0, 0), (none, 0, 0)]) 1 .rw)) rfl (hK _ _ (gen [((none, 0, 0), []), ((none, 0, 0), []), ((none, 0, 0), [])] (by simp) (by simp)) rfl)
theorem erase_perm {α : Type} (l : List α) {k : Nat} (hk : k < l.length) : l.Perm (l[k] :: l.eraseIdx k) := by
 rw [List.eraseIdx_eq_take_drop_succ]
 have e : l = l.take k ++ l[k] :: l.drop (k + 1) := by rw [← List.drop_eq_getElem_cons hk, List.take_append_drop]
 have p : (l.take k ++ l[k] :: l.drop (k + 1)).Perm (l[k] :: (l.take k ++ l.drop (k + 1))) := List.perm_middle
 exact (List.Perm.of_eq e).trans p
theorem pz_perm {qs : List (Tri × List Int)} {k : Nat} (hk : k < qs.length) : (qs.map pzI).Perm (pzI qs[k] :: (qs.eraseIdx k).map pzI) :=
 (erase_perm qs hk).map pzI
theorem pz_perm' {qs : List (Tri × List Int)} {k : Nat} (hk : k < qs.length) (x : Tri × List Int) : ((qs.set k x).map pzI).Perm (pzI x :: (qs.eraseIdx k).map pzI) := by
 have h1 : k < (qs.set k x).length := by rw [List.length_set]; exact hk
 have := pz_perm h1
 rw [List.getElem_set_self, List.eraseIdx_set_eq] at this
 exact this
theorem parts_add {v : V} {ps : List (List Int)} {k : Nat} (hk : k < ps.length) (hsz : ∀ p ∈ ps, p.length ≤ 1000000) (i : Nat) (s : Sep F h (plPts v ps :: L)) {K : AHeap → Prop}
 (hK : ∀ h', Sep F h' (plPts v (addP ps k i) :: L) → K h') :
kv (indexAddrD (.slice 1) v (i64 (k : Nat))) fun v32_18 =>
kv (ldD .one v32_18 h) fun v33_19 =>
kP (buildSliceD (some (1, [(.int .i64 0)])) 1 [(0, (i64 (i : Nat)))] h) fun v35_20 h =>
kP (appendD (some (1, 8, [(.int .i64 0)])) v33_19 v35_20 h) fun v36_21 h =>
kv (indexAddrD (.slice 1) v (i64 (k : Nat))) fun v37_22 =>
kH (stD (some 1) v37_22 v36_21 h) fun _ h => K h := by
 obtain ⟨qs, rfl, s1⟩ := s.openPts
 rw [List.length_map] at hk
 obtain ⟨f0, q0, _⟩ := s1.head
 have q0 : SlE dSl h f0 v (qs.map (·.1)) := q0
 have hx : (qs.map (·.1))[k]? = some (qs[k]).1 := by rw [List.getElem?_map, List.getElem?_eq_getElem hk]; rfl
 obtain ⟨b, _, a1, _, a3⟩ := q0.at hx
 have a1 : indexAddrD (.slice 1) v (i64 (k : Nat)) = some (ptr b (k * 1)) := a1
 have a3 : h.rd b (k * 1) = some (mkS (qs[k]).1) := a3 0 (by decide)
 rw [a1, kv_some, ld_one, a3, kv_some]
 have hsm : (qs[k]).2.length ≤ 1000000 := hsz _ (List.mem_map.2 ⟨qs[k], List.getElem_mem hk, rfl⟩)
 have s2 : Sep F h (pzI qs[k] :: plSls v (qs.map (·.1)) :: ((qs.eraseIdx k).map pzI ++ L)) :=
  s1.perm (((pz_perm hk).append_right L |>.cons _).trans (List.Perm.swap _ _ _))
 obtain ⟨f1, q1, kk1⟩ := s2.head
 have q1 : SlE dInt h f1 (mkS (qs[k]).1) (qs[k]).2 := q1
 obtain ⟨h1, e1, t, h2, f2, e2, q2, m2⟩ := append_int q1 hsm (i : Int)
 rw [e1, kP_some, e2, kP_some, kv_some]
 have s3 := kk1 (pzI (t, (qs[k]).2 ++ [(i : Int)])) m2 q2
 obtain ⟨f4, q4, kk4⟩ := s3.up1.head
 have q4 : SlE dSl h2 f4 v (qs.map (·.1)) := q4
 obtain ⟨b', h4, c1, c2, q5, m5⟩ := q4.st (i := k) (by rw [List.length_map]; exact hk) t
 have c1 : indexAddrD (.slice 1) v (i64 (k : Nat)) = some (ptr b' (k * 1)) := c1
 rw [a1] at c1
 cases c1
 have c2' : stD (some 1) (ptr b (k * 1)) (mkS t) h2 = some h4 := by
  rw [← c2]
  rfl
 rw [c2', kH_some]
 have s5 := kk4 (plSls v ((qs.map fun q : Tri × List Int => q.1).set k t)) m5 q5
 have e5 : (qs.map fun q : Tri × List Int => q.1).set k t = (qs.set k (t, (qs[k]).2 ++ [(i : Int)])).map (·.1) := by rw [List.map_set]
 rw [e5] at s5
 have s6 : Sep F h4 (plSls v ((qs.set k (t, (qs[k]).2 ++ [(i : Int)])).map (·.1)) :: ((qs.set k (t, (qs[k]).2 ++ [(i : Int)])).map pzI ++ L)) :=
  s5.perm (((pz_perm' hk (t, (qs[k]).2 ++ [(i : Int)])).append_right L).symm.cons _)
 have s7 := Sep.closePts s6
 have e7 : (qs.set k (t, (qs[k]).2 ++ [(i : Int)])).map (·.2) = addP (qs.map (·.2)) k i := by
  unfold addP
  rw [List.map_set, List.getD_eq_getElem?_getD, List.getElem?_map, List.getElem?_eq_getElem hk]
  rfl
 rw [e7] at s7
 exact hK _ s7
theorem op_Parts_ok {v : V} {l : List Oq} {n : Nat} (hn : 1 ≤ n ∧ n ≤ 3) (hl : l.length ≤ 100000) (hz : ∀ o ∈ l, o.space.size ≤ 1000000000) (s : Sep F h (plOps v l :: L)) :
 cl (Go.Abs.F.op_Parts E) [v, i64 n] h fun r h' => Sep F h' (plPts r (partsF l n) :: plOps v l :: L) := by
 refine cl_of ?_
 have h1 : ¬ (n : Int) < 1 := by omega
 have h3 : ¬ (n : Int) > 3 := by omega
 simp only [Go.Abs.F.op_Parts, bin_lss, bin_gtr, kv_some, gdV_bool, h1, h3, decide_false, if_true, pickV_bool, Bool.false_eq_true, if_false, ifV_bool]
 refine parts_make hn s fun w h1 s1 _ => ?_
 obtain ⟨f0, q0, _⟩ := s1.up1.head
 have q0 : SlE dOp h1 f0 v l := q0
 rw [q0.len, kv_some]
 refine ⟨fun m vs h' => ∃ i : Nat, vs = [i64 i] ∧ m = l.length - i ∧ i ≤ l.length ∧ Sep F h' (plPts w (partsF (l.take i) n) :: plOps v l :: L), l.length, ⟨0, rfl, by omega, by omega, by simpa [partsF] using s1⟩, ?_⟩
 rintro m e h2 ⟨i, he, rfl, hi, s2⟩
 simp only [List.cons.injEq, and_true] at he
 simp only [he, bin_lss, kv_some, ifV_bool, decide_eq_true_eq]
 by_cases hx : i < l.length
 case neg =>
  rw [if_neg (show ¬ ((i : Nat) : Int) < (l.length : Nat) by omega)]
  rw [List.take_of_length_le (by omega)] at s2
  exact s2
 rw [if_pos (show ((i : Nat) : Int) < (l.length : Nat) by omega)]
 obtain ⟨f1, q1, _⟩ := s2.up1.head
 have q1 : SlE dOp h2 f1 v l := q1
 have hg : l[i]? = some l[i] := List.getElem?_eq_getElem hx
 obtain ⟨c, i1, i2⟩ := q1.ld hg
 have i1 : indexAddrD (.slice 5) v (i64 (i : Nat)) = _ := i1
 have i2 : ldD (.agg 5) _ _ = some (l[i]).agg := i2
 rw [i1, kv_some, i2, kv_some, newO0, kP_some]
 have s3 := s2.box (⟨0, ⟨#[]⟩, ⟨#[]⟩, ⟨#[]⟩, 0⟩ : Oq).cells 5
 rw [st5 s3.get, kH_some]
 have s4 := s3.write (cs' := (l[i]).cells)
 generalize AHeap.put _ _ _ = h4 at s4 ⊢
 generalize h2.next = bx at s4 ⊢
 have r1 : h4.rd bx 1 = some (str (l[i]).space) := by rw [rd_of s4.get 1]; rfl
 simp only [fieldAddr_ptr, kv_some, ld_one, Nat.zero_add, r1]
 refine cl_then (name_Shard (l[i]).space (hz _ (List.getElem_mem hx)) n (by omega)) ?_
 rintro r h5 ⟨rfl, m5⟩
 have s5 := (s4.skip m5).drop
 have hk : markN (l[i]).space % n < (partsF (l.take i) n).length := by rw [parts_len]; exact Nat.mod_lt _ (by omega)
 refine parts_add hk (fun p hp => ?_) i s5 fun h6 s6 => ?_
 · have := parts_small (l.take i).zipIdx n (List.replicate n []) 0 (fun p hp => by rw [(List.mem_replicate.1 hp).2]; simp) p hp
   rw [List.length_zipIdx, List.length_take] at this
   omega
 · rw [← parts_step l n i hx] at s6
   rw [add_i64 _ 1 (by omega) (by omega), kv_some]
   exact ⟨l.length - (i + 1), by omega, i + 1, by simp, rfl, by omega, s6⟩
end Go.Abs
namespace Go.Abs
open Go
def SlO (h : AHeap) (fp : List Nat) (v : V) (es n : Nat) (cs : List V) : Prop :=
 cs.length = n * es ∧ ((v = .slice none 0 0 ∧ n = 0 ∧ fp = []) ∨
  ∃ b o c all k, v = .slice (some ⟨b, o, none⟩) n c ∧ fp = [b] ∧ b < h.next ∧ n ≤ c / 2 ∧ h.get b = some (.cells all es k) ∧ k ≠ .ro ∧ o + c / 2 * es ≤ all.length ∧ (all.drop o).take (n * es) = cs)
variable {h : AHeap} {fp : List Nat} {v : V} {es n : Nat} {cs : List V}
theorem Sl.toO (s : Sl h fp v es n cs) : SlO h fp v es n cs := by
 obtain ⟨h0, ⟨rfl, rfl, rfl⟩ | ⟨b, c, all, rfl, rfl, hb, h1, h2, h3, h4⟩⟩ := s
 · exact ⟨h0, .inl ⟨rfl, rfl, rfl⟩⟩
 · exact ⟨h0, .inr ⟨b, 0, c, all, .rw, rfl, rfl, hb, h1, h2, by decide, by omega, by simpa using h4⟩⟩
theorem SlO.lt (s : SlO h fp v es n cs) : ∀ x ∈ fp, x < h.next := by
 obtain ⟨_, ⟨rfl, rfl, rfl⟩ | ⟨b, o, c, all, k, rfl, rfl, hb, _⟩⟩ := s
 · simp
 · simpa using hb
theorem SlO.same {h' : AHeap} (s : SlO h fp v es n cs) (hl : h.next ≤ h'.next) (hs : ∀ x ∈ fp, h'.get x = h.get x) : SlO h' fp v es n cs := by
 obtain ⟨h0, ⟨rfl, rfl, rfl⟩ | ⟨b, o, c, all, k, rfl, rfl, hb, h1, h2, h3⟩⟩ := s
 · exact ⟨h0, .inl ⟨rfl, rfl, rfl⟩⟩
 · exact ⟨h0, .inr ⟨b, o, c, all, k, rfl, rfl, by omega, h1, by rw [hs b (by simp), h2], h3⟩⟩
theorem SlO.nil : SlO h [] (.slice none 0 0) es 0 [] := ⟨by simp, .inl ⟨rfl, rfl, rfl⟩⟩
theorem SlO.len (s : SlO h fp v es n cs) : lenD .slice v h = some (i64 n) := by
 obtain ⟨h0, ⟨rfl, rfl, rfl⟩ | ⟨b, o, c, all, k, rfl, rfl, hb, _⟩⟩ := s <;> rfl
theorem SlO.src (s : SlO h fp v es n cs) : aLenOf v = some n ∧ aSrc es v h = some cs := by
 obtain ⟨h0, ⟨rfl, rfl, rfl⟩ | ⟨b, o, c, all, k, rfl, rfl, hb, h1, h2, hk, h3, h4⟩⟩ := s
 · refine ⟨rfl, ?_⟩
   have : cs = [] := by simpa using h0
   subst this; rfl
 · refine ⟨rfl, ?_⟩
   show h.rdN b o (n * es) = some cs
   have := Nat.mul_le_mul_right es h1
   rw [rdN_of h2, if_pos (by omega), h4]
theorem SlO.post (s : SlO h fp v es n cs) {k : Nat} {t : IntKind} (hk : k = 0 ∨ k < n) : ∃ v', sliceD (.slice es) v (some (.int t k)) none none h = some v' ∧ SlO h fp v' es (n - k) (cs.drop (k * es)) := by
 obtain ⟨h0, ⟨rfl, rfl, rfl⟩ | ⟨b, o, c, all, bk, rfl, rfl, hb, h1, h2, h5, h3, h4⟩⟩ := s
 · obtain rfl : k = 0 := by omega
   have : cs = [] := by simpa using h0
   subst this
   exact ⟨.slice none 0 0, by simp [sliceD, aBoundO, aBound], by simp, .inl ⟨rfl, rfl, rfl⟩⟩
 · have hkn : k ≤ n := by omega
   have hsl : sliceD (.slice es) (.slice (some ⟨b, o, none⟩) n c) (some (.int t k)) none none h =
    if k = 0 then some (.slice (some ⟨b, o, none⟩) n c) else if k < c / 2 then some (.slice (some ⟨b, o + k * es, none⟩) (n - k) (c - 2 * k))
    else if c % 2 = 0 then some (.slice (some ⟨b, o, none⟩) (n - k) 0) else some (.slice none 0 1) := by
    simp [sliceD, aBoundO, aBound, h2, hkn]
   rw [hsl]
   by_cases hk0 : k = 0
   · subst hk0
     exact ⟨_, if_pos rfl, by simpa using h0, .inr ⟨b, o, c, all, bk, rfl, rfl, hb, by omega, h2, h5, h3, by simpa using h4⟩⟩
   · have hk1 : k < c / 2 := by omega
     rw [if_neg hk0, if_pos hk1]
     have e1 : (c - 2 * k) / 2 = c / 2 - k := by omega
     have e2 : k * es + (c / 2 - k) * es = c / 2 * es := by rw [← Nat.add_mul, show k + (c / 2 - k) = c / 2 by omega]
     have e3 : k * es + (n - k) * es = n * es := by rw [← Nat.add_mul, show k + (n - k) = n by omega]
     refine ⟨_, rfl, by rw [List.length_drop, h0, Nat.sub_mul], .inr ⟨b, o + k * es, c - 2 * k, all, bk, rfl, rfl, hb, by omega, h2, h5, by rw [e1]; omega, ?_⟩⟩
     rw [← h4, List.drop_take, List.drop_drop, Nat.sub_mul]
theorem SlO.at (s : SlO h fp v es n cs) {i : Nat} (hi : i < n) :
 ∃ b o, fp = [b] ∧ indexAddrD (.slice es) v (i64 i) = some (ptr b (o + i * es)) ∧ h.rdN b (o + i * es) es = some ((cs.drop (i * es)).take es) ∧ ∀ k, k < es → h.rd b (o + i * es + k) = cs[i * es + k]? := by
 obtain ⟨h0, ⟨rfl, h1, rfl⟩ | ⟨b, o, c, all, bk, rfl, rfl, hb, hc, h2, h5, h3, h4⟩⟩ := s
 · omega
 have h6 := Nat.mul_le_mul_right es hc
 have h7 : i * es + es ≤ n * es := by
  have := Nat.mul_le_mul_right es (show i + 1 ≤ n by omega)
  rwa [Nat.add_mul, Nat.one_mul] at this
 have b1 : (0 : Int) ≤ (i : Int) ∧ (i : Int) < (n : Nat) := by omega
 refine ⟨b, o, rfl, by simp only [indexAddrD, if_pos b1, Int.toNat_natCast], ?_, fun k hk => ?_⟩
 · rw [rdN_of h2, if_pos (by omega), ← h4, List.drop_take, List.take_take, List.drop_drop, Nat.min_eq_left (by omega)]
 · rw [rd_of h2, ← h4, List.getElem?_take, if_pos (by omega), List.getElem?_drop, Nat.add_assoc]
theorem SlO.append (s : SlO h fp v es n cs) {x : V} {k bytes : Nat} {z : List V} {new : List V} (hz : z.length = es) (he : 0 < es) (hby : bytes ≤ 64) (hx : aLenOf x = some k) (hs : k ≠ 0 → aSrc es x h = some new)
 (hn : new.length = k * es) (h1 : new.all oneCell = true) (hsum : n + k ≤ 1099511627776) :
 ∃ v' h' fp', appendD (some (es, bytes, z)) v x h = some (v', h') ∧ SlO h' fp' v' es (n + k) (cs ++ new) ∧ Mod h fp h' fp' := by
 have hlt := s.lt
 obtain ⟨h0, ⟨rfl, rfl, rfl⟩ | ⟨b, o, c, all, bk, rfl, rfl, hb, hc, h2, h5, h3, h4⟩⟩ := s
 · have : cs = [] := by simpa using h0
   subst this
   obtain ⟨v', h', fp', a1, a2, a3⟩ := Sl.append (h := h) (Sl.nil (es := es)) hz he hby hx hs hn h1 hsum
   exact ⟨v', h', fp', a1, a2.toO, a3⟩
 · have hcs : cs.length = n * es := h0
   simp only [appendD, hx, he, hby, hz, and_self, if_true]
   by_cases hk : k = 0
   · subst hk
     have : new = [] := by simpa using hn
     subst this
     exact ⟨_, _, [b], if_pos rfl, ⟨by simp [h0], .inr ⟨b, o, c, all, bk, rfl, rfl, hb, by omega, h2, h5, h3, by simp [h4]⟩⟩, Mod.refl hlt⟩
   · rw [if_neg hk]
     have hlen := Nat.mul_le_mul_right es hc
     by_cases hfit : n + k ≤ c / 2
     · rw [if_pos hfit, hs hk, h2]
       have hfl : o + n * es + new.length ≤ all.length := by
        have := Nat.mul_le_mul_right es hfit
        rw [Nat.add_mul] at this
        omega
       have hw : h.wr b (o + n * es) new = some (h.put b (.cells (setList all (o + n * es) new) es bk)) := by
        simp [AHeap.wr, h2, hfl, h5]
       simp only [h1, and_self, if_true, hw, Option.map_some]
       refine ⟨_, _, [b], rfl, ⟨by simp [h0, hn, Nat.add_mul], .inr ⟨b, o, c, setList all (o + n * es) new, bk, rfl, rfl, hb, hfit, by simp, h5, by rw [setList_length]; exact h3, ?_⟩⟩, by simp, fun x _ hx => ?_, fun x hx => .inl hx, hlt⟩
       · rw [setList_eq all new (o + n * es) hfl, List.append_assoc, List.drop_append_of_le_length (by simp; omega)]
         have e1 : (all.take (o + n * es)).drop o = cs := by rw [← h4, List.drop_take]; congr 1; omega
         rw [e1, Nat.add_mul, ← hn, ← h0, ← List.append_assoc, ← List.length_append, List.take_left]
       · simp at hx; simp [hx]
     · rw [if_neg hfit, if_pos hsum, hs hk]
       have hrd : h.rdN b o (n * es) = some cs := by
        rw [rdN_of h2, if_pos (by omega), h4]
       simp only [hrd, h2]
       have fin : ∀ h' k', (h' = h ∨ h' = h.kill b) → k' ≠ .ro → ∃ fp', SlO (h'.new (.cells (cs ++ new) es k')) fp' (.slice (some ⟨h.next, 0, none⟩) (n + k) (2 * (n + k) + 1)) es (n + k) (cs ++ new) ∧ Mod h [b] (h'.new (.cells (cs ++ new) es k')) fp' := by
        intro h' k' hh hk'
        have hnx : h'.next = h.next := by rcases hh with rfl | rfl <;> rfl
        refine ⟨[h.next], ⟨by simp [h0, hn, Nat.add_mul], .inr ⟨h.next, 0, _, cs ++ new, k', rfl, rfl, by simp [hnx], by omega, by simp [hnx], hk', ?_, ?_⟩⟩, by simp [hnx], fun x hx hb => ?_, by simp, by simp [hnx]⟩
        · rw [show (2 * (n + k) + 1) / 2 = n + k by omega]; simp [h0, hn, Nat.add_mul]
        · rw [List.drop_zero, Nat.add_mul, ← h0, ← hn, ← List.length_append, List.take_length]
        · simp at hb
          have : x ≠ h.next := by omega
          rcases hh with rfl | rfl <;> simp [hnx, this, hb]
       split
       · obtain ⟨fp', a, b'⟩ := fin h .rw (.inl rfl) (by decide)
         exact ⟨_, _, fp', rfl, a, b'⟩
       · obtain ⟨fp', a, b'⟩ := fin (h.kill b) (if o = 0 then bk else .rs) (.inr rfl) (by split <;> first | exact h5 | decide)
         simp only [h1, h5, ne_eq, not_false_eq_true, and_self, if_true]
         exact ⟨_, _, fp', rfl, a, b'⟩
end Go.Abs
namespace Go.Abs
open Go
structure RD (β : Type) where
 D : EL β
 I : β → List Pl
def SlEO {α : Type} (D : EL α) (h : AHeap) (fp : List Nat) (v : V) (l : List α) : Prop := SlO h fp v D.es l.length (D.flat l)
def plSlO {α : Type} (D : EL α) (v : V) (l : List α) : Pl := ⟨fun h f => SlEO D h f v l, fun _ _ q => SlO.lt q, fun _ _ _ q hl hs => SlO.same q hl hs⟩
def plRow {β : Type} (R : RD β) (v : V) (qs : List β) : Pl := plAll (plSlO R.D v qs :: qs.flatMap R.I)
variable {F : Fr} {h : AHeap} {L : List Pl} {β : Type} {R : RD β} {v w : V} {qs ws : List β}
theorem Sep.openRow (s : Sep F h (plRow R v qs :: L)) : Sep F h (plSlO R.D v qs :: (qs.flatMap R.I ++ L)) := s.all
theorem Sep.closeRow (s : Sep F h (plSlO R.D v qs :: (qs.flatMap R.I ++ L))) : Sep F h (plRow R v qs :: L) := Sep.mkAll (L' := plSlO R.D v qs :: qs.flatMap R.I) s
theorem Sep.rowNil (s : Sep F h L) : Sep F h (plRow R (.slice none 0 0) [] :: L) :=
 Sep.closeRow (s.alloc (a' := []) (plSlO R.D (.slice none 0 0) []) (Mod.refl (by simp)) SlO.nil)
theorem Sep.rowRaw (s : Sep F h (plRow R v qs :: L)) : ∃ fp, SlEO R.D h fp v qs := by
 obtain ⟨f, q, _⟩ := s.openRow.head
 exact ⟨f, q⟩
theorem Sep.rowLen (s : Sep F h (plRow R v qs :: L)) : lenD .slice v h = some (i64 qs.length) := by
 obtain ⟨f, q⟩ := s.rowRaw
 exact SlO.len q
theorem SlEO.at {α : Type} {D : EL α} {fp : List Nat} {l : List α} (q : SlEO D h fp v l) {i : Nat} {x : α} (hi : l[i]? = some x) :
 ∃ b o, indexAddrD (.slice D.es) v (i64 i) = some (ptr b o) ∧ h.rdN b o D.es = some (D.enc x) ∧ ∀ k, k < D.es → h.rd b (o + k) = (D.enc x)[k]? := by
 have hil : i < l.length := (List.getElem?_eq_some_iff.1 hi).1
 obtain ⟨b, o, _, a1, a2, a3⟩ := SlO.at q hil
 have hr := D.row hi
 refine ⟨b, _, a1, by rw [a2, hr], fun k hk => ?_⟩
 rw [a3 k hk, ← hr, List.getElem?_take, if_pos hk, List.getElem?_drop]
theorem Sep.rowAt (s : Sep F h (plRow R v qs :: L)) {i : Nat} {x : β} (hi : qs[i]? = some x) :
 ∃ b o, indexAddrD (.slice R.D.es) v (i64 i) = some (ptr b o) ∧ h.rdN b o R.D.es = some (R.D.enc x) ∧ (∀ k, k < R.D.es → h.rd b (o + k) = (R.D.enc x)[k]?) ∧ ∀ A ∈ R.I x, ∃ f, A.P h f := by
 obtain ⟨f, q⟩ := s.rowRaw
 obtain ⟨b, o, a1, a2, a3⟩ := q.at hi
 refine ⟨b, o, a1, a2, a3, fun A hA => s.openRow.memP ?_⟩
 refine List.mem_cons_of_mem _ (List.mem_append.2 (.inl (List.mem_flatMap.2 ⟨x, List.mem_of_getElem? hi, hA⟩)))
theorem Sep.rowSnoc {x : β} {bytes : Nat} {z : List V} (s : Sep F h (plRow R v qs :: (R.I x ++ L))) (hz : z.length = R.D.es) (hby : bytes ≤ 64) (hx : aLenOf w = some 1) (hw : aSrc R.D.es w h = some (R.D.enc x)) (hsz : qs.length ≤ 1000000) :
 ∃ v' h', appendD (some (R.D.es, bytes, z)) v w h = some (v', h') ∧ Sep F h' (plRow R v' (qs ++ [x]) :: L) := by
 obtain ⟨f, q, k⟩ := s.openRow.head
 obtain ⟨v', h', fp', a1, a2, a3⟩ := SlO.append (new := R.D.enc x) q hz R.D.pos hby hx (fun _ => hw) (by rw [R.D.len, Nat.one_mul]) (R.D.one x) (by omega)
 refine ⟨v', h', a1, ?_⟩
 have a2' : SlEO R.D h' fp' v' (qs ++ [x]) := by
  unfold SlEO
  rw [List.length_append, R.D.flat_app]
  simpa using a2
 have s2 := k (plSlO R.D v' (qs ++ [x])) a3 a2'
 refine Sep.closeRow ?_
 rw [List.flatMap_append, List.append_assoc]
 simpa using s2
theorem Sep.rowCut (s : Sep F h (plRow R v qs :: L)) {k : Nat} {t : IntKind} (hk : k = 0 ∨ k < qs.length) : ∃ v', sliceD (.slice R.D.es) v (some (.int t k)) none none h = some v' ∧ Sep F h (plRow R v' (qs.drop k) :: L) := by
 obtain ⟨f, q, kk⟩ := s.openRow.head
 obtain ⟨v', a1, a2⟩ := SlO.post (t := t) q hk
 refine ⟨v', a1, ?_⟩
 have a2' : SlEO R.D h f v' (qs.drop k) := by
  unfold SlEO
  rw [List.length_drop, ← R.D.flat_drop]
  exact a2
 have s2 := kk (plSlO R.D v' (qs.drop k)) (Mod.refl (SlO.lt q)) a2'
 have e : qs.flatMap R.I = (qs.take k).flatMap R.I ++ (qs.drop k).flatMap R.I := by rw [← List.flatMap_append, List.take_append_drop]
 rw [e, List.append_assoc] at s2
 refine Sep.closeRow ?_
 have p : (plSlO R.D v' (qs.drop k) :: ((qs.take k).flatMap R.I ++ ((qs.drop k).flatMap R.I ++ L))).Perm ((qs.take k).flatMap R.I ++ (plSlO R.D v' (qs.drop k) :: ((qs.drop k).flatMap R.I ++ L))) := List.perm_middle.symm
 exact (s2.perm p).dropL
theorem Sep.rowApp {bytes : Nat} {z : List V} (s : Sep F h (plRow R v qs :: plRow R w ws :: L)) (hz : z.length = R.D.es) (hby : bytes ≤ 64) (hsz : qs.length + ws.length ≤ 1000000) :
 ∃ v' h', appendD (some (R.D.es, bytes, z)) v w h = some (v', h') ∧ Sep F h' (plRow R v' (qs ++ ws) :: L) := by
 have s1 := s.up1.openRow
 obtain ⟨g, qw, _⟩ := s1.head
 have qw : SlEO R.D h g w ws := qw
 obtain ⟨hx, hw⟩ := SlO.src qw
 have p : (ws.flatMap R.I ++ (plRow R v qs :: L)).Perm (plRow R v qs :: (ws.flatMap R.I ++ L)) := List.perm_middle
 have s2 := (s1.drop.perm p).openRow
 obtain ⟨f, q, k⟩ := s2.head
 obtain ⟨v', h', fp', a1, a2, a3⟩ := SlO.append (new := R.D.flat ws) q hz R.D.pos hby hx (fun _ => hw) (R.D.flat_len ws) (R.D.flat_one ws) (by omega)
 refine ⟨v', h', a1, ?_⟩
 have a2' : SlEO R.D h' fp' v' (qs ++ ws) := by
  unfold SlEO
  rw [List.length_append, R.D.flat_app]
  exact a2
 have s3 := k (plSlO R.D v' (qs ++ ws)) a3 a2'
 refine Sep.closeRow ?_
 rw [List.flatMap_append, List.append_assoc]
 exact s3
theorem Sep.rowPush {x : β} {bytes : Nat} {z : List V} {a : V} (s : Sep F h (plRow R v qs :: (R.I x ++ L))) (hb : buildSliceD (some (R.D.es, z)) 1 [(0, a)] h = some (.slice (some ⟨h.next, 0, none⟩) 1 2, h.new (.cells (R.D.enc x) R.D.es .rw))) (hz : z.length = R.D.es) (hby : bytes ≤ 64) (hsz : qs.length ≤ 1000000)
 {K : V → AHeap → Prop} (hK : ∀ v' h', Sep F h' (plRow R v' (qs ++ [x]) :: L) → K v' h') : kP (buildSliceD (some (R.D.es, z)) 1 [(0, a)] h) fun w h => kP (appendD (some (R.D.es, bytes, z)) v w h) K := by
 rw [hb, kP_some]
 have m : Mod h [] (h.new (.cells (R.D.enc x) R.D.es .rw)) [] := ⟨by simp, fun y hy _ => by
  have : y ≠ h.next := by omega
  simp [this], by simp, by simp⟩
 have hl := R.D.len x
 have hw : aSrc R.D.es (.slice (some ⟨h.next, 0, none⟩) 1 2) (h.new (.cells (R.D.enc x) R.D.es .rw)) = some (R.D.enc x) := by
  have : (h.new (.cells (R.D.enc x) R.D.es .rw)).get h.next = some (.cells (R.D.enc x) R.D.es .rw) := by simp
  simp only [aSrc, sliceCells]
  rw [rdN_of this, if_pos (by omega), List.drop_zero, Nat.one_mul, List.take_of_length_le (by omega)]
 obtain ⟨v', h', e, s'⟩ := Sep.rowSnoc (s.skip m) hz hby rfl hw hsz
 rw [e, kP_some]
 exact hK v' h' s'
end Go.Abs

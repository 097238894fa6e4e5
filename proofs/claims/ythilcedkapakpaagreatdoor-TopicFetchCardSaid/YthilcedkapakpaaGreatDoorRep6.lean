/- Specs on abstract heaps, part 6: slices.IndexFunc; queues: Ack. -/
import Derived.Test.YthilcedkapakpaaGreatDoorRep5
set_option linter.unusedSimpArgs false
set_option linter.unusedVariables false
namespace Go.Abs
open Go

variable {E : FE} {h : AHeap} {fp : List Nat} {p : V} {most next : Int} {items lost : List Msg}

theorem aCall_mono {I : FuncId → Option Spec} (hM : MonoI I) {f : V} {args : List V} {h : AHeap} {K K' : V → AHeap → Prop} (hk : ∀ v h, K v h → K' v h) (hn : aCall I f args h K) : aCall I f args h K' := by
  unfold aCall at hn ⊢
  split
  · rename_i g first captured
    simp only at hn
    cases hg : I g with
    | none => simp only [hg] at hn
    | some s => simp only [hg] at hn ⊢; exact hM g s hg _ _ _ _ hk hn
  · rename_i hf
    split at hn
    · exact absurd rfl (hf _ _ _)
    · exact hn

theorem Mod.keepMs {h' : AHeap} {fp fp' : List Nat} {v : V} {l : List Msg} (m : Mod h [] h' fp') (s : Ms h fp v l) : Ms h' fp v l :=
  s.same m.next fun x hx => m.same x (s.lt x hx) (by simp)

theorem indexFunc_msg {v f : V} {l : List Msg} (hM : MonoI E.I) (s : Ms h fp v l) (hsz : l.length ≤ 1000000) (P : Msg → Bool)
    (hf : ∀ h', Mod h [] h' [] → ∀ m ∈ l, aCall E.I f [m.agg] h' fun r h'' => r = .bool (P m) ∧ Mod h' [] h'' []) :
    cl (F.slices_IndexFunc_Sapi_Msg_api_Msg E) [v, f] h fun r h' => Mod h [] h' [] ∧ r = i64 (match l.findIdx? P with | some i => (i : Int) | none => -1) := by
  refine cl_of ?_
  have hlen := Sl.len s
  simp only [F.slices_IndexFunc_Sapi_Msg_api_Msg, hlen, kv_some]
  refine ⟨fun k vs h' => ∃ i : Nat, vs = [i64 i] ∧ k = l.length - i ∧ i ≤ l.length ∧ Mod h [] h' [] ∧ ∀ j m, j < i → l[j]? = some m → P m = false, l.length, ⟨0, rfl, by simp, by simp, Mod.refl (by simp), by simp⟩, ?_⟩
  rintro k e h' ⟨i, hi, rfl, hle, md, hno⟩
  simp only [List.cons.injEq, and_true] at hi
  simp only [hi, bin_lss, kv_some, ifV_bool]
  by_cases hlt : i < l.length
  · have : ((i : Nat) : Int) < (l.length : Nat) := by omega
    simp only [this, decide_true, if_true]
    have hget : l[i]? = some l[i] := List.getElem?_eq_getElem hlt
    obtain ⟨bl, i1, i2, i3, _⟩ := Ms.at (md.keepMs s) hget
    simp only [i1, kv_some, i3]
    refine aCall_mono hM ?_ (hf h' md l[i] (List.getElem_mem hlt))
    rintro r h'' ⟨rfl, md2⟩
    have md3 : Mod h [] h'' [] := md.trans md2
    simp only [ifV_bool]
    cases hp : P l[i] with
    | true =>
      simp only [if_true]
      refine ⟨md3, ?_⟩
      have : l.findIdx? P = some i := by
        rw [List.findIdx?_eq_some_iff_getElem]
        refine ⟨hlt, hp, fun j hj => ?_⟩
        have := hno j l[j] hj (List.getElem?_eq_getElem (by omega))
        simp [this]
      rw [this]
    | false =>
      have w : IntKind.i64.wrap ((i : Int) + 1) = ((i + 1 : Nat) : Int) := by rw [wrap_i64 (by omega) (by omega)]; omega
      simp only [Bool.false_eq_true, if_false, bin_add, w, kv_some]
      refine ⟨l.length - (i + 1), by omega, i + 1, rfl, rfl, by omega, md3, fun j m hj hm => ?_⟩
      by_cases hji : j = i
      · subst hji; rw [hget] at hm; cases hm; exact hp
      · exact hno j m (by omega) hm
  · have : ¬ ((i : Nat) : Int) < (l.length : Nat) := by omega
    simp only [this, decide_false, Bool.false_eq_true, if_false]
    refine ⟨md, ?_⟩
    have : l.findIdx? P = none := by
      rw [List.findIdx?_eq_none_iff]
      intro x hx
      obtain ⟨j, hj, rfl⟩ := List.getElem_of_mem hx
      exact hno j _ (by omega) (List.getElem?_eq_getElem hj)
    rw [this]

theorem ack_closure (m : Msg) {c1 c2 c3 : Nat} {id tok now : Int} (l1 : c1 < h.next) (l2 : c2 < h.next) (l3 : c3 < h.next) (g1 : h.rd c1 0 = some (i64 id)) (g2 : h.rd c2 0 = some (i64 tok)) (g3 : h.rd c3 0 = some (i64 now)) :
    cl (F.queue_Queue_Ack_1 E) [m.agg, ptr c1 0, ptr c2 0, ptr c3 0] h fun r h' => r = .bool (m.id == id && m.count == tok && decide (m.till > now)) ∧ Mod h [] h' [] := by
  refine cl_of ?_
  have e0 : newD none m.agg h = some (ptr h.next 0, h.new (.cells m.cells 4 .rw)) := rfl
  have gn : (h.new (.cells m.cells 4 .rw)).get h.next = some (.cells m.cells 4 .rw) := by simp
  have kp : ∀ c, c < h.next → (h.new (.cells m.cells 4 .rw)).rd c 0 = h.rd c 0 := fun c hc => by
    have : c ≠ h.next := by omega
    simp [AHeap.rd, this]
  have r0 : (h.new (.cells m.cells 4 .rw)).rd h.next 0 = some (i64 m.id) := by rw [rd_of gn]; rfl
  have r2 : (h.new (.cells m.cells 4 .rw)).rd h.next 2 = some (i64 m.count) := by rw [rd_of gn]; rfl
  have r3 : (h.new (.cells m.cells 4 .rw)).rd h.next 3 = some (i64 m.till) := by rw [rd_of gn]; rfl
  have md : Mod h [] (h.new (.cells m.cells 4 .rw)) [] := Mod.newBox (by simp)
  simp only [F.queue_Queue_Ack_1, e0, kP_some, fieldAddr_ptr, kv_some, ld_one, Nat.zero_add, r0, kp c1 l1, g1, bin_eql, gdV_bool]
  cases hid : m.id == id with
  | false => simp [md]
  | true =>
    simp only [if_true, kv_some, ld_one, r2, kp c2 l2, g2, bin_eql, pickV_bool, gdV_bool]
    cases htok : m.count == tok with
    | false => simp [md]
    | true =>
      simp only [if_true, kv_some, ld_one, r3, kp c3 l3, g3, bin_gtr, pickV_bool]
      exact ⟨by simp, md⟩

theorem rd_keep {h' : AHeap} {fp' : List Nat} (m : Mod h [] h' fp') {c o : Nat} (hc : c < h.next) : h'.rd c o = h.rd c o := by
  simp only [AHeap.rd, m.same c hc (by simp)]

theorem Mod.empty {h' : AHeap} {fp fp' : List Nat} (m : Mod h [] h' fp') (hl : ∀ x ∈ fp, x < h.next) : Mod h fp h' fp :=
  ⟨m.next, fun x hx _ => m.same x hx (by simp), fun x hx => .inl hx, fun x hx => Nat.lt_of_lt_of_le (hl x hx) m.next⟩

def ackP (id tok now : Int) (m : Msg) : Bool := m.id == id && m.count == tok && decide (m.till > now)

theorem queue_Ack {E0 : FE} (hM : MonoI E.I) (hE : E.I (E.k 0) = some (cl (F.queue_Queue_Ack_1 E0))) (q : Qu h fp p most next items lost) (id tok now : Int) (hsz : items.length ≤ 1000000) :
    cl (F.queue_Queue_Ack E) [p, i64 id, i64 tok, i64 now] h fun r h' => match items.findIdx? (ackP id tok now) with
      | some i => r = .bool true ∧ Qu h' fp p most next (items.eraseIdx i) lost ∧ Mod h fp h' fp
      | none => r = .bool false ∧ Qu h' fp p most next items lost ∧ Mod h fp h' fp := by
  have hlt := q.lt
  refine cl_of ?_
  have e0 : ∀ (g : AHeap) (n : Int), newD none (i64 n) g = some (ptr g.next 0, g.new (.cells [i64 n] 1 .rw)) := fun _ _ => rfl
  simp only [F.queue_Queue_Ack, e0, kP_some, new_next]
  generalize hA : ((h.new (.cells [i64 id] 1 .rw)).new (.cells [i64 tok] 1 .rw)).new (.cells [i64 now] 1 .rw) = hA'
  have nA : hA'.next = h.next + 3 := by rw [← hA]; rfl
  have kA : ∀ x, x < h.next → hA'.get x = h.get x := fun x hx => by
    rw [← hA]
    have a1 : x ≠ h.next := by omega
    have a2 : x ≠ h.next + 1 := by omega
    have a3 : x ≠ h.next + 1 + 1 := by omega
    simp [a1, a2, a3]
  have r1 : hA'.rd h.next 0 = some (i64 id) := by
    rw [← hA]
    have a2 : ¬ h.next = h.next + 1 + 1 := by omega
    simp [AHeap.rd, a2]
  have r2 : hA'.rd (h.next + 1) 0 = some (i64 tok) := by rw [← hA]; simp [AHeap.rd]
  have r3 : hA'.rd (h.next + 1 + 1) 0 = some (i64 now) := by rw [← hA]; simp [AHeap.rd]
  have qA : Qu hA' fp p most next items lost := q.mod (by omega) kA
  have mA : Mod h fp hA' fp := ⟨by omega, fun x hx _ => kA x hx, fun x hx => .inl hx, fun x hx => by have := hlt x hx; omega⟩
  obtain ⟨b, fi, fl, vi, vl, rfl, rfl, hb, h1, h2, h3, h4, h5, h6⟩ := qA
  simp only [ptr_eq_nil, kv_some, ifV_bool, Bool.false_eq_true, if_false, aNil_ptr, fieldAddr_ptr, ld_one, rd_of h1, Nat.zero_add, List.getElem?_cons_succ, List.getElem?_cons_zero]
  refine cl_then (indexFunc_msg (E := E) hM h2 hsz (ackP id tok now) (fun h' md m _ => ?_)) ?_
  · have := ack_closure (E := E0) (h := h') m (c1 := h.next) (c2 := h.next + 1) (c3 := h.next + 1 + 1) (by have := md.next; omega) (by have := md.next; omega) (by have := md.next; omega)
      (by rw [rd_keep md (by omega)]; exact r1) (by rw [rd_keep md (by omega)]; exact r2) (by rw [rd_keep md (by omega)]; exact r3)
    simp only [aCall, hE]
    exact this
  · rintro r hB ⟨md, rfl⟩
    have qB : Qu hB (b :: (fi ++ fl)) (ptr b 0) most next items lost := ⟨b, fi, fl, vi, vl, rfl, rfl, by have := md.next; omega, by rw [md.same b hb (by simp)]; exact h1, md.keepMs h2, md.keepMs h3, h4, h5, h6⟩
    have mB : Mod h (b :: (fi ++ fl)) hB (b :: (fi ++ fl)) := mA.trans (md.empty mA.lt)
    cases hf : items.findIdx? (ackP id tok now) with
    | none =>
      simp only [bin_lss, kv_some, ifV_bool]
      exact ⟨trivial, qB, mB⟩
    | some i =>
      have hi : i < items.length := by
        rw [List.findIdx?_eq_some_iff_getElem] at hf
        exact hf.1
      have hn : ¬ ((i : Int) < 0) := by omega
      have gB : hB.get b = some (.cells [i64 most, vi, vl, i64 next] 4 .rw) := by rw [md.same b hb (by simp)]; exact h1
      have sB : Ms hB fi vi items := md.keepMs h2
      have lB : Ms hB fl vl lost := md.keepMs h3
      have bB : b < hB.next := Nat.lt_of_lt_of_le hb md.next
      have w : IntKind.i64.wrap ((i : Int) + 1) = ((i + 1 : Nat) : Int) := by rw [wrap_i64 (by omega) (by omega)]; omega
      simp only [bin_lss, hn, decide_false, kv_some, ifV_bool, Bool.false_eq_true, if_false, rd_of gB, List.getElem?_cons_succ, List.getElem?_cons_zero, bin_add, w]
      refine cl_then (delete_msg (E := E) sB hi (by omega)) ?_
      rintro v' hD ⟨sD, mD⟩
      have nD := mD.next
      have gD : hD.get b = some (.cells [i64 most, vi, vl, i64 next] 4 .rw) := by rw [mD.same b bB h4]; exact gB
      obtain ⟨c1, c2⟩ := Sl.cell sD
      rw [st_one gD (by simp) c1 c2 (by simp)]
      simp only [kH_some, List.set_cons_succ, List.set_cons_zero]
      have kE : ∀ x, x ≠ b → (hD.put b (.cells [i64 most, v', vl, i64 next] 4 .rw)).get x = hD.get x := fun x hx => by simp [hx]
      refine ⟨trivial, ⟨b, fi, fl, v', vl, rfl, rfl, by simp; omega, by simp, ?_, ?_, h4, h5, h6⟩, ?_⟩
      · exact sD.same (by simp) fun x hx => kE x fun e => h4 (e ▸ hx)
      · exact lB.same (by simp; omega) fun x hx => by rw [kE x fun e => h5 (e ▸ hx)]; exact mD.same x (lB.lt x hx) fun hf => h6 x hf hx
      · refine mB.trans ⟨by simp; omega, fun x hx hnx => ?_, fun x hx => .inl hx, fun x hx => by have := mB.lt x hx; simp; omega⟩
        simp only [List.mem_cons, List.mem_append, not_or] at hnx
        rw [kE x hnx.1]
        exact mD.same x hx hnx.2.1

end Go.Abs

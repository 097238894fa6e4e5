/- Specs on abstract heaps, part 5: queues: Dead. -/
import Derived.Test.YthilcedkapakpaaGreatDoorRep4
set_option linter.unusedSimpArgs false
set_option linter.unusedVariables false
namespace Go.Abs
open Go

variable {E : FE} {h : AHeap} {fp : List Nat} {p : V} {most next : Int} {items lost : List Msg}

abbrev Msg.agg (m : Msg) : V := .agg #[i64 m.id, str m.val, i64 m.count, i64 m.till]
abbrev Msg.zero : Msg := ⟨0, ⟨#[]⟩, 0, 0⟩

theorem new4 (a b c d : V) : newD none (.agg #[a, b, c, d]) h = some (ptr h.next 0, h.new (.cells [a, b, c, d] 4 .rw)) := rfl

theorem st4 {b : Nat} {c1 c2 c3 c4 : V} {m : Msg} (hb : h.get b = some (.cells [c1, c2, c3, c4] 4 .rw)) : stD (some 4) (ptr b 0) m.agg h = some (h.put b (.cells m.cells 4 .rw)) :=
  st_of (n := 4) (vs := m.cells) (o := 0) hb (by simp) rfl rfl rfl (by simp)

theorem ld4 {b : Nat} {m : Msg} (hb : h.get b = some (.cells m.cells 4 .rw)) : ldD (.agg 4) (ptr b 0) h = some m.agg := by
  simp only [ld_agg, rdN_of hb]
  rfl

/-- A message of a slice. -/
theorem Ms.at {v : V} {l : List Msg} (s : Ms h fp v l) {i : Nat} {m : Msg} (hi : l[i]? = some m) :
    ∃ b, indexAddrD (.slice 4) v (i64 i) = some (ptr b (i * 4)) ∧ b ∈ fp ∧ ldD (.agg 4) (ptr b (i * 4)) h = some m.agg ∧
      h.rd b (i * 4) = some (i64 m.id) ∧ h.rd b (i * 4 + 1) = some (str m.val) ∧ h.rd b (i * 4 + 2) = some (i64 m.count) ∧ h.rd b (i * 4 + 3) = some (i64 m.till) := by
  have hil : i < l.length := (List.getElem?_eq_some_iff.1 hi).1
  obtain ⟨h0, ⟨rfl, h1, rfl⟩ | ⟨b, c, all, rfl, rfl, hb, hc, h2, h3, h4⟩⟩ := s
  · omega
  have hall : l.length * 4 ≤ all.length := Nat.le_trans (Nat.mul_le_mul_right _ hc) h3
  have hrow : (all.drop (i * 4)).take 4 = m.cells := by
    have e : (msgsC l).drop (i * 4) = msgsC (l.drop i) := msgsC_drop l i
    rw [List.drop_eq_getElem_cons hil, msgsC_cons] at e
    have : l[i] = m := (List.getElem?_eq_some_iff.1 hi).2
    rw [this, ← h4, List.drop_take] at e
    have e2 := congrArg (List.take 4) e
    rw [List.take_take, Nat.min_eq_left (by omega)] at e2
    rw [e2]
    rfl
  have hcell : ∀ k, k < 4 → all[i * 4 + k]? = m.cells[k]? := by
    intro k hk
    rw [← hrow, List.getElem?_take, if_pos hk, List.getElem?_drop]
  have b1 : (0 : Int) ≤ (i : Int) ∧ (i : Int) < (l.length : Nat) := by omega
  refine ⟨b, ?_, by simp, ?_, ?_, ?_, ?_, ?_⟩
  · simp only [indexAddrD, if_pos b1, Int.toNat_natCast, Nat.zero_add]
  · rw [ld_agg, rdN_of h2, if_pos (by omega), hrow]; rfl
  · rw [rd_of h2]; exact hcell 0 (by decide)
  · rw [rd_of h2]; exact hcell 1 (by decide)
  · rw [rd_of h2]; exact hcell 2 (by decide)
  · rw [rd_of h2]; exact hcell 3 (by decide)

/-- The queue in a heap in which its blocks are as they were. -/
theorem Mod.newBox {fp : List Nat} {o : AObj} (hl : ∀ x ∈ fp, x < h.next) : Mod h fp (h.new o) fp :=
  ⟨by simp, fun x hx _ => by
    have : x ≠ h.next := by omega
    simp [this], fun x hx => .inl hx, fun x hx => by have := hl x hx; simp; omega⟩

/-- A new block of one's own is written. -/
theorem Mod.putNew {h' : AHeap} {fp fp' : List Nat} {b : Nat} {o : AObj} (m : Mod h fp h' fp') (hb : h.next ≤ b) : Mod h fp (h'.put b o) fp' :=
  ⟨m.next, fun x hx hn => by
    have : x ≠ b := by omega
    simp [this, m.same x hx hn], m.new, m.lt⟩

theorem Qu.mod {fp : List Nat} {h' : AHeap} (q : Qu h fp p most next items lost) (hl : h.next ≤ h'.next) (hs : ∀ x, x < h.next → h'.get x = h.get x) : Qu h' fp p most next items lost :=
  q.same hl fun x hx => hs x (q.lt x hx)

theorem queue_Dead (q : Qu h fp p most next items lost) (hsz : lost.length ≤ 1000000) :
    cl (F.queue_Queue_Dead E) [p] h fun r h' => match lost with
      | [] => r = .tuple #[Msg.zero.agg, .bool false] ∧ Qu h' fp p most next items lost ∧ Mod h fp h' fp
      | m :: rest => r = .tuple #[m.agg, .bool true] ∧ Qu h' fp p most next items rest ∧ Mod h fp h' fp := by
  have hlt := q.lt
  have q0 := q
  obtain ⟨b, fi, fl, vi, vl, rfl, rfl, hb, h1, h2, h3, h4, h5, h6⟩ := q
  refine cl_of ?_
  have hbn : b ≠ h.next := by omega
  have k1 : ∀ x, x < h.next → (h.new (.cells Msg.zero.cells 4 .rw)).get x = h.get x := fun x hx => by
    have : x ≠ h.next := by omega
    simp [this]
  have e0 : newD none (.agg #[(.int .i64 0), (.string ⟨#[]⟩), (.int .i64 0), (.int .i64 0)]) h = some (ptr h.next 0, h.new (.cells Msg.zero.cells 4 .rw)) := rfl
  have g1 : (h.new (.cells Msg.zero.cells 4 .rw)).get b = some (.cells [i64 most, vi, vl, i64 next] 4 .rw) := by rw [k1 b hb]; exact h1
  have s3 : Ms (h.new (.cells Msg.zero.cells 4 .rw)) fl vl lost := h3.same (by simp) fun x hx => k1 x (h3.lt x hx)
  have hlen := Sl.len s3
  simp only [F.queue_Queue_Dead, e0, kP_some, ptr_eq_nil, kv_some, gdV_bool, if_true, aNil_ptr, fieldAddr_ptr, ld_one, rd_of g1, Nat.zero_add, List.getElem?_cons_succ, List.getElem?_cons_zero, hlen, bin_eql, pickV_bool, Bool.false_eq_true, if_false, ifV_bool]
  cases lost with
  | nil =>
    have ez : buildD (.struct [(.int .i64 0), (.string ⟨#[]⟩), (.int .i64 0), (.int .i64 0)] [(0, 1), (1, 1), (2, 1), (3, 1)]) [] = some Msg.zero.agg := rfl
    have gz : (h.new (.cells Msg.zero.cells 4 .rw)).get h.next = some (.cells Msg.zero.cells 4 .rw) := by simp
    simp only [List.length_nil, Int.natCast_zero, beq_self_eq_true, if_true, ez, kv_some]
    rw [st4 gz]
    simp only [kH_some]
    rw [ld4 (m := Msg.zero) (by simp)]
    simp only [kv_some]
    have md : Mod h (b :: (fi ++ fl)) ((h.new (.cells Msg.zero.cells 4 .rw)).put h.next (.cells Msg.zero.cells 4 .rw)) (b :: (fi ++ fl)) := (Mod.newBox hlt).putNew (Nat.le_refl _)
    exact ⟨trivial, q0.same md.next fun x hx => by
      have := hlt x hx
      have h2 : x ≠ h.next := by omega
      simp [h2], md⟩
  | cons m rest =>
    have hne : (((m :: rest).length : Nat) : Int) ≠ 0 := by simp; omega
    have hne2 : ((((m :: rest).length : Nat) : Int) == 0) = false := by simpa using hne
    simp only [hne2, Bool.false_eq_true, if_false]
    obtain ⟨bl, i1, i2, i3, _⟩ := Ms.at s3 (i := 0) (m := m) rfl
    simp only [Int.natCast_zero] at i1
    simp only [i1, kv_some, i3]
    generalize hA : h.new (.cells Msg.zero.cells 4 .rw) = hA' at *
    have nA : hA'.next = h.next + 1 := by rw [← hA]; rfl
    have gA : hA'.get h.next = some (.cells Msg.zero.cells 4 .rw) := by rw [← hA]; simp
    have e1 : newD none (.agg #[(.int .i64 0), (.string ⟨#[]⟩), (.int .i64 0), (.int .i64 0)]) hA' = some (ptr hA'.next 0, hA'.new (.cells Msg.zero.cells 4 .rw)) := rfl
    have gB : (hA'.new (.cells Msg.zero.cells 4 .rw)).get hA'.next = some (.cells Msg.zero.cells 4 .rw) := by simp
    simp only [e1, kP_some]
    rw [st4 gB]
    simp only [kH_some]
    generalize hC : (hA'.new (.cells Msg.zero.cells 4 .rw)).put hA'.next (.cells m.cells 4 .rw) = hC'
    have nC : hC'.next = h.next + 2 := by rw [← hC]; simp [nA]
    have kC : ∀ x, x < h.next → hC'.get x = h.get x := fun x hx => by
      rw [← hC, ← k1 x hx]
      have : x ≠ hA'.next := by omega
      simp [this]
    have gC1 : hC'.get (h.next + 1) = some (.cells m.cells 4 .rw) := by rw [← hC, ← nA]; simp
    have gC0 : hC'.get h.next = some (.cells Msg.zero.cells 4 .rw) := by
      rw [← hC]
      have : h.next ≠ hA'.next := by omega
      simp [this, gA]
    have gCb : hC'.get b = some (.cells [i64 most, vi, vl, i64 next] 4 .rw) := by rw [kC b hb]; exact h1
    have sC : Ms hC' fl vl (m :: rest) := h3.same (by omega) fun x hx => kC x (h3.lt x hx)
    simp only [rd_of gCb, List.getElem?_cons_succ, List.getElem?_cons_zero, kv_some]
    have del := delete_msg (E := E) sC (i := 0) (by simp) (by omega)
    simp only [Int.natCast_zero, Nat.zero_add, Int.natCast_one, List.eraseIdx_cons_zero] at del
    refine cl_then del ?_
    rintro v' hD ⟨sD, mD⟩
    have nD := mD.next
    have gDb : hD.get b = some (.cells [i64 most, vi, vl, i64 next] 4 .rw) := by rw [mD.same b (by omega) h5]; exact gCb
    have notfl : ∀ x, h.next ≤ x → x ∉ fl := fun x hx hf => by have := h3.lt x hf; omega
    have gD1 : hD.get (h.next + 1) = some (.cells m.cells 4 .rw) := by rw [mD.same _ (by omega) (notfl _ (by omega))]; exact gC1
    have gD0 : hD.get h.next = some (.cells Msg.zero.cells 4 .rw) := by rw [mD.same _ (by omega) (notfl _ (by omega))]; exact gC0
    obtain ⟨c1, c2⟩ := Sl.cell sD
    rw [st_one gDb (by simp) c1 c2 (by simp)]
    simp only [kH_some, List.set_cons_succ, List.set_cons_zero]
    generalize hE : hD.put b (.cells [i64 most, vi, v', i64 next] 4 .rw) = hE'
    have kE : ∀ x, x ≠ b → hE'.get x = hD.get x := fun x hx => by rw [← hE]; simp [hx]
    have gEb : hE'.get b = some (.cells [i64 most, vi, v', i64 next] 4 .rw) := by rw [← hE]; simp
    have gE1 : hE'.get (h.next + 1) = some (.cells m.cells 4 .rw) := by rw [kE _ (by omega)]; exact gD1
    have gE0 : hE'.get h.next = some (.cells Msg.zero.cells 4 .rw) := by rw [kE _ (by omega)]; exact gD0
    have nE : hE'.next = hD.next := by rw [← hE]; rfl
    rw [nA, ld4 gE1]
    simp only [kv_some]
    rw [st4 gE0]
    simp only [kH_some]
    rw [ld4 (m := m) (by simp)]
    simp only [kv_some]
    have kF : ∀ x, x < h.next → x ≠ b → x ∉ fl → (hE'.put h.next (.cells m.cells 4 .rw)).get x = h.get x := fun x hx hxb hxl => by
      have : x ≠ h.next := by omega
      simp only [put_get, if_neg this]
      rw [kE x hxb, mD.same x (by omega) hxl, kC x hx]
    refine ⟨trivial, ⟨b, fi, fl, vi, v', rfl, rfl, by simp; omega, by simp [hbn, gEb], ?_, ?_, h4, h5, h6⟩, ?_⟩
    · exact h2.same (by simp; omega) fun x hx => kF x (h2.lt x hx) (fun e => h4 (e ▸ hx)) (h6 x hx)
    · refine sD.same (by simp; omega) fun x hx => ?_
      have hxl := h3.lt x hx
      have : x ≠ h.next := by omega
      simp only [put_get, if_neg this]
      exact kE x fun e => h5 (e ▸ hx)
    · refine ⟨by simp; omega, fun x hx hnx => ?_, fun x hx => .inl hx, fun x hx => by have := hlt x hx; simp; omega⟩
      simp only [List.mem_cons, List.mem_append, not_or] at hnx
      exact kF x hx hnx.1 hnx.2.2

end Go.Abs

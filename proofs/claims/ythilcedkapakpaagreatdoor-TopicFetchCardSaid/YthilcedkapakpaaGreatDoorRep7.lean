/- Specs on abstract heaps, part 7: queues: Recv. -/
import Derived.Test.YthilcedkapakpaaGreatDoorRep6
set_option linter.unusedSimpArgs false
set_option linter.unusedVariables false
namespace Go.Abs
open Go

variable {E : FE} {h : AHeap} {fp : List Nat} {p : V} {most next : Int} {items lost : List Msg}

/-- A message of a slice is written anew: how often, until when. -/
theorem Ms.set {v : V} {l : List Msg} (s : Ms h fp v l) {i : Nat} {m : Msg} (hi : l[i]? = some m) (c t : Int) :
    ∃ b, indexAddrD (.slice 4) v (i64 i) = some (ptr b (i * 4)) ∧ fp = [b] ∧ ∃ h1 h2, stD (some 1) (ptr b (i * 4 + 2)) (i64 c) h = some h1 ∧ h1.next = h.next ∧ (∀ x, x ≠ b → h1.get x = h.get x) ∧
      stD (some 1) (ptr b (i * 4 + 3)) (i64 t) h1 = some h2 ∧ h2.next = h.next ∧ (∀ x, x ≠ b → h2.get x = h.get x) ∧ Ms h2 fp v (l.set i { m with count := c, till := t }) := by
  have hil : i < l.length := (List.getElem?_eq_some_iff.1 hi).1
  obtain ⟨h0, ⟨rfl, h1, rfl⟩ | ⟨b, cp, all, rfl, rfl, hb, hc, h2, h3, h4⟩⟩ := s
  · omega
  have hall : l.length * 4 ≤ all.length := Nat.le_trans (Nat.mul_le_mul_right _ hc) h3
  have b1 : (0 : Int) ≤ (i : Int) ∧ (i : Int) < (l.length : Nat) := by omega
  refine ⟨b, ?_, rfl, h.put b (.cells (all.set (i * 4 + 2) (i64 c)) 4 .rw), (h.put b (.cells (all.set (i * 4 + 2) (i64 c)) 4 .rw)).put b (.cells ((all.set (i * 4 + 2) (i64 c)).set (i * 4 + 3) (i64 t)) 4 .rw), ?_, rfl, fun x hx => by simp [hx], ?_, rfl, fun x hx => by simp [hx], ?_⟩
  · simp only [indexAddrD, if_pos b1, Int.toNat_natCast, Nat.zero_add]
  · exact st_one h2 (by simp) rfl rfl (by omega)
  · exact st_one (by simp) (by simp) rfl rfl (by simp; omega)
  · refine ⟨by simp, .inr ⟨b, cp, (all.set (i * 4 + 2) (i64 c)).set (i * 4 + 3) (i64 t), by simp, rfl, by simpa using hb, by simpa using hc, by simp, by simpa using h3, ?_⟩⟩
    rw [List.length_set, List.take_set, List.take_set, h4]
    -- the cells of the list that is set
    have key : ∀ (l : List Msg) (i : Nat), l[i]? = some m → ((msgsC l).set (i * 4 + 2) (i64 c)).set (i * 4 + 3) (i64 t) = msgsC (l.set i { m with count := c, till := t }) := by
      intro l
      induction l with
      | nil => intro i h; simp at h
      | cons a l ih =>
        intro i hi
        cases i with
        | zero =>
          simp at hi
          subst hi
          rfl
        | succ i =>
          have := ih i (by simpa using hi)
          rw [List.set_cons_succ, msgsC_cons, msgsC_cons, ← this]
          rw [List.set_append_right _ _ (by simp; omega), List.set_append_right _ _ (by simp; omega)]
          simp only [cells_length]
          rw [show (i + 1) * 4 + 2 - 4 = i * 4 + 2 by omega, show (i + 1) * 4 + 3 - 4 = i * 4 + 3 by omega]
    exact key l i hi

/-- What Recv does to messages: those that stay, those that are lost, the one that is handed out. -/
def recvL (most now ticks : Int) : List Msg → List Msg × List Msg × Option Msg
  | [] => ([], [], none)
  | m :: l =>
    if m.till > now then ((m :: (recvL most now ticks l).1), (recvL most now ticks l).2)
    else if m.count ≥ most then ((recvL most now ticks l).1, m :: (recvL most now ticks l).2.1, (recvL most now ticks l).2.2)
    else ({ m with count := m.count + 1, till := now + ticks } :: l, [], some { m with count := m.count + 1, till := now + ticks })

/-- A message of a queue that is where it is. -/
theorem queue_Recv (q : Qu h fp p most next items lost) (now ticks : Int) (hsz : items.length + lost.length ≤ 1000000) (hcnt : ∀ m ∈ items, 0 ≤ m.count ∧ m.count ≤ 1000000) :
    cl (F.queue_Queue_Recv E) [p, i64 now, i64 ticks] h fun r h' =>
      if ticks < 1 ∨ ticks > 1000 ∨ now < 0 ∨ now > 1099511627776 then r = .tuple #[Msg.zero.agg, .bool false] ∧ Qu h' fp p most next items lost ∧ Mod h fp h' fp
      else r = .tuple #[((recvL most now ticks items).2.2.getD Msg.zero).agg, .bool (recvL most now ticks items).2.2.isSome] ∧
        ∃ fp', Qu h' fp' p most next (recvL most now ticks items).1 (lost ++ (recvL most now ticks items).2.1) ∧ Mod h fp h' fp' := by
  have hlt := q.lt
  refine cl_of ?_
  have e0 : newD none (.agg #[(.int .i64 0), (.string ⟨#[]⟩), (.int .i64 0), (.int .i64 0)]) h = some (ptr h.next 0, h.new (.cells Msg.zero.cells 4 .rw)) := rfl
  have ez : buildD (.struct [(.int .i64 0), (.string ⟨#[]⟩), (.int .i64 0), (.int .i64 0)] [(0, 1), (1, 1), (2, 1), (3, 1)]) [] = some Msg.zero.agg := rfl
  obtain ⟨b, fi, fl, vi, vl, hp, hfp, hb, hrest⟩ := id q
  subst hp
  -- the box of the result
  have kN : ∀ x, x < h.next → (h.new (.cells Msg.zero.cells 4 .rw)).get x = h.get x := fun x hx => by
    have : x ≠ h.next := by omega
    simp [this]
  have qN : Qu (h.new (.cells Msg.zero.cells 4 .rw)) fp (ptr b 0) most next items lost := q.mod (by simp) kN
  have mN : Mod h fp (h.new (.cells Msg.zero.cells 4 .rw)) fp := Mod.newBox hlt
  have gN : (h.new (.cells Msg.zero.cells 4 .rw)).get h.next = some (.cells Msg.zero.cells 4 .rw) := by simp
  -- writing the box of the result, and reading it
  have boxes : ∀ (h' : AHeap) (fp' : List Nat) (m : Msg) (its los : List Msg) (c1 c2 c3 c4 : V), h'.get h.next = some (.cells [c1, c2, c3, c4] 4 .rw) → h.next ∉ fp' → Qu h' fp' (ptr b 0) most next its los → Mod h fp h' fp' →
      stD (some 4) (ptr h.next 0) m.agg h' = some (h'.put h.next (.cells m.cells 4 .rw)) ∧ ldD (.agg 4) (ptr h.next 0) (h'.put h.next (.cells m.cells 4 .rw)) = some m.agg ∧
      Qu (h'.put h.next (.cells m.cells 4 .rw)) fp' (ptr b 0) most next its los ∧ Mod h fp (h'.put h.next (.cells m.cells 4 .rw)) fp' := by
    intro h' fp' m its los c1 c2 c3 c4 g hn q' m'
    refine ⟨st4 g, ld4 (by simp), q'.same (by simp) fun x hx => ?_, m'.putNew (Nat.le_refl _)⟩
    have : x ≠ h.next := fun e => hn (e ▸ hx)
    simp [this]
  have nfp : h.next ∉ fp := fun hx => by have := hlt _ hx; omega
  simp only [F.queue_Queue_Recv, e0, kP_some, ptr_eq_nil, kv_some, gdV_bool, if_true, bin_lss, pickV_bool, Bool.false_eq_true, if_false]
  have bad : ∀ (P : Prop), (ticks < 1 ∨ ticks > 1000 ∨ now < 0 ∨ now > 1099511627776) → P → P := fun _ _ p => p
  by_cases hbad : ticks < 1 ∨ ticks > 1000 ∨ now < 0 ∨ now > 1099511627776
  · simp only [if_pos hbad]
    have go : ∀ X : Prop, ifV (.bool true) (kv (buildD (.struct [(.int .i64 0), (.string ⟨#[]⟩), (.int .i64 0), (.int .i64 0)] [(0, 1), (1, 1), (2, 1), (3, 1)]) []) fun v28_14 =>
        kH (stD (some 4) (ptr h.next 0) v28_14 (h.new (.cells Msg.zero.cells 4 .rw))) fun _ h_1 => kv (ldD (.agg 4) (ptr h.next 0) h_1) fun r15 =>
          Value.tuple #[r15, .bool false] = Value.tuple #[Msg.zero.agg, .bool false] ∧ Qu h_1 fp (ptr b 0) most next items lost ∧ Mod h fp h_1 fp) X := by
      intro X
      obtain ⟨x1, x2, x3, x4⟩ := boxes _ fp Msg.zero items lost _ _ _ _ gN nfp qN mN
      simp only [ifV_bool, if_true, ez, kv_some, x1, kH_some, x2]
      exact ⟨trivial, x3, x4⟩
    by_cases t1 : ticks < 1
    · simp only [t1, decide_true, kv_some, gdV_bool, Bool.true_eq_false, if_false, pickV_bool, if_true]
      exact go _
    · by_cases t2 : ticks > 1000
      · simp only [t1, t2, decide_true, decide_false, kv_some, gdV_bool, Bool.true_eq_false, if_false, pickV_bool, if_true, bin_gtr, Bool.false_eq_true]
        exact go _
      · by_cases t3 : now < 0
        · simp only [t1, t2, t3, decide_true, decide_false, kv_some, gdV_bool, Bool.true_eq_false, if_false, pickV_bool, if_true, bin_gtr, bin_lss, Bool.false_eq_true]
          exact go _
        · have t4 : now > 1099511627776 := by omega
          simp only [t1, t2, t3, t4, decide_true, decide_false, kv_some, gdV_bool, Bool.true_eq_false, if_false, pickV_bool, if_true, bin_gtr, bin_lss, Bool.false_eq_true]
          exact go _
  · simp only [if_neg hbad]
    have t1 : ¬ ticks < 1 := by omega
    have t2 : ¬ ticks > 1000 := by omega
    have t3 : ¬ now < 0 := by omega
    have t4 : ¬ now > 1099511627776 := by omega
    simp only [t1, t2, t3, t4, decide_true, decide_false, kv_some, gdV_bool, Bool.true_eq_false, if_false, pickV_bool, if_true, bin_gtr, bin_lss, Bool.false_eq_true, ifV_bool]
    refine ⟨fun k vs h' => ∃ (pre rest moved : List Msg) (fp' : List Nat), vs = [i64 pre.length] ∧ k = rest.length ∧ Qu h' fp' (ptr b 0) most next (pre ++ rest) (lost ++ moved) ∧ Mod h fp h' fp' ∧
      h'.get h.next = some (.cells Msg.zero.cells 4 .rw) ∧ (h.next ∉ fp' ∧ h.next < h'.next) ∧ pre.length + rest.length + moved.length = items.length ∧ (∀ m ∈ rest, 0 ≤ m.count ∧ m.count ≤ 1000000) ∧
      recvL most now ticks items = (pre ++ (recvL most now ticks rest).1, moved ++ (recvL most now ticks rest).2.1, (recvL most now ticks rest).2.2), items.length,
      ⟨[], items, [], fp, rfl, rfl, by simpa using qN, mN, gN, ⟨nfp, by simp⟩, by simp, hcnt, by simp⟩, ?_⟩
    rintro k e h1 ⟨pre, rest, moved, fp1, he, rfl, q1, m1, g1, ⟨n1, hh1⟩, hsum, hc1, hrec⟩
    simp only [List.cons.injEq, and_true] at he
    have q1' := q1
    obtain ⟨b', fi1, fl1, vi1, vl1, hbb, rfl, hb1, gb1, hi1, hl1, d1, d2, d3⟩ := q1
    have : b' = b := by cases hbb; rfl
    subst this
    have hlen1 := Sl.len hi1
    simp only [he, aNil_ptr, kv_some, fieldAddr_ptr, ld_one, Nat.zero_add, rd_of gb1, List.getElem?_cons_succ, List.getElem?_cons_zero, hlen1, bin_lss, ifV_bool]
    cases rest with
    | nil =>
      have hx : ¬ ((pre.length : Int) < ((pre ++ ([] : List Msg)).length : Nat)) := by simp
      simp only [hx, decide_false, Bool.false_eq_true, if_false, ez, kv_some]
      obtain ⟨x1, x2, x3, x4⟩ := boxes _ _ Msg.zero _ _ _ _ _ _ g1 n1 q1' m1
      simp only [x1, kH_some, x2, kv_some, hrec, recvL]
      exact ⟨rfl, _, by simpa using x3, x4⟩
    | cons m rest =>
      have hx : ((pre.length : Int) < ((pre ++ m :: rest).length : Nat)) := by simp; omega
      have hget : (pre ++ m :: rest)[pre.length]? = some m := by simp
      obtain ⟨br, i1, i2, i3, i4, i5, i6, i7⟩ := Ms.at hi1 hget
      simp only [hx, decide_true, if_true, i1, kv_some, aNil_ptr, fieldAddr_ptr, ld_one, i7, bin_gtr, ifV_bool]
      have hp1 : pre.length ≤ 1000000 := by omega
      by_cases ht : m.till > now
      · have w : IntKind.i64.wrap ((pre.length : Int) + 1) = ((pre.length + 1 : Nat) : Int) := by rw [wrap_i64 (by omega) (by omega)]; omega
        simp only [ht, decide_true, if_true, bin_add, w, kv_some]
        refine ⟨rest.length, by simp, pre ++ [m], rest, moved, _, by simp, rfl, by simpa using q1', m1, g1, ⟨n1, hh1⟩, by simp at hsum ⊢; omega, fun x hx => hc1 x (by simp [hx]), ?_⟩
        rw [hrec]
        simp [recvL, ht]
      · simp only [ht, decide_false, Bool.false_eq_true, if_false, aNil_ptr, kv_some, fieldAddr_ptr, ld_one, i6, Nat.zero_add, rd_of gb1, List.getElem?_cons_zero, bin_geq, ifV_bool]
        by_cases hm : m.count ≥ most
        · simp only [hm, decide_true, if_true]
          have e2 : buildSliceD (some (4, [(.int .i64 0), (.string ⟨#[]⟩), (.int .i64 0), (.int .i64 0)])) 1 [(0, m.agg)] h1 = some (.slice (some ⟨h1.next, 0, none⟩) 1 2, h1.new (.cells m.cells 4 .rw)) := rfl
          simp only [rd_of gb1, List.getElem?_cons_succ, List.getElem?_cons_zero, kv_some, i3, e2, kP_some]
          have kn : ∀ x, x < h1.next → (h1.new (.cells m.cells 4 .rw)).get x = h1.get x := fun x hx => by
            have : x ≠ h1.next := by omega
            simp [this]
          have gnb : (h1.new (.cells m.cells 4 .rw)).get b' = some (.cells [i64 most, vi1, vl1, i64 next] 4 .rw) := by rw [kn _ hb1]; exact gb1
          have ln : Ms (h1.new (.cells m.cells 4 .rw)) fl1 vl1 (lost ++ moved) := hl1.same (by simp) fun x hx => kn x (hl1.lt x hx)
          have hin : Ms (h1.new (.cells m.cells 4 .rw)) fi1 vi1 (pre ++ m :: rest) := hi1.same (by simp) fun x hx => kn x (hi1.lt x hx)
          obtain ⟨v', hc', fl', a1, a2, a3⟩ := Sl.append ln (x := .slice (some ⟨h1.next, 0, none⟩) 1 2) (k := 1) (bytes := 40) (z := zMsg) (new := m.cells) rfl (by decide) (by decide) rfl
            (fun _ => by simp [aSrc, sliceCells, AHeap.rdN, Msg.cells]) rfl rfl (by simp at hsum ⊢; omega)
          simp only [zMsg] at a1
          simp only [rd_of gnb, List.getElem?_cons_succ, List.getElem?_cons_zero, true_and, a1, kP_some]
          have nnc : h1.next + 1 ≤ hc'.next := by have := a3.next; simpa using this
          have gcb : hc'.get b' = some (.cells [i64 most, vi1, vl1, i64 next] 4 .rw) := by rw [a3.same b' (by simp; omega) d2]; exact gnb
          obtain ⟨c1, c2⟩ := Sl.cell a2
          rw [st_one gcb (by simp) c1 c2 (by simp)]
          simp only [kH_some, List.set_cons_succ, List.set_cons_zero]
          have bfl : b' ∉ fl' := fun hx => by
            rcases a3.new b' hx with hx | hx
            · exact d2 hx
            · simp at hx; omega
          generalize hD : hc'.put b' (.cells [i64 most, vi1, v', i64 next] 4 .rw) = hd
          have nd : hd.next = hc'.next := by rw [← hD]; rfl
          have kd : ∀ x, x ≠ b' → hd.get x = hc'.get x := fun x hx => by rw [← hD]; simp [hx]
          have gdb : hd.get b' = some (.cells [i64 most, vi1, v', i64 next] 4 .rw) := by rw [← hD]; simp
          have hid : Ms hd fi1 vi1 (pre ++ m :: rest) := hin.same (by simp; omega) fun x hx => by
            rw [kd x fun e => d1 (e ▸ hx)]
            exact a3.same x (by have := hi1.lt x hx; simp; omega) (d3 x hx)
          have hld : Ms hd fl' v' (lost ++ moved ++ [m]) := by
            have : Ms hc' fl' v' (lost ++ moved ++ [m]) := by simpa [Ms, Nat.add_assoc] using a2
            exact this.same (by omega) fun x hx => kd x fun e => bfl (e ▸ hx)
          have w : IntKind.i64.wrap ((pre.length : Int) + 1) = ((pre.length + 1 : Nat) : Int) := by rw [wrap_i64 (by omega) (by omega)]; omega
          simp only [rd_of gdb, List.getElem?_cons_succ, List.getElem?_cons_zero, kv_some, bin_add, w]
          refine cl_then (delete_msg (E := E) hid (i := pre.length) (by simp) (by simp at hsum ⊢; omega)) ?_
          rintro v2 he' ⟨sE, mE⟩
          have geb : he'.get b' = some (.cells [i64 most, vi1, v', i64 next] 4 .rw) := by rw [mE.same b' (by omega) d1]; exact gdb
          obtain ⟨c3, c4⟩ := Sl.cell sE
          rw [st_one geb (by simp) c3 c4 (by simp)]
          simp only [kH_some, List.set_cons_succ, List.set_cons_zero]
          have nE := mE.next
          have fl'fi : ∀ x ∈ fi1, x ∉ fl' := fun x hx hf => by
            rcases a3.new x hf with hf | hf
            · exact d3 x hx hf
            · have := hi1.lt x hx; simp at hf; omega
          have ke : ∀ x, x ≠ b' → (he'.put b' (.cells [i64 most, v2, v', i64 next] 4 .rw)).get x = he'.get x := fun x hx => by simp [hx]
          have n1' : h.next ≠ b' ∧ h.next ∉ fi1 ∧ h.next ∉ fl1 := by simpa [not_or] using n1
          have gE : (he'.put b' (.cells [i64 most, v2, v', i64 next] 4 .rw)).get h.next = some (.cells Msg.zero.cells 4 .rw) := by
            rw [ke _ n1'.1, mE.same _ (by omega) n1'.2.1, kd _ n1'.1, a3.same _ (by simp; omega) n1'.2.2, kn _ hh1]
            exact g1
          have n2 : h.next ∉ fl' := fun hx => by
            rcases a3.new _ hx with hx | hx
            · exact n1'.2.2 hx
            · simp at hx; omega
          have herase : (pre ++ m :: rest).eraseIdx pre.length = pre ++ rest := by rw [List.eraseIdx_append_of_length_le (by simp)]; simp
          rw [herase] at sE
          refine ⟨rest.length, by simp, pre, rest, moved ++ [m], b' :: (fi1 ++ fl'), by simp, rfl, ⟨b', fi1, fl', v2, v', rfl, rfl, by simp; omega, by simp, ?_, ?_, d1, bfl, fl'fi⟩, m1.trans ?_, gE, ⟨by simp [n1'.1, n1'.2.1, n2], by simp; omega⟩, by simp at hsum ⊢; omega, fun x hx => hc1 x (by simp [hx]), ?_⟩
          · exact sE.same (by simp) fun x hx => ke x fun e => d1 (e ▸ hx)
          · rw [← List.append_assoc]
            exact hld.same (by simp; omega) fun x hx => by rw [ke x fun e => bfl (e ▸ hx)]; exact mE.same x (hld.lt x hx) fun hf => fl'fi x hf hx
          · refine ⟨by simp; omega, fun x hx hn => ?_, fun x hx => ?_, fun x hx => ?_⟩
            · simp only [List.mem_cons, List.mem_append, not_or] at hn
              rw [ke x hn.1, mE.same x (by omega) hn.2.1, kd x hn.1, a3.same x (by simp; omega) hn.2.2, kn x hx]
            · simp only [List.mem_cons, List.mem_append] at hx ⊢
              rcases hx with rfl | hx | hx
              · simp
              · simp [hx]
              · rcases a3.new x hx with hx | hx
                · simp [hx]
                · simp at hx; right; omega
            · simp only [List.mem_cons, List.mem_append] at hx
              simp only [put_next]
              rcases hx with rfl | hx | hx
              · omega
              · have := hi1.lt x hx; omega
              · have := a3.lt x hx; omega
          · rw [hrec]
            simp [recvL, ht, hm]
        · simp only [hm, decide_false, Bool.false_eq_true, if_false]
          have hmc := hc1 m (by simp)
          have w : IntKind.i64.wrap (m.count + 1) = m.count + 1 := wrap_i64 (by omega) (by omega)
          have w2 : IntKind.i64.wrap (now + ticks) = now + ticks := wrap_i64 (by omega) (by omega)
          obtain ⟨b2, j1, rfl, ha, hc', s1, na, ka, s2, nc, kc, j3⟩ := Ms.set hi1 hget (m.count + 1) (now + ticks)
          rw [i1] at j1
          have hbr : br = b2 := by injection j1 with j1; injection j1 with j1; injection j1 with j1; injection j1 with j1
          subst hbr
          simp only [bin_add, w, kv_some, s1, kH_some, w2, s2]
          have hset : (pre ++ m :: rest).set pre.length { m with count := m.count + 1, till := now + ticks } = pre ++ { m with count := m.count + 1, till := now + ticks } :: rest := by simp
          rw [hset] at j3
          have hget2 : (pre ++ { m with count := m.count + 1, till := now + ticks } :: rest)[pre.length]? = some { m with count := m.count + 1, till := now + ticks } := by simp
          obtain ⟨b3, y1, y2, y3, _⟩ := Ms.at j3 hget2
          simp only [List.mem_singleton] at y2
          subst y2
          simp only [y3, kv_some]
          have bne : b' ≠ b3 := fun e => d1 (by simp [e])
          have hnb : h.next ≠ b3 := fun e => n1 (by simp [e])
          have gc : hc'.get h.next = some (.cells Msg.zero.cells 4 .rw) := by rw [kc _ hnb]; exact g1
          have q2 : Qu hc' (b' :: ([b3] ++ fl1)) (ptr b' 0) most next (pre ++ { m with count := m.count + 1, till := now + ticks } :: rest) (lost ++ moved) :=
            ⟨b', [b3], fl1, vi1, vl1, rfl, rfl, by omega, by rw [kc _ bne]; exact gb1, j3, hl1.same (by omega) fun x hx => kc x fun e => d3 b3 (by simp) (e ▸ hx), d1, d2, d3⟩
          have m2 : Mod h fp hc' (b' :: ([b3] ++ fl1)) := m1.trans ⟨by omega, fun x hx hn => kc x fun e => hn (by simp [e]), fun x hx => .inl hx, fun x hx => by have := m1.lt x hx; omega⟩
          obtain ⟨x1, x2, x3, x4⟩ := boxes _ _ { m with count := m.count + 1, till := now + ticks } _ _ _ _ _ _ gc n1 q2 m2
          simp only [x1, kH_some, x2, kv_some, hrec]
          simp only [recvL, if_neg ht, if_neg hm]
          exact ⟨rfl, _, by simpa using x3, x4⟩

end Go.Abs

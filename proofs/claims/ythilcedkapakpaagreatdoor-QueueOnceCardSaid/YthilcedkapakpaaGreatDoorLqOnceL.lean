/- QueueOnce, on abstract heaps. -/
import Derived.Test.YthilcedkapakpaaGreatDoorLqOnce
set_option linter.unusedSimpArgs false
set_option linter.unusedVariables false
namespace Go.Abs
open Go
variable {E E0 : FE} {h : AHeap} {L : List Pl}

theorem len_gone {X : Fr} {p : V} {ks : List Int} (s : Sep X h (plGone p ks :: L)) : lenD .map p h = some (i64 ks.length) := by
  obtain ⟨f, ⟨b, rfl, rfl, hb, hg⟩, _⟩ := s.head
  simp [lenD, hg, goneE]

theorem law_QueueOnce {E0 : FE} (hM : MonoI E.I) (hE : E.I (E.k 0) = some (cl (F.queue_Queue_Ack_1 E0))) {v : V} {l : List OpA} (s : Ops h.next h v l) (most : Int) :
    F.estafettelaw8_QueueOnce E [i64 most, v] h fun v _ => v = .bool true := by
  simp only [F.estafettelaw8_QueueOnce]
  refine cl_of ⟨rfl, ?_⟩
  simp only [not_bool, kv_some, ifV_bool, Bool.not_true, Bool.false_eq_true, if_false]
  have s0 : Sep (frOps h.next v l) h [] := ⟨Nat.le_refl _, s, [], rfl⟩
  generalize h.next = N at s0
  clear s
  have em : max 1 (min most 9) = min (max most 1) 9 := by omega
  refine cl_then (queue_New most) ?_
  rintro pq h1 ⟨f1, q1, m1⟩
  have s1 := s0.alloc (plQu pq (min (max most 1) 9) 1 [] []) m1 q1
  have hm : 1 ≤ min (max most 1) 9 ∧ min (max most 1) 9 ≤ 9 := by omega
  generalize min (max most 1) 9 = m at s1 hm em
  have e1 : makeMapD true none h1 = some (.map (some h1.next), h1.new (.map [] 0)) := rfl
  rw [e1, kP_some]
  have s2 : Sep (frOps N v l) (h1.new (.map [] 0)) (plGone (.map (some h1.next)) [] :: plQu pq m 1 [] [] :: []) :=
    s1.alloc (a' := [h1.next]) _ ⟨by simp, fun x hx _ => by have : x ≠ h1.next := by omega
                                                            simp [this], by simp, by simp⟩ ⟨h1.next, rfl, rfl, by simp, by simp [goneE]⟩
  generalize h1.new (.map [] 0) = h2 at s2
  generalize (Value.map (some h1.next) : V) = pg at s2
  have w0 : OQ m 0 [] [] [] := ⟨hm, by simp, by simp, by simp, by simp [idsM, upto]⟩
  refine ⟨fun k vs h' => ∃ (S i : Nat) (its los : List Msg) (ks : List Int), S ≤ i ∧ i ≤ l.length ∧ i ≤ 90 ∧ k = l.length - i ∧ vs = [i64 S, i64 i] ∧ OQ m S its los ks ∧ Sep (frOps N v l) h' (plGone pg ks :: plQu pq m ((S : Int) + 1) its los :: []), l.length,
    ⟨0, 0, [], [], [], by omega, by omega, by omega, by omega, rfl, w0, by simpa using s2⟩, ?_⟩
  rintro k e h5 ⟨S, i, its, los, ks, hS, hi, hi9, rfl, he, wa, s5⟩
  simp only [List.cons.injEq, and_true] at he
  obtain ⟨e2, e3⟩ := he
  have hI : Ops N h5 v l := s5.2.1
  simp only [e2, e3, Ro.len hI h5, kv_some, bin_lss, gdV_bool]
  by_cases hx : i < l.length
  · have hx' : ((i : Int) < (l.length : Nat)) := by omega
    simp only [hx', decide_true, if_true, kv_some, bin_lss, pickV_bool, ifV_bool, decide_eq_true_eq]
    by_cases h90 : (i : Int) < 90
    · rw [if_pos h90]
      obtain ⟨o, ho⟩ : ∃ o, l[i]? = some o := ⟨l[i], by simp [hx]⟩
      obtain ⟨b, off, ex, er⟩ := hI.row ho
      simp only [ex, kv_some, er, new6, kP_some]
      have s6 := (s5.box [.int .i64 0, .string ⟨#[]⟩, .string ⟨#[]⟩, .int .i64 0, .int .i64 0, .int .i64 0] 6)
      have g6 := s6.get
      rw [st6 g6, kH_some]
      have s7 := s6.write (cs' := o.cells)
      have g7 := s7.get
      generalize (h5.new (.cells [.int .i64 0, .string ⟨#[]⟩, .string ⟨#[]⟩, .int .i64 0, .int .i64 0, .int .i64 0] 6 .rw)).put h5.next (.cells o.cells 6 .rw) = h7 at s7 g7
      generalize h5.next = bo at s7 g7
      have s8 := s7.dn2
      have rd : ∀ {h' : AHeap}, h'.get bo = some (.cells o.cells 6 .rw) → h'.rd bo 0 = some (i64 o.kind) ∧ h'.rd bo 3 = some (i64 o.a) ∧ h'.rd bo 4 = some (i64 o.b) ∧ h'.rd bo 5 = some (i64 o.now) := fun hg => ⟨rd_of hg 0, rd_of hg 3, rd_of hg 4, rd_of hg 5⟩
      obtain ⟨r0, r3, r4, r5⟩ := rd g7
      have la := wa.len
      simp only [fieldAddr_ptr, kv_some, ld_one, Nat.zero_add, r0]
      refine ⟨fun vs h' => ∃ (S' : Nat) (its los : List Msg) (ks : List Int), S' ≤ i + 1 ∧ vs = [i64 S'] ∧ OQ m S' its los ks ∧ Sep (frOps N v l) h' (plGone pg ks :: plQu pq m ((S' : Int) + 1) its los :: []), ?_, ?_⟩
      rotate_left
      · clear wa s5 s6 s7 s8 hI g7 r0 r3 r4 r5 rd la
        rintro e9 h9 ⟨S', its, los, ks, hS', he9, wa, s9⟩
        simp only [List.cons.injEq, and_true] at he9
        simp only [he9]
        have la := wa.len
        obtain ⟨_, hq, _⟩ := s9.h1
        refine cl_then (queue_Items hq (by omega)) ?_
        rintro vI hA ⟨fI, mI, mA⟩
        have sA := s9.alloc (plMs vI its) mA mI
        obtain ⟨_, hq, _⟩ := sA.h2
        refine cl_then (queue_Lost hq (by omega)) ?_
        rintro vL hB ⟨fL, mL, mB⟩
        have sB := sA.alloc (plMs vL los) mB mL
        obtain ⟨_, cL, _⟩ := sB.head
        obtain ⟨_, cI, _⟩ := sB.h1
        obtain ⟨p1, p2⟩ := Sl.cell cI
        obtain ⟨p3, p4⟩ := Sl.cell cL
        have e4 : buildSliceD (some (1, [(.slice none 0 0)])) 2 [(0, vI), (1, vL)] hB = some (.slice (some ⟨hB.next, 0, none⟩) 2 4, hB.new (.cells [vI, vL] 1 .rw)) := by
          have z : zeros [(.slice none 0 0 : V)] (2 * 1) = [.slice none 0 0, .slice none 0 0] := rfl
          simp only [buildSliceD, z]
          rw [aFill_one (off := 0) rfl p1 (by simp), aFill_one (off := 1) rfl p3 (by simp)]
          simp [aFill]
        rw [e4, kP_some]
        have sC := sB.box [vI, vL] 1
        generalize hB.new (.cells [vI, vL] 1 .rw) = hC at sC
        generalize hB.next = bC at sC
        have gC := sC.get
        have e5 : lenD .slice (.slice (some ⟨bC, 0, none⟩) 2 4) hC = some (i64 2) := rfl
        rw [e5, kv_some]
        have hT := wa.total
        refine ⟨fun k vs h' => ∃ j : Nat, j ≤ 2 ∧ k = 2 - j ∧ h' = hC ∧ vs = [i64 ((if j = 0 then 0 else if j = 1 then its.length else its.length + los.length : Nat) : Int), i64 j], 2, ⟨0, by omega, rfl, rfl, rfl⟩, ?_⟩
        rintro k e6 hX ⟨j, hj, rfl, rfl, he6⟩
        simp only [List.cons.injEq, and_true] at he6
        obtain ⟨e7, e8⟩ := he6
        simp only [e7, e8, bin_lss, kv_some, ifV_bool]
        by_cases hj2 : j < 2
        · have hj2' : (j : Int) < 2 := by omega
          have ia : indexAddrD (.slice 1) (.slice (some ⟨bC, 0, none⟩) 2 4) (i64 j) = some (ptr bC j) := by
            have : (0 : Int) ≤ j ∧ (j : Int) < (2 : Nat) := by omega
            simp only [indexAddrD, if_pos this, Int.toNat_natCast, Nat.zero_add, Nat.mul_one]
          obtain ⟨lj, fj, vj, hv, cj, hall, n0, hn0, hn1⟩ : ∃ (lj : List Msg) (fj : List Nat) (vj : V), hX.rd bC j = some vj ∧ Ms hX fj vj lj ∧ (∀ x ∈ lj, 1 ≤ x.id ∧ x.id ≤ S' ∧ x.id ∉ ks ∧ x.count ≤ m) ∧
              ∃ n0 : Nat, (if j = 0 then 0 else if j = 1 then its.length else its.length + los.length) = n0 ∧ (if j + 1 = 0 then 0 else if j + 1 = 1 then its.length else its.length + los.length) = n0 + lj.length := by
            have : j = 0 ∨ j = 1 := by omega
            obtain ⟨fI, cI, _⟩ := sC.h2
            obtain ⟨fL, cL, _⟩ := sC.h1
            rcases this with rfl | rfl
            · exact ⟨its, fI, vI, by rw [rd_of gC]; rfl, cI, fun x hx => wa.ofIts hx, 0, rfl, by simp⟩
            · exact ⟨los, fL, vL, by rw [rd_of gC]; rfl, cL, fun x hx => wa.ofLos hx, its.length, rfl, by simp⟩
          have hlj : n0 + lj.length ≤ 64 := by
            rw [← hn1]
            split
            · omega
            · split <;> omega
          simp only [hj2', decide_true, if_true, ia, kv_some, ld_one, hv, hn0]
          refine ⟨fun k vs h' => ∃ (t : Nat) (last : Int), t ≤ lj.length ∧ k = lj.length - t ∧ h' = hX ∧ last ≤ S' ∧ vs = [i64 ((n0 + t : Nat) : Int), i64 last, i64 t], lj.length, ⟨0, 0, by omega, rfl, rfl, by omega, rfl⟩, ?_⟩
          rintro k e9 hY ⟨t, last, ht, rfl, rfl, hlast, he⟩
          simp only [List.cons.injEq, and_true] at he
          obtain ⟨f7, f8, f9⟩ := he
          have lenj := Sl.len cj
          simp only [f7, f8, f9, lenj, kv_some, bin_lss, ifV_bool]
          by_cases htl : t < lj.length
          · have htl' : (t : Int) < (lj.length : Nat) := by omega
            obtain ⟨bm, x1, _, x2, x3, _, x5, _⟩ := Ms.at cj (i := t) (m := lj[t]) (by simp [htl])
            obtain ⟨y1, y2, y3, y4⟩ := hall lj[t] (List.getElem_mem _)
            have z1 : ¬ lj[t].id < 1 := by omega
            have z2 : ¬ lj[t].id > S' := by omega
            have z4 : ¬ lj[t].count > m := by omega
            have z3 := lookup_gone sC.up3 y3
            simp only [htl', decide_true, if_true, x1, kv_some, fieldAddr_ptr, Nat.add_zero, ld_one, x3, bin_lss, z1, decide_false, gdV_bool, bin_gtr, z2, pickV_bool, Bool.false_eq_true, if_false, z3, bin_neq, bne_self_eq_false, x5, min2, max2, em, z4, ifV_bool]
            rw [add_i64 _ 1 (by omega) (by omega), kv_some, add_i64 _ 1 (by omega) (by omega), kv_some]
            exact ⟨lj.length - (t + 1), by omega, t + 1, max last lj[t].id, by omega, rfl, by trivial, by omega, by simp; omega⟩
          · have htl' : ¬ (t : Int) < (lj.length : Nat) := by omega
            obtain rfl : t = lj.length := by omega
            have hgt : ¬ last > S' := by omega
            simp only [htl', decide_false, Bool.false_eq_true, if_false, bin_gtr, hgt, kv_some, ifV_bool]
            rw [add_i64 _ 1 (by omega) (by omega), kv_some]
            refine ⟨2 - (j + 1), by omega, j + 1, by omega, rfl, by trivial, ?_⟩
            rw [hn1]
            simp
        · obtain rfl : j = 2 := by omega
          simp only [show ¬ ((2 : Nat) : Int) < 2 by omega, decide_false, Bool.false_eq_true, if_false]
          have en : (if 2 = 0 then 0 else if 2 = 1 then its.length else its.length + los.length) = its.length + los.length := rfl
          simp only [en]
          refine range_gone sC.up3 fun hZ sZ => ?_
          rw [len_gone sZ, kv_some, add_i64 _ _ (by omega) (by omega), kv_some]
          have eq : ((((its.length + los.length : Nat) : Int) + (ks.length : Int)) != (S' : Int)) = false := by simp; omega
          simp only [bin_neq, eq, kv_some, ifV_bool, Bool.false_eq_true, if_false]
          rw [add_i64 _ 1 (by omega) (by omega), kv_some]
          exact ⟨l.length - (i + 1), by omega, S', i + 1, its, los, ks, hS', by omega, by omega, rfl, by simp, wa, (((sZ.up3.drop).up2.drop).up1.drop)⟩
      · simp only [bin_eql, kv_some]
        refine ⟨fun vs h' => vs = [.bool (o.kind == 0 || o.kind == 1)] ∧ h' = h7, ?_, ?_⟩
        · cases hk : (o.kind == 0)
          · simp only [ifV_bool, Bool.false_eq_true, if_false, Bool.false_or]
            exact ⟨trivial, trivial⟩
          · simp only [ifV_bool, if_true, Bool.true_or]
            exact ⟨trivial, trivial⟩
        rintro e8 h8 ⟨he8, rfl⟩
        simp only [List.cons.injEq, and_true] at he8
        rw [he8]
        simp only [ifV_bool]
        by_cases hk : (o.kind == 0 || o.kind == 1) = true
        · rw [if_pos hk]
          obtain ⟨fq, hq, kq⟩ := s8.h1
          refine cl_then (queue_Send hq ⟨#[120]⟩ (by omega) (by omega)) ?_
          rintro r hA hr
          by_cases hl : its.length + los.length < 64
          · rw [if_pos hl] at hr
            obtain ⟨rfl, fA, qA, mA⟩ := hr
            have sA := kq (plQu pq m ((S : Int) + 1 + 1) (its ++ [(⟨(S : Int) + 1, ⟨#[120]⟩, 0, 0⟩ : Msg)]) los) mA qA
            simp only [extract_tuple, List.getElem?_toArray, List.getElem?_cons_zero, List.getElem?_cons_succ, kv_some, ifV_bool, if_true]
            rw [add_i64 _ 1 (by omega) (by omega), kv_some]
            simp only [bin_neq, bne_self_eq_false, kv_some, ifV_bool, Bool.false_eq_true, if_false]
            exact ⟨S + 1, _, los, ks, by omega, by simp, wa.send ⟨#[120]⟩ hl, by simpa using sA.up2.drop⟩
          · rw [if_neg hl] at hr
            obtain ⟨rfl, rfl⟩ := hr
            simp only [extract_tuple, List.getElem?_toArray, List.getElem?_cons_zero, List.getElem?_cons_succ, kv_some, ifV_bool, Bool.false_eq_true, if_false]
            exact ⟨S, its, los, ks, by omega, rfl, wa, s8.up2.drop⟩
        rw [if_neg hk]
        refine ⟨fun vs h' => vs = [.bool (o.kind == 2 || o.kind == 3)] ∧ h' = h8, ?_, ?_⟩
        · cases hk : (o.kind == 2)
          · simp only [ifV_bool, Bool.false_eq_true, if_false, Bool.false_or, bin_eql, kv_some]
            exact ⟨trivial, trivial⟩
          · simp only [ifV_bool, if_true, Bool.true_or]
            exact ⟨trivial, trivial⟩
        rintro e9 hC ⟨he8, rfl⟩
        simp only [List.cons.injEq, and_true] at he8
        rw [he8]
        simp only [ifV_bool]
        by_cases hk2 : (o.kind == 2 || o.kind == 3) = true
        · rw [if_pos hk2]
          simp only [r5, r3, kv_some]
          obtain ⟨fq, hq, kq⟩ := s8.h1
          have m9 := wa.m1
          refine cl_then (queue_Recv hq o.now o.a (by omega) fun x hx => by have := wa.cI x hx; omega) ?_
          rintro r hA hr
          by_cases hbad : o.a < 1 ∨ o.a > 1000 ∨ o.now < 0 ∨ o.now > 1099511627776
          · rw [if_pos hbad] at hr
            obtain ⟨rfl, qA, mA⟩ := hr
            have sA := kq (plQu pq m ((S : Int) + 1) its los) mA qA
            exact ⟨S, its, los, ks, by omega, rfl, wa, sA.up2.drop⟩
          · rw [if_neg hbad] at hr
            obtain ⟨rfl, fA, qA, mA⟩ := hr
            have sA := kq (plQu pq m ((S : Int) + 1) (recvL m o.now o.a its).1 (los ++ (recvL m o.now o.a its).2.1)) mA qA
            exact ⟨S, _, _, ks, by omega, rfl, wa.recv o.now o.a, sA.up2.drop⟩
        rw [if_neg hk2]
        by_cases hk4 : (o.kind == 4) = true
        · rw [if_pos hk4]
          simp only [r3, r4, r5, kv_some]
          obtain ⟨fq, hq, kq⟩ := s8.h1
          refine cl_then (queue_Ack hM hE hq o.a o.b o.now (by omega)) ?_
          rintro r hA hr
          cases hf : its.findIdx? (ackP o.a o.b o.now) with
          | none =>
            rw [hf] at hr
            obtain ⟨rfl, qA, mA⟩ := hr
            have sA := kq (plQu pq m ((S : Int) + 1) its los) mA qA
            simp only [ifV_bool, Bool.false_eq_true, if_false]
            exact ⟨S, its, los, ks, by omega, rfl, wa, sA.up2.drop⟩
          | some j =>
            rw [hf] at hr
            obtain ⟨rfl, qA, mA⟩ := hr
            have sA := kq (plQu pq m ((S : Int) + 1) (its.eraseIdx j) los) mA qA
            obtain ⟨hj, hp, _⟩ := List.findIdx?_eq_some_iff_getElem.1 hf
            have hid : its[j].id = o.a := by
              simp only [ackP, Bool.and_eq_true, beq_iff_eq] at hp
              exact hp.1.1
            have hks : o.a ∉ ks := hid ▸ (wa.ofIts (List.getElem_mem hj)).2.2.1
            obtain ⟨_, q3, _⟩ := rd (sA.getM (b := bo) (by simp))
            simp only [ifV_bool, if_true, q3, kv_some, lookup_gone sA hks]
            rw [add_i64 0 1 (by omega) (by omega), kv_some]
            obtain ⟨hB, uB, sB⟩ := update_gone sA hks
            have uB' : mapUpdateD (some (.int, (some (.int .i64 0)))) pg (i64 o.a) (i64 (0 + 1)) hA = some hB := uB
            rw [uB', kH_some]
            exact ⟨S, _, los, ks ++ [o.a], by omega, rfl, by rw [← hid]; exact wa.ack hj, sB.up2.drop⟩
        rw [if_neg hk4]
        by_cases hk5 : (o.kind == 5) = true
        · rw [if_pos hk5]
          obtain ⟨fq, hq, kq⟩ := s8.h1
          refine cl_then (queue_Dead hq (by omega)) ?_
          rintro r hA hr
          cases los with
          | nil =>
            obtain ⟨rfl, qA, mA⟩ := hr
            have sA := kq (plQu pq m ((S : Int) + 1) its []) mA qA
            simp only [extract_tuple, List.getElem?_toArray, List.getElem?_cons_zero, List.getElem?_cons_succ, kv_some]
            refine box_msg sA _ fun b1 h1 s1 => ?_
            simp only [ifV_bool, Bool.false_eq_true, if_false]
            exact ⟨S, its, [], ks, by omega, rfl, wa, s1.drop.up2.drop⟩
          | cons a los =>
            obtain ⟨rfl, qA, mA⟩ := hr
            have sA := kq (plQu pq m ((S : Int) + 1) its los) mA qA
            simp only [extract_tuple, List.getElem?_toArray, List.getElem?_cons_zero, List.getElem?_cons_succ, kv_some]
            refine box_msg sA _ fun b1 h1 s1 => ?_
            have hks : a.id ∉ ks := (wa.ofLos (x := a) (by simp)).2.2.1
            have g1 := rd_of s1.get 0
            simp only [Msg.cells, List.getElem?_cons_zero] at g1
            simp only [ifV_bool, if_true, fieldAddr_ptr, Nat.zero_add, ld_one, g1, kv_some, lookup_gone s1.up1 hks]
            rw [add_i64 0 1 (by omega) (by omega), kv_some]
            obtain ⟨hB, uB, sB⟩ := update_gone s1.up1 hks
            have uB' : mapUpdateD (some (.int, (some (.int .i64 0)))) pg (i64 a.id) (i64 (0 + 1)) h1 = some hB := uB
            rw [uB', kH_some]
            exact ⟨S, its, los, ks ++ [a.id], by omega, rfl, wa.dead, sB.up1.drop.up2.drop⟩
        rw [if_neg hk5]
        exact ⟨S, its, los, ks, by omega, rfl, wa, s8.up2.drop⟩
    · rw [if_neg h90]
      trivial
  · have hx' : ¬ ((i : Int) < (l.length : Nat)) := by omega
    simp only [hx', decide_false, Bool.false_eq_true, if_false, kv_some, pickV_bool, ifV_bool]

end Go.Abs

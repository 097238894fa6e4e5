/- The reference's Get: a record that Put has made. -/
import Derived.Test.YthhegdifbnghpaaGreatDoorWbg
set_option linter.unusedSimpArgs false
set_option linter.unusedVariables false
namespace Go.Abs
open Go Go.Proofs
variable {E : FE} {F : Fr} {h : AHeap} {L : List Pl}
set_option maxHeartbeats 2000000 in
theorem ref12_GetOk {kind : Int} (hk : kind = 3 ∨ kind = 4) {t u : Tri} {l : List Oq} (id : IdM) (hc : clientB id = true) (ha : allO l = true)
 (s : Sep F h (plI64s (mkS t) (id.client :: id.seq :: l.flatMap fun o => [o.fn, o.n]) :: plStrs (mkS u) (l.flatMap fun o => [o.space, o.key, o.val]) :: L)) :
 cl (Go.Abs.F.estafetteref12_Get E) [.agg #[i64 kind, mkS t, mkS u]] h fun r h' => ∃ v, r = .tuple #[id.agg, v, .bool true] ∧
  Sep F h' (plOps v l :: plI64s (mkS t) (id.client :: id.seq :: l.flatMap fun o => [o.fn, o.n]) :: plStrs (mkS u) (l.flatMap fun o => [o.space, o.key, o.val]) :: L) := by
 refine cl_of ?_
 have hal := allF ha
 have hl8 : l.length ≤ 8 := hal.2.1
 have n1 := flat2 l
 have n2 := flat3 l
 have f2 := flat2_get l
 have f3 := flat3_get l
 generalize (l.flatMap fun o : Oq => [o.fn, o.n]) = ns at s n1 f2 ⊢
 generalize (l.flatMap fun o : Oq => [o.space, o.key, o.val]) = xs at s n2 f3 ⊢
 have hcl : (decide (0 ≤ id.client) && decide (id.client ≤ 8)) = true := by
  unfold clientB at hc
  simp only [Bool.and_eq_true] at hc ⊢
  exact hc.1.1
 simp only [Go.Abs.F.estafetteref12_Get]
 refine kP_of (v := ptr h.next 0) (g := h.new (.cells [i64 kind, mkS t, mkS u] 3 .rw)) rfl ?_
 have s1 := s.box [i64 kind, mkS t, mkS u] 3
 clear s
 generalize h.new (.cells [i64 kind, mkS t, mkS u] 3 .rw) = h1 at s1 ⊢
 generalize h.next = b1 at s1 ⊢
 rw [newI0, kP_some]
 have s2 := s1.box (cId ⟨0, 0⟩) 2
 clear s1
 generalize h1.new (.cells (cId ⟨0, 0⟩) 2 .rw) = h2 at s2 ⊢
 generalize h1.next = b2 at s2 ⊢
 have x1 : h2.rd b1 1 = some (mkS t) := by rw [rd_of (Sep.get s2.up1) 1]; rfl
 have x2 : h2.rd b1 2 = some (mkS u) := by rw [rd_of (Sep.get s2.up1) 2]; rfl
 obtain ⟨fi, qi⟩ := s2.memP (A := plI64s (mkS t) (id.client :: id.seq :: ns)) (by simp)
 have qi : SlE dInt h2 fi (mkS t) (id.client :: id.seq :: ns) := qi
 obtain ⟨fs, qs⟩ := s2.memP (A := plStrs (mkS u) xs) (by simp)
 have qs : Ts h2 fs (mkS u) xs := qs
 have l1 : lenD .slice (mkS t) h2 = some (i64 ((2 + 2 * l.length : Nat) : Int)) := by rw [qi.len]; simp only [List.length_cons, n1]; congr 3; omega
 have l2 : lenD .slice (mkS u) h2 = some (i64 ((3 * l.length : Nat) : Int)) := by rw [Sl.len qs, n2]
 have eq3 : binD .bad .quo true (i64 ((3 * l.length : Nat) : Int)) (.int .i64 3) h2 = some (i64 (l.length : Nat)) := by
  rw [bin_quo, if_neg (by decide)]
  have : ((3 * l.length : Nat) : Int).tdiv 3 = (l.length : Nat) := by rw [Int.tdiv_eq_ediv_of_nonneg (by omega)]; omega
  rw [this, wrap_i64 (by omega) (by omega)]
 obtain ⟨a0, i0, j0⟩ := int_at (v := mkS t) (l := id.client :: id.seq :: ns) (i := 0) (x := id.client) s2 (by simp) rfl
 have i0 : indexAddrD (.slice 1) (mkS t) (.int .i64 0) = some a0 := i0
 simp only [fieldAddr_ptr, Nat.zero_add, kv_some, ld_one, x2, l2, eq3, x1, l1]
 rw [mul_i64 2 _ (by omega) (by omega), kv_some, add_i64 2 _ (by omega) (by omega), kv_some, bin_neq, kv_some, show (((2 + 2 * l.length : Nat) : Int) != 2 + 2 * (l.length : Nat)) = false by simp]
 simp only [gdV_bool, if_true, kv_some, ld_one, x2, l2]
 rw [mul_i64 3 _ (by omega) (by omega), kv_some, bin_neq, kv_some, show (((3 * l.length : Nat) : Int) != 3 * (l.length : Nat)) = false by simp]
 simp only [gdV_bool, if_true, kv_some, ld_one, x1, i0, pickV_bool, Bool.false_eq_true, if_false]
 rw [j0, kv_some]
 refine gdC_yes rfl (cl_then (ref12_in id.client 0 8) ?_)
 rintro r h3 ⟨rfl, rfl⟩
 simp only [hcl, not_bool, Bool.not_true, kv_some, pickV_bool, Bool.false_eq_true, if_false, gdV_bool, if_true, ifV_bool]
 obtain ⟨a1, i1, j1⟩ := int_at (v := mkS t) (l := id.client :: id.seq :: ns) (i := 1) (x := id.seq) s2 (by simp) rfl
 have i1 : indexAddrD (.slice 1) (mkS t) (.int .i64 1) = some a1 := i1
 simp only [x1, i0, i1, j0, j1, kv_some]
 refine kv_of (v := id.agg) rfl ?_
 rw [newI0, kP_some]
 have s3 := s2.box (cId ⟨0, 0⟩) 2
 generalize h3.new (.cells (cId ⟨0, 0⟩) 2 .rw) = h4 at s3 ⊢
 generalize h3.next = b6 at s3 ⊢
 have y1 : h4.rd b1 1 = some (mkS t) := by rw [rd_of (Sep.get s3.up2) 1]; rfl
 obtain ⟨a0', i0', j0'⟩ := int_at (v := mkS t) (l := id.client :: id.seq :: ns) (i := 0) (x := id.client) s3 (by simp) rfl
 obtain ⟨a1', i1', j1'⟩ := int_at (v := mkS t) (l := id.client :: id.seq :: ns) (i := 1) (x := id.seq) s3 (by simp) rfl
 have i0' : indexAddrD (.slice 1) (mkS t) (.int .i64 0) = some a0' := i0'
 have i1' : indexAddrD (.slice 1) (mkS t) (.int .i64 1) = some a1' := i1'
 rw [i0] at i0'
 rw [i1] at i1'
 cases i0'
 cases i1'
 refine ⟨y1, j0', y1, j1', ?_⟩
 rw [st2 s3.get, kH_some]
 have s4 := s3.write (cs' := cId id)
 clear s2 s3 qi qs l1 l2 eq3 i0 j0 i1 j1 j0' j1' x1 x2 y1
 generalize AHeap.put _ _ _ = h5 at s4 ⊢
 refine ⟨fun m vs g => ∃ (i : Nat) (w : Tri), vs = [mkS w, i64 i] ∧ m = l.length - i ∧ i ≤ l.length ∧ Sep F g (plOps (mkS w) (l.take i) :: plBox b6 (cId id) 2 :: plBox b2 (cId ⟨0, 0⟩) 2 :: plBox b1 [i64 kind, mkS t, mkS u] 3 :: plI64s (mkS t) (id.client :: id.seq :: ns) :: plStrs (mkS u) xs :: L), l.length, ⟨0, (none, 0, 0), rfl, by omega, by omega, Sep.nilOps s4⟩, ?_⟩
 clear s4
 rintro m e g ⟨i, w, he, rfl, hi, z⟩
 simp only [List.cons.injEq, and_true] at he
 simp only [he.1, he.2, bin_lss, kv_some, ifV_bool, decide_eq_true_eq]
 by_cases hx : i < l.length
 case neg =>
  rw [if_neg (show ¬ ((i : Nat) : Int) < (l.length : Nat) by omega)]
  rw [List.take_of_length_le (by omega)] at z
  have k0 : g.rd b1 0 = some (i64 kind) := by rw [rd_of (Sep.get (z.re4 [3] rfl)) 0]; rfl
  rw [ld2 (Sep.get z.up1), kv_some]
  simp only [fieldAddr_ptr, Nat.zero_add, kv_some, ld_one, k0]
  refine cl_then (ref12_PutOk hk id hc ha (fun o ho => by
   have := hal.2.2 o ho
   unfold mayO at this
   simp only [Bool.and_eq_true, decide_eq_true_eq] at this
   exact Nat.le_trans (show o.space.size ≤ 20 by omega) (by decide)) z) ?_
  rintro r g2 ⟨t', u', rfl, z2⟩
  simp only [extract_tuple, List.getElem?_toArray, List.getElem?_cons_zero, List.getElem?_cons_succ, kv_some]
  refine kP_of (v := ptr g2.next 0) (g := g2.new (.cells [i64 0, .slice none 0 0, .slice none 0 0] 3 .rw)) rfl ?_
  have z3 := z2.box [i64 0, .slice none 0 0, .slice none 0 0] 3
  generalize g2.new (.cells [i64 0, .slice none 0 0, .slice none 0 0] 3 .rw) = g3 at z3 ⊢
  generalize g2.next = b9 at z3 ⊢
  rw [st_of (n := 3) (vs := [i64 kind, mkS t', mkS u']) z3.get (by simp) rfl rfl rfl (by simp), kH_some]
  have z4 := (z3.write (cs' := setList [i64 0, .slice none 0 0, .slice none 0 0] 0 [i64 kind, mkS t', mkS u'])).drop
  generalize AHeap.put _ _ _ = g4 at z4 ⊢
  simp only [not_bool, Bool.not_true, kv_some, ifV_bool, Bool.false_eq_true, if_false]
  rw [ld2 (Sep.get z4.up1), kv_some, st2 (Sep.get z4.up2), kH_some]
  have z5 := Sep.write (cs' := cId id) z4.up2
  generalize AHeap.put _ _ _ = g5 at z5 ⊢
  rw [ld2 z5.get, kv_some]
  exact ⟨mkS w, rfl, z5.re6 [1, 4, 5] rfl⟩
 rw [if_pos (show ((i : Nat) : Int) < (l.length : Nat) by omega)]
 have hg : l[i]? = some l[i] := List.getElem?_eq_getElem hx
 have hmay := hal.2.2 _ (List.getElem_mem hx)
 have htk : l.take (i + 1) = l.take i ++ [l[i]] := by rw [List.take_add_one, hg]; rfl
 generalize l[i] = o at hg hmay htk
 obtain ⟨p1, p2⟩ := f2 i o hg
 obtain ⟨p3, p4, p5⟩ := f3 i o hg
 have hfn : (decide (1 ≤ o.fn) && decide (o.fn ≤ 12)) = true := by
  unfold mayO at hmay
  simp only [Bool.and_eq_true] at hmay ⊢
  exact hmay.1.1.1.1.1.1.1.1.1.1.1
 have x1 : g.rd b1 1 = some (mkS t) := by rw [rd_of (Sep.get (z.re4 [3] rfl)) 1]; rfl
 have x2 : g.rd b1 2 = some (mkS u) := by rw [rd_of (Sep.get (z.re4 [3] rfl)) 2]; rfl
 obtain ⟨a1, i1, j1⟩ := int_at (v := mkS t) (l := id.client :: id.seq :: ns) (i := 2 + 2 * i) (x := o.fn) z (by simp) (by rw [show 2 + 2 * i = 2 * i + 1 + 1 by omega, List.getElem?_cons_succ, List.getElem?_cons_succ, p1])
 obtain ⟨a2, i2, j2⟩ := int_at (v := mkS t) (l := id.client :: id.seq :: ns) (i := 3 + 2 * i) (x := o.n) z (by simp) (by rw [show 3 + 2 * i = 2 * i + 1 + 1 + 1 by omega, List.getElem?_cons_succ, List.getElem?_cons_succ, p2])
 obtain ⟨a3, i3, j3⟩ := str_at (v := mkS u) (l := xs) (i := 3 * i) (x := o.space) z (by simp) p3
 obtain ⟨a4, i4, j4⟩ := str_at (v := mkS u) (l := xs) (i := 3 * i + 1) (x := o.key) z (by simp) p4
 obtain ⟨a5, i5, j5⟩ := str_at (v := mkS u) (l := xs) (i := 3 * i + 2) (x := o.val) z (by simp) p5
 rw [show ((2 + 2 * i : Nat) : Int) = 2 + 2 * (i : Nat) by omega] at i1
 rw [show ((3 + 2 * i : Nat) : Int) = 3 + 2 * (i : Nat) by omega] at i2
 rw [show ((3 * i : Nat) : Int) = 3 * (i : Nat) by omega] at i3
 rw [show ((3 * i + 1 : Nat) : Int) = 3 * (i : Nat) + 1 by omega] at i4
 rw [show ((3 * i + 2 : Nat) : Int) = 3 * (i : Nat) + 2 by omega] at i5
 have m2 : binD .bad .mul true (.int .i64 2) (i64 (i : Nat)) g = some (i64 (2 * (i : Nat))) := mul_i64 2 _ (by omega) (by omega)
 have m3 : binD .bad .mul true (.int .i64 3) (i64 (i : Nat)) g = some (i64 (3 * (i : Nat))) := mul_i64 3 _ (by omega) (by omega)
 have q1 : binD .bad .add true (.int .i64 2) (i64 (2 * (i : Nat))) g = some (i64 (2 + 2 * (i : Nat))) := add_i64 2 _ (by omega) (by omega)
 have q2 : binD .bad .add true (.int .i64 3) (i64 (2 * (i : Nat))) g = some (i64 (3 + 2 * (i : Nat))) := add_i64 3 _ (by omega) (by omega)
 have q3 : binD .bad .add true (i64 (3 * (i : Nat))) (.int .i64 1) g = some (i64 (3 * (i : Nat) + 1)) := add_i64 _ 1 (by omega) (by omega)
 have q4 : binD .bad .add true (i64 (3 * (i : Nat))) (.int .i64 2) g = some (i64 (3 * (i : Nat) + 2)) := add_i64 _ 2 (by omega) (by omega)
 rw [x1, kv_some, m2, kv_some, q1, kv_some, i1, kv_some, j1, kv_some]
 refine cl_then (ref12_in o.fn 1 12) ?_
 rintro r g2 ⟨rfl, rfl⟩
 rw [hfn, not_bool, kv_some, ifV_bool]
 simp only [Bool.not_true, Bool.false_eq_true, if_false]
 simp only [x1, x2, m2, q1, i1, j1, q2, i2, j2, m3, i3, j3, q3, i4, j4, q4, i5, j5, kv_some]
 refine kv_of (v := o.agg) rfl ?_
 obtain ⟨w', g3, e3, z3⟩ := z.appO [o] (by simp) (by simp [List.length_take]; omega)
 refine kP_of (v := .slice (some ⟨g2.next, 0, none⟩) 1 2) (g := g2.new (.cells (dOp.flat [o]) 5 .rw)) rfl (kP_of e3 ?_)
 rw [add_i64 _ 1 (by omega) (by omega), kv_some]
 refine ⟨l.length - (i + 1), by omega, i + 1, w', by simp, rfl, by omega, ?_⟩
 rw [htk]
 exact z3
end Go.Abs
namespace Go.Abs
open Go Go.Proofs
variable {E : FE} {F : Fr} {h : AHeap} {L : List Pl}
set_option maxHeartbeats 1000000 in
theorem ref12_Of {v : V} {l : List Oq} {n sh : Nat} (hn : 1 ≤ n ∧ n ≤ 3) (hs : sh < n) (hl : l.length ≤ 100000) (hz : ∀ o ∈ l, o.space.size ≤ 1000000000) (s : Sep F h (plOps v l :: L)) :
 cl (Go.Abs.F.estafetteref12_Of E) [v, i64 sh, i64 n] h fun r h' => Sep F h' (plOps r (ofF l ((partsF l n).getD sh [])) :: plOps v l :: L) := by
 refine cl_of ?_
 simp only [Go.Abs.F.estafetteref12_Of]
 refine cl_then (ref12_Parts hn hl hz s) ?_
 intro w h1 s1
 have hlen := parts_len l n
 obtain ⟨qs, hq, s1'⟩ := s1.openPts
 have hqn : sh < qs.length := by rw [← hq, List.length_map] at hlen; omega
 have he : qs[sh]? = some qs[sh] := List.getElem?_eq_getElem hqn
 have hm : (qs[sh]).2 ∈ partsF l n := by rw [← hq]; exact List.mem_map.2 ⟨_, List.getElem_mem hqn, rfl⟩
 have hgd : (partsF l n).getD sh [] = (qs[sh]).2 := by rw [← hq, List.getD_eq_getElem?_getD, List.getElem?_map, he]; rfl
 rw [hgd]
 have hmem : pzI qs[sh] ∈ qs.map pzI := List.mem_map.2 ⟨_, List.getElem_mem hqn, rfl⟩
 have hx0 : (qs.map (·.1))[sh]? = some (qs[sh]).1 := by rw [List.getElem?_map, he]; rfl
 have hqlen : qs.length = n := by have := congrArg List.length hq; rw [List.length_map, parts_len] at this; exact this
 generalize qs[sh] = ee at hm hmem hx0
 obtain ⟨t, p⟩ := ee
 have hlp : p.length ≤ l.length := parts_short hm
 have hin : ∀ x ∈ p, 0 ≤ x ∧ x < (l.length : Int) := parts_lt hm
 refine ⟨fun m vs h' => ∃ (i : Nat) (u : Tri), vs = [mkS u, i64 i] ∧ m = p.length - i ∧ i ≤ p.length ∧ Sep F h' (plOps (mkS u) (ofF l (p.take i)) :: plSls w (qs.map (·.1)) :: (qs.map pzI ++ (plOps v l :: L))), p.length, ⟨0, (none, 0, 0), rfl, by omega, by omega, Sep.nilOps s1'⟩, ?_⟩
 rintro m e h2 ⟨i, u, he, rfl, hi, s2⟩
 simp only [List.cons.injEq, and_true] at he
 obtain ⟨f5, q5⟩ := s2.memP (A := plSls w (qs.map (·.1))) (by simp)
 have q5 : SlE dSl h2 f5 w (qs.map (·.1)) := q5
 obtain ⟨b', _, d1, _, d2⟩ := q5.at hx0
 have d1 : indexAddrD (.slice 1) w (i64 sh) = some (ptr b' (sh * 1)) := d1
 have d2 : h2.rd b' (sh * 1) = some (mkS t) := d2 0 (by decide)
 obtain ⟨f6, q6⟩ := s2.memP (A := pzI (t, p)) (List.mem_cons_of_mem _ (List.mem_cons_of_mem _ (List.mem_append.2 (.inl hmem))))
 have q6 : SlE dInt h2 f6 (mkS t) p := q6
 have hlw : lenD .slice w h2 = some (i64 n) := by rw [q5.len, List.length_map, hqlen]
 have h0' : ((sh : Nat) : Int) ≥ 0 := by omega
 have h3' : ((sh : Nat) : Int) < (n : Nat) := by omega
 simp only [he.1, he.2, bin_geq, h0', decide_true, gdV_bool, if_true, hlw, bin_lss, h3', pickV_bool, d1, ld_one, d2, q6.len, kv_some, ifV_bool, decide_eq_true_eq]
 by_cases hx : i < p.length
 case neg =>
  rw [if_neg (show ¬ ((i : Nat) : Int) < (p.length : Nat) by omega)]
  rw [List.take_of_length_le (by omega)] at s2
  exact (s2.up1.drop.perm List.perm_middle.symm).dropL
 rw [if_pos (show ((i : Nat) : Int) < (p.length : Nat) by omega)]
 obtain ⟨f3, q3⟩ := s2.memP (A := pzI (t, p)) (List.mem_cons_of_mem _ (List.mem_cons_of_mem _ (List.mem_append.2 (.inl hmem))))
 have q3 : SlE dInt h2 f3 (mkS t) p := q3
 have hg : p[i]? = some p[i] := List.getElem?_eq_getElem hx
 have hxb := hin _ (List.getElem_mem hx)
 have htk : p.take (i + 1) = p.take i ++ [p[i]] := by rw [List.take_add_one, hg]; rfl
 obtain ⟨b3, _, c1, _, c2⟩ := q3.at hg
 have c1 : indexAddrD (.slice 1) (mkS t) (i64 i) = some (ptr b3 (i * 1)) := c1
 have c2 : h2.rd b3 (i * 1) = some (i64 p[i]) := c2 0 (by decide)
 generalize p[i] = x at hxb htk c2
 obtain ⟨k, rfl⟩ : ∃ k : Nat, x = k := ⟨x.toNat, by omega⟩
 have hk : k < l.length := by omega
 have hgk : l[k]? = some l[k] := List.getElem?_eq_getElem hk
 obtain ⟨f4, q4⟩ := s2.memP (A := plOps v l) (by simp)
 have q4 : SlE dOp h2 f4 v l := q4
 obtain ⟨b4, i1, i2⟩ := q4.ld hgk
 have i1 : indexAddrD (.slice 5) v (i64 (k : Nat)) = _ := i1
 have i2 : ldD (.agg 5) _ _ = some (l[k]).agg := i2
 have hof : ofF l (p.take (i + 1)) = ofF l (p.take i) ++ [l[k]] := by
  unfold ofF
  rw [htk, List.filterMap_append]
  simp [hgk]
 have hsz : (ofF l (p.take i)).length + [l[k]].length ≤ 1000000 := by
  have := ofF_len l (p.take i)
  rw [List.length_take] at this
  simp
  omega
 obtain ⟨t', h3, e3, s3⟩ := s2.appO [l[k]] (by simp) hsz
 rw [c1, kv_some, ld_one, c2, kv_some, i1, kv_some, i2, kv_some]
 refine kP_of (v := .slice (some ⟨h2.next, 0, none⟩) 1 2) (g := h2.new (.cells (dOp.flat [l[k]]) 5 .rw)) rfl ?_
 refine kP_of e3 ?_
 rw [add_i64 _ 1 (by omega) (by omega), kv_some]
 refine ⟨p.length - (i + 1), by omega, i + 1, t', by simp, rfl, by omega, ?_⟩
 rw [hof]
 exact s3
theorem oq_same (o : Oq) (c : Bool) : binD (.struct [(0, .int), (1, .string), (2, .string), (3, .string), (4, .int)]) .neq c o.agg o.agg h = some (.bool false) := by
 simp [binD, Oq.agg, Oq.cells, eqD, eqFieldsD]
theorem law12_EqOk {x y : V} {l : List Oq} (hl : l.length ≤ 1000000) (s : Sep F h (plOps x l :: plOps y l :: L)) : cl (Go.Abs.F.estafettelaw12_Eq E) [x, y] h fun r h' => r = .bool true ∧ h' = h := by
 refine cl_of ?_
 obtain ⟨f1, q1⟩ := s.memP (A := plOps x l) (by simp)
 have q1 : SlE dOp h f1 x l := q1
 obtain ⟨f2, q2⟩ := s.memP (A := plOps y l) (by simp)
 have q2 : SlE dOp h f2 y l := q2
 simp only [Go.Abs.F.estafettelaw12_Eq, q1.len, q2.len, kv_some, bin_neq, bne_self_eq_false, ifV_bool, Bool.false_eq_true, if_false]
 refine ⟨fun n vs h' => ∃ i : Nat, vs = [i64 i] ∧ n = l.length - i ∧ i ≤ l.length ∧ h' = h, l.length, ⟨0, rfl, rfl, by omega, rfl⟩, ?_⟩
 rintro n e h1 ⟨i, he, rfl, hi, rfl⟩
 simp only [List.cons.injEq, and_true] at he
 simp only [he, q1.len, kv_some, bin_lss, ifV_bool, decide_eq_true_eq]
 by_cases hx : i < l.length
 case neg =>
  rw [if_neg (show ¬ ((i : Nat) : Int) < (l.length : Nat) by omega)]
  exact ⟨by first | rfl | trivial, by first | rfl | trivial⟩
 rw [if_pos (show ((i : Nat) : Int) < (l.length : Nat) by omega)]
 have hg : l[i]? = some l[i] := List.getElem?_eq_getElem hx
 obtain ⟨b1, i1, j1⟩ := q1.ld hg
 obtain ⟨b2, i2, j2⟩ := q2.ld hg
 have i1 : indexAddrD (.slice 5) x (i64 (i : Nat)) = _ := i1
 have i2 : indexAddrD (.slice 5) y (i64 (i : Nat)) = _ := i2
 have j1 : ldD (.agg 5) _ _ = some (l[i]).agg := j1
 have j2 : ldD (.agg 5) _ _ = some (l[i]).agg := j2
 rw [i1, kv_some, j1, kv_some, i2, kv_some, j2, kv_some, oq_same, kv_some, ifV_bool]
 simp only [Bool.false_eq_true, if_false]
 rw [add_i64 _ 1 (by omega) (by omega), kv_some]
 exact ⟨l.length - (i + 1), by omega, i + 1, rfl, rfl, by omega, by first | rfl | trivial⟩
theorem ref12_WordOk {kind : Int} (hk : kind = 6 ∨ kind = 7) (id : IdM) (hc : clientB id = true) {sh : Int} (hsh : 0 ≤ sh ∧ sh < 3) (s : Sep F h L) :
 cl (Go.Abs.F.estafetteref12_Word E) [i64 kind, id.agg, i64 sh, .bool false] h fun r h' => ∃ t u : Tri, r = .tuple #[.agg #[i64 kind, mkS t, mkS u], .bool true] ∧ Sep F h' L := by
 refine cl_of ?_
 simp only [Go.Abs.F.estafetteref12_Word, new2, kP_some]
 have s1 := s.box (cId id) 2
 generalize h.new (.cells (cId id) 2 .rw) = h1 at s1 ⊢
 generalize h.next = bi at s1 ⊢
 have e2 : newD none (.agg #[(.int .i64 0), (.slice none 0 0), (.slice none 0 0)]) h1 = some (ptr h1.next 0, h1.new (.cells [i64 0, .slice none 0 0, .slice none 0 0] 3 .rw)) := rfl
 rw [e2, kP_some]
 have s2 := s1.box [i64 0, .slice none 0 0, .slice none 0 0] 3
 clear s1 e2
 generalize h1.new (.cells [i64 0, .slice none 0 0, .slice none 0 0] 3 .rw) = h2 at s2 ⊢
 generalize h1.next = br at s2 ⊢
 have first : ∀ X : V → Prop, X (.bool false) → kv (binD .bad .neq true (i64 kind) (.int .i64 6) h2) fun v11 => kv (gdV v11 true (some (i64 kind))) fun v13 => kv (gdV v11 true (binD .bad .neq true v13 (.int .i64 7) h2)) fun v14 => kv (pickV v11 v14 (.bool false)) X := by
  intro X hX
  rcases hk with rfl | rfl
  · simp only [bin_neq, show ((6 : Int) != 6) = false from rfl, kv_some, gdV_bool, Bool.false_eq_true, if_false, pickV_bool]
    exact hX
  · simp only [bin_neq, show ((7 : Int) != 6) = true from rfl, show ((7 : Int) != 7) = false from rfl, kv_some, gdV_bool, if_true, pickV_bool]
    exact hX
 refine first _ ?_
 have li : ldD (.agg 2) (ptr bi 0) h2 = some id.agg := ld2 (Sep.get s2.up1)
 simp only [gdV_bool, if_true, li, kv_some]
 refine gdC_yes rfl (cl_then (ref12_Client id s2) ?_)
 rintro r h3 ⟨rfl, s3⟩
 simp only [hc, not_bool, Bool.not_true, kv_some, pickV_bool, Bool.false_eq_true, if_false, gdV_bool, if_true]
 refine gdC_yes rfl (cl_then (ref12_in sh 0 2) ?_)
 rintro r h4 ⟨rfl, rfl⟩
 rw [show (decide (0 ≤ sh) && decide (sh ≤ 2)) = true by simp; omega]
 have i0 : h4.rd bi 0 = some (i64 id.client) := by rw [rd_of (Sep.get s3.up1) 0]; rfl
 have i1 : h4.rd bi 1 = some (i64 id.seq) := by rw [rd_of (Sep.get s3.up1) 1]; rfl
 simp only [not_bool, Bool.not_true, kv_some, pickV_bool, Bool.false_eq_true, if_false, ifV_bool, fieldAddr_ptr, Nat.zero_add, ld_one, i0, i1]
 have fl : cl (Go.Abs.F.estafetteref12_flag E) [.bool false] h4 fun r h' => r = i64 0 ∧ h' = h4 := cl_of (by simp only [Go.Abs.F.estafetteref12_flag, ifV_bool, Bool.false_eq_true, if_false]; exact ⟨by first | rfl | trivial, by first | rfl | trivial⟩)
 refine cl_then fl ?_
 rintro r h5 ⟨rfl, rfl⟩
 refine ⟨i0, i1, ?_⟩
 rw [show buildSliceD (some (1, [(.int .i64 0)])) 4 [(0, i64 id.client), (1, i64 id.seq), (2, i64 sh), (3, i64 0)] h5 = some (.slice (some ⟨h5.next, 0, none⟩) 4 8, h5.new (.cells (dInt.flat [id.client, id.seq, sh, 0]) 1 .rw)) from rfl, kP_some]
 have s4 := s3.litInts [id.client, id.seq, sh, 0] (by simp)
 generalize h5.new (.cells (dInt.flat [id.client, id.seq, sh, 0]) 1 .rw) = h6 at s4 ⊢
 generalize h5.next = bn at s4 ⊢
 rw [show buildD (.struct [(.int .i64 0), (.slice none 0 0), (.slice none 0 0)] [(0, 1), (1, 1), (2, 1)]) [(0, i64 kind), (1, .slice (some ⟨bn, 0, none⟩) 4 8)] = some (.agg #[i64 kind, mkS (some ⟨bn, 0, none⟩, 4, 8), .slice none 0 0]) from rfl, kv_some]
 exact ret3 s4.up1 rfl rfl rfl fun h' s' => ⟨(some ⟨bn, 0, none⟩, 4, 8), (none, 0, 0), rfl, s'.drop.drop.drop⟩
set_option maxHeartbeats 2000000 in
theorem ref12_GetWordOk {t u : Tri} (id : IdM) (hc : clientB id = true) {sh : Int} (hsh : 0 ≤ sh ∧ sh < 3) (y : Bool)
 (s : Sep F h (plI64s (mkS t) [id.client, id.seq, sh, bitF y] :: plStrs (mkS u) [] :: L)) :
 cl (Go.Abs.F.estafetteref12_GetWord E) [.agg #[i64 6, mkS t, mkS u]] h fun r h' => r = .tuple #[id.agg, i64 sh, .bool y, .bool true] ∧ Sep F h' (plI64s (mkS t) [id.client, id.seq, sh, bitF y] :: plStrs (mkS u) [] :: L) := by
 refine cl_of ?_
 have hcl : (decide (0 ≤ id.client) && decide (id.client ≤ 8)) = true := by
  unfold clientB at hc
  simp only [Bool.and_eq_true] at hc ⊢
  exact hc.1.1
 have hby : (bitF y == 1) = y := by cases y <;> rfl
 simp only [Go.Abs.F.estafetteref12_GetWord]
 refine kP_of (v := ptr h.next 0) (g := h.new (.cells [i64 6, mkS t, mkS u] 3 .rw)) rfl ?_
 have s1 := s.box [i64 6, mkS t, mkS u] 3
 clear s
 generalize h.new (.cells [i64 6, mkS t, mkS u] 3 .rw) = h1 at s1 ⊢
 generalize h.next = b1 at s1 ⊢
 rw [newI0, kP_some]
 have s2 := s1.box (cId ⟨0, 0⟩) 2
 clear s1
 generalize h1.new (.cells (cId ⟨0, 0⟩) 2 .rw) = h2 at s2 ⊢
 generalize h1.next = b2 at s2 ⊢
 have x1 : h2.rd b1 1 = some (mkS t) := by rw [rd_of (Sep.get s2.up1) 1]; rfl
 have x2 : h2.rd b1 2 = some (mkS u) := by rw [rd_of (Sep.get s2.up1) 2]; rfl
 obtain ⟨fi, qi⟩ := s2.memP (A := plI64s (mkS t) [id.client, id.seq, sh, bitF y]) (by simp)
 have qi : SlE dInt h2 fi (mkS t) [id.client, id.seq, sh, bitF y] := qi
 obtain ⟨fs, qs⟩ := s2.memP (A := plStrs (mkS u) []) (by simp)
 have qs : Ts h2 fs (mkS u) [] := qs
 have l1 : lenD .slice (mkS t) h2 = some (i64 4) := qi.len
 have l2 : lenD .slice (mkS u) h2 = some (i64 0) := Sl.len qs
 obtain ⟨a0, i0, j0⟩ := int_at (v := mkS t) (l := [id.client, id.seq, sh, bitF y]) (i := 0) (x := id.client) s2 (by simp) rfl
 obtain ⟨a1, i1, j1⟩ := int_at (v := mkS t) (l := [id.client, id.seq, sh, bitF y]) (i := 1) (x := id.seq) s2 (by simp) rfl
 obtain ⟨a2, i2, j2⟩ := int_at (v := mkS t) (l := [id.client, id.seq, sh, bitF y]) (i := 2) (x := sh) s2 (by simp) rfl
 obtain ⟨a3, i3, j3⟩ := int_at (v := mkS t) (l := [id.client, id.seq, sh, bitF y]) (i := 3) (x := bitF y) s2 (by simp) rfl
 have i0 : indexAddrD (.slice 1) (mkS t) (.int .i64 0) = some a0 := i0
 have i1 : indexAddrD (.slice 1) (mkS t) (.int .i64 1) = some a1 := i1
 have i2 : indexAddrD (.slice 1) (mkS t) (.int .i64 2) = some a2 := i2
 have i3 : indexAddrD (.slice 1) (mkS t) (.int .i64 3) = some a3 := i3
 simp only [fieldAddr_ptr, Nat.zero_add, kv_some, ld_one, x1, x2, l1, l2, bin_neq, show ((4 : Int) != 4) = false from rfl, gdV_bool, if_true, bin_gtr, show decide ((0 : Int) > 0) = false from rfl, pickV_bool, Bool.false_eq_true, if_false, i0, j0]
 refine gdC_yes rfl (cl_then (ref12_in id.client 0 8) ?_)
 rintro r h3 ⟨rfl, rfl⟩
 simp only [hcl, not_bool, Bool.not_true, kv_some, pickV_bool, Bool.false_eq_true, if_false, gdV_bool, if_true, fieldAddr_ptr, Nat.zero_add, ld_one, x1, i2, j2]
 refine gdC_yes rfl (cl_then (ref12_in sh 0 9) ?_)
 rintro r h3 ⟨rfl, rfl⟩
 rw [show (decide (0 ≤ sh) && decide (sh ≤ 9)) = true by simp; omega]
 simp only [not_bool, Bool.not_true, kv_some, pickV_bool, Bool.false_eq_true, if_false, gdV_bool, if_true, fieldAddr_ptr, Nat.zero_add, ld_one, x1, i3, j3]
 refine gdC_yes rfl (cl_then (ref12_in (bitF y) 0 1) ?_)
 rintro r h3 ⟨rfl, rfl⟩
 rw [show (decide (0 ≤ bitF y) && decide (bitF y ≤ 1)) = true by cases y <;> rfl]
 simp only [not_bool, Bool.not_true, kv_some, pickV_bool, Bool.false_eq_true, if_false, gdV_bool, if_true, ifV_bool, fieldAddr_ptr, Nat.zero_add, ld_one, x1, i0, j0, i1, j1]
 refine kv_of (v := id.agg) rfl ?_
 rw [newI0, kP_some]
 have s3 := s2.box (cId ⟨0, 0⟩) 2
 generalize h3.new (.cells (cId ⟨0, 0⟩) 2 .rw) = h4 at s3 ⊢
 generalize h3.next = b6 at s3 ⊢
 have y1 : h4.rd b1 1 = some (mkS t) := by rw [rd_of (Sep.get s3.up2) 1]; rfl
 obtain ⟨a0', i0', j0'⟩ := int_at (v := mkS t) (l := [id.client, id.seq, sh, bitF y]) (i := 0) (x := id.client) s3 (by simp) rfl
 obtain ⟨a1', i1', j1'⟩ := int_at (v := mkS t) (l := [id.client, id.seq, sh, bitF y]) (i := 1) (x := id.seq) s3 (by simp) rfl
 have i0' : indexAddrD (.slice 1) (mkS t) (.int .i64 0) = some a0' := i0'
 have i1' : indexAddrD (.slice 1) (mkS t) (.int .i64 1) = some a1' := i1'
 rw [i0] at i0'
 rw [i1] at i1'
 cases i0'
 cases i1'
 refine ⟨y1, j0', y1, j1', ?_⟩
 rw [st2 s3.get, kH_some]
 have s4 := s3.write (cs' := cId id)
 clear s2 s3 qi qs l1 l2 j0 j1 j2 j3 j0' j1' x1 x2 y1
 generalize AHeap.put _ _ _ = h5 at s4 ⊢
 have y0 : h5.rd b1 0 = some (i64 6) := by rw [rd_of (Sep.get s4.up2) 0]; rfl
 have y1 : h5.rd b1 1 = some (mkS t) := by rw [rd_of (Sep.get s4.up2) 1]; rfl
 obtain ⟨a2', i2', j2⟩ := int_at (v := mkS t) (l := [id.client, id.seq, sh, bitF y]) (i := 2) (x := sh) s4 (by simp) rfl
 have i2' : indexAddrD (.slice 1) (mkS t) (.int .i64 2) = some a2' := i2'
 rw [i2] at i2'
 cases i2'
 have l6 : ldD (.agg 2) (ptr b6 0) h5 = some id.agg := ld2 s4.get
 simp only [y0, y1, l6, i2, j2, kv_some]
 have keepC : ∀ {g : AHeap} {A : Pl}, Sep F g (A :: plBox b6 (cId id) 2 :: plBox b2 (cId ⟨0, 0⟩) 2 :: plBox b1 [i64 6, mkS t, mkS u] 3 :: plI64s (mkS t) [id.client, id.seq, sh, bitF y] :: plStrs (mkS u) [] :: L) → g.rd b1 0 = some (i64 6) ∧ ldD (.agg 2) (ptr b6 0) g = some id.agg ∧ g.rd b1 1 = some (mkS t) ∧ ldD .one a2 g = some (i64 sh) := by
  intro g A z
  obtain ⟨a2', i2', j2'⟩ := int_at (v := mkS t) (l := [id.client, id.seq, sh, bitF y]) (i := 2) (x := sh) z (by simp) rfl
  have i2' : indexAddrD (.slice 1) (mkS t) (.int .i64 2) = some a2' := i2'
  rw [i2] at i2'
  cases i2'
  exact ⟨by rw [rd_of (Sep.get (z.re4 [3] rfl)) 0]; rfl, ld2 (Sep.get z.up1), by rw [rd_of (Sep.get (z.re4 [3] rfl)) 1]; rfl, j2'⟩
 have e3 : ∀ g : AHeap, newD none (.agg #[(.int .i64 0), (.slice none 0 0), (.slice none 0 0)]) g = some (ptr g.next 0, g.new (.cells [i64 0, .slice none 0 0, .slice none 0 0] 3 .rw)) := fun _ => rfl
 refine ⟨?_, ?_⟩
 · refine cl_then (ref12_WordOk (.inl rfl) id hc hsh s4) ?_
   rintro r g3 ⟨t', u', rfl, z0⟩
   simp only [extract_tuple, List.getElem?_toArray, List.getElem?_cons_zero, List.getElem?_cons_succ, kv_some]
   rw [e3, kP_some]
   have z := z0.box [i64 0, .slice none 0 0, .slice none 0 0] 3
   generalize g3.new (.cells [i64 0, .slice none 0 0, .slice none 0 0] 3 .rw) = g4 at z ⊢
   generalize g3.next = b7 at z ⊢
   obtain ⟨p0, p1, p2, p3⟩ := keepC z
   refine ⟨p0, p1, p2, p3, ?_⟩
   rw [st_of (n := 3) (vs := [i64 6, mkS t', mkS u']) z.get (by simp) rfl rfl rfl (by simp), kH_some]
   have z1 := (z.write (cs' := setList [i64 0, .slice none 0 0, .slice none 0 0] 0 [i64 6, mkS t', mkS u'])).drop
   generalize AHeap.put _ _ _ = g5 at z1 ⊢
   have w1 : g5.rd b1 1 = some (mkS t) := by rw [rd_of (Sep.get z1.up2) 1]; rfl
   obtain ⟨c2, k2, m2⟩ := int_at (v := mkS t) (l := [id.client, id.seq, sh, bitF y]) (i := 2) (x := sh) z1 (by simp) rfl
   obtain ⟨c3, k3, m3⟩ := int_at (v := mkS t) (l := [id.client, id.seq, sh, bitF y]) (i := 3) (x := bitF y) z1 (by simp) rfl
   have k2 : indexAddrD (.slice 1) (mkS t) (.int .i64 2) = some c2 := k2
   have k3 : indexAddrD (.slice 1) (mkS t) (.int .i64 3) = some c3 := k3
   have l6 : ldD (.agg 2) (ptr b6 0) g5 = some id.agg := ld2 z1.get
   simp only [not_bool, Bool.not_true, kv_some, ifV_bool, Bool.false_eq_true, if_false, l6, w1, k2, m2, k3, m3, bin_eql, hby]
   rw [st2 (Sep.get z1.up1), kH_some]
   have z2 := Sep.write (cs' := cId id) z1.up1
   clear w1 m2 m3 l6
   generalize AHeap.put _ _ _ = g6 at z2 ⊢
   have w1 : g6.rd b1 1 = some (mkS t) := by rw [rd_of (Sep.get z2.up2) 1]; rfl
   obtain ⟨c2', k2', m2⟩ := int_at (v := mkS t) (l := [id.client, id.seq, sh, bitF y]) (i := 2) (x := sh) z2 (by simp) rfl
   obtain ⟨c3', k3', m3⟩ := int_at (v := mkS t) (l := [id.client, id.seq, sh, bitF y]) (i := 3) (x := bitF y) z2 (by simp) rfl
   have k2' : indexAddrD (.slice 1) (mkS t) (.int .i64 2) = some c2' := k2'
   have k3' : indexAddrD (.slice 1) (mkS t) (.int .i64 3) = some c3' := k3'
   rw [k2] at k2'
   rw [k3] at k3'
   cases k2'
   cases k3'
   refine ⟨w1, m2, w1, m3, ?_⟩
   rw [ld2 z2.get, kv_some]
   exact ⟨rfl, z2.re5 [3, 4] rfl⟩
 · rw [e3, kP_some]
   have z0 := s4.box [i64 0, .slice none 0 0, .slice none 0 0] 3
   generalize h5.new (.cells [i64 0, .slice none 0 0, .slice none 0 0] 3 .rw) = g3 at z0 ⊢
   generalize h5.next = b7 at z0 ⊢
   obtain ⟨p0, p1, p2, p3⟩ := keepC z0
   refine ⟨p0, p1, p2, p3, ?_⟩
   refine cl_then (ref12_WordOk (.inl rfl) id hc hsh z0) ?_
   rintro r g4 ⟨t', u', rfl, z⟩
   simp only [extract_tuple, List.getElem?_toArray, List.getElem?_cons_zero, List.getElem?_cons_succ, kv_some]
   rw [st_of (n := 3) (vs := [i64 6, mkS t', mkS u']) z.get (by simp) rfl rfl rfl (by simp), kH_some]
   have z1 := (z.write (cs' := setList [i64 0, .slice none 0 0, .slice none 0 0] 0 [i64 6, mkS t', mkS u'])).drop
   generalize AHeap.put _ _ _ = g5 at z1 ⊢
   have w1 : g5.rd b1 1 = some (mkS t) := by rw [rd_of (Sep.get z1.up2) 1]; rfl
   obtain ⟨c2, k2, m2⟩ := int_at (v := mkS t) (l := [id.client, id.seq, sh, bitF y]) (i := 2) (x := sh) z1 (by simp) rfl
   obtain ⟨c3, k3, m3⟩ := int_at (v := mkS t) (l := [id.client, id.seq, sh, bitF y]) (i := 3) (x := bitF y) z1 (by simp) rfl
   have k2 : indexAddrD (.slice 1) (mkS t) (.int .i64 2) = some c2 := k2
   have k3 : indexAddrD (.slice 1) (mkS t) (.int .i64 3) = some c3 := k3
   have l6 : ldD (.agg 2) (ptr b6 0) g5 = some id.agg := ld2 z1.get
   simp only [not_bool, Bool.not_true, kv_some, ifV_bool, Bool.false_eq_true, if_false, l6, w1, k2, m2, k3, m3, bin_eql, hby]
   rw [st2 (Sep.get z1.up1), kH_some]
   have z2 := Sep.write (cs' := cId id) z1.up1
   clear w1 m2 m3 l6
   generalize AHeap.put _ _ _ = g6 at z2 ⊢
   have w1 : g6.rd b1 1 = some (mkS t) := by rw [rd_of (Sep.get z2.up2) 1]; rfl
   obtain ⟨c2', k2', m2⟩ := int_at (v := mkS t) (l := [id.client, id.seq, sh, bitF y]) (i := 2) (x := sh) z2 (by simp) rfl
   obtain ⟨c3', k3', m3⟩ := int_at (v := mkS t) (l := [id.client, id.seq, sh, bitF y]) (i := 3) (x := bitF y) z2 (by simp) rfl
   have k2' : indexAddrD (.slice 1) (mkS t) (.int .i64 2) = some c2' := k2'
   have k3' : indexAddrD (.slice 1) (mkS t) (.int .i64 3) = some c3' := k3'
   rw [k2] at k2'
   rw [k3] at k3'
   cases k2'
   cases k3'
   refine ⟨w1, m2, w1, m3, ?_⟩
   rw [ld2 z2.get, kv_some]
   exact ⟨rfl, z2.re5 [3, 4] rfl⟩
end Go.Abs
namespace Go.Abs
open Go Go.Proofs
variable {E : FE} {F : Fr} {h : AHeap} {L : List Pl}
theorem mod_upc (c : Bool) (x : Int) {d : Int} (hd : 0 < d ∧ d < 1000000) : ∃ n : Int, (0 ≤ n ∧ n < d) ∧ ∀ {h : AHeap} {X : V → Prop}, X (i64 n) →
 kv (binD .bad .rem c (i64 x) (.int .i64 d) h) fun v17 => kv (binD .bad .add c v17 (.int .i64 d) h) fun v18 => kv (binD .bad .rem c v18 (.int .i64 d) h) X := by
 have h1 := Int.tmod_lt_of_pos x hd.1
 have h2 : -d < x.tmod d := Int.lt_tmod_of_pos x hd.1
 have h3 : 0 ≤ (x.tmod d + d).tmod d := Int.tmod_nonneg _ (by omega)
 have h4 := Int.tmod_lt_of_pos (x.tmod d + d) hd.1
 refine ⟨(x.tmod d + d).tmod d, ⟨h3, h4⟩, fun {h X} hX => ?_⟩
 rw [bin_rem, if_neg (by omega), kv_some, add_i64 _ _ (by omega) (by omega), kv_some, bin_rem, if_neg (by omega), kv_some]
 exact hX
theorem mk_strs {n : Nat} (hn : n ≤ 8) (s : Sep F h L) {K : V → AHeap → Prop} (hK : ∀ t h', Sep F h' (plStrs (mkS t) (List.replicate n ⟨#[]⟩) :: L) → K (mkS t) h') :
 kP (makeSliceD (some (1, 16, [(.string ⟨#[]⟩)])) (i64 n) (i64 n) h) K := by
 by_cases h0 : n = 0
 · subst h0
   have e1 : makeSliceD (some (1, 16, [(.string ⟨#[]⟩)])) (i64 (0 : Nat)) (i64 (0 : Nat)) h = some (.slice (some ⟨h.next, 0, none⟩) 0 0, h.new (.cells [] 1 .rw)) := rfl
   rw [e1, kP_some]
   refine hK (some ⟨h.next, 0, none⟩, 0, 0) _ (s.alloc (a' := [h.next]) (plStrs (mkS (some ⟨h.next, 0, none⟩, 0, 0)) []) ⟨by simp, fun x hx _ => by
    have : x ≠ h.next := by omega
    simp [this], by simp, by simp⟩ (ts_sle.2 ⟨rfl, .inr ⟨h.next, 0, [], rfl, rfl, by simp, by simp, by simp; rfl, by simp, rfl⟩⟩))
 · have e1 : makeSliceD (some (1, 16, [(.string ⟨#[]⟩)])) (i64 (n : Nat)) (i64 (n : Nat)) h = some (.slice (some ⟨h.next, 0, none⟩) (List.replicate n (⟨#[]⟩ : ByteArray)).length (2 * (List.replicate n (⟨#[]⟩ : ByteArray)).length), h.new (.cells (dStr.flat (List.replicate n ⟨#[]⟩)) 1 .rw)) := by
    have : n = 1 ∨ n = 2 ∨ n = 3 ∨ n = 4 ∨ n = 5 ∨ n = 6 ∨ n = 7 ∨ n = 8 := by omega
    rcases this with rfl | rfl | rfl | rfl | rfl | rfl | rfl | rfl <;> rfl
   rw [e1, kP_some]
   exact hK (some ⟨h.next, 0, none⟩, (List.replicate n (⟨#[]⟩ : ByteArray)).length, 2 * (List.replicate n (⟨#[]⟩ : ByteArray)).length) _ (s.litStrs (List.replicate n ⟨#[]⟩) (by intro e; have := congrArg List.length e; simp at this; omega))
theorem shards_some {l : List Oq} {n : Nat} (hn : 0 < n) (hl : 0 < l.length) : 0 < (shardsF (partsF l n)).length := by
 have := hasF_mem (has_sh (l := l) hn hl)
 exact List.length_pos_of_mem this
theorem hasF_nat (ps : List (List Int)) (s : Nat) : hasF ps (s : Int) = decide (0 < (ps.getD s []).length) := by
 unfold hasF
 have : (0 : Int) ≤ (s : Int) := by omega
 simp [this]
end Go.Abs
namespace Go.Abs
open Go Go.Proofs
variable {E : FE} {F : Fr} {h : AHeap} {L : List Pl} {nn : Nat} {ops : List Oq}
theorem wants_head {f : Int → Option WdM} {n s : Nat} {P : Int → Bool} (hs : s < n) (hP : P (s : Int) = true) (h0 : ∀ k : Nat, k < s → P (k : Int) = true → f (k : Int) = none) {x : WdM} (hx : f (s : Int) = some x) :
 ∃ rest, (((List.range n).map fun i : Nat => (i : Int)).filter P).filterMap f = x :: rest := by
 have e : List.range n = List.range s ++ s :: (List.range n).drop (s + 1) := by
  have h1 : s < (List.range n).length := by simpa using hs
  have h2 : (List.range n).take s = List.range s := by rw [List.take_range, Nat.min_eq_left (by omega)]
  have h3 : (List.range n)[s] = s := by simp
  rw [← h2]
  have h4 := List.drop_eq_getElem_cons h1
  rw [h3] at h4
  rw [← h4, List.take_append_drop]
 rw [e, List.map_append, List.filter_append, List.filterMap_append]
 have h1 : (((List.range s).map fun i : Nat => (i : Int)).filter P).filterMap f = [] := by
  rw [List.filterMap_eq_nil_iff]
  intro a ha
  obtain ⟨h2, h3⟩ := List.mem_filter.1 ha
  obtain ⟨k, hk, rfl⟩ := List.mem_map.1 h2
  exact h0 k (by simpa using hk) h3
 rw [h1, List.nil_append, List.map_cons, List.filter_cons_of_pos hP, List.filterMap_cons, hx]
 exact ⟨_, rfl⟩
theorem ofF_length : ∀ (p : List Int), (∀ x ∈ p, 0 ≤ x ∧ x < (ops.length : Int)) → (ofF ops p).length = p.length
 | [], _ => rfl
 | a :: p, h => by
  have h1 := h a (by simp)
  have hg : ops[a.toNat]? = some (ops[a.toNat]'(by omega)) := List.getElem?_eq_getElem (by omega)
  have := ofF_length p fun x hx => h x (by simp [hx])
  unfold ofF at this ⊢
  rw [List.filterMap_cons, hg]
  simp [this]
theorem allO_of (ho : allO ops = true) {s : Nat} (hs : s < nn) (hh : hasF (partsF ops nn) (s : Int) = true) : allO (ofF ops ((partsF ops nn).getD s [])) = true := by
 have h9 := ho
 unfold allO at h9
 simp only [Bool.and_eq_true, decide_eq_true_eq, List.all_eq_true] at h9
 have hm : (partsF ops nn).getD s [] ∈ partsF ops nn := by
  rw [List.getD_eq_getElem?_getD, List.getElem?_eq_getElem (by rw [parts_len]; exact hs)]
  exact List.getElem_mem _
 have hl := ofF_length (ops := ops) _ (parts_lt hm)
 have h8 := parts_short hm
 rw [hasF_nat] at hh
 simp only [decide_eq_true_eq] at hh
 unfold allO
 simp only [Bool.and_eq_true, decide_eq_true_eq, List.all_eq_true]
 exact ⟨⟨by omega, by omega⟩, fun o ho' => h9.2 o (ofF_mem o ho')⟩
theorem wants_W (hn : 1 ≤ nn ∧ nn ≤ 3) (ho : allO ops = true) {s : Nat} (hs : s < nn) (hh : hasF (partsF ops nn) (s : Int) = true) :
 ∃ rest, wantsA nn (dW nn ops s) [idW] = ⟨s, ⟨4, idW.client :: idW.seq :: (ofF ops ((partsF ops nn).getD s [])).flatMap fun o => [o.fn, o.n], (ofF ops ((partsF ops nn).getD s [])).flatMap fun o => [o.space, o.key, o.val]⟩⟩ :: rest := by
 have hlt : (shW nn ops s).length < (shW nn ops nn).length := by
  have := shW_le (nn := nn) (ops := ops) (show s + 1 ≤ nn by omega)
  rw [shW_yes hh, List.length_append] at this
  simp at this
  omega
 have hd : dW nn ops s = ⟨(nn : Nat), [(2, 1)], [(idW, { newTr ops nn with votes := votesW nn ops s })], []⟩ := by unfold dW; rw [if_pos hlt]
 have hp : putV 4 idW (ofF ops ((partsF ops nn).getD s [])) = (⟨4, idW.client :: idW.seq :: (ofF ops ((partsF ops nn).getD s [])).flatMap fun o => [o.fn, o.n], (ofF ops ((partsF ops nn).getD s [])).flatMap fun o => [o.space, o.key, o.val]⟩, true) := by
  unfold putV
  rw [allO_of ho hs hh]
  rfl
 rw [hd]
 unfold wantsA
 simp only [List.flatMap_cons, List.flatMap_nil, List.append_nil, lkp_one]
 unfold wantsF shardsF
 rw [show (({ newTr ops nn with votes := votesW nn ops s } : TransM)).parts = partsF ops nn from rfl, parts_len]
 refine wants_head hs hh (fun k hk hk2 => ?_) ?_
 · unfold wantF
   have hl : (lkp (k : Int) (votesW nn ops s)).isSome = true := by
    unfold votesW
    rw [lkp_map, if_pos (shW_mem.2 ⟨hk, hk2⟩)]
    rfl
   show (if (false && _) = true then _ else if (!false && !(lkp (k : Int) (votesW nn ops s)).isSome) = true then _ else none) = none
   rw [hl]
   rfl
 · unfold wantF
   have hl : (lkp (s : Int) (votesW nn ops s)).isSome = false := by
    unfold votesW
    rw [lkp_map, if_neg]
    · rfl
    · intro hm
      have := (shW_mem.1 hm).1
      omega
   show (if (false && _) = true then _ else if (!false && !(lkp (s : Int) (votesW nn ops s)).isSome) = true then (if (putV 4 idW (ofF ops ((partsF ops nn).getD ((s : Int)).toNat []))).2 = true then some (⟨(s : Int), (putV 4 idW (ofF ops ((partsF ops nn).getD ((s : Int)).toNat []))).1⟩ : WdM) else none) else none) = _
   rw [hl, Int.toNat_natCast, hp]
   rfl
theorem wants_F (hn : 1 ≤ nn ∧ nn ≤ 3) {s : Nat} (hs : s < nn) (hh : hasF (partsF ops nn) (s : Int) = true) :
 ∃ rest, wantsA nn (dF nn ops s) [idW] = ⟨s, ⟨6, [idW.client, idW.seq, (s : Int), bitF true], []⟩⟩ :: rest := by
 have hlt : (shW nn ops s).length < (shW nn ops nn).length := by
  have := shW_le (nn := nn) (ops := ops) (show s + 1 ≤ nn by omega)
  rw [shW_yes hh, List.length_append] at this
  simp at this
  omega
 have hd : dF nn ops s = ⟨(nn : Nat), [(2, 1)], [(idW, tD nn ops (doneW nn ops s))], [(2, [ansOf nn idW (tW nn ops)])]⟩ := by unfold dF; rw [if_pos hlt]
 have hw : wordV 6 idW (s : Int) true = (⟨6, [idW.client, idW.seq, (s : Int), bitF true], []⟩, true) := by
  unfold wordV
  rw [decide_eq_true (show (0 : Int) ≤ (s : Int) by omega), decide_eq_true (show (s : Int) < 3 by omega)]
  rfl
 rw [hd]
 unfold wantsA
 simp only [List.flatMap_cons, List.flatMap_nil, List.append_nil, lkp_one]
 unfold wantsF shardsF
 rw [show (tD nn ops (doneW nn ops s)).parts = partsF ops nn from rfl, parts_len]
 refine wants_head hs hh (fun k hk hk2 => ?_) ?_
 · unfold wantF
   have hl : (lkp (k : Int) (doneW nn ops s)).isSome = true := by
    unfold doneW
    rw [lkp_map (fun _ => ()), if_pos (shW_mem.2 ⟨hk, hk2⟩)]
    rfl
   show (if (true && !(lkp (k : Int) (doneW nn ops s)).isSome) = true then _ else if (!true && _) = true then _ else none) = none
   rw [hl]
   rfl
 · unfold wantF
   have hl : (lkp (s : Int) (doneW nn ops s)).isSome = false := by
    unfold doneW
    rw [lkp_map (fun _ => ()), if_neg]
    · rfl
    · intro hm
      have := (shW_mem.1 hm).1
      omega
   show (if (true && !(lkp (s : Int) (doneW nn ops s)).isSome) = true then (if (wordV 6 idW (s : Int) true).2 = true then some (⟨(s : Int), (wordV 6 idW (s : Int) true).1⟩ : WdM) else none) else _) = _
   rw [hl, hw]
   rfl
theorem wd_first {v : V} {w : WdM} {rest : List WdM} (s : Sep F h (plWds v (w :: rest) :: L)) : ∃ (b o : Nat) (t u : Tri) (n : Nat), 0 < n ∧ lenD .slice v h = some (i64 n) ∧ indexAddrD (.slice 4) v (.int .i64 0) = some (ptr b o) ∧ h.rd b o = some (i64 w.to) ∧ h.rd b (o + 1) = some (i64 w.r.kind) ∧
 h.rdN b (o + 1) 3 = some [i64 w.r.kind, mkS t, mkS u] ∧ Sep F h (plI64s (mkS t) w.r.nums :: plStrs (mkS u) w.r.texts :: L) := by
 have hlen := Sep.lenWds s
 obtain ⟨qs, hq, s1⟩ := s.openWds
 match qs, hq with
 | ⟨w', t, u⟩ :: qs, hq =>
  simp only [List.map_cons, List.cons.injEq] at hq
  obtain ⟨rfl, hq⟩ := hq
  obtain ⟨b, o, a1, a2, a3, _⟩ := s1.rowAt (i := 0) (x := (w', t, u)) rfl
  have a2 : h.rdN b o 4 = some [i64 w'.to, i64 w'.r.kind, mkS t, mkS u] := a2
  have s2 := s1.openRow.drop
  refine ⟨b, o, t, u, rest.length + 1, by omega, by rw [hlen]; rfl, a1, a3 0 (by decide), a3 1 (by decide), ?_, ?_⟩
  · unfold AHeap.rdN at a2 ⊢
    split at a2
    · rename_i cs e k hb
      split at a2
      · rename_i hle
        rw [if_pos (by omega)]
        have h1 := Option.some.inj a2
        congr 1
        have h2 : (cs.drop (o + 1)).take 3 = ((cs.drop o).take 4).drop 1 := by rw [List.drop_take, List.drop_drop]
        rw [h2, h1]
        rfl
      · cases a2
    · cases a2
  · have s3 : Sep F h (plI64s (mkS t) w'.r.nums :: plStrs (mkS u) w'.r.texts :: (qs.flatMap rdWd.I ++ L)) := s2
    exact (s3.perm (List.perm_append_comm_assoc [plI64s (mkS t) w'.r.nums, plStrs (mkS u) w'.r.texts] (qs.flatMap rdWd.I) L)).dropL
end Go.Abs

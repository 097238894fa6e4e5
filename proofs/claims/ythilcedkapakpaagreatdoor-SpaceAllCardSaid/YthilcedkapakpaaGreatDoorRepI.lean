/- Specs on abstract heaps, part 34: the document's topics, numbers. -/
import Derived.Test.YthilcedkapakpaaGreatDoorRepH
set_option linter.unusedSimpArgs false
set_option linter.unusedVariables false
namespace Go.Abs
open Go Go.Proofs
variable {E : FE} {h h' : AHeap} {fp : List Nat} {p : V} {s : SpM}

theorem ref8_Pub (c : Sp h fp p s) (x : ByteArray) (hsz : s.items.length + s.lost.length ≤ 1000000) :
    cl (Go.Abs.F.estafetteref8_Space_Pub E) [p, str x] h fun r h' =>
      if s.items.length < 64 then r = .tuple #[i64 s.items.length, .bool true] ∧ ∃ fp', Sp h' fp' p { s with items := s.items ++ [⟨0, x, 0, 0⟩] } ∧ Mod h fp h' fp'
      else r = .tuple #[i64 0, .bool false] ∧ h' = h := by
  obtain ⟨b, fP, fI, fL, vP, vI, vL, rfl, rfl, c⟩ := c
  refine cl_of ?_
  have l1 := Sl.len c.items
  simp only [Go.Abs.F.estafetteref8_Space_Pub, kv_some, aNil_ptr, fieldAddr_ptr, ld_one, rd_of c.cell, Nat.zero_add, List.getElem?_cons_succ, List.getElem?_cons_zero, l1]
  simp only [bin_geq, kv_some, ifV_bool]
  by_cases hc : s.items.length < 64
  · have hd : ¬ ((s.items.length : Int) ≥ 64) := by omega
    simp only [hd, decide_false, if_pos hc, Bool.false_eq_true, if_false]
    have e1 : buildD (.struct [(.int .i64 0), (.string ⟨#[]⟩), (.int .i64 0), (.int .i64 0)] [(0, 1), (1, 1), (2, 1), (3, 1)]) [(1, str x)] = some (.agg #[i64 0, str x, i64 0, i64 0]) := rfl
    have e2 : buildSliceD (some (4, [(.int .i64 0), (.string ⟨#[]⟩), (.int .i64 0), (.int .i64 0)])) 1 [(0, .agg #[i64 0, str x, i64 0, i64 0])] h =
      some (.slice (some ⟨h.next, 0, none⟩) 1 2, h.new (.cells [i64 0, str x, i64 0, i64 0] 4 .rw)) := rfl
    simp only [e1, kv_some, e2, kP_some]
    have m0 : Mod h (b :: (fP ++ (fI ++ fL))) (h.new (.cells [i64 0, str x, i64 0, i64 0] 4 .rw)) (b :: (fP ++ (fI ++ fL))) := Mod.newBox c.lt
    have c1 : SpC (h.new (.cells [i64 0, str x, i64 0, i64 0] 4 .rw)) b fP fI fL vP vI vL s := c.same (by simp) fun y hy => by
      have := c.lt y hy
      have : y ≠ h.next := by omega
      simp [this]
    obtain ⟨v', h1, fI', a1, a2, a3⟩ := Sl.append c1.items (x := .slice (some ⟨h.next, 0, none⟩) 1 2) (k := 1) (bytes := 40) (z := zMsg) (new := (⟨0, x, 0, 0⟩ : Msg).cells) rfl (by decide) (by decide) rfl
      (fun _ => by simp [aSrc, sliceCells, AHeap.rdN, Msg.cells]) rfl rfl (by omega)
    simp only [zMsg] at a1
    rw [a1]
    simp only [kP_some]
    have g2 : h1.get b = some (.cells [str s.name, i64 s.kind, vP, i64 s.most, vI, vL, i64 s.next] 7 .rw) := by rw [a3.same b c1.b_lt c.bI]; exact c1.cell
    obtain ⟨q1, q2⟩ := Sl.cell a2
    rw [st_one g2 (by simp) q1 q2 (by simp)]
    simp only [kH_some, List.set_cons_succ, List.set_cons_zero]
    have hI : Ms h1 fI' v' (s.items ++ [⟨0, x, 0, 0⟩]) := by simpa [Ms] using a2
    obtain ⟨c2, m2⟩ := c1.setItems a3 hI s.next
    have l2 := Sl.len c2.items
    simp only [rd_of c2.cell, List.getElem?_cons_succ, List.getElem?_cons_zero, kv_some, l2]
    rw [sub_i64 _ 1 (by omega) (by simp; omega), kv_some]
    refine ⟨?_, _, ⟨b, fP, fI', fL, vP, v', vL, rfl, rfl, c2⟩, m0.trans m2⟩
    rw [show (((s.items ++ [(⟨0, x, 0, 0⟩ : Msg)]).length : Int) - 1) = (s.items.length : Int) by simp]
  · have hd : (s.items.length : Int) ≥ 64 := by omega
    simp only [hd, decide_true, if_neg hc, if_true]
    exact ⟨trivial, trivial⟩

/-- Where a group is. -/
def grpN (k : ByteArray) (ps : List Pr) : Int := ((hitP k ps).map (·.at_)).getD 0

theorem ref8_Group (c : Sp h fp p s) (k : ByteArray) (hsz : s.pairs.length ≤ 1000000) :
    cl (Go.Abs.F.estafetteref8_Space_Group E) [p, str k] h fun r h' => h' = h ∧ r = i64 (grpN k s.pairs) := by
  have hat := ref8_at (E := E) c k hsz
  obtain ⟨b, fP, fI, fL, vP, vI, vL, rfl, rfl, c⟩ := c
  refine cl_of ?_
  simp only [Go.Abs.F.estafetteref8_Space_Group]
  refine cl_then hat ?_
  rintro r h' ⟨eh, rfl⟩
  rw [eh]
  simp only [extract_tuple, List.getElem?_toArray, List.getElem?_cons_zero, List.getElem?_cons_succ, kv_some, not_bool, ifV_bool]
  unfold grpN
  cases hh : hitP k s.pairs with
  | none => simp
  | some q =>
    have hq : s.pairs[posP k s.pairs]? = some q := by
      rw [hit_eq] at hh
      obtain ⟨q', h1, h2⟩ := Option.bind_eq_some_iff.1 hh
      split at h2
      · cases h2; exact h1
      · cases h2
    obtain ⟨bp, _, i1, _, _, i2⟩ := Prs.at c.pairs hq
    simp only [Option.isSome_some, Bool.not_true, Bool.false_eq_true, if_false, aNil_ptr, kv_some, fieldAddr_ptr, ld_one, Nat.zero_add, rd_of c.cell, List.getElem?_cons_succ, List.getElem?_cons_zero, i1, i2]
    exact ⟨trivial, rfl⟩

/-- A list of texts that gets one more. -/
theorem Ts.push {v : V} {l : List ByteArray} (t : Ts h fp v l) (x : ByteArray) (hsz : l.length ≤ 1000000) :
    ∃ v' h' fp', buildSliceD (some (1, [(.string ⟨#[]⟩)])) 1 [(0, str x)] h = some (.slice (some ⟨h.next, 0, none⟩) 1 2, h.new (.cells [str x] 1 .rw)) ∧
      appendD (some (1, 16, [(.string ⟨#[]⟩)])) v (.slice (some ⟨h.next, 0, none⟩) 1 2) (h.new (.cells [str x] 1 .rw)) = some (v', h') ∧ Ts h' fp' v' (l ++ [x]) ∧ Mod h fp h' fp' := by
  have m0 : Mod h fp (h.new (.cells [str x] 1 .rw)) fp := Mod.newBox t.lt
  have s1 : Ts (h.new (.cells [str x] 1 .rw)) fp v l := t.same (by simp) fun y hy => by
    have := t.lt y hy
    have : y ≠ h.next := by omega
    simp [this]
  obtain ⟨v', h', fp', a1, a2, a3⟩ := Sl.append s1 (x := .slice (some ⟨h.next, 0, none⟩) 1 2) (k := 1) (bytes := 16) (z := [.string ⟨#[]⟩]) (new := [str x]) rfl (by decide) (by decide) rfl
    (fun _ => by simp [aSrc, sliceCells, AHeap.rdN]) rfl rfl (by omega)
  exact ⟨v', h', fp', rfl, a1, by simpa [Ts] using a2, m0.trans a3⟩

theorem ref8_Fetch (c : Sp h fp p s) (k : ByteArray) (most : Int) (hsz : s.pairs.length ≤ 1000000 ∧ s.items.length ≤ 1000000) (hk : 0 ≤ grpN k s.pairs ∧ grpN k s.pairs ≤ s.items.length) :
    cl (Go.Abs.F.estafetteref8_Space_Fetch E) [p, str k, i64 most] h fun r h' => ∃ fp', Ts h' fp' r (itemsT (s.items.map (·.val)) (grpN k s.pairs) most) ∧ Mod h [] h' fp' := by
  refine cl_of ?_
  simp only [Go.Abs.F.estafetteref8_Space_Fetch]
  refine cl_then (ref8_Group c k hsz.1) ?_
  rintro r h0 ⟨eh, rfl⟩
  rw [eh]
  generalize grpN k s.pairs = a at hk ⊢
  obtain ⟨n, rfl⟩ := Int.eq_ofNat_of_zero_le hk.1
  have hn : n ≤ s.items.length := by omega
  have hL : itemsT (s.items.map (·.val)) (n : Int) most = ((s.items.map (·.val)).drop n).take (min most.toNat (s.items.length - n)) := by
    unfold itemsT
    simp only [Int.toNat_natCast, List.length_map]
    congr 1
    omega
  have hlen : (itemsT (s.items.map (·.val)) (n : Int) most).length = min most.toNat (s.items.length - n) := by
    rw [hL, List.length_take, List.length_drop, List.length_map]
    omega
  have hget : ∀ j, j < (itemsT (s.items.map (·.val)) (n : Int) most).length → ∃ m, s.items[n + j]? = some m ∧ (itemsT (s.items.map (·.val)) (n : Int) most)[j]? = some m.val := by
    intro j hj
    rw [hlen] at hj
    refine ⟨s.items[n + j]'(by omega), List.getElem?_eq_getElem _, ?_⟩
    rw [hL, List.getElem?_take, if_pos hj, List.getElem?_drop, List.getElem?_map, List.getElem?_eq_getElem (by omega : n + j < s.items.length)]
    rfl
  generalize itemsT (s.items.map (·.val)) (n : Int) most = L at hlen hget ⊢
  refine ⟨fun m vs h' => ∃ (v : V) (j : Nat) (f : List Nat), vs = [v, i64 ((n + j : Nat) : Int)] ∧ j ≤ L.length ∧ m = L.length - j ∧ Ts h' f v (L.take j) ∧ Mod h [] h' f, L.length, ⟨.slice none 0 0, 0, [], rfl, by omega, by omega, by simpa [Ts] using (Sl.nil : Sl h [] (.slice none 0 0) 1 0 []), Mod.refl (by simp)⟩, ?_⟩
  rintro m e h1 ⟨v, j, f, he, hj, rfl, t1, m1⟩
  simp only [List.cons.injEq, and_true] at he
  obtain ⟨e1, e2⟩ := he
  have c1 : Sp h1 fp p s := c.same m1.next fun x hx => m1.same x (c.lt x hx) (by simp)
  obtain ⟨b, fP, fI, fL, vP, vI, vL, rfl, rfl, c1⟩ := c1
  have lI := Sl.len c1.items
  have lT := Sl.len t1
  have hjl : (L.take j).length = j := by simp; omega
  rw [hjl] at lT
  simp only [e1, e2, aNil_ptr, kv_some, fieldAddr_ptr, ld_one, Nat.zero_add, rd_of c1.cell, List.getElem?_cons_succ, List.getElem?_cons_zero, lI, bin_lss, gdV_bool]
  by_cases hin : j < L.length
  · have x1 : ((n + j : Nat) : Int) < (s.items.length : Nat) := by omega
    have x2 : (j : Int) < most := by omega
    obtain ⟨mm, hm1, hm2⟩ := hget j hin
    obtain ⟨bi, i1, _, _, _, i2, _⟩ := Ms.at c1.items hm1
    obtain ⟨v', h2, f2, p1, p2, p3, p4⟩ := t1.push mm.val (by rw [hjl]; omega)
    simp only [x1, decide_true, if_true, kv_some, lT, bin_lss, x2, pickV_bool, ifV_bool, aNil_ptr, fieldAddr_ptr, ld_one, Nat.zero_add, rd_of c1.cell, List.getElem?_cons_succ, List.getElem?_cons_zero, i1, i2]
    rw [p1, kP_some, p2, kP_some, add_i64 _ 1 (by omega) (by omega), kv_some]
    refine ⟨L.length - (j + 1), by omega, v', j + 1, f2, by simp; omega, by omega, rfl, ?_, m1.trans p4⟩
    rw [List.take_add_one, hm2]
    exact p3
  · have hjL : L.take j = L := List.take_of_length_le (by omega)
    rw [hjL] at t1
    by_cases x1 : ((n + j : Nat) : Int) < (s.items.length : Nat)
    · have x2 : ¬ (j : Int) < most := by omega
      simp only [x1, decide_true, if_true, kv_some, lT, bin_lss, x2, decide_false, pickV_bool, ifV_bool, Bool.false_eq_true, if_false]
      exact ⟨f, t1, m1⟩
    · simp only [x1, decide_false, Bool.false_eq_true, if_false, kv_some, pickV_bool, ifV_bool]
      exact ⟨f, t1, m1⟩

theorem ref8_Seek (c : Sp h fp p s) (k : ByteArray) (fr to : Int) (hsz : s.pairs.length ≤ 1000000) :
    cl (Go.Abs.F.estafetteref8_Space_Seek E) [p, str k, i64 fr, i64 to] h fun r h' =>
      if grpN k s.pairs = fr ∧ fr ≤ to ∧ to ≤ s.items.length ∧ ((hitP k s.pairs).isSome ∨ s.pairs.length < 16) then r = .bool true ∧ ∃ fp', Sp h' fp' p { s with pairs := putP ⟨k, ⟨#[]⟩, to⟩ s.pairs } ∧ Mod h fp h' fp'
      else r = .bool false ∧ h' = h := by
  refine cl_of ?_
  simp only [Go.Abs.F.estafetteref8_Space_Seek]
  refine cl_then (ref8_at c k hsz) ?_
  rintro r h0 ⟨eh, rfl⟩
  rw [eh]
  simp only [extract_tuple, List.getElem?_toArray, List.getElem?_cons_zero, List.getElem?_cons_succ, kv_some]
  refine cl_then (ref8_Group c k hsz) ?_
  rintro r h0 ⟨eh, rfl⟩
  rw [eh]
  have c0 := c
  obtain ⟨b, fP, fI, fL, vP, vI, vL, rfl, rfl, cc⟩ := c
  have lI := Sl.len cc.items
  have lP := Sl.len cc.pairs
  have bad : ∀ (X : V → Prop), X (.bool (!(decide (grpN k s.pairs = fr ∧ fr ≤ to ∧ to ≤ s.items.length ∧ ((hitP k s.pairs).isSome ∨ s.pairs.length < 16))))) →
      (kv (binD .bad .neq false (i64 (grpN k s.pairs)) (i64 fr) h) fun v21 => kv (gdV v21 false (some (i64 to))) fun v23 => kv (gdV v21 false (some (i64 fr))) fun v24 => kv (gdV v21 false (binD .bad .lss false v23 v24 h)) fun v25 => kv (pickV v21 (.bool true) v25) fun v26 =>
        kv (gdV v26 false (some (i64 to))) fun v28 => kv (gdV v26 false (some (ptr b 0))) fun v29 => kv (gdV v26 false (aNil v29)) fun v30 => kv (gdV v26 false (fieldAddrD (some 4) v30)) fun v31 => kv (gdV v26 false (ldD .one v31 h)) fun v32 => kv (gdV v26 false (lenD .slice v32 h)) fun v33 =>
        kv (gdV v26 false (binD .bad .gtr false v28 v33 h)) fun v34 => kv (pickV v26 (.bool true) v34) fun v35 => kv (gdV v35 false (some (.bool (hitP k s.pairs).isSome))) fun v37 => kv (gdV v35 false (aUn .not v37)) fun v38 => kv (gdV v35 false (some v38)) fun v39 =>
        kv (gdV v39 true (some (ptr b 0))) fun v40 => kv (gdV v39 true (aNil v40)) fun v41 => kv (gdV v39 true (fieldAddrD (some 2) v41)) fun v42 => kv (gdV v39 true (ldD .one v42 h)) fun v43 => kv (gdV v39 true (lenD .slice v43 h)) fun v44 =>
        kv (gdV v39 true (binD .bad .geq true v44 (.int .i64 16) h)) fun v45 => kv (gdV v35 false (pickV v39 v45 (.bool false))) fun v46 => kv (pickV v35 (.bool true) v46) X) := by
    intro X hX
    by_cases h1 : grpN k s.pairs = fr
    · have b1 : (grpN k s.pairs != fr) = false := by simp [h1]
      simp only [bin_neq, b1, kv_some, gdV_bool, if_true, bin_lss, pickV_bool, Bool.false_eq_true, if_false]
      by_cases h2 : to < fr
      · have : decide (grpN k s.pairs = fr ∧ fr ≤ to ∧ to ≤ s.items.length ∧ ((hitP k s.pairs).isSome ∨ s.pairs.length < 16)) = false := by simp; omega
        rw [this] at hX
        simpa only [h2, decide_true, gdV_bool, gdV_gone, Bool.true_eq_false, if_false, if_true, kv_some, pickV_bool, Bool.not_false, Bool.not_true] using hX
      · simp only [h2, decide_false, gdV_bool, if_true, kv_some, aNil_ptr, fieldAddr_ptr, ld_one, Nat.zero_add, rd_of cc.cell, List.getElem?_cons_succ, List.getElem?_cons_zero, lI, bin_gtr, pickV_bool, Bool.false_eq_true, if_false]
        by_cases h3 : to > (s.items.length : Nat)
        · have : decide (grpN k s.pairs = fr ∧ fr ≤ to ∧ to ≤ s.items.length ∧ ((hitP k s.pairs).isSome ∨ s.pairs.length < 16)) = false := by simp; omega
          rw [this] at hX
          simpa only [h3, decide_true, gdV_bool, gdV_gone, Bool.true_eq_false, if_false, if_true, kv_some, pickV_bool, Bool.not_false, Bool.not_true] using hX
        · simp only [h3, decide_false, gdV_bool, if_true, kv_some, not_bool, Bool.false_eq_true, if_false]
          cases h4 : (hitP k s.pairs).isSome with
          | true =>
            have : decide (grpN k s.pairs = fr ∧ fr ≤ to ∧ to ≤ s.items.length ∧ ((hitP k s.pairs).isSome ∨ s.pairs.length < 16)) = true := by simp [h4]; omega
            rw [h4] at this
            rw [h4, this] at hX
            simpa only [Bool.not_true, gdV_bool, gdV_gone, Bool.false_eq_true, if_false, kv_some, pickV_bool, Bool.not_false, Bool.not_true] using hX
          | false =>
            simp only [Bool.not_false, gdV_bool, if_true, kv_some, aNil_ptr, fieldAddr_ptr, ld_one, Nat.zero_add, rd_of cc.cell, List.getElem?_cons_succ, List.getElem?_cons_zero, lP, bin_geq, pickV_bool]
            by_cases h5 : (s.pairs.length : Int) ≥ 16
            · have : decide (grpN k s.pairs = fr ∧ fr ≤ to ∧ to ≤ s.items.length ∧ ((hitP k s.pairs).isSome ∨ s.pairs.length < 16)) = false := by simp [h4]; omega
              rw [this] at hX
              simpa only [h5, decide_true, Bool.false_eq_true, if_false, Bool.not_false] using hX
            · have : decide (grpN k s.pairs = fr ∧ fr ≤ to ∧ to ≤ s.items.length ∧ ((hitP k s.pairs).isSome ∨ s.pairs.length < 16)) = true := by simp [h4]; omega
              rw [this] at hX
              simpa only [h5, decide_false, Bool.false_eq_true, if_false, Bool.not_true] using hX
    · have b1 : (grpN k s.pairs != fr) = true := by simp [h1]
      have : decide (grpN k s.pairs = fr ∧ fr ≤ to ∧ to ≤ s.items.length ∧ ((hitP k s.pairs).isSome ∨ s.pairs.length < 16)) = false := by simp [h1]
      rw [this] at hX
      simpa only [bin_neq, b1, kv_some, gdV_bool, gdV_gone, Bool.true_eq_false, if_false, if_true, pickV_bool, Bool.not_false] using hX
  refine bad _ ?_
  cases hd : decide (grpN k s.pairs = fr ∧ fr ≤ to ∧ to ≤ s.items.length ∧ ((hitP k s.pairs).isSome ∨ s.pairs.length < 16)) with
  | true =>
    have hc := of_decide_eq_true hd
    simp only [Bool.not_true, ifV_bool, Bool.false_eq_true, if_false]
    have e1 : buildD (.struct [(.string ⟨#[]⟩), (.string ⟨#[]⟩), (.int .i64 0)] [(0, 1), (1, 1), (2, 1)]) [(0, str k), (2, i64 to)] = some (.agg #[str k, str ⟨#[]⟩, i64 to]) := rfl
    simp only [e1, kv_some]
    refine cl_then (ref8_put c0 ⟨k, ⟨#[]⟩, to⟩ hsz) ?_
    rintro r2 h2 ⟨_, h3⟩
    rw [if_pos hc]
    exact ⟨trivial, h3⟩
  | false =>
    have hc := of_decide_eq_false hd
    simp only [Bool.not_false, ifV_bool, if_true]
    rw [if_neg hc]
    exact ⟨trivial, trivial⟩

end Go.Abs

set_option linter.unusedSimpArgs false
set_option linter.unusedVariables false
namespace Go.Abs
open Go Go.Proofs
variable {E : FE} {h h' : AHeap} {fp : List Nat} {p : V} {s : SpM}

theorem ref8_had (v : ByteArray) (ok : Bool) (hv : v.size ≤ BB) : cl (Go.Abs.F.estafetteref8_had E) [str v, .bool ok] h fun r h' => h' = h ∧ r = str (if ok then ⟨#[61]⟩ ++ v else ⟨#[45]⟩) := by
  refine cl_of ?_
  have hB : BB = 1152921504606846976 := rfl
  have e61 : (⟨#[61]⟩ : ByteArray).size = 1 := rfl
  simp only [Go.Abs.F.estafetteref8_had, not_bool, kv_some, ifV_bool]
  cases ok with
  | true =>
    simp only [Bool.not_true, Bool.false_eq_true, if_false, if_true]
    rw [str_add _ _ _ _ (by omega), kv_some]
    exact ⟨trivial, rfl⟩
  | false =>
    simp only [Bool.not_false, if_true, Bool.false_eq_true, if_false]
    exact ⟨trivial, trivial⟩

theorem ref8_full (n : Nat) (ok : Bool) (hn : n ≤ 1000000000) : cl (Go.Abs.F.estafetteref8_full E) [i64 n, .bool ok] h fun r h' => r = (if ok then .tuple #[str (decT n), i64 0] else .tuple #[str ⟨#[]⟩, i64 6]) ∧ Mod h [] h' [] := by
  refine cl_of ?_
  simp only [Go.Abs.F.estafetteref8_full, not_bool, kv_some, ifV_bool]
  cases ok with
  | true =>
    simp only [Bool.not_true, Bool.false_eq_true, if_false, if_true]
    refine cl_then (ref8_Dec n hn) ?_
    rintro r h1 ⟨rfl, m⟩
    exact ⟨rfl, m⟩
  | false =>
    simp only [Bool.not_false, if_true, Bool.false_eq_true, if_false]
    exact ⟨trivial, Mod.refl (by simp)⟩

theorem ref8_none (ok : Bool) : cl (Go.Abs.F.estafetteref8_none E) [.bool ok] h fun r h' => h' = h ∧ r = .tuple #[str ⟨#[]⟩, i64 (if ok then 0 else 3)] := by
  refine cl_of ?_
  simp only [Go.Abs.F.estafetteref8_none, not_bool, kv_some, ifV_bool]
  cases ok <;> simp

theorem numV_app (c : UInt8) (l : List UInt8) : ∀ acc : Nat, numV acc (l ++ [c]) = numV acc l * 10 + (c.toNat - 48) := by
  induction l with
  | nil => intro acc; rfl
  | cons d l ih => intro acc; exact ih _

theorem ref8_Number (x : ByteArray) : cl (Go.Abs.F.estafetteref8_Number E) [str x] h fun r h' => h' = h ∧ ∃ n : Int, r = .tuple #[i64 n, .bool (numOk x)] ∧ (numOk x = true → n = numT x) := by
  obtain ⟨⟨l⟩⟩ := x
  refine cl_of ?_
  have ln : ∀ (x : ByteArray) (h : AHeap), lenD .str (str x) h = some (i64 (x.size : Nat)) := fun _ _ => rfl
  have esz : (⟨⟨l⟩⟩ : ByteArray).size = l.length := rfl
  have ix : ∀ (i : Nat) (c : UInt8), l[i]? = some c → indexD .str (str ⟨⟨l⟩⟩) (i64 i) = some (.int .u8 c.toNat) := by
    intro i c hc
    have e1 : (⟨⟨l⟩⟩ : ByteArray)[((i : Int)).toNat]? = some c := by
      rw [Int.toNat_natCast]
      obtain ⟨h1, h2⟩ := List.getElem?_eq_some_iff.1 hc
      rw [getElem?_pos _ i h1]
      exact congrArg some h2
    simp only [indexD]
    rw [if_pos (by omega), e1]
  simp only [Go.Abs.F.estafetteref8_Number]
  refine ⟨fun m vs h' => ∃ i : Nat, vs = [i64 (numV 0 (l.take i)), i64 i] ∧ i ≤ l.length ∧ i ≤ 13 ∧ m = 13 - i ∧ (l.take i).all isDig = true ∧ h' = h, 13, ⟨0, rfl, by omega, by omega, by omega, rfl, rfl⟩, ?_⟩
  rintro m e h1 ⟨i, he, hi, h13, rfl, hd, eh⟩
  simp only [List.cons.injEq, and_true] at he
  obtain ⟨e1, e2⟩ := he
  rw [eh]
  simp only [e1, e2, ln, esz, kv_some, bin_lss]
  have hnum := numV_lt (l.take i) 0 0 hd (by decide)
  have h14 : 10 ^ (0 + (l.take i).length) ≤ 10 ^ 13 := pow_le13 (by simp; omega)
  rw [ten13] at h14
  by_cases hgo : i < l.length ∧ i < 13
  · obtain ⟨hx, hy⟩ := hgo
    have hx' : (i : Int) < (l.length : Nat) := by omega
    have hy' : (i : Int) < 13 := by omega
    obtain ⟨c, hc⟩ : ∃ c, l[i]? = some c := ⟨l[i], by simp [hx]⟩
    have hcd : l.getD i 0 = c := by rw [List.getD_eq_getElem?_getD, hc]; rfl
    have htake : (l.take (i + 1)).all isDig = ((l.take i).all isDig && isDig c) := by
      rw [List.take_add_one, hc, List.all_append]
      simp
    have hall : isDig c = false → numOk ⟨⟨l⟩⟩ = false := by
      intro hf
      have : l.all isDig = false := by
        rw [List.all_eq_false]
        exact ⟨c, List.mem_of_getElem? hc, by simp [hf]⟩
      simp [numOk, this]
    have c256 : c.toNat < 256 := c.toNat_lt
    simp only [gdV_bool, hx', hy', decide_true, if_true, kv_some, bin_lss, pickV_bool, ifV_bool, ix i c hc]
    by_cases h48 : (c.toNat : Int) < 48
    · have : isDig c = false := by simp [isDig]; omega
      simp only [h48, decide_true, gdV_bool, gdV_gone, Bool.true_eq_false, if_false, if_true, kv_some, pickV_bool, ifV_bool]
      exact ⟨trivial, 0, by rw [hall this], fun h => by rw [hall this] at h; cases h⟩
    · simp only [h48, decide_false, gdV_bool, if_true, kv_some, ix i c hc, bin_gtr, pickV_bool, ifV_bool, Bool.false_eq_true, if_false]
      by_cases h57 : (c.toNat : Int) > 57
      · have : isDig c = false := by simp [isDig]; omega
        simp only [h57, decide_true, if_true]
        exact ⟨trivial, 0, by rw [hall this], fun h => by rw [hall this] at h; cases h⟩
      · have hdc : isDig c = true := by simp [isDig]; omega
        simp only [h57, decide_false, Bool.false_eq_true, if_false, bin_mul]
        rw [wrap_i64 (by omega) (by omega), kv_some]
        simp only [bin_sub, kv_some]
        have w : IntKind.u8.wrap ((c.toNat : Int) - 48) = ((c.toNat - 48 : Nat) : Int) := by
          have : IntKind.u8.wrap ((c.toNat : Int) - 48) = ((c.toNat : Int) - 48) % 256 := rfl
          rw [this]; omega
        rw [w]
        simp only [convD, Option.map_some, kv_some]
        rw [wrap_i64 (by omega) (by omega), add_i64 _ _ (by omega) (by omega), kv_some, add_i64 _ 1 (by omega) (by omega), kv_some]
        refine ⟨13 - (i + 1), by omega, i + 1, ?_, by omega, by omega, rfl, by rw [htake, hd, hdc]; rfl, trivial⟩
        have ht1 : l.take (i + 1) = l.take i ++ [c] := by
          rw [List.take_add_one, hc]
          rfl
        rw [ht1, numV_app]
        simp only [List.cons.injEq, Value.int.injEq, true_and, and_true]
        omega
  · have stop : ∀ X : V → Prop, X (.bool false) → (kv (gdV (.bool (decide ((i : Int) < (l.length : Nat)))) true (some (i64 i))) fun v11 => kv (gdV (.bool (decide ((i : Int) < (l.length : Nat)))) true (binD .bad .lss true v11 (.int .i64 13) h)) fun v12 =>
        kv (pickV (.bool (decide ((i : Int) < (l.length : Nat)))) v12 (.bool false)) X) := by
      intro X hX
      by_cases hx : (i : Int) < (l.length : Nat)
      · have hy : ¬ (i : Int) < 13 := by omega
        simpa only [hx, decide_true, gdV_bool, if_true, kv_some, bin_lss, hy, decide_false, pickV_bool] using hX
      · simpa only [hx, decide_false, gdV_bool, gdV_gone, Bool.false_eq_true, if_false, kv_some, pickV_bool] using hX
    refine stop _ ?_
    simp only [ifV_bool, Bool.false_eq_true, if_false, bin_geq, kv_some]
    have hbig : l.length ≤ 12 → i = l.length := by omega
    have done : ∀ (b : Bool), b = numOk ⟨⟨l⟩⟩ → (h = h ∧ ∃ n : Int, Value.tuple #[i64 (numV 0 (l.take i)), .bool b] = .tuple #[i64 n, .bool (numOk ⟨⟨l⟩⟩)] ∧ (numOk ⟨⟨l⟩⟩ = true → n = numT ⟨⟨l⟩⟩)) := by
      intro b hb
      refine ⟨rfl, _, by rw [hb], fun hok => ?_⟩
      have h12 : l.length ≤ 12 := by
        simp only [numOk, Bool.and_eq_true, decide_eq_true_eq] at hok
        exact hok.1.1.2
      have : numT ⟨⟨l⟩⟩ = numV 0 l := by simp only [numT, hok, if_true]
      rw [this, hbig h12, List.take_length]
    cases l with
    | nil =>
      have : ¬ (((([] : List UInt8).length : Nat) : Int) ≥ 1) := by simp
      simp only [this, decide_false, gdV_bool, gdV_gone, Bool.false_eq_true, if_false, kv_some, pickV_bool]
      simpa using done false rfl
    | cons c l =>
      have h1 : (((c :: l).length : Nat) : Int) ≥ 1 := by rw [List.length_cons]; omega
      simp only [h1, decide_true, gdV_bool, if_true, kv_some, ln, esz, bin_leq, pickV_bool]
      by_cases h12 : (((c :: l).length : Nat) : Int) ≤ 12
      · have hii := hbig (by omega)
        have hall : (c :: l).all isDig = true := by rw [hii, List.take_length] at hd; exact hd
        simp only [h12, decide_true, if_true, kv_some, str_eql, not_bool, gdV_bool]
        have i0 := ix 0 c rfl
        have e48 : decide ((⟨⟨c :: l⟩⟩ : ByteArray) = ⟨#[48]⟩) = decide (c = 48 ∧ l = []) := by
          rw [Bool.eq_iff_iff, decide_eq_true_eq, decide_eq_true_eq]
          constructor
          · intro h
            have h2 : (⟨c :: l⟩ : Array UInt8) = #[48] := congrArg ByteArray.data h
            have h3 : c :: l = [48] := congrArg Array.toList h2
            simpa using h3
          · rintro ⟨rfl, rfl⟩; rfl
        rw [e48]
        have enum : numOk ⟨⟨c :: l⟩⟩ = !((c == 48) && decide (l ≠ [])) := by
          have hl12 : l.length + 1 ≤ 12 := by simp at h12; omega
          have hne : decide ((c :: l).length > 1) = decide (l ≠ []) := by
            cases l <;> simp
          simp only [numOk, hall, List.isEmpty_cons, Bool.not_false, Bool.true_and, Bool.and_true, List.head?_cons]
          rw [hne]
          simp [hl12]
        by_cases hc : c = 48
        · by_cases hl : l = []
          · have : decide (c = 48 ∧ l = []) = true := by simp [hc, hl]
            simp only [this, gdV_bool, Bool.true_eq_false, if_false, if_true, kv_some, gdV_gone, pickV_bool]
            have := done true (by rw [enum]; simp [hl])
            simpa using this
          · have : decide (c = 48 ∧ l = []) = false := by simp [hl]
            have n48 : (((c.toNat : Int)) != 48) = false := by rw [hc]; rfl
            simp only [this, gdV_bool, if_true, kv_some, show (Value.int .i64 0 : V) = i64 ((0 : Nat) : Int) from rfl, i0, bin_neq, n48, pickV_bool, Bool.false_eq_true, if_false]
            have := done false (by rw [enum]; simp [hc, hl])
            simpa using this
        · have : decide (c = 48 ∧ l = []) = false := by simp [hc]
          have n48 : (((c.toNat : Int)) != 48) = true := by
            rw [bne_iff_ne]
            intro h
            apply hc
            apply UInt8.toNat_inj.1
            have : (48 : UInt8).toNat = 48 := rfl
            omega
          simp only [this, gdV_bool, if_true, kv_some, show (Value.int .i64 0 : V) = i64 ((0 : Nat) : Int) from rfl, i0, bin_neq, n48, pickV_bool, Bool.false_eq_true, if_false]
          have := done true (by rw [enum]; simp [hc])
          simpa using this
      · have : numOk ⟨⟨c :: l⟩⟩ = false := by
          have : ¬ (c :: l).length ≤ 12 := by omega
          simp only [numOk, this, decide_false, Bool.and_false, Bool.false_and]
        simp only [h12, decide_false, gdV_bool, gdV_gone, Bool.false_eq_true, if_false, kv_some, pickV_bool]
        have := done false this.symm
        simpa using this

end Go.Abs

set_option linter.unusedSimpArgs false
set_option linter.unusedVariables false
namespace Go.Abs
open Go Go.Proofs
variable {E : FE} {h h' : AHeap} {fp : List Nat} {p : V} {s : SpM} {g : List En} {ps : List Pr} {k : Nat}

/-- A map and the document's pairs tell the same. -/
structure TG (f : Pr → V) (g : List En) (ps : List Pr) : Prop where
  rise : Rise ps
  same : ∀ k, getE k g = (hitP k ps).map f

variable {f : Pr → V}

theorem TG.nil : TG f [] [] := ⟨List.Pairwise.nil, fun _ => rfl⟩

theorem TG.put (t : TG f g ps) (q : Pr) (c : Nat) : TG f (putE q.key (f q) c g) (putP q ps) :=
  ⟨t.rise.put, fun k => by
    rw [get_put, hit_put]
    split
    · rfl
    · exact t.same k⟩

theorem TG.del (t : TG f g ps) (hn : (keysE g).Nodup) (k : ByteArray) : TG f (delE k g) (delP k ps) :=
  ⟨t.rise.del, fun k' => by
    rw [get_del hn, hit_del _ _ t.rise]
    split
    · rfl
    · exact t.same k'⟩

theorem TG.hit (t : TG f g ps) (k : ByteArray) : (getE k g).isSome = (hitP k ps).isSome := by rw [t.same]; simp

theorem TG.perm (t : TG f g ps) (hn : (keysE g).Nodup) : (keysE g).Perm (ps.map (·.key)) := by
  refine (List.perm_ext_iff_of_nodup hn (rise_nodup t.rise)).2 fun k => ?_
  have h1 : k ∈ keysE g ↔ getE k g ≠ none := by
    rw [ne_eq, ← get_none]
    simp
  rw [h1, t.same, ne_eq, Option.map_eq_none_iff]
  constructor
  · intro h
    cases hh : hitP k ps with
    | none => exact absurd hh h
    | some p =>
      obtain ⟨h2, h3⟩ := hit_mem hh
      exact List.mem_map.2 ⟨p, h2, h3⟩
  · intro h e
    obtain ⟨p, h2, rfl⟩ := List.mem_map.1 h
    rw [hit_of t.rise h2] at e
    cases e

theorem TG.len (t : TG f g ps) (hn : (keysE g).Nodup) : g.length = ps.length := by
  have := (t.perm hn).length_eq
  simpa [keysE] using this

theorem TG.of {q : Pr} (t : TG f g ps) (hq : q ∈ ps) : ∃ e ∈ g, e.v = f q := by
  have := t.same q.key
  rw [hit_of t.rise hq] at this
  exact getE_mem this

def tmsg (v : ByteArray) : Msg := ⟨0, v, 0, 0⟩

/-- A space and the document's. -/
def RelS : SpSt → SpM → Prop
  | .tab g, s => s.kind = 1 ∧ TG (fun q => str q.val) g s.pairs ∧ (keysE g).Nodup ∧ s.items = [] ∧ s.lost = [] ∧ ∀ q ∈ s.pairs, q.at_ = 0
  | .qu a b i l, s => s.kind = 2 ∧ s.pairs = [] ∧ s.most = a ∧ s.next = b ∧ s.items = i ∧ s.lost = l
  | .to l g, s => s.kind = 3 ∧ TG (fun q => i64 q.at_) g s.pairs ∧ (keysE g).Nodup ∧ s.items = l.map tmsg ∧ s.lost = [] ∧ ∀ q ∈ s.pairs, q.val = ⟨#[]⟩

/-- Which operation is it? -/
theorem chkKF {b bx : Nat} {hp : AHeap} {kd fn : Int} (hk : hp.rd b 1 = some (i64 kd)) (r0 : hp.rd bx 0 = some (i64 fn)) (K F : Int) {A B : Prop} (h : if kd = K ∧ fn = F then A else B) :
    kv (aNil (ptr b 0)) fun v24 => kv (fieldAddrD (some 1) v24) fun v25 => kv (ldD .one v25 hp) fun v26 => kv (binD .bad .eql true v26 (.int .i64 K) hp) fun v27 => kv (gdV v27 true (fieldAddrD (some 0) (ptr bx 0))) fun v29 => kv (gdV v27 true (ldD .one v29 hp)) fun v30 =>
      kv (gdV v27 true (binD .bad .eql true v30 (.int .i64 F) hp)) fun v31 => kv (pickV v27 v31 (.bool false)) fun v32 => ifV v32 A B := by
  simp only [aNil_ptr, kv_some, fieldAddr_ptr, ld_one, Nat.zero_add, hk, bin_eql, gdV_bool]
  by_cases h1 : kd = K
  · subst h1
    simp only [beq_self_eq_true, if_true, kv_some, ld_one, r0, bin_eql, pickV_bool, ifV_bool]
    by_cases h2 : fn = F
    · rw [if_pos ⟨rfl, h2⟩] at h
      simp only [h2, beq_self_eq_true, if_true]
      exact h
    · rw [if_neg (fun hh => h2 hh.2)] at h
      have : (fn == F) = false := by simpa using h2
      simp only [this, Bool.false_eq_true, if_false]
      exact h
  · rw [if_neg (fun hh => h1 hh.1)] at h
    have : (kd == K) = false := by simpa using h1
    simp only [this, Bool.false_eq_true, if_false, kv_some, gdV_gone, pickV_bool, ifV_bool]
    exact h

/-- What is told does not hang on when an entry came. -/
theorem act_c (S : SpSt) (o : Oq) (now : Int) (c : Nat) : (S.act o now c).1 = (S.act o now 0).1 ∧ (S.act o now c).2.1 = (S.act o now 0).2.1 := by
  cases S with
  | tab g =>
    simp only [SpSt.act]
    split
    · refine ⟨?_, rfl⟩
      simp only [doT]
      split
      · rfl
      · split <;> rfl
    · exact ⟨rfl, rfl⟩
  | qu a b i l => exact ⟨rfl, rfl⟩
  | to l g =>
    simp only [SpSt.act]
    split
    · simp only [doP]
      split
      · exact ⟨rfl, rfl⟩
      · split
        · exact ⟨rfl, rfl⟩
        · split
          · split <;> exact ⟨rfl, rfl⟩
          · exact ⟨rfl, rfl⟩
    · exact ⟨rfl, rfl⟩

/-- An operation's argument is copied. -/
theorem op_boxW (c : Sp h fp p s) (o : Oq) : ∃ g bx, newD none o.agg h = some (ptr bx 0, g) ∧ Mod h fp g fp ∧ bx < g.next ∧ bx ∉ fp ∧ g.get bx = some (.cells o.cells 5 .rw) ∧ Sp g fp p s :=
  ⟨h.new (.cells o.cells 5 .rw), h.next, rfl, Mod.newBox c.lt, by simp, fun hx => by have := c.lt _ hx; omega, by simp, c.same (by simp) fun x hx => by
    have := c.lt x hx
    have : x ≠ h.next := by omega
    simp [this]⟩

theorem act_tab (c : Sp h fp p s) (R : RelS (.tab g) s) (hi : SI k (.tab g)) (hk : k ≤ 1000) (o : Oq) (now : Int) (hz : o.key.size ≤ BB ∧ o.val.size ≤ BB) :
    cl (Go.Abs.F.estafetteref8_Space_Do E) [p, o.agg, i64 now] h fun r h' => ∃ fp' s', r = .tuple #[str ((SpSt.tab g).act o now 0).1, i64 ((SpSt.tab g).act o now 0).2.1] ∧ Sp h' fp' p s' ∧ Mod h fp h' fp' ∧ ∀ c, RelS ((SpSt.tab g).act o now c).2.2 s' := by
  obtain ⟨hkd, tg, hn, hit, hlo, hat0⟩ := R
  have hlen := tg.len hn
  have hsz : s.pairs.length ≤ 1000000 := by have := hi.2.2; omega
  refine cl_of ?_
  obtain ⟨h1, bx, e1, m1, bxl, bxn, g0, c1⟩ := op_boxW c o
  have c1' := c1
  simp only [Go.Abs.F.estafetteref8_Space_Do, e1, kP_some]
  obtain ⟨b, fP, fI, fL, vP, vI, vL, rfl, rfl, cc⟩ := c1
  have hkd' : h1.rd b 1 = some (i64 1) := by rw [rd_of cc.cell, ← hkd]; rfl
  have r0 : h1.rd bx 0 = some (i64 o.fn) := rd_of g0 0
  have r2 : h1.rd bx 2 = some (str o.key) := rd_of g0 2
  have r3 : h1.rd bx 3 = some (str o.val) := rd_of g0 3
  refine chkKF hkd' r0 1 3 ?_
  by_cases f3 : o.fn = 3
  · rw [if_pos ⟨rfl, f3⟩]
    simp only [fieldAddr_ptr, kv_some, ld_one, Nat.zero_add, r2]
    refine cl_then (ref8_Get c1' o.key hsz) ?_
    rintro r h2 ⟨eh, rfl⟩
    rw [eh]
    simp only [extract_tuple, List.getElem?_toArray, List.getElem?_cons_zero, List.getElem?_cons_succ, kv_some]
    have key : ∃ v : ByteArray, v.size ≤ BB ∧ ((hitP o.key s.pairs).map fun q => str q.val).getD (str ⟨#[]⟩) = str v ∧ (doT g o 0).1 = (if (hitP o.key s.pairs).isSome then ⟨#[61]⟩ ++ v else ⟨#[45]⟩) := by
      have hg := tg.same o.key
      cases hh : hitP o.key s.pairs with
      | none =>
        rw [hh] at hg
        simp only [Option.map_none] at hg
        exact ⟨⟨#[]⟩, by decide, rfl, by simp [doT, f3, hg]⟩
      | some q =>
        rw [hh] at hg
        simp only [Option.map_some] at hg
        obtain ⟨e, he, hv⟩ := getE_mem hg
        obtain ⟨x, hx, hxs⟩ := hi.1 e he
        rw [hv] at hx
        have hqx : q.val = x := by simpa using hx
        exact ⟨q.val, by rw [hqx]; exact hxs, rfl, by simp [doT, f3, hg]⟩
    obtain ⟨v, hv, ev, ed⟩ := key
    rw [ev]
    refine cl_then (ref8_had v _ hv) ?_
    rintro r h3 ⟨e3, rfl⟩
    rw [e3]
    have ea : ∀ c, (SpSt.tab g).act o now c = ((doT g o 0).1, 0, .tab g) := by
      intro c
      simp only [SpSt.act, doT, f3]
      rfl
    refine ⟨_, s, ?_, c1', m1, fun c => ?_⟩
    · rw [ea, ed]
    · rw [ea]
      exact ⟨hkd, tg, hn, hit, hlo, hat0⟩
  rw [if_neg (fun hh => f3 hh.2)]
  refine chkKF hkd' r0 1 4 ?_
  by_cases f4 : o.fn = 4
  · rw [if_pos ⟨rfl, f4⟩]
    simp only [fieldAddr_ptr, kv_some, ld_one, Nat.zero_add, r2, r3]
    refine cl_then (ref8_Put c1' o.key o.val hsz) ?_
    rintro r h2 ⟨_, fp', c2, m2⟩
    have ea : ∀ c, (SpSt.tab g).act o now c = (⟨#[]⟩, 0, .tab (putE o.key (str o.val) c g)) := by
      intro c
      simp only [SpSt.act, doT, f4]
      rfl
    refine ⟨fp', _, ?_, c2, m1.trans m2, fun c => ?_⟩
    · rw [ea]
    · rw [ea]
      exact ⟨hkd, tg.put ⟨o.key, o.val, 0⟩ c, nodup_put hn, hit, hlo, fun q hq => by
        rcases mem_putP hq with rfl | hq
        · rfl
        · exact hat0 q hq⟩
  rw [if_neg (fun hh => f4 hh.2)]
  refine chkKF hkd' r0 1 5 ?_
  by_cases f5 : o.fn = 5
  · rw [if_pos ⟨rfl, f5⟩]
    simp only [fieldAddr_ptr, kv_some, ld_one, Nat.zero_add, r2]
    refine cl_then (ref8_Del c1' o.key hsz) ?_
    rintro r h2 ⟨rfl, fp', c2, m2⟩
    refine cl_then (ref8_had ⟨#[]⟩ _ (by decide)) ?_
    rintro r h3 ⟨e3, rfl⟩
    rw [e3]
    have ea : ∀ c, (SpSt.tab g).act o now c = (if (hitP o.key s.pairs).isSome then ⟨#[61]⟩ ++ ⟨#[]⟩ else ⟨#[45]⟩, 0, .tab (delE o.key g)) := by
      intro c
      have : (⟨#[61]⟩ ++ ⟨#[]⟩ : ByteArray) = ⟨#[61]⟩ := rfl
      simp only [SpSt.act, doT, f5, tg.hit, this]
      rfl
    refine ⟨fp', _, ?_, c2, m1.trans m2, fun c => ?_⟩
    · rw [ea]
    · rw [ea]
      exact ⟨hkd, tg.del hn o.key, by rw [keys_del]; exact hn.erase _, hit, hlo, fun q hq => hat0 q ((del_sub _ _).mem hq)⟩
  rw [if_neg (fun hh => f5 hh.2)]
  refine chkKF hkd' r0 2 6 ?_
  rw [if_neg (by omega)]
  refine chkKF hkd' r0 2 7 ?_
  rw [if_neg (by omega)]
  refine chkKF hkd' r0 2 8 ?_
  rw [if_neg (by omega)]
  refine chkKF hkd' r0 2 9 ?_
  rw [if_neg (by omega)]
  refine chkKF hkd' r0 3 10 ?_
  rw [if_neg (by omega)]
  refine chkKF hkd' r0 3 11 ?_
  rw [if_neg (by omega)]
  refine chkKF hkd' r0 3 12 ?_
  rw [if_neg (by omega)]
  have ea : ∀ c, (SpSt.tab g).act o now c = (⟨#[]⟩, 1, .tab g) := by
    intro c
    simp only [SpSt.act]
    rw [if_neg (by omega)]
  refine ⟨_, s, ?_, c1', m1, fun c => ?_⟩
  · rw [ea]
  · rw [ea]
    exact ⟨hkd, tg, hn, hit, hlo, hat0⟩

end Go.Abs

set_option linter.unusedSimpArgs false
set_option linter.unusedVariables false
namespace Go.Abs
open Go Go.Proofs
variable {E : FE} {h h' : AHeap} {fp : List Nat} {p : V} {s : SpM} {g : List En} {ps : List Pr} {k : Nat} {most next : Int} {items lost : List Msg} {l : List ByteArray}

theorem Mod.keepRd {fp2 : List Nat} {b o : Nat} (m : Mod h [] h' fp2) (hb : b < h.next) : h'.rd b o = h.rd b o := rd_keep m.nil hb

/-- What the document tells of a message. -/
theorem tell_doc {hb : AHeap} {b : Nat} {m : Msg} (hbl : b < hb.next) (hg : hb.get b = some (.cells m.cells 4 .rw)) (hm : 1 ≤ m.id ∧ m.id ≤ 1000000 ∧ 0 ≤ m.count ∧ m.count ≤ 9 ∧ m.val.size ≤ BB) {X : V → AHeap → Prop} (hX : ∀ h', Mod hb [] h' [] → X (str (gotT (some m))) h') :
    kv (fieldAddrD (some 0) (ptr b 0)) fun v48 => kv (ldD .one v48 hb) fun v49 => kv (fieldAddrD (some 2) (ptr b 0)) fun v52 => kv (ldD .one v52 hb) fun v53 => kv (fieldAddrD (some 1) (ptr b 0)) fun v57 => kv (ldD .one v57 hb) fun v58 =>
      cl (Go.Abs.F.estafetteref8_Dec E) [v49] hb fun v50 h => ldD .one v52 h = some v53 ∧ ldD .one v57 h = some v58 ∧ kv (binD .bad .add true v50 (.string ⟨#[32]⟩) h) fun v51 => cl (Go.Abs.F.estafetteref8_Dec E) [v53] h fun v54 h =>
      ldD .one v57 h = some v58 ∧ kv (binD .bad .add false v51 v54 h) fun v55 => kv (binD .bad .add true v55 (.string ⟨#[32]⟩) h) fun v56 => kv (binD .bad .add false v56 v58 h) fun v59 => X v59 h := by
  have r0 : hb.rd b 0 = some (i64 m.id) := rd_of hg 0
  have r1 : hb.rd b 1 = some (str m.val) := rd_of hg 1
  have r2 : hb.rd b 2 = some (i64 m.count) := rd_of hg 2
  have i1 : m.id = (m.id.toNat : Int) := by omega
  have i2 : m.count = (m.count.toNat : Int) := by omega
  have hB : BB = 1152921504606846976 := rfl
  simp only [fieldAddr_ptr, kv_some, ld_one, Nat.zero_add, r0, r1, r2]
  rw [i1]
  refine cl_then (ref8_Dec m.id.toNat (by omega)) ?_
  rintro r h1 ⟨rfl, m1⟩
  have k1 := fun o => rd_keep (o := o) m1 hbl
  simp only [k1, r1, r2, true_and]
  have s1 := decT_size m.id.toNat
  have s2 := decT_size m.count.toNat
  have e32 : (⟨#[32]⟩ : ByteArray).size = 1 := rfl
  rw [str_add _ _ _ _ (by omega), kv_some, i2]
  refine cl_then (ref8_Dec m.count.toNat (by omega)) ?_
  rintro r h2 ⟨rfl, m2⟩
  have m2' := m1.trans m2
  have k2 := fun o => rd_keep (o := o) m2' hbl
  simp only [k2, r1, true_and]
  rw [str_add _ _ _ _ (by rw [ba_size]; omega), kv_some, str_add _ _ _ _ (by rw [ba_size, ba_size]; omega), kv_some, str_add _ _ _ _ (by rw [ba_size, ba_size, ba_size]; omega), kv_some]
  exact hX _ m2'

/-- A message that a variable gets. -/
theorem box_msgW (c : Sp h fp p s) (m : Msg) : ∃ g b, newD none (.agg #[(.int .i64 0), (.string ⟨#[]⟩), (.int .i64 0), (.int .i64 0)]) h = some (ptr b 0, g) ∧ ∃ g2, stD (some 4) (ptr b 0) m.agg g = some g2 ∧ b < g2.next ∧ g2.get b = some (.cells m.cells 4 .rw) ∧ Sp g2 fp p s ∧ Mod h fp g2 fp := by
  have gb : (h.new (.cells [.int .i64 0, .string ⟨#[]⟩, .int .i64 0, .int .i64 0] 4 .rw)).get h.next = some (.cells [.int .i64 0, .string ⟨#[]⟩, .int .i64 0, .int .i64 0] 4 .rw) := by simp
  refine ⟨_, h.next, rfl, _, st4 gb, by simp, by simp, c.same (by simp) fun x hx => ?_, (Mod.newBox c.lt).putNew (Nat.le_refl _)⟩
  have := c.lt x hx
  have : x ≠ h.next := by omega
  simp [this]

theorem act_qu (c : Sp h fp p s) (R : RelS (.qu most next items lost) s) (hq : QI k most next items lost) (hk : k ≤ 1000) (o : Oq) (now : Int) (hz : o.key.size ≤ BB ∧ o.val.size ≤ BB) :
    cl (Go.Abs.F.estafetteref8_Space_Do E) [p, o.agg, i64 now] h fun r h' => ∃ fp' s', r = .tuple #[str ((SpSt.qu most next items lost).act o now 0).1, i64 ((SpSt.qu most next items lost).act o now 0).2.1] ∧ Sp h' fp' p s' ∧ Mod h fp h' fp' ∧
      RelS ((SpSt.qu most next items lost).act o now 0).2.2 s' := by
  obtain ⟨hkd, hpr, hmo, hne, hit, hlo⟩ := R
  have hB : BB = 1152921504606846976 := rfl
  have hn := hq.n1
  have hlen := hq.len
  subst hmo hne hit hlo
  refine cl_of ?_
  obtain ⟨h1, bx, e1, m1, bxl, bxn, g0, c1⟩ := op_boxW c o
  have c1' := c1
  simp only [Go.Abs.F.estafetteref8_Space_Do, e1, kP_some]
  obtain ⟨b, fP, fI, fL, vP, vI, vL, rfl, rfl, cc⟩ := c1
  have hkd' : h1.rd b 1 = some (i64 2) := by rw [rd_of cc.cell, ← hkd]; rfl
  have r0 : h1.rd bx 0 = some (i64 o.fn) := rd_of g0 0
  have r2 : h1.rd bx 2 = some (str o.key) := rd_of g0 2
  have r3 : h1.rd bx 3 = some (str o.val) := rd_of g0 3
  have r4 : h1.rd bx 4 = some (i64 o.n) := rd_of g0 4
  have cnt : ∀ m ∈ s.items, 0 ≤ m.count ∧ m.count ≤ 1000000 := fun m hm => by have := hq.its m hm; omega
  refine chkKF hkd' r0 1 3 ?_
  rw [if_neg (by omega)]
  refine chkKF hkd' r0 1 4 ?_
  rw [if_neg (by omega)]
  refine chkKF hkd' r0 1 5 ?_
  rw [if_neg (by omega)]
  refine chkKF hkd' r0 2 6 ?_
  by_cases f6 : o.fn = 6
  · rw [if_pos ⟨rfl, f6⟩]
    have ea : (SpSt.qu s.most s.next s.items s.lost).act o now 0 = doQ s.most s.next s.items s.lost o now := by simp only [SpSt.act]; rw [if_pos (by omega)]
    rw [ea]
    simp only [fieldAddr_ptr, kv_some, ld_one, Nat.zero_add, r3]
    refine cl_then (ref8_Send c1' o.val (by omega) (by omega)) ?_
    rintro r h2 hr
    by_cases hl : s.items.length + s.lost.length < 64
    · rw [if_pos hl] at hr
      obtain ⟨rfl, fp', c2, m2⟩ := hr
      have i1 : s.next = (s.next.toNat : Int) := by omega
      simp only [extract_tuple, List.getElem?_toArray, List.getElem?_cons_zero, List.getElem?_cons_succ, kv_some]
      rw [show i64 s.next = i64 (s.next.toNat : Int) by rw [← i1]]
      refine cl_then (ref8_full s.next.toNat true (by omega)) ?_
      rintro r h3 ⟨rfl, m3⟩
      simp only [if_true, extract_tuple, List.getElem?_toArray, List.getElem?_cons_zero, List.getElem?_cons_succ, kv_some]
      have ed : doQ s.most s.next s.items s.lost o now = (decT s.next.toNat, 0, .qu s.most (s.next + 1) (s.items ++ [⟨s.next, o.val, 0, 0⟩]) s.lost) := by simp [doQ, f6, hl]
      rw [ed]
      exact ⟨fp', _, rfl, c2.same m3.next fun x hx => m3.same x (c2.lt x hx) (by simp), (m1.trans m2).trans (m3.empty c2.lt), hkd, hpr, rfl, rfl, rfl, rfl⟩
    · rw [if_neg hl] at hr
      obtain ⟨rfl, e2⟩ := hr
      rw [e2]
      simp only [extract_tuple, List.getElem?_toArray, List.getElem?_cons_zero, List.getElem?_cons_succ, kv_some]
      refine cl_then (ref8_full 0 false (by omega)) ?_
      rintro r h3 ⟨rfl, m3⟩
      simp only [Bool.false_eq_true, if_false, extract_tuple, List.getElem?_toArray, List.getElem?_cons_zero, List.getElem?_cons_succ, kv_some]
      have ed : doQ s.most s.next s.items s.lost o now = (⟨#[]⟩, 6, .qu s.most s.next s.items s.lost) := by simp [doQ, f6, hl]
      rw [ed]
      exact ⟨_, s, rfl, c1'.same m3.next fun x hx => m3.same x (c1'.lt x hx) (by simp), m1.trans (m3.empty c1'.lt), hkd, hpr, rfl, rfl, rfl, rfl⟩
  rw [if_neg (fun hh => f6 hh.2)]
  refine chkKF hkd' r0 2 7 ?_
  by_cases f7 : o.fn = 7
  · rw [if_pos ⟨rfl, f7⟩]
    have ea : (SpSt.qu s.most s.next s.items s.lost).act o now 0 = doQ s.most s.next s.items s.lost o now := by simp only [SpSt.act]; rw [if_pos (by omega)]
    rw [ea]
    simp only [fieldAddr_ptr, kv_some, ld_one, Nat.zero_add, r4]
    refine cl_then (ref8_Recv c1' now o.n (by omega) cnt fun m hm => (hq.its m hm).1) ?_
    rintro r h2 hr
    obtain ⟨got, its, los, f3, rfl, c2, m2, ed, hgot⟩ : ∃ (got : Option Msg) (its los : List Msg) (f3 : List Nat), r = .tuple #[(got.getD Msg.zero).agg, .bool got.isSome] ∧ Sp h2 f3 (ptr b 0) { s with items := its, lost := los } ∧ Mod h1 (b :: (fP ++ (fI ++ fL))) h2 f3 ∧
        doQ s.most s.next s.items s.lost o now = (gotT got, 0, .qu s.most s.next its los) ∧ (∀ m, got = some m → 1 ≤ m.id ∧ m.id ≤ 1000000 ∧ 0 ≤ m.count ∧ m.count ≤ 9 ∧ m.val.size ≤ BB) := by
      by_cases hbad : o.n < 1 ∨ o.n > 1000 ∨ now < 0 ∨ now > 1099511627776
      · rw [if_pos hbad] at hr
        obtain ⟨rfl, q, m⟩ := hr
        exact ⟨none, s.items, s.lost, _, rfl, q, m, by simp only [doQ, f7, if_pos hbad]; rfl, fun m hm => by cases hm⟩
      · rw [if_neg hbad] at hr
        obtain ⟨rfl, f3, q, m⟩ := hr
        refine ⟨(recvL s.most now o.n s.items).2.2, _, _, f3, rfl, q, m, by simp only [doQ, f7, if_neg hbad]; rfl, fun m hm => ?_⟩
        have := (hq.recv now o.n).its m (recvL_got hm)
        omega
    simp only [extract_tuple, List.getElem?_toArray, List.getElem?_cons_zero, List.getElem?_cons_succ, kv_some]
    obtain ⟨h3, bm, n1, h4, n2, bml, g4, c4, m4⟩ := box_msgW c2 (got.getD Msg.zero)
    rw [n1, kP_some, n2, kH_some, ed]
    simp only [not_bool, kv_some, ifV_bool]
    have mm := (m1.trans m2).trans m4
    cases got with
    | none =>
      simp only [Option.isSome_none, Bool.not_false, if_true]
      exact ⟨f3, _, rfl, c4, mm, hkd, hpr, rfl, rfl, rfl, rfl⟩
    | some m =>
      simp only [Option.isSome_some, Bool.not_true, Bool.false_eq_true, if_false]
      refine tell_doc bml g4 (hgot m rfl) fun h5 m5 => ?_
      exact ⟨f3, _, rfl, c4.same m5.next fun x hx => m5.same x (c4.lt x hx) (by simp), mm.trans (m5.empty c4.lt), hkd, hpr, rfl, rfl, rfl, rfl⟩
  rw [if_neg (fun hh => f7 hh.2)]
  refine chkKF hkd' r0 2 8 ?_
  by_cases f8 : o.fn = 8
  · rw [if_pos ⟨rfl, f8⟩]
    have ea : (SpSt.qu s.most s.next s.items s.lost).act o now 0 = doQ s.most s.next s.items s.lost o now := by simp only [SpSt.act]; rw [if_pos (by omega)]
    rw [ea]
    simp only [fieldAddr_ptr, kv_some, ld_one, Nat.zero_add, r2]
    refine cl_then (ref8_Number o.key) ?_
    rintro r h2 ⟨eh, n, rfl, hnn⟩
    rw [eh]
    simp only [extract_tuple, List.getElem?_toArray, List.getElem?_cons_zero, List.getElem?_cons_succ, kv_some, not_bool, ifV_bool]
    cases hok : numOk o.key with
    | false =>
      have ed : doQ s.most s.next s.items s.lost o now = (⟨#[]⟩, 1, .qu s.most s.next s.items s.lost) := by simp [doQ, f8, hok]
      rw [ed]
      simp only [Bool.not_false, if_true]
      exact ⟨_, s, trivial, c1', m1, hkd, hpr, rfl, rfl, rfl, rfl⟩
    | true =>
      rw [hnn hok]
      simp only [Bool.not_true, Bool.false_eq_true, if_false, r4, kv_some, ld_one]
      refine cl_then (ref8_Ack c1' o.n (numT o.key) now (by omega)) ?_
      rintro r h3 hr
      cases hf : s.items.findIdx? (ackP o.n (numT o.key) now) with
      | none =>
        simp only [hf] at hr
        obtain ⟨rfl, c3, m3⟩ := hr
        have ed : doQ s.most s.next s.items s.lost o now = (⟨#[]⟩, 3, .qu s.most s.next s.items s.lost) := by simp [doQ, f8, hok, hf]
        rw [ed]
        refine cl_then (ref8_none false) ?_
        rintro r h4 ⟨e4, rfl⟩
        rw [e4]
        simp only [Bool.false_eq_true, if_false, extract_tuple, List.getElem?_toArray, List.getElem?_cons_zero, List.getElem?_cons_succ, kv_some]
        exact ⟨_, s, trivial, c3, m1.trans m3, hkd, hpr, rfl, rfl, rfl, rfl⟩
      | some i =>
        simp only [hf] at hr
        obtain ⟨rfl, fp', c3, m3⟩ := hr
        have ed : doQ s.most s.next s.items s.lost o now = (⟨#[]⟩, 0, .qu s.most s.next (s.items.eraseIdx i) s.lost) := by simp [doQ, f8, hok, hf]
        rw [ed]
        refine cl_then (ref8_none true) ?_
        rintro r h4 ⟨e4, rfl⟩
        rw [e4]
        simp only [if_true, extract_tuple, List.getElem?_toArray, List.getElem?_cons_zero, List.getElem?_cons_succ, kv_some]
        exact ⟨_, _, trivial, c3, m1.trans m3, hkd, hpr, rfl, rfl, rfl, rfl⟩
  rw [if_neg (fun hh => f8 hh.2)]
  refine chkKF hkd' r0 2 9 ?_
  by_cases f9 : o.fn = 9
  · rw [if_pos ⟨rfl, f9⟩]
    have ea : (SpSt.qu s.most s.next s.items s.lost).act o now 0 = doQ s.most s.next s.items s.lost o now := by simp only [SpSt.act]; rw [if_pos (by omega)]
    rw [ea]
    refine cl_then (ref8_Dead c1' (by omega)) ?_
    rintro r h2 ⟨f2, rfl, c2, m2⟩
    simp only [extract_tuple, List.getElem?_toArray, List.getElem?_cons_zero, List.getElem?_cons_succ, kv_some]
    obtain ⟨h3, bm, n1, h4, n2, bml, g4, c4, m4⟩ := box_msgW c2 (s.lost.head?.getD Msg.zero)
    have ed : doQ s.most s.next s.items s.lost o now = (match s.lost with | [] => ⟨#[]⟩ | m :: _ => decT m.id.toNat ++ ⟨#[32]⟩ ++ m.val, 0, .qu s.most s.next s.items s.lost.tail) := by
      unfold doQ
      rw [if_neg f6, if_neg f7, if_neg f8]
      all_goals (cases s.lost <;> rfl)
    rw [n1, kP_some, n2, kH_some, ed]
    simp only [not_bool, kv_some, ifV_bool]
    have mm := (m1.trans m2).trans m4
    cases hlost : s.lost with
    | nil =>
      simp only [hlost, List.isEmpty_nil, Bool.not_true, Bool.not_false, if_true]
      exact ⟨f2, _, trivial, c4, mm, hkd, hpr, rfl, rfl, rfl, by simp [hlost]⟩
    | cons m lost =>
      have hm := hq.lst m (by rw [hlost]; simp)
      rw [hlost] at g4
      have g4' : h4.get bm = some (.cells m.cells 4 .rw) := g4
      have r0' : h4.rd bm 0 = some (i64 m.id) := rd_of g4' 0
      have r1' : h4.rd bm 1 = some (str m.val) := rd_of g4' 1
      have i1 : m.id = (m.id.toNat : Int) := by omega
      simp only [hlost, List.isEmpty_cons, Bool.not_false, Bool.not_true, Bool.false_eq_true, if_false, fieldAddr_ptr, kv_some, ld_one, Nat.zero_add, r0', r1']
      rw [show i64 m.id = i64 (m.id.toNat : Int) by rw [← i1]]
      refine cl_then (ref8_Dec m.id.toNat (by omega)) ?_
      rintro r h5 ⟨rfl, m5⟩
      have k5 := fun o => rd_keep (o := o) m5 bml
      have s1 := decT_size m.id.toNat
      have e32 : (⟨#[32]⟩ : ByteArray).size = 1 := rfl
      simp only [k5, r1', true_and]
      rw [str_add _ _ _ _ (by omega), kv_some, str_add _ _ _ _ (by rw [ba_size]; omega), kv_some]
      exact ⟨f2, _, rfl, c4.same m5.next fun x hx => m5.same x (c4.lt x hx) (by simp), mm.trans (m5.empty c4.lt), hkd, hpr, rfl, rfl, rfl, by simp [hlost]⟩
  rw [if_neg (fun hh => f9 hh.2)]
  refine chkKF hkd' r0 3 10 ?_
  rw [if_neg (by omega)]
  refine chkKF hkd' r0 3 11 ?_
  rw [if_neg (by omega)]
  refine chkKF hkd' r0 3 12 ?_
  rw [if_neg (by omega)]
  have ea : (SpSt.qu s.most s.next s.items s.lost).act o now 0 = (⟨#[]⟩, 1, .qu s.most s.next s.items s.lost) := by
    simp only [SpSt.act]
    rw [if_neg (by omega)]
  rw [ea]
  exact ⟨_, s, rfl, c1', m1, hkd, hpr, rfl, rfl, rfl, rfl⟩

end Go.Abs

set_option linter.unusedSimpArgs false
set_option linter.unusedVariables false
namespace Go.Abs
open Go Go.Proofs
variable {E : FE} {h h' : AHeap} {fp : List Nat} {p : V} {s : SpM} {g : List En} {ps : List Pr} {k : Nat} {l : List ByteArray}

theorem grp_at (t : TG (fun q => i64 q.at_) g ps) (key : ByteArray) : grpN key ps = atN key g := by
  unfold grpN atN
  rw [t.same]
  cases hitP key ps <;> rfl

theorem map_val (l : List ByteArray) : (l.map tmsg).map (·.val) = l := by
  rw [List.map_map]
  have : ((fun m : Msg => m.val) ∘ tmsg) = id := by funext x; rfl
  rw [this, List.map_id]

/-- The document's loop over what is fetched. -/
theorem fetch_loop {v : V} {f : List Nat} {L : List ByteArray} (t : Ts h f v L) (hv : ∀ x ∈ L, x.size ≤ 1000000000) (hln : L.length ≤ 1000000) {X : V → AHeap → Prop} (hX : ∀ h', Mod h [] h' [] → X (str (fetchT ⟨#[]⟩ L)) h') :
    ∃ K152 : List V → AHeap → Prop, (
      ∃ (Inv153 : Nat → List V → AHeap → Prop) (n153 : Nat), Inv153 n153 [(.string ⟨#[]⟩), (.int .i64 0)] h ∧ ∀ (n153 : Nat) (e153 : Nat → V) (h : AHeap), Inv153 n153 [(e153 16), (e153 18)] h →
      kv (lenD .slice v h) fun v221 => kv (binD .bad .lss false (e153 18) v221 h) fun v222 => ifV v222 (
        kv (indexAddrD (.slice 1) v (e153 18)) fun v227 => kv (ldD .one v227 h) fun v228 => kv (lenD .str v228 h) fun v229 => kv (indexAddrD (.slice 1) v (e153 18)) fun v234 => kv (ldD .one v234 h) fun v235 =>
        cl (Go.Abs.F.estafetteref8_Dec E) [v229] h fun v230 h => ldD .one v234 h = some v235 ∧ kv (binD .bad .add true v230 (.string ⟨#[58]⟩) h) fun v231 => kv (binD .bad .add false v231 v235 h) fun v236 => kv (lenD .str (e153 16) h) fun v238 => kv (lenD .str v236 h) fun v240 =>
        kv (binD .bad .add false v238 v240 h) fun v241 => kv (binD .bad .gtr true v241 (.int .i64 200) h) fun v242 => ifV v242 (K152 [(e153 16)] h) (
          kv (binD .bad .add false (e153 16) v236 h) fun v245 => kv (binD .bad .add true (e153 18) (.int .i64 1) h) fun v224 => ∃ m, m < n153 ∧ Inv153 m [v245, v224] h)) (
        K152 [(e153 16)] h)) ∧ ∀ (e152 : Nat → V) (h : AHeap), K152 [(e152 16)] h → X (e152 16) h := by
  refine ⟨fun vs h' => vs = [str (fetchT ⟨#[]⟩ L)] ∧ Mod h [] h' [], ?_, ?_⟩
  · refine ⟨fun n vs h' => ∃ (out : ByteArray) (i : Nat), vs = [str out, i64 i] ∧ i ≤ L.length ∧ n = L.length - i ∧ out.size ≤ 200 ∧ fetchT ⟨#[]⟩ L = fetchT out (L.drop i) ∧ Mod h [] h' [], L.length, ⟨⟨#[]⟩, 0, rfl, by omega, by omega, by decide, by simp, Mod.refl (by simp)⟩, ?_⟩
    rintro n e h3 ⟨out, i, he, hi, rfl, hout, hf, m3⟩
    simp only [List.cons.injEq, and_true] at he
    obtain ⟨e1, e2⟩ := he
    have t3 : Ts h3 f v L := t.same m3.next fun x hx => m3.same x (t.lt x hx) (by simp)
    have hlen := Sl.len t3
    simp only [e1, e2, hlen, bin_lss, kv_some, ifV_bool]
    by_cases hx : i < L.length
    · have hx' : (i : Int) < (L.length : Nat) := by omega
      obtain ⟨bk, fk, i1, i2⟩ := Sl.at t3 hx
      have i3 : h3.rd bk (i * 1) = some (str L[i]) := by
        have := i2 0 (by decide)
        rw [Nat.add_zero] at this
        rw [this, Nat.mul_one, List.getElem?_map, List.getElem?_eq_getElem hx]
        rfl
      have hbk : bk < h3.next := t3.lt bk (by rw [fk]; simp)
      have hvi := hv L[i] (List.getElem_mem hx)
      have hes := encT_size L[i]
      have hds := decT_size L[i].size
      have ln : ∀ (x : ByteArray) (h : AHeap), lenD .str (str x) h = some (i64 (x.size : Nat)) := fun _ _ => rfl
      simp only [hx', decide_true, if_true, i1, kv_some, ld_one, i3, ln]
      refine cl_then (ref8_Dec L[i].size (by omega)) ?_
      rintro r h4 ⟨rfl, m4⟩
      have i4 : h4.rd bk (i * 1) = some (str L[i]) := by rw [rd_keep m4 hbk, i3]
      have e58 : (⟨#[58]⟩ : ByteArray).size = 1 := rfl
      simp only [i4, true_and]
      rw [str_add _ _ _ _ (by omega), kv_some, str_add _ _ _ _ (by rw [ba_size]; omega), kv_some]
      have eT : decT L[i].size ++ ⟨#[58]⟩ ++ L[i] = encT L[i] := rfl
      rw [eT]
      simp only [ln, kv_some]
      rw [add_i64 _ _ (by omega) (by omega), kv_some]
      simp only [bin_gtr, kv_some, ifV_bool]
      have hd : fetchT out (L.drop i) = if out.size + (encT L[i]).size > 200 then out else fetchT (out ++ encT L[i]) (L.drop (i + 1)) := by
        rw [List.drop_eq_getElem_cons hx]
        rfl
      rw [hd] at hf
      have m34 := m3.trans m4
      by_cases hb : out.size + (encT L[i]).size > 200
      · have hb' : (out.size : Int) + (encT L[i]).size > 200 := by omega
        rw [if_pos hb] at hf
        simp only [hb', decide_true, if_true]
        rw [hf]
        exact ⟨rfl, m34⟩
      · have hb' : ¬ ((out.size : Int) + (encT L[i]).size > 200) := by omega
        rw [if_neg hb] at hf
        simp only [hb', decide_false, Bool.false_eq_true, if_false]
        rw [str_add _ _ _ _ (by omega), kv_some, add_i64 _ 1 (by omega) (by omega), kv_some]
        exact ⟨L.length - (i + 1), by omega, _, i + 1, rfl, by omega, rfl, by rw [ba_size]; omega, hf, m34⟩
    · have hx' : ¬ (i : Int) < (L.length : Nat) := by omega
      simp only [hx', decide_false, Bool.false_eq_true, if_false]
      rw [hf, List.drop_of_length_le (by omega)]
      exact ⟨rfl, m3⟩
  · rintro e h3 ⟨he, m3⟩
    simp only [List.cons.injEq, and_true] at he
    rw [he]
    exact hX _ m3

theorem act_to (c : Sp h fp p s) (R : RelS (.to l g) s) (hi : SI k (.to l g)) (hk : k ≤ 1000) (hl : ∀ v ∈ l, v.size ≤ 1000000000) (o : Oq) (now : Int) (hz : o.key.size ≤ BB ∧ o.val.size ≤ BB) :
    cl (Go.Abs.F.estafetteref8_Space_Do E) [p, o.agg, i64 now] h fun r h' => ∃ fp' s', r = .tuple #[str ((SpSt.to l g).act o now 0).1, i64 ((SpSt.to l g).act o now 0).2.1] ∧ Sp h' fp' p s' ∧ Mod h fp h' fp' ∧ ∀ c, RelS ((SpSt.to l g).act o now c).2.2 s' := by
  obtain ⟨hkd, tg, hn, hit, hlo, hval⟩ := R
  have hlen := tg.len hn
  have hsz : s.pairs.length ≤ 1000000 := by have := hi.2.2.2.2; omega
  have h64 := hi.1
  have hil : s.items.length = l.length := by rw [hit]; simp
  have hll : s.lost.length = 0 := by rw [hlo]; rfl
  refine cl_of ?_
  obtain ⟨h1, bx, e1, m1, bxl, bxn, g0, c1⟩ := op_boxW c o
  have c1' := c1
  simp only [Go.Abs.F.estafetteref8_Space_Do, e1, kP_some]
  obtain ⟨b, fP, fI, fL, vP, vI, vL, rfl, rfl, cc⟩ := c1
  have hkd' : h1.rd b 1 = some (i64 3) := by rw [rd_of cc.cell, ← hkd]; rfl
  have r0 : h1.rd bx 0 = some (i64 o.fn) := rd_of g0 0
  have r2 : h1.rd bx 2 = some (str o.key) := rd_of g0 2
  have r3 : h1.rd bx 3 = some (str o.val) := rd_of g0 3
  have r4 : h1.rd bx 4 = some (i64 o.n) := rd_of g0 4
  refine chkKF hkd' r0 1 3 ?_
  rw [if_neg (by omega)]
  refine chkKF hkd' r0 1 4 ?_
  rw [if_neg (by omega)]
  refine chkKF hkd' r0 1 5 ?_
  rw [if_neg (by omega)]
  refine chkKF hkd' r0 2 6 ?_
  rw [if_neg (by omega)]
  refine chkKF hkd' r0 2 7 ?_
  rw [if_neg (by omega)]
  refine chkKF hkd' r0 2 8 ?_
  rw [if_neg (by omega)]
  refine chkKF hkd' r0 2 9 ?_
  rw [if_neg (by omega)]
  refine chkKF hkd' r0 3 10 ?_
  by_cases f10 : o.fn = 10
  · rw [if_pos ⟨rfl, f10⟩]
    have ea : ∀ c, (SpSt.to l g).act o now c = doP l g o c := by intro c; simp only [SpSt.act]; rw [if_pos (by omega)]
    simp only [ea]
    simp only [fieldAddr_ptr, kv_some, ld_one, Nat.zero_add, r3]
    refine cl_then (ref8_Pub c1' o.val (by omega)) ?_
    rintro r h2 hr
    by_cases hc : l.length < 64
    · rw [if_pos (by omega)] at hr
      obtain ⟨rfl, fp', c2, m2⟩ := hr
      simp only [extract_tuple, List.getElem?_toArray, List.getElem?_cons_zero, List.getElem?_cons_succ, kv_some, hil]
      refine cl_then (ref8_full l.length true (by omega)) ?_
      rintro r h3 ⟨rfl, m3⟩
      simp only [if_true, extract_tuple, List.getElem?_toArray, List.getElem?_cons_zero, List.getElem?_cons_succ, kv_some]
      have ed : ∀ c, doP l g o c = (decT l.length, 0, .to (l ++ [o.val]) g) := by intro c; simp [doP, f10, hc]
      simp only [ed]
      refine ⟨fp', _, by first | rfl | trivial, c2.same m3.next fun x hx => m3.same x (c2.lt x hx) (by simp), (m1.trans m2).trans (m3.empty c2.lt), fun c => ⟨hkd, tg, hn, ?_, hlo, hval⟩⟩
      show s.items ++ [(⟨0, o.val, 0, 0⟩ : Msg)] = (l ++ [o.val]).map tmsg
      rw [hit, List.map_append]
      rfl
    · rw [if_neg (by omega)] at hr
      obtain ⟨rfl, e2⟩ := hr
      rw [e2]
      simp only [extract_tuple, List.getElem?_toArray, List.getElem?_cons_zero, List.getElem?_cons_succ, kv_some]
      refine cl_then (ref8_full 0 false (by omega)) ?_
      rintro r h3 ⟨rfl, m3⟩
      simp only [Bool.false_eq_true, if_false, extract_tuple, List.getElem?_toArray, List.getElem?_cons_zero, List.getElem?_cons_succ, kv_some]
      have ed : ∀ c, doP l g o c = (⟨#[]⟩, 6, .to l g) := by intro c; simp [doP, f10, hc]
      simp only [ed]
      exact ⟨_, s, by first | rfl | trivial, c1'.same m3.next fun x hx => m3.same x (c1'.lt x hx) (by simp), m1.trans (m3.empty c1'.lt), fun c => ⟨hkd, tg, hn, hit, hlo, hval⟩⟩
  rw [if_neg (fun hh => f10 hh.2)]
  refine chkKF hkd' r0 3 11 ?_
  by_cases f11 : o.fn = 11
  · rw [if_pos ⟨rfl, f11⟩]
    have ea : ∀ c, (SpSt.to l g).act o now c = (fetchT ⟨#[]⟩ (itemsT l (atN o.key g) o.n), 0, .to l g) := by
      intro c
      simp only [SpSt.act]
      rw [if_pos (by omega)]
      simp [doP, f11]
    simp only [ea]
    simp only [fieldAddr_ptr, kv_some, ld_one, Nat.zero_add, r2, r4]
    have hrng := atN_rng (key := o.key) hi.2.2.1
    rw [← grp_at tg] at hrng
    refine cl_then (ref8_Fetch c1' o.key o.n ⟨hsz, by omega⟩ (by rw [hil]; exact hrng)) ?_
    rintro r h2 ⟨f2, t2, m2⟩
    rw [hit, map_val, grp_at tg] at t2
    have hv' : ∀ v ∈ itemsT l (atN o.key g) o.n, v.size ≤ 1000000000 := fun v hx => hl v (List.mem_of_mem_drop (List.mem_of_mem_take hx))
    have hln : (itemsT l (atN o.key g) o.n).length ≤ 1000000 := by
      unfold itemsT
      rw [List.length_take, List.length_drop]
      omega
    refine fetch_loop (E := E) (X := fun x h3 => ∃ fp' s', Value.tuple #[x, .int .i64 0] = .tuple #[str (fetchT ⟨#[]⟩ (itemsT l (atN o.key g) o.n)), i64 0] ∧ Sp h3 fp' (ptr b 0) s' ∧ Mod h (b :: (fP ++ (fI ++ fL))) h3 fp' ∧ ∀ (c : Nat), RelS (SpSt.to l g) s') t2 hv' hln fun h3 m3 => ?_
    have m23 := m2.nil.trans m3
    exact ⟨_, s, by first | rfl | trivial, c1'.same m23.next fun x hx => m23.same x (c1'.lt x hx) (by simp), m1.trans (m23.empty c1'.lt), fun c => ⟨hkd, tg, hn, hit, hlo, hval⟩⟩
  rw [if_neg (fun hh => f11 hh.2)]
  refine chkKF hkd' r0 3 12 ?_
  by_cases f12 : o.fn = 12
  · rw [if_pos ⟨rfl, f12⟩]
    have ea : ∀ c, (SpSt.to l g).act o now c = doP l g o c := by intro c; simp only [SpSt.act]; rw [if_pos (by omega)]
    simp only [ea]
    simp only [fieldAddr_ptr, kv_some, ld_one, Nat.zero_add, r3]
    refine cl_then (ref8_Number o.val) ?_
    rintro r h2 ⟨eh, n, rfl, hnn⟩
    rw [eh]
    simp only [extract_tuple, List.getElem?_toArray, List.getElem?_cons_zero, List.getElem?_cons_succ, kv_some, not_bool, ifV_bool]
    cases hok : numOk o.val with
    | false =>
      have ed : ∀ c, doP l g o c = (⟨#[]⟩, 1, .to l g) := by intro c; simp [doP, f12, hok]
      simp only [ed, Bool.not_false, if_true]
      exact ⟨_, s, by first | rfl | trivial, c1', m1, fun c => ⟨hkd, tg, hn, hit, hlo, hval⟩⟩
    | true =>
      rw [hnn hok]
      simp only [Bool.not_true, Bool.false_eq_true, if_false, r2, r4, kv_some, ld_one]
      refine cl_then (ref8_Seek c1' o.key (numT o.val) o.n hsz) ?_
      rintro r h3 hr
      rw [grp_at tg, hil, ← tg.hit, ← hlen] at hr
      by_cases hc : atN o.key g = numT o.val ∧ (numT o.val : Int) ≤ o.n ∧ o.n ≤ l.length ∧ ((getE o.key g).isSome ∨ g.length < 16)
      · rw [if_pos hc] at hr
        obtain ⟨rfl, fp', c3, m3⟩ := hr
        have ed : ∀ c, doP l g o c = (⟨#[]⟩, 0, .to l (putE o.key (i64 o.n) c g)) := by
          intro c
          unfold doP
          rw [if_neg f10, if_neg f11, if_pos hok, if_pos hc]
        simp only [ed]
        refine cl_then (ref8_none true) ?_
        rintro r h4 ⟨e4, rfl⟩
        rw [e4]
        simp only [if_true, extract_tuple, List.getElem?_toArray, List.getElem?_cons_zero, List.getElem?_cons_succ, kv_some]
        exact ⟨fp', _, by first | rfl | trivial, c3, m1.trans m3, fun c => ⟨hkd, tg.put ⟨o.key, ⟨#[]⟩, o.n⟩ c, nodup_put hn, hit, hlo, fun q hq => by
          rcases mem_putP hq with rfl | hq
          · rfl
          · exact hval q hq⟩⟩
      · rw [if_neg hc] at hr
        obtain ⟨rfl, e3⟩ := hr
        rw [e3]
        have ed : ∀ c, doP l g o c = (⟨#[]⟩, 3, .to l g) := by
          intro c
          unfold doP
          rw [if_neg f10, if_neg f11, if_pos hok, if_neg hc]
        simp only [ed]
        refine cl_then (ref8_none false) ?_
        rintro r h4 ⟨e4, rfl⟩
        rw [e4]
        simp only [Bool.false_eq_true, if_false, extract_tuple, List.getElem?_toArray, List.getElem?_cons_zero, List.getElem?_cons_succ, kv_some]
        exact ⟨_, s, by first | rfl | trivial, c1', m1, fun c => ⟨hkd, tg, hn, hit, hlo, hval⟩⟩
  rw [if_neg (fun hh => f12 hh.2)]
  have ea : ∀ c, (SpSt.to l g).act o now c = (⟨#[]⟩, 1, .to l g) := by
    intro c
    simp only [SpSt.act]
    rw [if_neg (by omega)]
  simp only [ea]
  exact ⟨_, s, by first | rfl | trivial, c1', m1, fun c => ⟨hkd, tg, hn, hit, hlo, hval⟩⟩

/-- **The document's Do does the same as a space's.** -/
theorem doc_act {S : SpSt} (c : Sp h fp p s) (R : RelS S s) (hi : SI k S) (hk : k ≤ 1000) (hl : ∀ l g, S = .to l g → ∀ v ∈ l, v.size ≤ 1000000000) (o : Oq) (now : Int) (hz : o.key.size ≤ BB ∧ o.val.size ≤ BB) :
    cl (Go.Abs.F.estafetteref8_Space_Do E) [p, o.agg, i64 now] h fun r h' => ∃ fp' s', r = .tuple #[str (S.act o now 0).1, i64 (S.act o now 0).2.1] ∧ Sp h' fp' p s' ∧ Mod h fp h' fp' ∧ ∀ c, RelS (S.act o now c).2.2 s' := by
  cases S with
  | tab g => exact act_tab c R hi hk o now hz
  | qu a b i l =>
    refine cl_then (act_qu c R hi hk o now hz) ?_
    rintro r h' ⟨fp', s', a1, a2, a3, a4⟩
    exact ⟨fp', s', a1, a2, a3, fun _ => a4⟩
  | to l g => exact act_to c R hi hk (hl l g rfl) o now hz

end Go.Abs

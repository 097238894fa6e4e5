/- A vault: Prepare. -/
import Derived.Test.YtldjlkbjbkielaaGreatDoorVpbd
import Derived.Test.YtldjlkbjbkielaaGreatDoorVpaw
import Derived.Test.YtldjlkbjbkielaaGreatDoorVpbb
import Derived.Test.YtldjlkbjbkielaaGreatDoorVpat
set_option linter.unusedSimpArgs false
set_option linter.unusedVariables false
namespace Go.Abs
open Go
variable {E : FE} {F : Fr} {h : aA} {L : List Pl} {k : Nat} {p : V} {st : dL}
theorem aFy (sp : List (ByteArray × SpM)) (pt : List (IdM × bZ)) (now : Int) (o : Oq) (l : List Oq) (view : List (ByteArray × Option SpM)) (bN : List ByteArray) :
 oA sp pt now (o :: l) view bN = if (fM sp pt now view o).2.1 = 0 then oA sp pt now l (fM sp pt now view o).2.2 (bN ++ [(fM sp pt now view o).1]) else none := rfl
theorem aRc (sp : List (ByteArray × SpM)) (pt : List (IdM × bZ)) (now : Int) (o : Oq) (view : List (ByteArray × Option SpM)) : (fM sp pt now view o).2.2.length ≤ view.length + 1 := by
 have hvl := aM0 sp o.space view
 have hl := aM1 sp o.space view
 have hins : ∀ x, (ins o.space x (cN sp o.space view).2).length ≤ view.length + 1 := fun x => by
  have : (aX (ins o.space x (cN sp o.space view).2)).length = (aX (cN sp o.space view).2).length := by
   rw [aA0, if_neg (by rw [hl]; simp)]
  simp only [aX, List.length_map] at this
  omega
 unfold fM
 simp only
 split
 · split
   · exact hvl
   · split
     · exact hvl
     · exact hins _
 · split
   · exact hvl
   · split
     · exact hins _
     · exact hins _
set_option maxHeartbeats 1000000 in
theorem aGr (ve : VlE E) (id : IdM) {ops : List Oq} (now : Int) {a2 : V} (hi : dH k st) (hk : k ≤ 900) (hn : ops.length ≤ 1000000) (hz : ∀ o ∈ ops, o.space.size ≤ maxLen)
 (s : Sep F h (cT k p st :: cS a2 ops :: L)) :
 cl (Go.Abs.F.gM E) [p, id.agg, a2, i64 now] h fun r h' => ∃ w, r = .tuple #[w, .bool (cV st id ops now).1.2] ∧
  Sep F h' (iU w (cV st id ops now).1.1 :: cT (k + 8) p (cV st id ops now).2 :: cS a2 ops :: L) := by
 obtain ⟨E0, hE0⟩ := ve.ack
 obtain ⟨E8, hE8⟩ := ve.take
 obtain ⟨E9, hE9⟩ := ve.ord
 have hM := ve.op.mono
 refine aO ?_
 obtain ⟨b, ms, a, mp, c, rfl, s0⟩ := s.sK
 clear s
 simp only [Go.Abs.F.gM, pC, bA, dF, aB, aT, if_true, bK, bH, bC, Nat.zero_add]
 have s1 := s0.box (cId id) 2
 clear s0
 generalize h.new (.cells (cId id) 2 .rw) = h1 at s1 ⊢
 generalize h.next = bi at s1 ⊢
 have r3 : h1.rd b 3 = some c := by rw [aG s1.drop.get 3]; rfl
 rw [r3, aB, ld2 s1.get, aB]
 refine gF rfl (aL (aSj id s1.up5) ?_)
 rintro r h2 ⟨rfl, s2⟩
 clear s1 r3
 have vlt : ∀ {h' : aA}, Sep F h' (eA c st.ov :: aI bi (cId id) 2 :: aI b [.map (some ms), a, .map (some mp), c] 4 :: aK aP (spV k) ms st.sp :: dJ a st.lk :: aK bL (ptV k) mp st.pt :: cS a2 ops :: L) →
  Sep F h' (iU (.slice none 0 0) [] :: cT (k + 8) (ptr b 0) st :: cS a2 ops :: L) := fun s =>
  (vS (Nat.le_add_right k 8) (Sep.lK (s.re7 [2, 3, 4, 5, 0, 6] rfl))).aFs
 simp only [aY, Bool.false_eq_true, if_false, aB, aT]
 by_cases hov : id ∈ st.ov
 · have hp : cV st id ops now = (([], false), st) := by unfold cV; rw [if_pos (.inl hov)]
   rw [hp]
   simp only [hov, decide_true, Bool.true_eq_false, if_false, aB]
   refine lQ (by simp) ?_
   simp only [aB, aY, if_true, aF]
   exact ⟨_, rfl, vlt s2⟩
 simp only [hov, decide_false, if_true, aB]
 obtain ⟨f2, q2, _⟩ := s2.up6.head
 have q2 : SlE dOp h2 f2 a2 ops := q2
 refine gF rfl (aL (jN ve.op q2 hn hz) ?_)
 rintro r h3 ⟨rfl, m3⟩
 have s3 := s2.skip m3
 clear s2 q2
 simp only [dB, aB, aY, Bool.false_eq_true, if_false, aF]
 cases ha : gQ ops with
 | false =>
  have hp : cV st id ops now = (([], false), st) := by unfold cV; rw [if_pos (.inr ha)]
  rw [hp]
  simp only [Bool.not_false, if_true]
  exact ⟨_, rfl, vlt s3⟩
 | true =>
 simp only [Bool.not_true, Bool.false_eq_true, if_false]
 have hall := xF ha
 have r2 : h3.rd b 2 = some (.map (some mp)) := by rw [aG s3.drop.drop.get 2]; rfl
 rw [r2, aB, ld2 s3.drop.get, aB]
 cases hk1 : Go.Abs.lkp id st.pt with
 | some x =>
  have hp : cV st id ops now = ((x.bN, true), st) := by
   unfold cV
   rw [if_neg (by simp [hov, ha])]
   simp only [hk1]
  rw [hp]
  obtain ⟨w, e1, s4⟩ := s3.up5.oW (z := nil) hk1 false
  have e1 : bT (some ((.struct false [(0, .int), (1, .int)]), (some (.pointer none)))) (.map (some mp)) id.agg false h3 = some w := e1
  obtain ⟨b2, c1, c2, m2, rfl, s5⟩ := Sep.aB7 (k := k) (x := x) s4
  have q1 : h3.rd b2 1 = some c2 := by rw [aG s5.get 1]; rfl
  rw [e1, aB]
  simp only [aF0, aB, aF, if_true, bK, bH, bC, Nat.zero_add, q1]
  obtain ⟨f5, q5, _⟩ := s5.up2.head
  have q5 : Ts h3 f5 c2 x.bN := q5
  have hv8 := hi.val8 _ (iM hk1)
  refine aL (aD9 q5 (Nat.le_trans hv8 (by decide))) ?_
  rintro r6 h6 ⟨fp', q6, m6⟩
  have s6 := s5.alloc (iU r6 x.bN) m6 q6
  have s7 := Sep.zS (k := k) (x := x) (s6.re6 [1, 2, 3, 4, 5, 0] rfl)
  have s8 := Sep.sU (A := ptV k) (x' := x) s7 hk1
  rw [tH hk1] at s8
  refine ⟨_, rfl, ?_⟩
  have s9 := Sep.lK (st := st) (s8.re8 [4, 5, 6, 0, 2, 1, 7] rfl)
  exact (vS (Nat.le_add_right k 8) s9).up1
 | none =>
 have e1 := s3.up5.qT (z := nil) hk1 false
 have e1 : bT (some ((.struct false [(0, .int), (1, .int)]), (some (.pointer none)))) (.map (some mp)) id.agg false h3 = some nil := e1
 have r1 : h3.rd b 1 = some a := by rw [aG s3.drop.drop.get 1]; rfl
 rw [e1, aB]
 simp only [aLm, aB, aF, Bool.false_eq_true, if_false, r1, ld2 s3.drop.get]
 obtain ⟨f3, q3, _⟩ := s3.up6.head
 have q3 : SlE dOp h3 f3 a2 ops := q3
 refine aL (jK hM hE9 q3 (by omega)) ?_
 rintro ksv h4 ⟨ks, fq, hks, hkl, q4, m4⟩
 have s4 := s3.alloc (fE ksv ks) m4 q4
 clear s3 q3 e1 r1 r2
 have hks : ∀ x, x ∈ ks ↔ x ∈ ops.map cA := fun x => by
  rw [hks x, List.map_congr_left fun o _ => aTp o]
 refine ⟨by rw [aG s4.drop.drop.drop.get 1]; rfl, ld2 s4.drop.drop.get, ?_⟩
 refine aL (aTq hM hE8 id (s4.re8 [5, 0, 1, 2, 3, 4, 6, 7] rfl) (by omega)) ?_
 rintro r h5 ⟨rfl, s5⟩
 clear s4
 rw [aPv hks] at s5 ⊢
 simp only [dB, aB, aF]
 cases hbl : blocked id (ops.map cA) st.lk with
 | true =>
  have hp : cV st id ops now = (([], false), st) := by
   unfold cV
   rw [if_neg (by simp [hov, ha])]
   simp only [hk1, hbl, if_true]
  rw [hp]
  rw [hbl, if_pos rfl] at s5
  simp only [Bool.not_true, Bool.not_false, if_true]
  exact ⟨_, rfl, vlt (s5.re8 [2, 3, 4, 5, 0, 6, 7] rfl)⟩
 | false =>
 rw [hbl, if_neg (by simp)] at s5
 have s5 := Sep.aU5 (aWp hi.dlk hks) s5
 generalize hlk1 : cF id (ops.map cA) st.lk = lk1 at s5
 simp only [Bool.not_false, Bool.not_true, Bool.false_eq_true, if_false]
 obtain ⟨f5, q5, _⟩ := Sep.head (s5.re8 [7] rfl)
 have q5 : SlE dOp h5 f5 a2 ops := q5
 refine aL (aQf q5 (by omega)) ?_
 rintro oa h6 ⟨f6, q6, m6⟩
 have s6 := s5.alloc (cS oa ops) m6 q6
 clear s5 q5
 have em : ∀ h : aA, gY true none h = some (.map (some h.next), h.new (.map [] 0)) := fun _ => rfl
 rw [em, bA]
 have s7 := s6.vT (D := aP) (A := vwV k)
 generalize h6.next = mv at s7 ⊢
 obtain ⟨pb1, pb2⟩ := aU1 q6 now mv (h6.new (.map [] 0))
 generalize h6.new (.map [] 0) = h7 at s7 pb2 ⊢
 rw [pb1, aB, pb2, bA]
 have s8 := (s7.box [oa, .slice none 0 0, i64 now, .map (some mv)] 4).aFs
 clear s6 s7 pb1 pb2 q6 m6
 generalize h7.next = bp at s8 ⊢
 generalize h7.new _ = h8 at s8 ⊢
 have s9 := s8.tX [8, 1, 9, 2, 10, 0, 3, 4, 6, 7, 11] rfl
 clear s8
 have plen : ∀ {h : aA} {i : Nat} {va : V} {bN : List ByteArray} {view : List (ByteArray × Option SpM)}, Sep F h (aI b [.map (some ms), a, .map (some mp), c] 4 :: aI bp [oa, va, i64 now, .map (some mv)] 4 :: aK aP (spV (k + i)) ms st.sp :: aK aP (vwV (k + i)) mv view :: aK bL (ptV (k + i)) mp st.pt ::
  iU va bN :: cS oa ops :: dJ a lk1 :: eA c st.ov :: aI bi (cId id) 2 :: cS a2 ops :: L) → bI .slice a2 h = some (i64 ops.length) := fun s => by
  obtain ⟨f, q, _⟩ := Sep.head (s.fF [10] rfl)
  have q : SlE dOp _ f a2 ops := q
  exact q.len
 rw [plen (i := 0) s9, aB]
 refine ⟨fun n vs h' => ∃ (i : Nat) (va : V) (bN : List ByteArray) (view : List (ByteArray × Option SpM)), vs = [i64 i] ∧ n = ops.length - i ∧ i ≤ ops.length ∧ oA st.sp st.pt now (ops.drop i) view bN = oA st.sp st.pt now ops [] [] ∧ view.length ≤ i ∧ bN.length = i ∧
  Sep F h' (aI b [.map (some ms), a, .map (some mp), c] 4 :: aI bp [oa, va, i64 now, .map (some mv)] 4 :: aK aP (spV (k + i)) ms st.sp :: aK aP (vwV (k + i)) mv view :: aK bL (ptV (k + i)) mp st.pt ::
  iU va bN :: cS oa ops :: dJ a lk1 :: eA c st.ov :: aI bi (cId id) 2 :: cS a2 ops :: L),
  ops.length, ⟨0, _, [], [], rfl, by omega, by omega, rfl, by simp, rfl, s9⟩, ?_⟩
 clear s9
 rintro n e h9 ⟨i, va, bN, view, he, rfl, hi2, hpart, hvw, hvl, s9⟩
 simp only [List.cons.injEq, and_true] at he
 simp only [he, cW, aB, aF, decide_eq_true_eq]
 rcases Nat.lt_or_ge i ops.length with hx | hx
 case inr =>
  rw [if_neg (show ¬ ((i : Nat) : Int) < (ops.length : Nat) by omega)]
  have hil : i = ops.length := by omega
  rw [hil, List.drop_length] at hpart
  have hp : cV st id ops now = ((bN, true), { st with lk := lk1, pt := ins id ⟨ops, bN, now, view⟩ st.pt }) := by
   unfold cV
   rw [if_neg (by simp [hov, ha])]
   simp only [hk1, hbl, ← hpart, oA, Bool.false_eq_true, if_false, hlk1]
  rw [hp]
  have t2 : h9.rd b 2 = some (.map (some mp)) := by rw [aG s9.get 2]; rfl
  have hbi := Sep.get (s9.fF [9] rfl)
  simp only [t2, aB, ld2 hbi]
  obtain ⟨h10, e10, s11⟩ := Sep.aE7 (D := bL) (A := ptV (k + i)) (k := id) (w := ptr bp 0) (z := nil) (⟨ops, bN, now, view⟩ : bZ) (s9.fF [4, 0, 1, 2, 3, 5, 6, 7, 8, 9, 10] rfl) hk1
  have e10 : cQ (some ((.struct false [(0, .int), (1, .int)]), (some (.pointer none)))) (.map (some mp)) id.agg (ptr bp 0) h9 = some h10 := e10
  have t1 : h10.rd bp 1 = some va := by rw [aG (Sep.get (s11.fF [2] rfl)) 1]; rfl
  rw [e10, bR]
  simp only [bK, bH, bC, Nat.zero_add, t1, aB]
  obtain ⟨f11, q11, _⟩ := Sep.head (s11.fF [5] rfl)
  have q11 : Ts h10 f11 va bN := q11
  refine aL (aD9 q11 (by omega)) ?_
  rintro r12 h12 ⟨fp', q12, m12⟩
  have s12 := s11.alloc (iU r12 bN) m12 q12
  have s13 := Sep.zS (k := k + i) (x := (⟨ops, bN, now, view⟩ : bZ)) (s12.tX [3, 7, 6, 5, 1, 0, 2, 4, 8, 9, 11] rfl)
  have hl : Go.Abs.lkp id (ins id (⟨ops, bN, now, view⟩ : bZ) st.pt) = some ⟨ops, bN, now, view⟩ := by rw [lR, if_pos rfl]
  have s14 := Sep.sU (A := ptV (k + i)) (k := id) (v := ptr bp 0) (x' := (⟨ops, bN, now, view⟩ : bZ)) s13 hl
  rw [tH hl] at s14
  refine ⟨_, rfl, ?_⟩
  have s15 := Sep.lK (k := k + i) (st := ({ st with lk := lk1, pt := ins id ⟨ops, bN, now, view⟩ st.pt } : dL)) (s14.re7 [2, 3, 4, 0, 5, 1, 6] rfl)
  exact (vS (by omega) s15).up1
 rw [if_pos (show ((i : Nat) : Int) < (ops.length : Nat) by omega)]
 obtain ⟨f9, q9, _⟩ := Sep.head (s9.fF [10] rfl)
 have q9 : SlE dOp h9 f9 a2 ops := q9
 obtain ⟨cb, i1, i2⟩ := q9.ld (List.getElem?_eq_getElem hx)
 have i1 : bG (.slice 5) a2 (i64 i) = _ := i1
 have i2 : ldD (.agg 5) _ h9 = some (ops[i]).agg := i2
 have hdrop : ops.drop i = ops[i] :: ops.drop (i + 1) := List.drop_eq_getElem_cons hx
 have hmo : jM ops[i] = true := hall.2.2 _ (List.getElem_mem hx)
 rw [hdrop, aFy] at hpart
 clear hdrop q9
 generalize ops[i] = o at i2 hpart hmo
 simp only [i1, aB, i2, aBp, bA]
 have t1 := s9.box ((⟨0, ⟨#[]⟩, ⟨#[]⟩, ⟨#[]⟩, 0⟩ : Oq).cells) 5
 clear s9
 rw [st5 t1.get, bR]
 have t2 := t1.write (cs' := o.cells)
 clear t1
 generalize aA.put _ _ _ = h10 at t2 ⊢
 rw [ld5 t2.get, aB]
 refine aL (aXf hM hE0 o hmo (by omega) t2.drop (Nat.le_trans hi.nsp (by omega)) (by omega) (Nat.le_trans hi.npt (by omega)) hi.aB8) ?_
 rintro r h11 ⟨rfl, t3⟩
 clear t2
 have hdl := aRc st.sp st.pt now o view
 generalize fM st.sp st.pt now view o = D at t3 hpart hdl ⊢
 obtain ⟨val, err, view'⟩ := D
 simp only at t3 hpart hdl
 simp only [bQ, List.getElem?_toArray, List.getElem?_cons_zero, List.getElem?_cons_succ, aB, oO, aF]
 by_cases herr : err = 0
 · have hb : (err != 0) = false := by simp [herr]
   rw [if_pos herr] at hpart
   have u1 : h11.rd bp 1 = some va := by rw [aG t3.drop.get 1]; rfl
   simp only [hb, Bool.false_eq_true, if_false, bK, bH, bC, Nat.zero_add, u1, aB]
   have t4 := t3.fF [5, 0, 1, 2, 3, 4, 6, 7, 8, 9, 10] rfl
   clear t3 u1
   obtain ⟨f, q, kk⟩ := Sep.head t4
   have q : Ts h11 f va bN := q
   obtain ⟨h12, a1, va', h13, fw, a2', q13, m13⟩ := aPf q (by omega) val
   have t5 := kk (iU va' (bN ++ [val])) m13 q13
   rw [a1, bA, a2', bA]
   have u2 : h13.get bp = some (.cells [oa, va, i64 now, .map (some mv)] 4 .rw) := t5.drop.drop.get
   obtain ⟨c1, c2⟩ := Sl.cell q13
   rw [nB u2 (by simp) c1 c2 (by simp), bR]
   have t6 := (t5.up2).write (cs' := [oa, va', i64 now, .map (some mv)])
   rw [dN _ 1 (by omega) (by omega), aB]
   exact ⟨ops.length - (i + 1), by omega, i + 1, va', bN ++ [val], view', by simp, rfl, by omega, hpart, by omega, by simp; omega, t6.fF [2, 0, 3, 4, 5, 1, 6, 7, 8, 9, 10] rfl⟩
 · have hb : (err != 0) = true := by simp [herr]
   rw [if_neg herr] at hpart
   have hp : cV st id ops now = (([], false), { st with lk := cX id lk1 }) := by
    unfold cV
    rw [if_neg (by simp [hov, ha])]
    simp only [hk1, hbl, ← hpart, Bool.false_eq_true, if_false, hlk1]
   rw [hp]
   have u1 : h11.rd b 1 = some a := by rw [aG t3.get 1]; rfl
   simp only [hb, if_true, u1, aB, ld2 (Sep.get (t3.fF [9] rfl))]
   have hfew := hi.aRv hk1 (ops.map cA)
   have hlen := aGj id (ops.map cA) st.lk
   rw [hlk1] at hfew hlen
   rw [List.length_map] at hfew hlen
   have hnlk := hi.nlk
   refine aL (aKp hM hE9 id (t3.fF [7, 0, 1, 2, 3, 4, 5, 6, 8, 9, 10] rfl) (by omega) (by omega)) ?_
   rintro r h12 ⟨_, t4⟩
   refine ⟨_, rfl, ?_⟩
   exact (vS (by omega) (Sep.lK (k := k + i + 1) (st := ({ st with lk := cX id lk1 } : dL)) (t4.fF [1, 3, 0, 5, 8, 10] rfl))).aFs
end Go.Abs
namespace Go.Abs
open Go
variable {sp : List (ByteArray × SpM)} {pt : List (IdM × bZ)} {now : Int} {view : List (ByteArray × Option SpM)} {k : Nat} {st : dL} {id : IdM}
theorem aM2 {n m : ByteArray} (h : n ≠ m) : lkp m (cN sp n view).2 = lkp m view := by
 unfold cN
 cases hk : Go.Abs.lkp n view with
 | none => simp [h]
 | some x => rfl
theorem aVt {n : ByteArray} (h : (aX view).Nodup) : (aX (cN sp n view).2).Nodup := by
 unfold cN
 cases hk : Go.Abs.lkp n view with
 | none => exact qF h
 | some x => exact h
theorem aRd {o : Oq} (he : (fM sp pt now view o).2.1 = 0) : ∃ Y, (fM sp pt now view o).2.2 = ins o.space Y (cN sp o.space view).2 ∧
 (3 ≤ o.fn ∧ o.fn ≤ 5 → ∃ s, (cN sp o.space view).1 = some s ∧ Y = some (s.act o now).2.2 ∧ (s.act o now).2.1 = 0) := by
 unfold fM at he ⊢
 simp only at he ⊢
 by_cases h1 : o.fn = 1
 · simp only [if_pos h1] at he ⊢
   by_cases h2 : (cN sp o.space view).1.isSome = true
   · rw [if_pos h2] at he; cases he
   · rw [if_neg h2] at he ⊢
     by_cases h3 : 16 ≤ rT sp pt (cN sp o.space view).2
     · rw [if_pos h3] at he; cases he
     · rw [if_neg h3]
       exact ⟨_, rfl, fun h => by omega⟩
 · simp only [if_neg h1] at he ⊢
   cases hX : (cN sp o.space view).1 with
   | none => rw [hX] at he; cases he
   | some s =>
    rw [hX] at he
    simp only at he ⊢
    by_cases h2 : o.fn = 2
    · rw [if_pos h2]
      exact ⟨_, rfl, fun h => by omega⟩
    · rw [if_neg h2] at he ⊢
      exact ⟨_, rfl, fun _ => ⟨s, rfl, rfl, he⟩⟩
structure rL (sp : List (ByteArray × SpM)) (done : List Oq) (view : List (ByteArray × Option SpM)) : Prop where
 nd : (aX view).Nodup
 of : ∀ n x, lkp n view = some x → ∃ o ∈ done, o.space = n
 tab : ∀ n x, lkp n view = some x → (∀ o ∈ done, o.space = n → 3 ≤ o.fn ∧ o.fn ≤ 5) → ∃ s t, x = some s ∧ s.kind = 1 ∧ lkp n sp = some t ∧ t.kind = 1
theorem rL.nil : rL sp [] [] := ⟨by simp [aX], by simp [lkp], by simp [lkp]⟩
theorem rL.step {done : List Oq} {o : Oq} (w : rL sp done view) (he : (fM sp pt now view o).2.1 = 0) : rL sp (done ++ [o]) (fM sp pt now view o).2.2 := by
 obtain ⟨Y, e, hY⟩ := aRd he
 rw [e]
 refine ⟨qF (aVt w.nd), fun n x hx => ?_, fun n x hx ht => ?_⟩
 · rw [lR] at hx
   by_cases h : o.space = n
   · exact ⟨o, by simp, h⟩
   · rw [if_neg h, aM2 h] at hx
     obtain ⟨o', h1, h2⟩ := w.of n x hx
     exact ⟨o', by simp [h1], h2⟩
 · rw [lR] at hx
   by_cases h : o.space = n
   · rw [if_pos h] at hx
     cases hx
     obtain ⟨s, h1, h2, h3⟩ := hY (ht o (by simp) h)
     have h4 := aO3 (ht o (by simp) h) h3
     unfold cN at h1
     subst h
     cases hk : Go.Abs.lkp o.space view with
     | none =>
      rw [hk] at h1
      simp only at h1
      exact ⟨_, s, h2, by rw [aHp]; exact h4, h1, h4⟩
     | some x0 =>
      rw [hk] at h1
      simp only at h1
      obtain ⟨s', t, h5, h6, h7, h8⟩ := w.tab _ _ hk fun o' ho' => ht o' (by simp [ho'])
      exact ⟨_, t, h2, by rw [aHp]; exact h4, h7, h8⟩
   · rw [if_neg h, aM2 h] at hx
     exact w.tab n x hx fun o' ho' => ht o' (by simp [ho'])
theorem aL6 : ∀ {l done : List Oq} {view : List (ByteArray × Option SpM)} {bN vals' : List ByteArray} {view' : List (ByteArray × Option SpM)}, oA sp pt now l view bN = some (vals', view') → rL sp done view →
 rL sp (done ++ l) view' ∧ vals'.length = bN.length + l.length
 | [], done, view, bN, vals', view', h, w => by
  simp only [oA, Option.some.injEq, Prod.mk.injEq] at h
  obtain ⟨rfl, rfl⟩ := h
  simpa using w
 | o :: l, done, view, bN, vals', view', h, w => by
  rw [aFy] at h
  by_cases he : (fM sp pt now view o).2.1 = 0
  · rw [if_pos he] at h
    obtain ⟨h1, h2⟩ := aL6 h (w.step he)
    rw [List.append_assoc] at h1
    refine ⟨h1, ?_⟩
    simp only [List.length_append, List.length_cons, List.length_nil] at h2 ⊢
    omega
  · rw [if_neg he] at h
    cases h
theorem meet_self (a : aZ) : eJ a a = true := by simp [eJ]
theorem meet_comm (a b : aZ) : eJ a b = eJ b a := by
 have e1 : (decide (a.space = b.space)) = decide (b.space = a.space) := decide_eq_decide.2 ⟨Eq.symm, Eq.symm⟩
 have e2 : (decide (a.key = b.key)) = decide (b.key = a.key) := decide_eq_decide.2 ⟨Eq.symm, Eq.symm⟩
 unfold eJ
 rw [e1, e2, Bool.or_comm a.all b.all]
theorem aFu {ks : List aZ} {lk : List (aZ × IdM)} (h : blocked id ks lk = false) {e : aZ × IdM} (he : e ∈ lk) {a : aZ} (ha : a ∈ ks) (hm : eJ a e.1 = true) : e.2 = id := by
 by_cases hx : e.2 = id
 · exact hx
 · exfalso
   have : blocked id ks lk = true := List.any_eq_true.2 ⟨e, he, by
    simp only [ne_eq, hx, not_false_eq_true, decide_true, Bool.true_and]
    exact List.any_eq_true.2 ⟨a, ha, hm⟩⟩
   rw [h] at this
   cases this
theorem aMa (i : dH k st) (hp : lkp id st.pt = none) {e : IdM × bZ} (he : e ∈ st.pt) : e.1 ≠ id := fun h => by
 have := lS i.dpt (show (e.1, e.2) ∈ st.pt from he)
 rw [h, hp] at this
 cases this
theorem aJ9 (i : dH k st) (hp : lkp id st.pt = none) {ks : List aZ} (hb : blocked id ks st.lk = false) {e : IdM × bZ} (he : e ∈ st.pt) {o : Oq} (ho : o ∈ e.2.ops) : cA o ∉ ks := fun hm =>
 aMa i hp he (aFu hb (iM (i.has e he o ho)) hm (meet_self _))
theorem xZ (i : dH k st) (id : IdM) (ops : List Oq) (now : Int) : dH (k + 8) (cV st id ops now).2 := by
 have i8 := i.mono (Nat.le_add_right k 8)
 unfold cV
 by_cases h0 : id ∈ st.ov ∨ gQ ops = false
 · rw [if_pos h0]; exact i8
 rw [if_neg h0]
 have ha : gQ ops = true := by
  cases h : gQ ops with
  | true => rfl
  | false => exact absurd (.inr h) h0
 have hall := xF ha
 cases hp : lkp id st.pt with
 | some x => exact i8
 | none =>
 simp only
 cases hb : blocked id (ops.map cA) st.lk with
 | true => simp only [if_true]; exact i8
 | false =>
 simp only [Bool.false_eq_true, if_false]
 have hnl := aGj id (ops.map cA) st.lk
 rw [List.length_map] at hnl
 have hnlk := i.nlk
 have dtk := wI id (ops.map cA) i.dlk
 have old : ∀ {e : aZ × IdM}, e ∈ cF id (ops.map cA) st.lk → (e.1 ∈ ops.map cA ∧ e.2 = id) ∨ (e.1 ∉ ops.map cA ∧ e ∈ st.lk) := fun {e} he => by
  have h1 := lS dtk (show (e.1, e.2) ∈ _ from he)
  rw [uE] at h1
  by_cases hk : e.1 ∈ ops.map cA
  · rw [if_pos hk] at h1
    exact .inl ⟨hk, (Option.some.inj h1).symm⟩
  · rw [if_neg hk] at h1
    exact .inr ⟨hk, iM h1⟩
 cases hv : oA st.sp st.pt now ops [] [] with
 | none =>
  simp only
  have sub : ∀ e ∈ cX id (cF id (ops.map cA) st.lk), e ∈ st.lk := fun e he => by
   obtain ⟨h1, h2⟩ := List.mem_filter.1 he
   rcases old h1 with ⟨_, h3⟩ | ⟨_, h3⟩
   · exact absurd h3 (of_decide_eq_true h2)
   · exact h3
  refine { i8 with nlk := ?_, dlk := aJb dtk, own := fun e he => i.own e (sub e he), has := fun e he o ho => ?_, apart := fun e he e' he' => i.apart e (sub e he) e' (sub e' he') }
  · have := List.length_filter_le (fun e : aZ × IdM => decide (e.2 ≠ id)) (cF id (ops.map cA) st.lk)
    have h2 : (cX id (cF id (ops.map cA) st.lk)).length ≤ (cF id (ops.map cA) st.lk).length := this
    show (cX id (cF id (ops.map cA) st.lk)).length ≤ k + 8
    omega
  · show lkp (cA o) (cX id (cF id (ops.map cA) st.lk)) = some e.1
    rw [aKn dtk, uE, if_neg (aJ9 i hp hb he ho), i.has e he o ho]
    simp only
    rw [if_neg (aMa i hp he)]
 | some r =>
  obtain ⟨bN, vw⟩ := r
  simp only
  obtain ⟨w, hvl⟩ := aL6 (done := []) hv rL.nil
  rw [List.nil_append] at w
  have hmem : ∀ e ∈ ins id (⟨ops, bN, now, vw⟩ : bZ) st.pt, e ∈ st.pt ∨ e = (id, ⟨ops, bN, now, vw⟩) := fun e he => by
   rw [aE8 hp] at he
   rcases List.mem_append.1 he with he | he
   · exact .inl he
   · exact .inr (List.mem_singleton.1 he)
  refine ⟨i8.nsp, ?_, ?_, i.dsp, qF i.dpt, dtk, fun e he => ?_, fun e he => ?_, fun e he o ho => ?_, fun e he e' he' hm => ?_, fun e he => ?_, fun e he => ?_, fun e he x hx => ?_, fun e he x hx ht => ?_, i.zsp⟩
  · have := vD id (⟨ops, bN, now, vw⟩ : bZ) st.pt
    have h2 := i.npt
    show (ins id (⟨ops, bN, now, vw⟩ : bZ) st.pt).length ≤ k + 8
    omega
  · show (cF id (ops.map cA) st.lk).length ≤ k + 8
    omega
  · rcases hmem e he with he | rfl
    · exact i.may e he
    · exact ha
  · show ∃ p, lkp e.2 (ins id (⟨ops, bN, now, vw⟩ : bZ) st.pt) = some p ∧ _
    rcases old he with ⟨h1, h2⟩ | ⟨h1, h2⟩
    · exact ⟨⟨ops, bN, now, vw⟩, by rw [lR, if_pos h2.symm], h1⟩
    · obtain ⟨p, h3, h4⟩ := i.own e h2
      refine ⟨p, ?_, h4⟩
      rw [lR, if_neg, h3]
      intro hc
      rw [← hc, hp] at h3
      cases h3
  · show lkp (cA o) (cF id (ops.map cA) st.lk) = some e.1
    rw [uE]
    rcases hmem e he with he | rfl
    · rw [if_neg (aJ9 i hp hb he ho)]
      exact i.has e he o ho
    · rw [if_pos (List.mem_map.2 ⟨o, ho, rfl⟩)]
  · rcases old he with ⟨h1, h2⟩ | ⟨h1, h2⟩ <;> rcases old he' with ⟨h3, h4⟩ | ⟨h3, h4⟩
    · rw [h2, h4]
    · rw [h2, aFu hb h4 h1 hm]
    · rw [meet_comm] at hm
      rw [h4, aFu hb h2 h3 hm]
    · exact i.apart e h2 e' h4 hm
  · rcases hmem e he with he | rfl
    · exact i.dvw e he
    · exact w.nd
  · rcases hmem e he with he | rfl
    · exact i.val8 e he
    · show bN.length ≤ 8
      rw [hvl]
      simp only [List.length_nil]
      omega
  · rcases hmem e he with he | rfl
    · exact i.vw e he x hx
    · exact w.of x.1 x.2 (lS w.nd hx)
  · rcases hmem e he with he | rfl
    · exact i.tab e he x hx ht
    · exact w.tab x.1 x.2 (lS w.nd hx) ht
end Go.Abs
namespace Go.Abs
open Go
variable {sp : List (ByteArray × SpM)} {now : Int} {view : List (ByteArray × Option SpM)} {k : Nat} {st : dL} {id : IdM}
theorem aDg (n : ByteArray) (v : SpM) : ∀ (l : List Oq) (s : SpM), (eU n v l s).kind = s.kind
 | [], s => rfl
 | o :: l, s => by
  simp only [eU]
  split
  · rw [aDg n v l]
    split <;> rfl
  · exact aDg n v l s
def aFg (p : bZ) (all : Bool) (name : ByteArray) (x : Option SpM) (t : Option SpM) : Option SpM :=
 match all, x with
 | true, none => none
 | true, some s => some s
 | false, some s => t.map (eU name s p.ops)
 | false, none => t
theorem aKi (p : bZ) (all : Bool) (name : ByteArray) (x : Option SpM) (h : (aX sp).Nodup) : (aX (gX p all name x sp)).Nodup := by
 cases all <;> cases x <;> simp only [gX]
 · exact h
 · split
   · exact qF h
   · exact h
 · exact tQ h
 · exact qF h
theorem aTl (p : bZ) (all : Bool) (name : ByteArray) (x : Option SpM) : (gX p all name x sp).length ≤ sp.length + 1 := by
 cases all <;> cases x <;> simp only [gX]
 · omega
 · split
   · exact vD _ _ _
   · omega
 · have := aF8 name sp; omega
 · exact vD _ _ _
theorem aTm (p : bZ) (all : Bool) (name : ByteArray) (x : Option SpM) (h : (aX sp).Nodup) (n : ByteArray) : lkp n (gX p all name x sp) = if name = n then aFg p all name x (lkp name sp) else lkp n sp := by
 cases all <;> cases x <;> simp only [gX, aFg]
 · by_cases e : name = n
   · rw [if_pos e, e]
   · rw [if_neg e]
 · cases hk : Go.Abs.lkp name sp with
   | none =>
    simp only [Option.map_none]
    by_cases e : name = n
    · rw [if_pos e, ← e, hk]
    · rw [if_neg e]
   | some t =>
    simp only [Option.map_some]
    rw [lR]
 · rw [tK h]
 · rw [lR]
def dD (p : bZ) (al : ByteArray → Bool) (l : List (ByteArray × Option SpM)) (sp : List (ByteArray × SpM)) : List (ByteArray × SpM) := l.foldl (fun sp e => gX p (al e.1) e.1 e.2 sp) sp
theorem aA1 (p : bZ) (al : ByteArray → Bool) : ∀ (l : List (ByteArray × Option SpM)) {sp : List (ByteArray × SpM)}, (aX sp).Nodup → (aX (dD p al l sp)).Nodup
 | [], _, h => h
 | e :: l, _, h => aA1 p al l (aKi _ _ _ _ h)
theorem aKg (p : bZ) (al : ByteArray → Bool) : ∀ (l : List (ByteArray × Option SpM)) (sp : List (ByteArray × SpM)), (dD p al l sp).length ≤ sp.length + l.length
 | [], _ => by simp [dD]
 | e :: l, sp => by
  have h1 := aKg p al l (gX p (al e.1) e.1 e.2 sp)
  have h2 := aTl (sp := sp) p (al e.1) e.1 e.2
  have h3 : dD p al (e :: l) sp = dD p al l (gX p (al e.1) e.1 e.2 sp) := rfl
  rw [h3, List.length_cons]
  omega
theorem vJ (p : bZ) (al : ByteArray → Bool) : ∀ (l : List (ByteArray × Option SpM)) {sp : List (ByteArray × SpM)}, (aX sp).Nodup → (aX l).Nodup → ∀ n, lkp n (dD p al l sp) = match lkp n l with | none => lkp n sp | some x => aFg p (al n) n x (lkp n sp)
 | [], _, _, _, n => rfl
 | (a, x) :: l, sp, h, hl, n => by
  have hl' : a ∉ aX l ∧ (aX l).Nodup := List.nodup_cons.1 hl
  have h3 : dD p al ((a, x) :: l) sp = dD p al l (gX p (al a) a x sp) := rfl
  rw [h3, vJ p al l (aKi _ _ _ _ h) hl'.2, aTm _ _ _ _ h]
  simp only [lkp]
  by_cases e : a = n
  · subst e
    rw [kR.2 hl'.1]
    simp only [if_true]
  · simp only [if_neg e]
theorem aTj (p : bZ) (al : ByteArray → Bool) {l l' : List (ByteArray × Option SpM)} (hs : (aX sp).Nodup) (hl : (aX l).Nodup) (hp : l.Perm l') : (dD p al l sp).Perm (dD p al l' sp) := by
 have hl' := (keys_perm hp).nodup_iff.1 hl
 exact aCe (aA1 p al l hs) (aA1 p al l' hs) fun n => by rw [vJ p al l hs hl, vJ p al l' hs hl', aA3 hp hl]
def cO (lk : List (aZ × IdM)) (id : IdM) (n : ByteArray) : Bool := lk.any fun x => decide (x.2 = id) && decide (x.1.space = n) && x.1.all
theorem zX (st : dL) (id : IdM) (yes : Bool) : jG st id yes = if id ∈ st.ov then (false, st)
 else match lkp id st.pt with
 | none => (true, { st with ov := id :: st.ov })
 | some p => (true, ⟨if yes then dD p (cO st.lk id) p.view st.sp else st.sp, cX id st.lk, rmv id st.pt, id :: st.ov⟩) := rfl
theorem aXj (i : dH k st) {e : IdM × bZ} (he : e ∈ st.pt) : e.2.view.length ≤ 8 := by
 have h1 := aBr (i.dvw e he) (m := e.2.ops.map (·.space)) fun n hn => by
  obtain ⟨x, hx, rfl⟩ := List.mem_map.1 hn
  obtain ⟨o, h1, h2⟩ := i.vw e he x hx
  exact List.mem_map.2 ⟨o, h1, h2⟩
 have h2 := i.aB8 e he
 rw [List.length_map] at h1
 have : (aX e.2.view).length = e.2.view.length := by simp [aX]
 omega
theorem vO {κ α : Type} [DecidableEq κ] {k : κ} {e : κ × α} : ∀ {l : List (κ × α)}, (aX l).Nodup → e ∈ rmv k l → e ∈ l ∧ e.1 ≠ k := fun {l} hn he => by
 have h1 := lS (tQ hn) (show (e.1, e.2) ∈ rmv k l from he)
 rw [tK hn] at h1
 by_cases h : k = e.1
 · rw [if_pos h] at h1; cases h1
 · rw [if_neg h] at h1
   exact ⟨iM h1, fun hc => h hc.symm⟩
theorem aKr (o : Oq) : (cA o).space = o.space := by unfold cA; split <;> rfl
theorem aTr {o : Oq} (h : (cA o).all = false) : 3 ≤ o.fn ∧ o.fn ≤ 5 := by
 unfold cA at h
 by_cases h1 : 3 ≤ o.fn ∧ o.fn ≤ 5
 · exact h1
 · rw [if_neg h1] at h; cases h
theorem aO5 (i : dH k st) {n : ByteArray} (ha : cO st.lk id n = true) {e : IdM × bZ} (he : e ∈ st.pt) {o : Oq} (ho : o ∈ e.2.ops) (hs : o.space = n) : e.1 = id := by
 obtain ⟨x, hx, hp⟩ := List.any_eq_true.1 ha
 simp only [Bool.and_eq_true, decide_eq_true_eq] at hp
 obtain ⟨⟨h1, h2⟩, h3⟩ := hp
 have := i.apart _ (iM (i.has e he o ho)) x hx (by
  simp only [eJ, h3, Bool.or_true, Bool.true_or, Bool.and_true, decide_eq_true_eq]
  rw [aKr, hs, h2])
 rw [h1] at this
 exact this
theorem aUj (i : dH k st) {e : IdM × bZ} (he : e ∈ st.pt) {n : ByteArray} (ha : cO st.lk e.1 n = false) : ∀ o ∈ e.2.ops, o.space = n → 3 ≤ o.fn ∧ o.fn ≤ 5 := fun o ho hs => by
 refine aTr ?_
 cases hal : (cA o).all with
 | false => rfl
 | true =>
  exfalso
  have : cO st.lk e.1 n = true := List.any_eq_true.2 ⟨_, iM (i.has e he o ho), by
   simp only [decide_true, Bool.true_and, hal, Bool.and_true, decide_eq_true_eq]
   rw [aKr, hs]⟩
  rw [ha] at this
  cases this
theorem aAw (i : dH k st) (id : IdM) (yes : Bool) : dH (k + 8) (jG st id yes).2 := by
 have i8 := i.mono (Nat.le_add_right k 8)
 rw [zX]
 by_cases h0 : id ∈ st.ov
 · rw [if_pos h0]; exact i8
 rw [if_neg h0]
 cases hp : lkp id st.pt with
 | none => exact { i8 with }
 | some p =>
  simp only
  have hpm := iM hp
  have sub : ∀ e ∈ cX id st.lk, e ∈ st.lk ∧ e.2 ≠ id := fun e he => by
   obtain ⟨h1, h2⟩ := List.mem_filter.1 he
   exact ⟨h1, of_decide_eq_true h2⟩
  have hnd : (aX (if yes = true then dD p (cO st.lk id) p.view st.sp else st.sp)).Nodup := by
   split
   · exact aA1 _ _ _ i.dsp
   · exact i.dsp
  refine ⟨?_, ?_, ?_, hnd, tQ i.dpt, aJb i.dlk, fun e he => i.may e (vO i.dpt he).1, fun e he => ?_, fun e he o ho => ?_, fun e he e' he' => i.apart e (sub e he).1 e' (sub e' he').1,
   fun e he => i.dvw e (vO i.dpt he).1, fun e he => i.val8 e (vO i.dpt he).1, fun e he => i.vw e (vO i.dpt he).1, fun e he x hx ht => ?_, fun n hn => ?_⟩
  · have h1 := aKg p (cO st.lk id) p.view st.sp
    have h2 := aXj i hpm
    have h3 := i.nsp
    have h2 : p.view.length ≤ 8 := h2
    show (if yes = true then dD p (cO st.lk id) p.view st.sp else st.sp).length ≤ k + 8
    split <;> omega
  · have h1 := aF8 id st.pt
    have h2 := i.npt
    show (rmv id st.pt).length ≤ k + 8
    omega
  · have h1 : (cX id st.lk).length ≤ st.lk.length := List.length_filter_le _ _
    have h2 := i.nlk
    show (cX id st.lk).length ≤ k + 8
    omega
  · obtain ⟨h1, h2⟩ := sub e he
    obtain ⟨q, h3, h4⟩ := i.own e h1
    refine ⟨q, ?_, h4⟩
    show lkp e.2 (rmv id st.pt) = some q
    rw [tK i.dpt, if_neg fun hc => h2 hc.symm, h3]
  · obtain ⟨h1, h2⟩ := vO i.dpt he
    show lkp (cA o) (cX id st.lk) = some e.1
    rw [aKn i.dlk, i.has e h1 o ho]
    simp only
    rw [if_neg h2]
  · obtain ⟨h1, h2⟩ := vO i.dpt he
    obtain ⟨s, t, h3, h4, h5, h6⟩ := i.tab e h1 x hx ht
    show ∃ s t, x.2 = some s ∧ s.kind = 1 ∧ lkp x.1 (if yes = true then dD p (cO st.lk id) p.view st.sp else st.sp) = some t ∧ t.kind = 1
    cases yes with
    | false => exact ⟨s, t, h3, h4, h5, h6⟩
    | true =>
     simp only [if_true]
     rw [vJ p _ _ i.dsp (i.dvw _ hpm)]
     cases hv : lkp x.1 p.view with
     | none => exact ⟨s, t, h3, h4, h5, h6⟩
     | some y =>
      simp only
      obtain ⟨o, ho, hs⟩ := i.vw e h1 x hx
      have hal : cO st.lk id x.1 = false := by
       cases ha : cO st.lk id x.1 with
       | false => rfl
       | true => exact absurd (aO5 i ha h1 ho hs) h2
      rw [hal, h5]
      cases y with
      | none => exact ⟨s, t, h3, h4, rfl, h6⟩
      | some z => exact ⟨s, _, h3, h4, rfl, by rw [aDg]; exact h6⟩
  · have hn : n ∈ aX (if yes = true then dD p (cO st.lk id) p.view st.sp else st.sp) := hn
    cases yes with
    | false => exact i.zsp n hn
    | true =>
     simp only [if_true] at hn
     have h1 : lkp n (dD p (cO st.lk id) p.view st.sp) ≠ none := fun h => kR.1 h hn
     rw [vJ p _ _ i.dsp (i.dvw _ hpm)] at h1
     cases hv : lkp n p.view with
     | none =>
      rw [hv] at h1
      by_cases hm : n ∈ aX st.sp
      · exact i.zsp n hm
      · exact absurd (kR.2 hm) h1
     | some y =>
      obtain ⟨o, ho, hs⟩ := i.vw _ hpm _ (iM hv)
      have hs : o.space = n := hs
      rw [← hs]
      exact (aFn ((xF (i.may _ hpm)).2.2 o ho)).sp.2
end Go.Abs
namespace Go.Abs
open Go
variable {E : FE} {F : Fr} {h : aA} {L : List Pl} {k : Nat} {w : V} {s : SpM}
theorem aNm (E : FE) (hs : s.kind = 1) (z : Sep F h (dP k w s :: L)) : ∃ b tp, w = ptr b 0 ∧ h.rd b 1 = some tp ∧ (∀ key q, bU key s.bV = some q → q.val.size ≤ BB) ∧
 ∀ key, cl (Go.Abs.F.dK E) [tp, str key] h fun r h' => h' = h ∧ r = .tuple #[str (match bU key s.bV with | some q => q.val | none => ⟨#[]⟩), .bool (bU key s.bV).isSome] := by
 obtain ⟨S, h1, h2, h3, z1⟩ := z.rA
 obtain ⟨f, q, kk⟩ := z1.head
 have q : SpS h f w S := q
 cases S with
 | qu a b i l => exact absurd h3.1 (by rw [hs]; decide)
 | to l g => exact absurd h3.1 (by rw [hs]; decide)
 | tab g =>
  obtain ⟨pt, q⟩ := q
  obtain ⟨b, f', rfl, rfl, hg, hA, up⟩ := q.open
  have hA : Tab h f' pt g := hA
  obtain ⟨_, tg, hn, _⟩ := h3
  refine ⟨b, pt, rfl, by rw [aG hg 1]; rfl, fun key q hq => ?_, fun key => ?_⟩
  · have h4 := tg.same key
    rw [hq, Option.map_some] at h4
    obtain ⟨e, he, hv⟩ := rY h4
    obtain ⟨x, hx, hz⟩ := h1.1 e he
    rw [hv] at hx
    cases hx
    exact hz
  · refine aL (yY hA (fun e he => by obtain ⟨s, h, _⟩ := h1.1 e he; exact ⟨s, h⟩) key) ?_
    rintro r h' ⟨rfl, rfl⟩
    refine ⟨rfl, ?_⟩
    rw [tg.same key]
    cases bU key s.bV <;> rfl
theorem aWl (E : FE) (hs : s.kind = 1) (key val : ByteArray) (hz : key.size ≤ maxLen ∧ val.size ≤ BB) (z : Sep F h (dP k w s :: L)) : ∃ b tp, w = ptr b 0 ∧ h.rd b 1 = some tp ∧
 cl (Go.Abs.F.iE E) [tp, str key, str val] h fun r h' => Sep F h' (dP (k + 1) w { s with bV := cG ⟨key, val, 0⟩ s.bV } :: L) := by
 obtain ⟨S, h1, h2, h3, z1⟩ := z.rA
 obtain ⟨f, q, kk⟩ := z1.head
 have q : SpS h f w S := q
 cases S with
 | qu a b i l => exact absurd h3.1 (by rw [hs]; decide)
 | to l g => exact absurd h3.1 (by rw [hs]; decide)
 | tab g =>
  obtain ⟨pt, q⟩ := q
  obtain ⟨b, f', rfl, rfl, hg, hA, up⟩ := q.open
  have hA : Tab h f' pt g := hA
  refine ⟨b, pt, rfl, by rw [aG hg 1]; rfl, ?_⟩
  refine aL (aNo hA key (str val)) ?_
  rintro r h' ⟨_, c, t2, m2⟩
  obtain ⟨q1, q2⟩ := up (jS pt (cK key (str val) c g)) m2 t2
  have hst := h1.step ⟨4, ⟨#[]⟩, key, val, 0⟩ 0 c hz
  obtain ⟨_, _, a3⟩ := aDs h3 h1 ⟨4, ⟨#[]⟩, key, val, 0⟩ 0 c
  have e1 : ((bO.tab g).act ⟨4, ⟨#[]⟩, key, val, 0⟩ 0 c).2.2 = .tab (cK key (str val) c g) := rfl
  have e2 : (s.act ⟨4, ⟨#[]⟩, key, val, 0⟩ 0).2.2 = { s with bV := cG ⟨key, val, 0⟩ s.bV } := by
   unfold SpM.act
   rw [if_pos hs, if_pos (by simp), if_pos rfl]
  rw [e1] at hst a3
  rw [e2] at a3
  exact Sep.sY hst trivial a3 (kk (pD (ptr b 0) (.tab (cK key (str val) c g))) q2 ⟨pt, q1⟩)
theorem aWk (E : FE) (hs : s.kind = 1) (key : ByteArray) (hz : key.size ≤ maxLen) (z : Sep F h (dP k w s :: L)) : ∃ b tp, w = ptr b 0 ∧ h.rd b 1 = some tp ∧
 cl (Go.Abs.F.iD E) [tp, str key] h fun r h' => Sep F h' (dP (k + 1) w { s with bV := iK key s.bV } :: L) := by
 obtain ⟨S, h1, h2, h3, z1⟩ := z.rA
 obtain ⟨f, q, kk⟩ := z1.head
 have q : SpS h f w S := q
 cases S with
 | qu a b i l => exact absurd h3.1 (by rw [hs]; decide)
 | to l g => exact absurd h3.1 (by rw [hs]; decide)
 | tab g =>
  obtain ⟨pt, q⟩ := q
  obtain ⟨b, f', rfl, rfl, hg, hA, up⟩ := q.open
  have hA : Tab h f' pt g := hA
  refine ⟨b, pt, rfl, by rw [aG hg 1]; rfl, ?_⟩
  refine aL (aNn hA (fun e he => by obtain ⟨s, h, _⟩ := h1.1 e he; exact ⟨s, h⟩) key) ?_
  rintro r h' ⟨_, t2, m2⟩
  obtain ⟨q1, q2⟩ := up (jS pt (eK key g)) m2 t2
  have hst := h1.step ⟨5, ⟨#[]⟩, key, ⟨#[]⟩, 0⟩ 0 0 ⟨hz, (by decide : (⟨#[]⟩ : ByteArray).size ≤ BB)⟩
  obtain ⟨_, _, a3⟩ := aDs h3 h1 ⟨5, ⟨#[]⟩, key, ⟨#[]⟩, 0⟩ 0 0
  have e1 : ((bO.tab g).act ⟨5, ⟨#[]⟩, key, ⟨#[]⟩, 0⟩ 0 0).2.2 = .tab (eK key g) := rfl
  have e2 : (s.act ⟨5, ⟨#[]⟩, key, ⟨#[]⟩, 0⟩ 0).2.2 = { s with bV := iK key s.bV } := by
   unfold SpM.act
   rw [if_pos hs, if_pos (by simp), if_neg (show ¬ ((5 : Int) = 4) by decide), if_pos rfl]
  rw [e1] at hst a3
  rw [e2] at a3
  exact Sep.sY hst trivial a3 (kk (pD (ptr b 0) (.tab (eK key g))) q2 ⟨pt, q1⟩)
def wrO (n : ByteArray) (v : SpM) (o : Oq) (s : SpM) : SpM :=
 if o.space = n ∧ (o.fn = 4 ∨ o.fn = 5) then (match bU o.key v.bV with | some q => { s with bV := cG ⟨o.key, q.val, 0⟩ s.bV } | none => { s with bV := iK o.key s.bV }) else s
theorem aGv (n : ByteArray) (v : SpM) (o : Oq) (l : List Oq) (s : SpM) : eU n v (o :: l) s = eU n v l (wrO n v o s) := by
 simp only [eU, wrO]
 split <;> rfl
theorem aGw (n : ByteArray) (v : SpM) (o : Oq) : ∀ (l : List Oq) (s : SpM), eU n v (l ++ [o]) s = wrO n v o (eU n v l s)
 | [], s => by rw [List.nil_append, aGv]; rfl
 | a :: l, s => by rw [List.cons_append, aGv, aGw n v o l, aGv]
theorem aJv {κ α : Type} [DecidableEq κ] (k : κ) (x y : α) : ∀ l : List (κ × α), ins k y (ins k x l) = ins k y l
 | [] => by simp [ins]
 | (a, u) :: l => by
  by_cases h : a = k
  · simp [ins, h]
  · simp [ins, h, aJv k x y l]
def onN (n : ByteArray) (l : List Oq) : Nat := (l.filter fun o => decide (o.space = n)).length
theorem aLq (n : ByteArray) (l : List Oq) (o : Oq) : onN n (l ++ [o]) = onN n l + if o.space = n then 1 else 0 := by
 unfold onN
 rw [List.filter_append, List.length_append]
 by_cases h : o.space = n <;> simp [h]
theorem aFv (n : ByteArray) (l : List Oq) (o : Oq) : onN n (o :: l) = (if o.space = n then 1 else 0) + onN n l := by
 unfold onN
 by_cases h : o.space = n
 · simp [h]; omega
 · simp [h]
theorem aLr : ∀ (l : List Oq) {ns : List ByteArray}, ns.Nodup → (ns.map fun n => onN n l).sum ≤ l.length
 | [], ns, _ => by
  have : (ns.map fun n => onN n []).sum = 0 := by
   induction ns with
   | nil => rfl
   | cons a t ih => simp_all [onN]
  omega
 | o :: l, ns, h => by
  have ih := aLr l h
  have h1 : ∀ ns : List ByteArray, ns.Nodup → (ns.map fun n => onN n (o :: l)).sum ≤ 1 + (ns.map fun n => onN n l).sum ∧ (o.space ∉ ns → (ns.map fun n => onN n (o :: l)).sum = (ns.map fun n => onN n l).sum) := by
   intro ns
   induction ns with
   | nil => intro _; simp
   | cons a t ih =>
    intro hnd
    obtain ⟨h1, h2⟩ := List.nodup_cons.1 hnd
    obtain ⟨i1, i2⟩ := ih h2
    simp only [List.map_cons, List.sum_cons, aFv]
    by_cases e : o.space = a
    · have := i2 (by rw [e]; exact h1)
      rw [if_pos e]
      refine ⟨?_, fun hn => absurd (by simp [e]) hn⟩
      simp only [aFv] at this
      omega
    · rw [if_neg e]
      simp only [aFv] at i1 i2
      refine ⟨by omega, fun hn => ?_⟩
      have := i2 fun hm => hn (by simp [hm])
      omega
  have := (h1 ns h).1
  rw [List.length_cons]
  omega
end Go.Abs
namespace Go.Abs
open Go
variable {E : FE} {F : Fr} {h : aA} {L : List Pl} {k : Nat}
theorem aTu {mv clk : Nat} {t : List (Et ByteArray (Option SpM))} {view : List (ByteArray × Option SpM)} (q : OkE t clk view) {e : Et ByteArray (Option SpM)} (he : e ∈ t) (s : Sep F h (bM mv (t.map (Et.m aP)) clk :: L)) :
 bT (some (.string, (some (.pointer none)))) (.map (some mv)) (str e.k) false h = some e.v := by
 have g := s.qD
 rw [qV] at g
 have h1 := aFk aP (z := nil) g e.k false
 have hn : (gV (t.map Et.g)).Nodup := by
  rw [aFa, ← oM]
  exact q.ndt
 have h2 : bX e.k (t.map Et.g) = some e.v := aJe (e := e.g) hn (List.mem_map.2 ⟨e, he, rfl⟩)
 rw [h2] at h1
 exact h1
theorem aVu {h3 : aA} {bo : Nat} {fn : Int} (r0 : h3.rd bo 0 = some (i64 fn)) (hf : fn = 4 ∨ fn = 5) {X : V → Prop} (hX : X (.bool false)) :
 kv (gdV (.bool false) false (aE (some 0) (ptr bo 0))) fun v33 => kv (gdV (.bool false) false (ldD .one v33 h3)) fun v34 => kv (gdV (.bool false) false (aC .bad .neq true v34 (.int .i64 4) h3)) fun v35 => kv (gdV (.bool false) false (some v35)) fun v36 =>
  kv (gdV v36 true (aE (some 0) (ptr bo 0))) fun v37 => kv (gdV v36 true (ldD .one v37 h3)) fun v38 => kv (gdV v36 true (aC .bad .neq true v38 (.int .i64 5) h3)) fun v39 => kv (gdV (.bool false) false (aW v36 v39 (.bool false))) fun v40 => kv (aW (.bool false) (.bool true) v40) X := by
 rcases hf with rfl | rfl <;> simpa [aT, fN, aY, r0] using hX
theorem aVv {h3 : aA} {bo : Nat} {fn : Int} (r0 : h3.rd bo 0 = some (i64 fn)) (b : Bool) (hf : b = true ∨ ¬ (fn = 4 ∨ fn = 5)) {X : V → Prop} (hX : X (.bool true)) :
 kv (gdV (.bool b) false (aE (some 0) (ptr bo 0))) fun v33 => kv (gdV (.bool b) false (ldD .one v33 h3)) fun v34 => kv (gdV (.bool b) false (aC .bad .neq true v34 (.int .i64 4) h3)) fun v35 => kv (gdV (.bool b) false (some v35)) fun v36 =>
  kv (gdV v36 true (aE (some 0) (ptr bo 0))) fun v37 => kv (gdV v36 true (ldD .one v37 h3)) fun v38 => kv (gdV v36 true (aC .bad .neq true v38 (.int .i64 5) h3)) fun v39 => kv (gdV (.bool b) false (aW v36 v39 (.bool false))) fun v40 => kv (aW (.bool b) (.bool true) v40) X := by
 cases b with
 | true => simpa [aT, fN, aY] using hX
 | false =>
  have h1 : ¬ (fn = 4 ∨ fn = 5) := by simpa using hf
  have h4 : (fn != 4) = true := by simp; omega
  have h5 : (fn != 5) = true := by simp; omega
  simpa [aT, fN, aY, r0, h4, h5] using hX
theorem aT6 {k k' : Nat} (hk : k ≤ k') (n0 : ByteArray) (v0 : V) : ∀ (F : Fr) (h : aA) (L : List Pl) (n : ByteArray) (v : V) (x : SpM), Sep F h (dT n0 v0 (spV k) n v x :: L) → Sep F h (dT n0 v0 (spV k') n v x :: L) := fun F h L n v x s => by
 by_cases e : n = n0
 · simp only [dT, if_pos e] at s ⊢; exact s
 · simp only [dT, if_neg e] at s ⊢; exact qY hk _ _ _ _ _ _ s
theorem aXg {pv pp ms mp mv clk : Nat} {a c oa va : V} {p : bZ} {sp : List (ByteArray × SpM)} {t : List (Et ByteArray (Option SpM))} (all : Bool) {e : Et ByteArray (Option SpM)} (he : e ∈ t) (q : OkE t clk p.view)
 (ht : all = false → ∃ s t0, e.x = some s ∧ s.kind = 1 ∧ lkp e.k sp = some t0 ∧ t0.kind = 1) (hz : ∀ o ∈ p.ops, o.key.size ≤ maxLen) (hl : p.ops.length ≤ 8)
 (s : Sep F h (vwV k e.k e.v e.x :: aK aP (spV k) ms sp :: bM mv (t.map (Et.m aP)) clk :: aI pv [.map (some ms), a, .map (some mp), c] 4 :: aI pp [oa, va, i64 p.now, .map (some mv)] 4 :: cS oa p.ops :: L)) :
 cl (Go.Abs.F.nP E) [ptr pv 0, ptr pp 0, str e.k, .bool all] h fun r h' =>
  Sep F h' (aK aP (spV (k + onN e.k p.ops)) ms (gX p all e.k e.x sp) :: bM mv (t.map (Et.m aP)) clk :: aI pv [.map (some ms), a, .map (some mp), c] 4 :: aI pp [oa, va, i64 p.now, .map (some mv)] 4 :: cS oa p.ops :: L) := by
 refine aO ?_
 have r3 : h.rd pp 3 = some (.map (some mv)) := by rw [aG (Sep.get (s.re6 [4] rfl)) 3]; rfl
 have r0 : h.rd pv 0 = some (.map (some ms)) := by rw [aG (Sep.get (s.re6 [3] rfl)) 0]; rfl
 have hlk := aTu q he s.drop.drop
 simp only [Go.Abs.F.nP, bK, bH, aB, bC, Nat.zero_add, r3, r0, hlk, aT]
 cases all with
 | true =>
  have nn := Sep.aEo (k := k) (n := e.k) s true
  simp only [if_true, aB, nn, aY, aF]
  cases hx : e.x with
  | none =>
   rw [hx] at s
   simp only [Option.isNone_none, if_true]
   obtain ⟨h2, e2, s2⟩ := Sep.aEh (D := aP) (A := spV k) (k := e.k) (z := nil) s.drop
   have e2 : fZ (some (.string, (some (.pointer none)))) (.map (some ms)) (str e.k) h = some h2 := e2
   rw [e2, bR]
   exact Sep.iQ (qY (Nat.le_add_right _ _)) s2
  | some x =>
   rw [hx] at s
   simp only [Option.isNone_some, Bool.false_eq_true, if_false]
   obtain ⟨h2, e2, s2⟩ := Sep.tG (D := aP) (A := spV k) (k := e.k) (v := e.v) (x := x) (z := nil) s.up1
   have e2 : cQ (some (.string, (some (.pointer none)))) (.map (some ms)) (str e.k) e.v h = some h2 := e2
   rw [e2, bR]
   exact Sep.iQ (qY (Nat.le_add_right _ _)) s2
 | false =>
  obtain ⟨x, t0, hx, hxk, ht0, htk⟩ := ht rfl
  rw [hx] at s ⊢
  generalize e.v = ev at s hlk ⊢
  have hlays : gX p false e.k (some x) sp = ins e.k (eU e.k x p.ops t0) sp := by simp only [gX, ht0]
  rw [hlays]
  have q0 : h.rd pp 0 = some oa := by rw [aG (Sep.get (s.re6 [4] rfl)) 0]; rfl
  obtain ⟨f, q1, _⟩ := Sep.head (s.re6 [5] rfl)
  have q1 : SlE dOp h f oa p.ops := q1
  simp only [Bool.false_eq_true, if_false, aB, aY, aF, q0, q1.len]
  rw [← tH ht0] at s
  refine ⟨fun n vs h' => ∃ i : Nat, vs = [i64 i] ∧ n = p.ops.length - i ∧ i ≤ p.ops.length ∧
   Sep F h' (dP k ev x :: aK aP (spV (k + onN e.k (p.ops.take i))) ms (ins e.k (eU e.k x (p.ops.take i) t0) sp) :: bM mv (t.map (Et.m aP)) clk :: aI pv [.map (some ms), a, .map (some mp), c] 4 :: aI pp [oa, va, i64 p.now, .map (some mv)] 4 :: cS oa p.ops :: L),
   p.ops.length, ⟨0, rfl, by omega, by omega, s⟩, ?_⟩
  clear s r0 q0 q1 hlk r3
  rintro n e0 h1 ⟨i, he0, rfl, hi, s1⟩
  simp only [List.cons.injEq, and_true] at he0
  simp only [he0, cW, aB, aF, decide_eq_true_eq]
  rcases Nat.lt_or_ge i p.ops.length with hxi | hxi
  case inr =>
   rw [if_neg (show ¬ ((i : Nat) : Int) < (p.ops.length : Nat) by omega)]
   rw [List.take_of_length_le hxi] at s1
   exact s1.drop
  rw [if_pos (show ((i : Nat) : Int) < (p.ops.length : Nat) by omega)]
  obtain ⟨f1, q1, _⟩ := Sep.head (s1.re6 [5] rfl)
  have q1 : SlE dOp h1 f1 oa p.ops := q1
  have hg : p.ops[i]? = some p.ops[i] := List.getElem?_eq_getElem hxi
  obtain ⟨cb, i1, i2⟩ := q1.ld hg
  have i1 : bG (.slice 5) oa (i64 i) = _ := i1
  have i2 : ldD (.agg 5) _ h1 = some (p.ops[i]).agg := i2
  have hoz := hz _ (List.getElem_mem hxi)
  have htk1 : p.ops.take (i + 1) = p.ops.take i ++ [p.ops[i]] := by rw [List.take_add_one, hg]; rfl
  generalize p.ops[i] = o at i2 hoz htk1
  rw [i1, aB, i2, aB, aBp, bA]
  have s2 := s1.box ((⟨0, ⟨#[]⟩, ⟨#[]⟩, ⟨#[]⟩, 0⟩ : Oq).cells) 5
  clear s1 q1
  rw [st5 s2.get, bR]
  have s3 := s2.write (cs' := o.cells)
  clear s2
  generalize aA.put _ _ _ = h3 at s3 ⊢
  generalize h1.next = bo at s3 ⊢
  have r0 : h3.rd bo 0 = some (i64 o.fn) := by rw [aG s3.get 0]; rfl
  have r1 : h3.rd bo 1 = some (str o.space) := by rw [aG s3.get 1]; rfl
  have r2 : h3.rd bo 2 = some (str o.key) := by rw [aG s3.get 2]; rfl
  rw [bH, aB, bC, Nat.zero_add, r1, aB, wG, aB]
  have nextR : ∀ {h' : aA}, Sep F h' (dP k ev x :: aK aP (spV (k + onN e.k (p.ops.take (i + 1)))) ms (ins e.k (eU e.k x (p.ops.take (i + 1)) t0) sp) :: bM mv (t.map (Et.m aP)) clk :: aI pv [.map (some ms), a, .map (some mp), c] 4 :: aI pp [oa, va, i64 p.now, .map (some mv)] 4 :: cS oa p.ops :: L) →
   kv (aC .bad .add true (i64 i) (.int .i64 1) h') fun v78 => ∃ m, m < p.ops.length - i ∧ ∃ j : Nat, [v78] = [i64 j] ∧ m = p.ops.length - j ∧ j ≤ p.ops.length ∧
    Sep F h' (dP k ev x :: aK aP (spV (k + onN e.k (p.ops.take j))) ms (ins e.k (eU e.k x (p.ops.take j) t0) sp) :: bM mv (t.map (Et.m aP)) clk :: aI pv [.map (some ms), a, .map (some mp), c] 4 :: aI pp [oa, va, i64 p.now, .map (some mv)] 4 :: cS oa p.ops :: L) := by
   intro h' s'
   rw [dN _ 1 (by omega) (by omega), aB]
   exact ⟨p.ops.length - (i + 1), by omega, i + 1, by simp, rfl, by omega, s'⟩
  by_cases hw : o.space = e.k ∧ (o.fn = 4 ∨ o.fn = 5)
  case neg =>
   have hwr : eU e.k x (p.ops.take (i + 1)) t0 = eU e.k x (p.ops.take i) t0 := by
    rw [htk1, aGw]
    unfold wrO
    rw [if_neg hw]
   have hsub : k + onN e.k (p.ops.take i) ≤ k + onN e.k (p.ops.take (i + 1)) := by rw [htk1, aLq]; omega
   refine aVv r0 _ ?_ ?_
   · by_cases hsp : o.space = e.k
     · exact .inr fun hf => hw ⟨hsp, hf⟩
     · exact .inl (by simp [hsp])
   rw [aF, if_pos rfl]
   refine nextR ?_
   rw [hwr]
   exact (Sep.iQ (qY hsub) s3.drop.up1).up1
  obtain ⟨hsp, hfn⟩ := hw
  have hd : decide (o.space = e.k) = true := by simp [hsp]
  rw [hd]
  refine aVu r0 hfn ?_
  rw [aF, if_neg (by simp)]
  have hon : onN e.k (p.ops.take (i + 1)) = onN e.k (p.ops.take i) + 1 := by rw [htk1, aLq, if_pos hsp]
  have hwr : eU e.k x (p.ops.take (i + 1)) t0 = wrO e.k x o (eU e.k x (p.ops.take i) t0) := by rw [htk1, aGw]
  have hki : (eU e.k x (p.ops.take i) t0).kind = 1 := by rw [aDg]; exact htk
  rw [hwr, hon] at nextR
  unfold wrO at nextR
  rw [if_pos ⟨hsp, hfn⟩] at nextR
  have nextR := fun {h'} s => @nextR h' s
  generalize hgw : eU e.k x (p.ops.take i) t0 = tt at s3 nextR hki
  have hj : ∃ jj, onN e.k (p.ops.take i) = jj := ⟨_, rfl⟩
  obtain ⟨jj, hj⟩ := hj
  rw [hj] at s3 nextR
  obtain ⟨bx, tx, rfl, rx, hzx, getx⟩ := aNm E hxk s3.drop
  have lkS : lkp e.k (ins e.k tt sp) = some tt := by rw [lR, if_pos rfl]
  have q0 : h3.rd pv 0 = some (.map (some ms)) := by rw [aG (Sep.get (s3.re7 [4] rfl)) 0]; rfl
  simp only [bK, aB, bH, bC, Nat.zero_add, rx, r2]
  refine aL (getx o.key) ?_
  rintro r4 h4 ⟨rfl, rfl⟩
  obtain ⟨w2, e2, s5⟩ := (s3.re7 [2, 1, 3, 4, 5, 6] rfl).oW (z := nil) lkS false
  have e2 : bT (some (.string, (some (.pointer none)))) (.map (some ms)) (str e.k) false h4 = some w2 := e2
  simp only [bQ, List.getElem?_toArray, List.getElem?_cons_zero, List.getElem?_cons_succ, aB, aF, q0, e2]
  have back : ∀ {h' : aA} {tt' : SpM}, Sep F h' (dP (k + jj + 1) w2 tt' :: aK aP (dT e.k w2 (spV (k + jj))) ms (ins e.k tt sp) :: dP k (ptr bx 0) x :: bM mv (t.map (Et.m aP)) clk :: aI pv [.map (some ms), a, .map (some mp), c] 4 :: aI pp [oa, va, i64 p.now, .map (some mv)] 4 :: cS oa p.ops :: L) →
   Sep F h' (dP k (ptr bx 0) x :: aK aP (spV (k + (jj + 1))) ms (ins e.k tt' sp) :: bM mv (t.map (Et.m aP)) clk :: aI pv [.map (some ms), a, .map (some mp), c] 4 :: aI pp [oa, va, i64 p.now, .map (some mv)] 4 :: cS oa p.ops :: L) := by
   intro h' tt' s6
   have s7 := (Sep.iQ (aT6 (Nat.le_succ (k + jj)) e.k w2) s6.up1).up1
   have s8 := Sep.sU (A := spV (k + jj + 1)) (k := e.k) (v := w2) (x' := tt') s7 lkS
   rw [aJv] at s8
   exact s8.up1
  cases hq : bU o.key x.bV with
  | some qq =>
   rw [hq] at nextR
   simp only [Option.isSome_some, if_true]
   obtain ⟨b2, t2, rfl, rx2, put2⟩ := aWl E hki o.key qq.val ⟨hoz, hzx _ _ hq⟩ s5
   simp only [bK, aB, bH, bC, Nat.zero_add, rx2, r2]
   refine aL put2 ?_
   intro r6 h6 s6
   exact nextR (back s6)
  | none =>
   rw [hq] at nextR
   simp only [Option.isSome_none, Bool.false_eq_true, if_false]
   obtain ⟨b2, t2, rfl, rx2, del2⟩ := aWk E hki o.key hoz s5
   simp only [bK, aB, bH, bC, Nat.zero_add, rx2, r2]
   refine aL del2 ?_
   intro r6 h6 s6
   exact nextR (back s6)
end Go.Abs
namespace Go.Abs
open Go
variable {E : FE} {F : Fr} {h : aA} {L : List Pl} {k : Nat} {p : V} {st : dL}
def blV (_ : ByteArray) (v : V) (x : Bool) : Pl := dE (v = .bool x)
theorem Sep.aKs {ma : Nat} {l : List (ByteArray × Bool)} (s : Sep F h (aK aP blV ma l :: L)) (n : ByteArray) :
 bT (some (.string, (some (.bool false)))) (.map (some ma)) (str n) false h = some (.bool ((lkp n l).getD false)) := by
 cases hk : Go.Abs.lkp n l with
 | none =>
  have h1 := s.qT (z := .bool false) hk false
  have h1 : bT (some (.string, (some (.bool false)))) (.map (some ma)) (str n) false h = some (.bool false) := h1
  rw [h1]; rfl
 | some x =>
  obtain ⟨w, h1, s1⟩ := s.oW (z := .bool false) hk false
  have h1 : bT (some (.string, (some (.bool false)))) (.map (some ma)) (str n) false h = some w := h1
  obtain ⟨hw, _⟩ := Sep.pure (φ := w = .bool x) s1
  rw [h1, hw]; rfl
theorem Sep.aUm {κ α : Type} [DecidableEq κ] {D : KD κ} {A : κ → V → α → Pl} {m : Nat} {l : List (κ × α)} {k : κ} {w : V} (s : Sep F h (aK D (dT k w A) m l :: L)) (hk : Go.Abs.lkp k l = none) :
 Sep F h (aK D A m l :: L) := by
 obtain ⟨t, clk, q, s1⟩ := s.fD
 have ht : ∀ e ∈ t, e.k ≠ k := fun e he hc => by
  have h1 : k ∉ aX l := kR.1 hk
  exact h1 ((keys_perm q.perm).mem_iff.1 (by rw [oM]; exact List.mem_map.2 ⟨e, he, hc⟩))
 rw [vC (v := w) ht] at s1
 exact Sep.fK q s1
theorem aO6 {v : V} {ks : List aZ} {ma : Nat} (s : Sep F h (aK aP blV ma [] :: fE v ks :: L)) (hsz : ks.length ≤ 1000000) {K : aA → Prop}
 (hK : ∀ h' l, (∀ n, (lkp n l).getD false = ks.any fun x => decide (x.space = n) && x.all) → Sep F h' (aK aP blV ma l :: fE v ks :: L) → K h') :
 kv (bI .slice v h) fun v23 =>
∃ (Inv24 : Nat → List V → aA → Prop) (n24 : Nat), Inv24 n24 [(.int .i64 0)] h ∧ ∀ (n24 : Nat) (e24 : Nat → V) (h : aA), Inv24 n24 [(e24 39)] h →
kv (aC .bad .lss false (e24 39) v23 h) fun v25 =>
ifV v25 (
kv (bG (.slice 3) v (e24 39)) fun v26 =>
kv (ldD (.agg 3) v26 h) fun v27 =>
kP (aQ none (.agg #[(.string ⟨#[]⟩), (.string ⟨#[]⟩), (.bool false)]) h) fun v28 h =>
kH (stD (some 3) v28 v27 h) fun _ h =>
kv (aE (some 0) v28) fun v29 =>
kv (ldD .one v29 h) fun v30 =>
kv (aE (some 0) v28) fun v31 =>
kv (ldD .one v31 h) fun v32 =>
kv (bT (some (.string, (some (.bool false)))) (.map (some ma)) v32 false h) fun v33 =>
kv (gdV v33 false (aE (some 2) v28)) fun v34 =>
kv (gdV v33 false (ldD .one v34 h)) fun v35 =>
kv (aW v33 (.bool true) v35) fun v36 =>
kH (cQ (some (.string, (some (.bool false)))) (.map (some ma)) v30 v36 h) fun _ h =>
kv (aC .bad .add true (e24 39) (.int .i64 1) h) fun v37 =>
∃ m, m < n24 ∧ Inv24 m [v37] h) (
K h) := by
 obtain ⟨f0, q0, _⟩ := s.up1.head
 have q0 : SlE bF h f0 v ks := q0
 rw [q0.len, aB]
 refine ⟨fun n vs h' => ∃ (i : Nat) (l : List (ByteArray × Bool)), vs = [i64 i] ∧ n = ks.length - i ∧ i ≤ ks.length ∧ (∀ n, (lkp n l).getD false = (ks.take i).any fun x => decide (x.space = n) && x.all) ∧ Sep F h' (aK aP blV ma l :: fE v ks :: L),
  ks.length, ⟨0, [], rfl, by omega, by omega, fun n => by simp [lkp], s⟩, ?_⟩
 rintro n e h1 ⟨i, l, he, rfl, hi, hl, s1⟩
 simp only [List.cons.injEq, and_true] at he
 simp only [he, cW, aB, aF, decide_eq_true_eq]
 rcases Nat.lt_or_ge i ks.length with hx | hx
 case inr =>
  rw [if_neg (show ¬ ((i : Nat) : Int) < (ks.length : Nat) by omega)]
  rw [List.take_of_length_le hx] at hl
  exact hK _ _ hl s1
 rw [if_pos (show ((i : Nat) : Int) < (ks.length : Nat) by omega)]
 obtain ⟨f1, q1, _⟩ := s1.up1.head
 have q1 : SlE bF h1 f1 v ks := q1
 have hg : ks[i]? = some ks[i] := List.getElem?_eq_getElem hx
 obtain ⟨c, i1, i2⟩ := q1.ld hg
 have i1 : bG (.slice 3) _ _ = _ := i1
 have i2 : ldD (.agg 3) _ _ = some (ks[i]).agg := i2
 have hnext : ∀ n, ((ks.take (i + 1)).any fun x => decide (x.space = n) && x.all) = (((ks.take i).any fun x => decide (x.space = n) && x.all) || (decide (ks[i].space = n) && ks[i].all)) := fun n => by
  rw [List.take_add_one, hg, Option.toList_some, List.any_append, List.any_cons, List.any_nil, Bool.or_false]
 generalize ks[i] = kx at i2 hnext
 simp only [i1, aB, i2, yI, bA]
 have s2 := s1.box (bF.enc ⟨⟨#[]⟩, ⟨#[]⟩, false⟩) 3
 rw [st3 s2.get, bR]
 have s3 := s2.write (cs' := bF.enc kx)
 generalize (h1.new (.cells (bF.enc ⟨⟨#[]⟩, ⟨#[]⟩, false⟩) 3 .rw)).put h1.next (.cells (bF.enc kx) 3 .rw) = h3 at s3 ⊢
 generalize h1.next = bk at s3 ⊢
 have r0 : h3.rd bk 0 = some (str kx.space) := by rw [aG s3.get 0]; rfl
 have r2 : h3.rd bk 2 = some (.bool kx.all) := by rw [aG s3.get 2]; rfl
 simp only [bH, aB, bC, Nat.zero_add, r0, Sep.aKs s3.drop kx.space, aT, r2]
 have hb : ∀ X : V → Prop, X (.bool ((lkp kx.space l).getD false || kx.all)) → kv (if (lkp kx.space l).getD false = false then some (ptr bk 2) else some gone) fun v51 => kv (if (lkp kx.space l).getD false = false then ldD .one v51 h3 else some gone) fun v52 => kv (aW (.bool ((lkp kx.space l).getD false)) (.bool true) v52) X := by
  intro X hX
  cases hv : (lkp kx.space l).getD false with
  | true =>
   rw [hv] at hX
   simpa [aY] using hX
  | false =>
   rw [hv] at hX
   simpa [aY, r2] using hX
 refine hb _ ?_
 obtain ⟨h4, e4, s4⟩ := Sep.tG (D := aP) (A := blV) (k := kx.space) (v := .bool ((lkp kx.space l).getD false || kx.all)) (x := (lkp kx.space l).getD false || kx.all) (z := .bool false) (Sep.up1 (Sep.mkPure (φ := (Value.bool ((lkp kx.space l).getD false || kx.all) : V) = .bool ((lkp kx.space l).getD false || kx.all)) rfl s3.drop))
 have e4 : cQ (some (.string, (some (.bool false)))) (.map (some ma)) (str kx.space) (.bool ((lkp kx.space l).getD false || kx.all)) h3 = some h4 := e4
 rw [e4, bR, dN _ 1 (by omega) (by omega), aB]
 refine ⟨ks.length - (i + 1), by omega, i + 1, _, by simp, rfl, by omega, fun n => ?_, s4⟩
 rw [lR, hnext n, ← hl n]
 by_cases e : kx.space = n
 · rw [if_pos e, e]; simp
 · rw [if_neg e]; simp [e]
set_option maxHeartbeats 1000000 in
theorem zA (ve : VlE E) (id : IdM) (yes : Bool) (hi : dH k st) (hk : k ≤ 900) (s : Sep F h (cT k p st :: L)) :
 cl (Go.Abs.F.gL E) [p, id.agg, .bool yes] h fun r h' => r = .bool (jG st id yes).1 ∧ Sep F h' (cT (k + 8) p (jG st id yes).2 :: L) := by
 obtain ⟨E9, hE9⟩ := ve.ord
 have hM := ve.op.mono
 refine aO ?_
 obtain ⟨b, ms, a, mp, c, rfl, s0⟩ := s.sK
 clear s
 simp only [Go.Abs.F.gL, pC, bA, dF, aB, aT, if_true, bK, bH, bC, Nat.zero_add]
 have s1 := s0.box (cId id) 2
 clear s0
 generalize h.new (.cells (cId id) 2 .rw) = h1 at s1 ⊢
 generalize h.next = bi at s1 ⊢
 have r3 : h1.rd b 3 = some c := by rw [aG s1.drop.get 3]; rfl
 rw [r3, aB, ld2 s1.get, aB]
 refine gF rfl (aL (aSi id s1.up5) ?_)
 rintro r h2 ⟨rfl, s2⟩
 clear s1 r3
 simp only [dB, aB, aY, Bool.false_eq_true, if_false, aF, Bool.not_not, decide_eq_true_eq]
 rw [zX]
 by_cases hov : id ∈ st.ov
 · rw [if_pos hov, if_pos hov]
   rw [if_pos hov] at s2
   exact ⟨rfl, vS (Nat.le_add_right k 8) (Sep.lK (s2.re6 [2, 3, 4, 5, 0] rfl))⟩
 rw [if_neg hov, if_neg hov]
 rw [if_neg hov] at s2
 have r2 : h2.rd b 2 = some (.map (some mp)) := by rw [aG s2.drop.drop.get 2]; rfl
 rw [r2, aB, ld2 s2.drop.get, aB]
 cases hk1 : Go.Abs.lkp id st.pt with
 | none =>
  have e1 := s2.up5.qT (z := nil) hk1 false
  have e1 : bT (some ((.struct false [(0, .int), (1, .int)]), (some (.pointer none)))) (.map (some mp)) id.agg false h2 = some nil := e1
  rw [e1, aB]
  simp only [tP, aB, aF, if_true]
  exact ⟨trivial, vS (Nat.le_add_right k 8) (Sep.lK (st := ({ st with ov := id :: st.ov } : dL)) (s2.re6 [2, 3, 4, 5, 0] rfl))⟩
 | some x =>
 obtain ⟨w, e1, s3⟩ := s2.up5.oW (z := nil) hk1 false
 have e1 : bT (some ((.struct false [(0, .int), (1, .int)]), (some (.pointer none)))) (.map (some mp)) id.agg false h2 = some w := e1
 obtain ⟨bp, oa, va, mv, rfl, s4⟩ := Sep.aB7 (k := k) (x := x) s3
 clear s2 s3
 rw [e1, aB]
 simp only [dF, aB, aF, Bool.false_eq_true, if_false]
 have em : ∀ h : aA, gY true none h = some (.map (some h.next), h.new (.map [] 0)) := fun _ => rfl
 rw [em, bA]
 have s5 := s4.vT (D := aP) (A := blV)
 clear s4 e1 r2
 generalize h2.new (.map [] 0) = h3 at s5 ⊢
 generalize h2.next = ma at s5 ⊢
 have r1 : h3.rd b 1 = some a := by rw [aG (Sep.get (s5.fF [8] rfl)) 1]; rfl
 rw [r1, aB, ld2 (Sep.get (s5.fF [7] rfl)), aB]
 have hnlk := hi.nlk
 have hfew := hi.few id
 refine aL (aKq hM hE9 id (s5.fF [10, 0, 1, 2, 3, 4, 5, 6, 7, 8, 9] rfl) (by omega) (by omega)) ?_
 rintro kv_ h4 ⟨ks, hks, hkl, s6⟩
 clear s5 r1
 refine aO6 (s6.tX [2, 0, 1, 3, 4, 5, 6, 7, 8, 9, 10, 11] rfl) (by omega) fun h5 la hla s7 => ?_
 clear s6
 have hal : ∀ n, (lkp n la).getD false = cO st.lk id n := fun n => by
  rw [hla n, Bool.eq_iff_iff]
  unfold cO
  rw [List.any_eq_true, List.any_eq_true]
  constructor
  · rintro ⟨y, h1, h2⟩
    exact ⟨(y, id), (hks y).1 h1, by simpa using h2⟩
  · rintro ⟨y, h1, h2⟩
    simp only [Bool.and_eq_true, decide_eq_true_eq] at h2
    obtain ⟨⟨h3, h4⟩, h5⟩ := h2
    exact ⟨y.1, (hks y.1).2 (by rw [← h3]; exact h1), by simp [h4, h5]⟩
 have r1 : h5.rd b 1 = some a := by rw [aG (Sep.get (s7.tX [10] rfl)) 1]; rfl
 rw [r1, aB, ld2 (Sep.get (s7.tX [9] rfl)), aB]
 refine aL (aKp hM hE9 id (s7.tX [2, 0, 3, 4, 5, 6, 7, 8, 9, 10, 11] rfl) (by omega) (by omega)) ?_
 rintro r h6 ⟨_, s8⟩
 clear s7 r1
 have r2 : h6.rd b 2 = some (.map (some mp)) := by rw [aG (Sep.get (s8.fF [9] rfl)) 2]; rfl
 rw [r2, aB, ld2 (Sep.get (s8.fF [8] rfl)), aB]
 obtain ⟨h7, e7, s9⟩ := Sep.aEh (D := bL) (k := id) (z := nil) (s8.fF [6, 0, 1, 2, 3, 5, 7, 8, 9, 10] rfl)
 have e7 : fZ (some ((.struct false [(0, .int), (1, .int)]), (some (.pointer none)))) (.map (some mp)) id.agg h6 = some h7 := e7
 have s9 := Sep.aUm s9 (by rw [tK hi.dpt, if_pos rfl])
 clear s8 r2
 rw [e7, bR]
 have r3 : h7.rd bp 3 = some (.map (some mv)) := by rw [aG (Sep.get (s9.pE [3] rfl)) 3]; rfl
 rw [bK, aB, bH, aB, bC, Nat.zero_add, r3, aB]
 have hpm := iM hk1
 obtain ⟨t, clk, q, s10⟩ := Sep.fD (s9.pE [5, 9, 2, 8, 3, 4, 1, 0, 6] rfl)
 have htl : t.length = x.view.length := by have := q.perm.length_eq; simpa [cC] using this
 have htk : (t.map (·.k)).Nodup := by rw [← oM]; exact q.ndt
 clear s9 r3 e7
 refine Sep.range s10 (fun it h8 s11 => ?_)
 clear s10
 refine ⟨fun n vs h' => ∃ td rem seen, vs = [] ∧ n = t.length - td.length ∧ dV t td seen ∧ t.Perm (td ++ rem) ∧
  Sep F h' (cJ it mv clk seen :: bM mv (t.map (Et.m aP)) clk :: (rem.map (Et.p (vwV k)) ++ aK aP (spV (k + ((td.map fun e => onN e.k x.ops).sum))) ms (if yes = true then dD x (cO st.lk id) (cC td) st.sp else st.sp) :: aK aP blV ma la ::
   aI b [.map (some ms), a, .map (some mp), c] 4 :: aI bp [oa, va, i64 x.now, .map (some mv)] 4 :: cS oa x.ops :: dJ a (cX id st.lk) :: aK bL (ptV k) mp (rmv id st.pt) :: eA c (id :: st.ov) :: L)),
  t.length, ⟨[], t, #[], rfl, rfl, dV.nil t, by simp, by
   have e0 : (if yes = true then dD x (cO st.lk id) (cC []) st.sp else st.sp) = st.sp := by split <;> rfl
   rw [e0]; exact s11⟩, ?_⟩
 clear s11
 rintro n e0 h9 ⟨td, rem, seen, _, rfl, hs, hpr, s12⟩
 have tdk : (td.map (·.k)).Nodup := by
  have := (hpr.map (·.k)).nodup_iff.1 htk
  rw [List.map_append, List.nodup_append] at this
  exact this.1
 refine Sep.sH s12 q.lt q.bn hs (fun e he hne h10 s13 hs5 hent hlen => ?_) (fun hperm => ?_)
 · simp only [bQ, List.getElem?_toArray, List.getElem?_cons_zero, List.getElem?_cons_succ, aB, aF, if_true]
   rw [hent, nS]
   simp only [bQ, List.getElem?_toArray, List.getElem?_cons_zero, List.getElem?_cons_succ, aB]
   have hrem : e ∈ rem := by
    rcases List.mem_append.1 (hpr.mem_iff.1 he) with h | h
    · exact absurd h hne
    · exact h
   obtain ⟨r1, r2, hr⟩ := List.append_of_mem hrem
   have hpr' : t.Perm ((td ++ [e]) ++ (r1 ++ r2)) := by
    rw [hr] at hpr
    refine hpr.trans ?_
    rw [List.append_assoc, List.singleton_append]
    exact List.Perm.append_left _ List.perm_middle
   have hkn : e.k ∉ td.map (·.k) := by
    have := (hpr'.map (·.k)).nodup_iff.1 htk
    rw [List.map_append, List.map_append, List.nodup_append] at this
    have h2 := this.1
    rw [List.nodup_append] at h2
    intro hm
    exact h2.2.2 _ hm e.k (by simp) rfl
   have hsum : ((td ++ [e]).map fun e => onN e.k x.ops).sum = (td.map fun e => onN e.k x.ops).sum + onN e.k x.ops := by simp
   have s14 : Sep F h10 (vwV k e.k e.v e.x :: cJ it mv clk (seen.push e.b) :: bM mv (t.map (Et.m aP)) clk :: ((r1 ++ r2).map (Et.p (vwV k)) ++ aK aP (spV (k + ((td.map fun e => onN e.k x.ops).sum))) ms (if yes = true then dD x (cO st.lk id) (cC td) st.sp else st.sp) :: aK aP blV ma la ::
    aI b [.map (some ms), a, .map (some mp), c] 4 :: aI bp [oa, va, i64 x.now, .map (some mv)] 4 :: cS oa x.ops :: dJ a (cX id st.lk) :: aK bL (ptV k) mp (rmv id st.pt) :: eA c (id :: st.ov) :: L)) := by
    refine s13.perm ?_
    rw [hr]
    simp only [List.map_append, List.map_cons, List.append_assoc, List.cons_append]
    refine (List.Perm.trans ?_ (List.perm_middle (l₁ := [cJ it mv clk (seen.push e.b), bM mv (t.map (Et.m aP)) clk])))
    exact List.Perm.append_left [cJ it mv clk (seen.push e.b), bM mv (t.map (Et.m aP)) clk] List.perm_middle
   clear s13 s12
   cases yes with
   | false =>
    simp only [Bool.false_eq_true, if_false] at s14 ⊢
    refine ⟨t.length - (td.length + 1), by omega, td ++ [e], r1 ++ r2, _, trivial, by simp, hs5, hpr', ?_⟩
    rw [hsum]
    have s15 := s14.drop
    have s16 : Sep F h10 (aK aP (spV (k + ((td.map fun e => onN e.k x.ops).sum))) ms st.sp :: cJ it mv clk (seen.push e.b) :: bM mv (t.map (Et.m aP)) clk :: ((r1 ++ r2).map (Et.p (vwV k)) ++ aK aP blV ma la ::
     aI b [.map (some ms), a, .map (some mp), c] 4 :: aI bp [oa, va, i64 x.now, .map (some mv)] 4 :: cS oa x.ops :: dJ a (cX id st.lk) :: aK bL (ptV k) mp (rmv id st.pt) :: eA c (id :: st.ov) :: L)) :=
     s15.perm (List.perm_middle (l₁ := cJ it mv clk (seen.push e.b) :: bM mv (t.map (Et.m aP)) clk :: ((r1 ++ r2).map (Et.p (vwV k)))))
    have s17 := Sep.iQ (qY (show k + ((td.map fun e => onN e.k x.ops).sum) ≤ k + ((td.map fun e => onN e.k x.ops).sum + onN e.k x.ops) by omega)) s16
    exact s17.perm (List.perm_middle (l₁ := cJ it mv clk (seen.push e.b) :: bM mv (t.map (Et.m aP)) clk :: ((r1 ++ r2).map (Et.p (vwV k))))).symm
   | true =>
    simp only [if_true] at s14 ⊢
    have s15 := aBi (Nat.le_add_right k ((td.map fun e => onN e.k x.ops).sum)) _ _ _ _ _ _ s14
    generalize hS : (td.map fun e => onN e.k x.ops).sum = S at s14 s15 hsum ⊢
    clear s14
    have s16 : Sep F h10 (aK aP (spV (k + S)) ms (dD x (cO st.lk id) (cC td) st.sp) :: aK aP blV ma la :: aI b [.map (some ms), a, .map (some mp), c] 4 :: aI bp [oa, va, i64 x.now, .map (some mv)] 4 :: cS oa x.ops :: dJ a (cX id st.lk) :: aK bL (ptV k) mp (rmv id st.pt) :: eA c (id :: st.ov) ::
     vwV (k + S) e.k e.v e.x :: cJ it mv clk (seen.push e.b) :: bM mv (t.map (Et.m aP)) clk :: ((r1 ++ r2).map (Et.p (vwV k)) ++ L)) := by
     refine s15.perm ?_
     exact List.perm_append_comm_assoc (vwV (k + S) e.k e.v e.x :: cJ it mv clk (seen.push e.b) :: bM mv (t.map (Et.m aP)) clk :: ((r1 ++ r2).map (Et.p (vwV k))))
      [aK aP (spV (k + S)) ms (dD x (cO st.lk id) (cC td) st.sp), aK aP blV ma la, aI b [.map (some ms), a, .map (some mp), c] 4, aI bp [oa, va, i64 x.now, .map (some mv)] 4, cS oa x.ops, dJ a (cX id st.lk), aK bL (ptV k) mp (rmv id st.pt), eA c (id :: st.ov)] L
    clear s15
    rw [show aP.enc e.k = str e.k from rfl, Sep.aKs s16.up1 e.k, aB, hal e.k]
    have hlx : lkp e.k (dD x (cO st.lk id) (cC td) st.sp) = lkp e.k st.sp := by
     rw [vJ x _ _ hi.dsp (by rw [oM]; exact tdk), kR.2 (by rw [oM]; exact hkn)]
    have hev : (e.k, e.x) ∈ x.view := q.perm.mem_iff.1 (List.mem_map.2 ⟨e, he, rfl⟩)
    have hmay := xF (hi.may _ hpm)
    refine aL (aXg (cO st.lk id e.k) he q (fun hf => ?_) (fun o ho => ?_) hmay.2.1 (s16.fF [8, 0, 10, 2, 3, 4, 9, 1, 5, 6, 7] rfl)) ?_
    · rw [hlx]
      exact hi.tab _ hpm _ hev (aUj hi hpm hf)
    · have := (aFn (hmay.2.2 o ho)).key
      simp only [maxLen]
      omega
    · intro r h11 s17
      refine ⟨t.length - (td.length + 1), by omega, td ++ [e], r1 ++ r2, _, trivial, by simp, hs5, hpr', ?_⟩
      have hla2 : dD x (cO st.lk id) (cC (td ++ [e])) st.sp = gX x (cO st.lk id e.k) e.k e.x (dD x (cO st.lk id) (cC td) st.sp) := by
       unfold dD cC
       rw [List.map_append, List.foldl_append]
       rfl
      rw [hsum, hla2, ← Nat.add_assoc]
      have s18 : Sep F h11 ([cJ it mv clk (seen.push e.b), bM mv (t.map (Et.m aP)) clk] ++ ([aK aP (spV (k + S + onN e.k x.ops)) ms (gX x (cO st.lk id e.k) e.k e.x (dD x (cO st.lk id) (cC td) st.sp)), aK aP blV ma la, aI b [.map (some ms), a, .map (some mp), c] 4, aI bp [oa, va, i64 x.now, .map (some mv)] 4, cS oa x.ops, dJ a (cX id st.lk), aK bL (ptV k) mp (rmv id st.pt), eA c (id :: st.ov)] ++ ((r1 ++ r2).map (Et.p (vwV k)) ++ L))) := s17.pE [5, 1, 0, 6, 2, 3, 4, 7, 8, 9] rfl
      exact s18.perm (List.Perm.append_left _ (List.perm_append_comm_assoc _ ((r1 ++ r2).map (Et.p (vwV k))) L))
 · simp only [bQ, List.getElem?_toArray, List.getElem?_cons_zero, List.getElem?_cons_succ, aB, aF, Bool.false_eq_true, if_false]
   have hrem : rem = [] := by
    have h1 := hperm.length_eq
    have h2 := hpr.length_eq
    rw [List.length_append] at h2
    exact List.eq_nil_of_length_eq_zero (by omega)
   subst hrem
   simp only [List.map_nil, List.nil_append] at s12
   have hS : (td.map fun e => onN e.k x.ops).sum ≤ 8 := by
    have h1 := aLr x.ops tdk
    rw [List.map_map] at h1
    have h2 := hi.aB8 _ hpm
    have h2 : x.ops.length ≤ 8 := h2
    have h3 : (td.map ((fun n => onN n x.ops) ∘ fun e => e.k)) = td.map fun e => onN e.k x.ops := rfl
    rw [h3] at h1
    omega
   have hab : (cC td).Perm x.view := ((hperm.map _).symm).trans q.perm
   have hvn : (aX (cC td)).Nodup := by rw [oM]; exact tdk
   have s13 : Sep F h9 (aK aP (spV (k + 8)) ms (if yes = true then dD x (cO st.lk id) x.view st.sp else st.sp) :: aI b [.map (some ms), a, .map (some mp), c] 4 :: dJ a (cX id st.lk) :: aK bL (ptV (k + 8)) mp (rmv id st.pt) :: eA c (id :: st.ov) :: L) := by
    have s14 := Sep.iQ (aBh (Nat.le_add_right k 8)) (s12.pE [8, 2, 4, 7, 9] rfl)
    have s15 := Sep.iQ (qY (show k + (td.map fun e => onN e.k x.ops).sum ≤ k + 8 by omega)) s14.up1
    have s16 := s15.re5 [0, 2, 3, 1, 4] rfl
    cases yes with
    | false => exact s16
    | true => exact Sep.aL8 (aTj x _ hi.dsp hvn hab) s16
   exact ⟨trivial, Sep.lK (st := (⟨if yes = true then dD x (cO st.lk id) x.view st.sp else st.sp, cX id st.lk, rmv id st.pt, id :: st.ov⟩ : dL)) (s13.re5 [1, 0, 2, 3, 4] rfl)⟩
end Go.Abs
namespace Go.Abs
open Go Go.Proofs
variable {E : FE} {F : Fr} {h : aA} {L : List Pl} {k : Nat} {p v : V} {st : dL} {ov : List IdM}
def aCg (v : V) (l : List IdM) : Pl := ⟨fun h f => SlE dId h f v l, fun _ _ q => q.lt, fun _ _ _ q hl hs => SlE.same q hl hs⟩
theorem aQn (ks : List IdM) (h : aA) : ∃ fp', SlE dId (rR ks h) fp' (rS ks h) ks ∧ Mod h [] (rR ks h) fp' := by
 unfold rR rS
 by_cases hk : ks = []
 · subst hk
   exact ⟨[], SlE.nil (D := dId), Mod.refl (by simp)⟩
 · rw [if_neg hk, if_neg hk]
   refine ⟨[h.next], ⟨dId.qQ ks, .inr ⟨h.next, 2 * ks.length + 1, eL ks, rfl, rfl, by simp, by omega, by simp; rfl, ?_, ?_⟩⟩, by simp, fun x hx _ => ?_, by simp, by simp⟩
   · rw [aEu]
     have : (2 * ks.length + 1) / 2 = ks.length := by omega
     rw [this]
     exact Nat.le_refl _
   · rw [List.take_of_length_le (by rw [aEu]; exact Nat.le_refl _)]
     rfl
   · have a : x ≠ h.next := by omega
     simp [a]
theorem aS3 {α : Type} {A : IdM → V → α → Pl} {m b g : Nat} {l : List (IdM × α)} (s : Sep F h (aK bL A m l :: aI b [.map (some m)] 1 :: L)) (hl : l.length ≤ 1000000) (hg : g = E.k 11 ∨ g = E.k 13 ∨ g = E.k 16) {K : V → aA → Prop}
 (hK : ∀ r h' ks, ks.Perm (aX l) → Sep F h' (aCg r ks :: aK bL A m l :: aI b [.map (some m)] 1 :: L) → K r h') :
 cl (Go.Abs.F.uC E) [.func (.func g) #[] #[ptr b 0]] h K := by
 refine aO ?_
 obtain ⟨t, clk, q, s1⟩ := s.fD
 have gm := s1.qD
 rw [qV] at gm
 have htl : t.length = l.length := by have := q.perm.length_eq; simpa [cC] using this
 refine ⟨rfl, hg, b, m, t.map Et.g, clk, 1, .rw, rfl, s.drop.get, gm, by simp; omega, ?_, ?_, fun ks hks => ?_⟩
 · rw [List.map_map]; exact q.bn
 · intro e he
   obtain ⟨e', he', rfl⟩ := List.mem_map.1 he
   exact q.lt e' he'
 · obtain ⟨fp', r1, r2⟩ := aQn ks h
   refine hK _ _ ks ?_ (s.alloc (aCg (rS ks h) ks) r2 r1)
   rw [aFa, ← oM] at hks
   exact hks.trans (keys_perm q.perm)
def aG8 (E : FE) (n : Nat) : Prop := ∀ (h : aA) (fp : List Nat) (v : V) (l : List IdM), SlE dId h fp v l → l.length ≤ n →
 cl (Go.Abs.F.lD E) [v, .func (.func (E.k 10)) #[] #[]] h fun r h' => ∃ l', l'.Perm l ∧ fJ rB l' ∧ SlE dId h' fp v l' ∧ Mod h fp h' fp
theorem aM7 (ve : VlE E) : aG8 E 12 := fun h fp v l s hl => by
 obtain ⟨E1, hE1⟩ := ve.nord
 exact aV2 ve.op.mono aL3 s (aQh hE1) hl
theorem aJq {n : Nat} (so : aG8 E n) (hl : ov.length ≤ n) (hn : n ≤ 1000000) (s : Sep F h (eA p ov :: L)) :
 cl (Go.Abs.F.kT E) [p] h fun r h' => ∃ l', l'.Perm ov ∧ fJ rB l' ∧ Sep F h' (aCg r l' :: eA p ov :: L) := by
 refine aO ?_
 obtain ⟨b, m, l, rfl, hp, s0⟩ := s.aB6
 have r0 : h.rd b 0 = some (.map (some m)) := by rw [aG s0.get 0]; rfl
 simp only [Go.Abs.F.kT, dF, aB, aF, Bool.false_eq_true, if_false, bK, bH, bC, Nat.zero_add, r0]
 refine aO ?_
 have e2 : aQ none (.map (some m)) h = some (ptr h.next 0, h.new (.cells [.map (some m)] 1 .rw)) := rfl
 simp only [Go.Abs.F.nX, e2, bA]
 have s1 := s0.box [.map (some m)] 1
 generalize h.new (.cells [.map (some m)] 1 .rw) = h1 at s1 ⊢
 generalize h.next = bx at s1 ⊢
 refine aO ?_
 simp only [Go.Abs.F.oG]
 have hll : l.length ≤ n := by
  have := hp.length_eq
  simp only [aX, List.length_map] at this
  omega
 refine aS3 (s1.re3 [2, 0, 1] rfl) (by omega) (.inr (.inl rfl)) fun r h2 ks hks s2 => ?_
 obtain ⟨f, q, kk⟩ := s2.head
 have q : SlE dId h2 f r ks := q
 have hkl : ks.length ≤ n := by
  have := hks.length_eq
  simp only [aX, List.length_map] at this
  omega
 refine aL (so h2 f r ks q hkl) ?_
 rintro r2 h3 ⟨l', hl', hs, q2, m2⟩
 refine ⟨l', (hl'.trans hks).trans hp, hs, ?_⟩
 have s3 := kk (aCg r l') m2 q2
 exact (Sep.xL hp (s3.re4 [3, 1, 0] rfl)).up1
theorem aXd (n : ByteArray) (s : Sep F h (cT k p st :: L)) :
 cl (Go.Abs.F.nL E) [p, str n] h fun r h' => Sep F h' (vwV k n r (lkp n st.sp) :: cT k p st :: L) := by
 refine aO ?_
 obtain ⟨b, ms, a, mp, c, rfl, s0⟩ := s.sK
 have r0 : h.rd b 0 = some (.map (some ms)) := by rw [aG s0.get 0]; rfl
 simp only [Go.Abs.F.nL, dF, aB, aF, Bool.false_eq_true, if_false, bK, bH, bC, Nat.zero_add, r0]
 cases hk : Go.Abs.lkp n st.sp with
 | none =>
  have h1 := s0.up1.qT (z := nil) hk false
  have h1 : bT (some (.string, (some (.pointer none)))) (.map (some ms)) (str n) false h = some nil := h1
  rw [h1, aB]
  refine aL aIb ?_
  rintro r h2 ⟨rfl, rfl⟩
  exact Sep.mkPure (φ := (nil : V) = nil) rfl (Sep.lK s0)
 | some x =>
  obtain ⟨w, h1, s1⟩ := s0.up1.oW (z := nil) hk false
  have h1 : bT (some (.string, (some (.pointer none)))) (.map (some ms)) (str n) false h = some w := h1
  rw [h1, aB]
  refine aL (aH9 s1) ?_
  intro r h2 s2
  have s3 := Sep.sU (A := spV k) (k := n) (v := w) (x' := x) (s2.re7 [1, 2, 0, 3, 4, 5, 6] rfl) hk
  rw [tH hk] at s3
  exact (Sep.lK (s3.re6 [2, 0, 3, 4, 5, 1] rfl)).up1
end Go.Abs
namespace Go.Abs
open Go Go.Proofs
variable {E : FE} {F : Fr} {h : aA} {L : List Pl} {k : Nat} {p v : V} {st : dL}
theorem kQ {x : Option V} {v : V} {K : V → Prop} (hx : x = some v) (hk : K v) : kv x K := by subst hx; rwa [aB]
theorem aAy {x : Option (V × aA)} {v : V} {g : aA} {K : V → aA → Prop} (hx : x = some (v, g)) (hk : K v g) : kP x K := by subst hx; rwa [bA]
theorem aPn : cl (Go.Abs.F.oT E) [] h fun r h' => r = .bool true ∧ h' = h := aO ⟨rfl, rfl, rfl⟩
theorem Sep.aFj (s : Sep F h L) (l : List Oq) (hl : l ≠ []) : Sep F (h.new (.cells (dOp.flat l) 5 .rw)) (cS (.slice (some ⟨h.next, 0, none⟩) l.length (2 * l.length)) l :: L) :=
 s.alloc (a' := [h.next]) (cS (.slice (some ⟨h.next, 0, none⟩) l.length (2 * l.length)) l) ⟨by simp, fun x hx _ => by
  have : x ≠ h.next := by omega
  simp [this], by simp, by simp⟩ (SlE.lit dOp h l hl)
variable {id : IdM} {ops : List Oq} {now : Int}
end Go.Abs

/- A vault's Eq: the same spaces, no part that waits, the same that is over. -/
import Derived.Test.YtldjlkbjbkielaaGreatDoorVpbe
import Derived.Test.YtldjlkbjbkielaaGreatDoorVpbb
set_option linter.unusedSimpArgs false
set_option linter.unusedVariables false
namespace Go.Abs
open Go
variable {E : FE} {F : Fr} {h : aA} {L : List Pl} {k : Nat} {p q : V}
def EqE (E : FE) : Prop := ∃ E1 E2 : FE, E.I (E.k 14) = some (cl (Go.Abs.F.mX E1)) ∧ aH E1.I ∧ E1.I (E1.k 1) = some (cl (Go.Abs.F.mY E2)) ∧ E1.I (E1.k 2) = some (cl (Go.Abs.F.hZ E2))
def EqS (E : FE) (k : Nat) (s : SpM) : Prop := ∀ (h : aA) (fa fb : List Nat) (v w : V) (S1 S2 : bO), SpS h fa v S1 → SpS h fb w S2 → SI k S1 → SI k S2 → nR S1 s → nR S2 s →
 cU E.I (.func (.func (E.k 14)) #[] #[]) [v, w] h fun r h' => r = .bool true ∧ Mod h [] h' []
theorem aRr (hE : EqE E) (hk : k ≤ 1000) {s : SpM} (h1 : s.kind = 1) : EqS E k s := by
 obtain ⟨E1, E2, hE14, hM, hk1, hk2⟩ := hE
 intro h fa fb v w S1 S2 a b i1 i2 R1 R2
 simp only [cU, hE14]
 obtain ⟨pt, a⟩ := a
 obtain ⟨qt, b⟩ := b
 cases S1 with
 | qu a b i l => exact absurd R1.1 (by rw [h1]; decide)
 | to l g => exact absurd R1.1 (by rw [h1]; decide)
 | tab g1 =>
 cases S2 with
 | qu a b i l => exact absurd R2.1 (by rw [h1]; decide)
 | to l g => exact absurd R2.1 (by rw [h1]; decide)
 | tab g2 =>
 refine aL (aN9 hM hk2 a b (fun e he => by obtain ⟨s, h, _⟩ := i1.1 e he; exact ⟨s, h⟩) (fun e he => by obtain ⟨s, h, _⟩ := i2.1 e he; exact ⟨s, h⟩) i1.2.1 i2.2.1 (Nat.le_trans i1.2.2 hk) (Nat.le_trans i2.2.2 hk)) ?_
 rintro r h11 ⟨⟨x, rfl, hx⟩, m⟩
 have hxt : x = true := hx.2 fun k => by rw [R1.2.1.same, R2.2.1.same]
 exact ⟨by rw [hxt], m⟩
theorem aRm {x y : V} {l : List IdM} {f g : List Nat} (hx : SlE dId h f x l) (hy : SlE dId h g y l) (hsz : l.length ≤ 1000000) :
 cl (Go.Abs.F.rF E) [x, y] h fun r h' => h' = h ∧ r = .bool true := by
 refine aO ?_
 simp only [Go.Abs.F.rF, hx.len, hy.len, aB, oO, aF, bne_self_eq_false, Bool.false_eq_true, if_false]
 refine ⟨fun n vs h' => h' = h ∧ ∃ i : Nat, vs = [i64 i] ∧ i ≤ l.length ∧ n = l.length - i, l.length, ⟨rfl, 0, rfl, by omega, by omega⟩, ?_⟩
 rintro n e h1 ⟨rfl, i, he, hi, rfl⟩
 simp only [List.cons.injEq, and_true] at he
 simp only [he, cW, aB, aF, decide_eq_true_eq]
 by_cases hlt : (i : Int) < (l.length : Int)
 · rw [if_pos hlt]
   have hx' : i < l.length := by omega
   have hg : l[i]? = some l[i] := List.getElem?_eq_getElem hx'
   obtain ⟨c1, a1, a2⟩ := hx.ld hg
   obtain ⟨c2, b1, b2⟩ := hy.ld hg
   have a1 : bG (.slice 2) _ _ = _ := a1
   have a2 : ldD (.agg 2) _ _ = some (l[i]).agg := a2
   have b1 : bG (.slice 2) _ _ = _ := b1
   have b2 : ldD (.agg 2) _ _ = some (l[i]).agg := b2
   simp only [a1, aB, a2, b1, b2, aJo, decide_true, Bool.not_true, aF, Bool.false_eq_true, if_false]
   rw [dN _ 1 (by omega) (by omega), aB]
   exact ⟨l.length - (i + 1), by omega, trivial, i + 1, by simp, by omega, rfl⟩
 · rw [if_neg hlt]
   exact ⟨trivial, trivial⟩
theorem Sep.aT4 {A : Pl} (s : Sep F h L) (hm : A ∈ L) : ∃ f, A.P h f := by
 obtain ⟨l1, l2, rfl⟩ := List.append_of_mem hm
 obtain ⟨f, q, _⟩ := (s.perm List.perm_middle).head
 exact ⟨f, q⟩
theorem aNa {v : V} {s : SpM} {f : List Nat} (q : (dP k v s).P h f) : ∃ S f', SI k S ∧ nR S s ∧ SpS h f' v S := by
 obtain ⟨S, a, r, rfl, ⟨rfl, e1, e2, e3⟩, ⟨a2, r2, rfl, b, _⟩, _⟩ := q
 exact ⟨S, _, e1, e3, b⟩
theorem Sep.aA2 {κ α : Type} [DecidableEq κ] {D : KD κ} {A : κ → V → α → Pl} {m : Nat} {l : List (κ × α)} (s : Sep F h (aK D A m l :: L)) : bI .map (.map (some m)) h = some (i64 (l.length : Nat)) := by
 obtain ⟨t, clk, q, s1⟩ := s.fD
 have g := s1.qD
 have e : t.length = l.length := by have := q.perm.length_eq; simpa [cC] using this
 simp only [bI, g, List.length_map, e]
theorem aRo (hM : aH E.I) {ms mt : Nat} {s1 s2 : List (ByteArray × SpM)} (hE : ∀ e ∈ s1, EqS E k e.2) (hs : ∀ n, lkp n s1 = lkp n s2) (hl : s1.length = s2.length)
 (s : Sep F h (aK aP (spV k) ms s1 :: aK aP (spV k) mt s2 :: L)) :
 cl (Go.Abs.F.qX E) [.map (some ms), .map (some mt), (.func (.func (E.k 14)) #[] #[])] h fun r h' => r = .bool true ∧ Sep F h' (aK aP (spV k) ms s1 :: aK aP (spV k) mt s2 :: L) := by
 refine aO ?_
 have l1 := s.aA2
 have l2 := s.up1.aA2
 rw [hl] at l1
 simp only [Go.Abs.F.qX, l1, l2, aB, oO, bne_self_eq_false, aF, Bool.false_eq_true, if_false]
 obtain ⟨t, clk, q, s10⟩ := Sep.fD s
 refine Sep.range s10 (fun it h8 s11 => ?_)
 refine ⟨fun n vs h' => ∃ td seen, vs = [] ∧ n = t.length - td.length ∧ dV t td seen ∧
  Sep F h' (cJ it ms clk seen :: bM ms (t.map (Et.m aP)) clk :: (t.map (Et.p (spV k)) ++ aK aP (spV k) mt s2 :: L)), t.length, ⟨[], #[], rfl, rfl, dV.nil t, s11⟩, ?_⟩
 rintro n e0 h9 ⟨td, seen, _, rfl, hs', s12⟩
 refine Sep.sH s12 q.lt q.bn hs' (fun e he hne h10 s13 hs5 hent hlen => ?_) (fun hperm => ?_)
 · simp only [bQ, List.getElem?_toArray, List.getElem?_cons_zero, List.getElem?_cons_succ, aB, aF, if_true]
   rw [hent, nS]
   simp only [bQ, List.getElem?_toArray, List.getElem?_cons_zero, List.getElem?_cons_succ, aB]
   have hlk : lkp e.k s2 = some e.x := by
    rw [← hs]
    exact lS q.nd (q.perm.mem_iff.1 (List.mem_map.2 ⟨e, he, rfl⟩))
   have s14 : Sep F h10 (aK aP (spV k) mt s2 :: (cJ it ms clk (seen.push e.b) :: bM ms (t.map (Et.m aP)) clk :: t.map (Et.p (spV k)) ++ L)) :=
    s13.perm (List.perm_middle (l₁ := cJ it ms clk (seen.push e.b) :: bM ms (t.map (Et.m aP)) clk :: t.map (Et.p (spV k))))
   obtain ⟨w, hw, s15⟩ := s14.oW (z := nil) hlk true
   have hw : bT (some (.string, (some (.pointer none)))) (.map (some mt)) (aP.enc e.k) true h10 = some (.tuple #[w, .bool true]) := hw
   rw [hw, aB]
   simp only [bQ, List.getElem?_toArray, List.getElem?_cons_zero, List.getElem?_cons_succ, aB, dB, Bool.not_true, aT, if_true]
   obtain ⟨fa, ha⟩ := s14.aT4 (A := dP k e.v e.x) (List.mem_cons_of_mem _ (List.mem_append_left _ (List.mem_cons_of_mem _ (List.mem_cons_of_mem _ (List.mem_map.2 ⟨e, he, rfl⟩)))))
   obtain ⟨fb, hb, _⟩ := s15.head
   have hb : (dP k w e.x).P h10 fb := hb
   obtain ⟨S1, f1, i1, R1, a⟩ := aNa ha
   obtain ⟨S2, f2, i2, R2, b⟩ := aNa hb
   have hin : (e.k, e.x) ∈ s1 := q.perm.mem_iff.1 (List.mem_map.2 ⟨e, he, rfl⟩)
   refine gF rfl (uJ hM ?_ (hE _ hin h10 f1 f2 e.v w S1 S2 a b i1 i2 R1 R2))
   rintro r h11 ⟨rfl, m⟩
   simp only [dB, Bool.not_true, aB, aT, if_true, aY, Bool.false_eq_true, if_false, aF]
   exact ⟨t.length - (td.length + 1), by omega, td ++ [e], _, trivial, by simp, hs5, s13.skip m⟩
 · simp only [bQ, List.getElem?_toArray, List.getElem?_cons_zero, List.getElem?_cons_succ, aB, aF, Bool.false_eq_true, if_false]
   exact ⟨trivial, Sep.fK q s12.drop⟩
theorem aRn {ms mt : Nat} {f : V} (s : Sep F h (aK bL (ptV k) ms [] :: aK bL (ptV k) mt [] :: L)) :
 cl (Go.Abs.F.qW E) [.map (some ms), .map (some mt), f] h fun r h' => r = .bool true ∧ Sep F h' (aK bL (ptV k) ms [] :: aK bL (ptV k) mt [] :: L) := by
 refine aO ?_
 have l1 := s.aA2
 have l2 := s.up1.aA2
 simp only [Go.Abs.F.qW, l1, l2, aB, oO, bne_self_eq_false, aF, Bool.false_eq_true, if_false]
 obtain ⟨t, clk, q, s10⟩ := Sep.fD s
 have ht : t = [] := by
  have := q.perm.length_eq
  exact List.eq_nil_of_length_eq_zero (by simpa [cC] using this)
 subst ht
 refine Sep.range s10 (fun it h8 s11 => ?_)
 refine ⟨fun n vs h' => vs = [] ∧ h' = h8, 0, ⟨rfl, rfl⟩, ?_⟩
 rintro n e0 h9 ⟨_, rfl⟩
 refine Sep.sH (td := []) s11 q.lt q.bn (dV.nil _) (fun e he _ _ _ _ _ _ => by cases he) (fun hperm => ?_)
 simp only [bQ, List.getElem?_toArray, List.getElem?_cons_zero, List.getElem?_cons_succ, aB, aF, Bool.false_eq_true, if_false]
 exact ⟨trivial, Sep.fK q s11.drop⟩
set_option maxHeartbeats 1000000 in
theorem aXc (ve : VlE E) {t1 t2 : dL} (hE : ∀ e ∈ t1.sp, EqS E k e.2) (hsp : ∀ n, lkp n t1.sp = lkp n t2.sp) (hl : t1.sp.length = t2.sp.length) (hp1 : t1.pt = []) (hp2 : t2.pt = []) (hov : t1.ov.Perm t2.ov) (ho : t1.ov.length ≤ 12)
 (s : Sep F h (cT k p t1 :: cT k q t2 :: L)) : cl (Go.Abs.F.rI E) [p, q] h fun r h' => r = .bool true ∧ Sep F h' (cT k p t1 :: cT k q t2 :: L) := by
 refine aO ?_
 obtain ⟨b, ms, a, mp, c, rfl, s0⟩ := s.sK
 obtain ⟨d, mt, a', mq, c', rfl, s1⟩ := Sep.sK (s0.re6 [5, 0, 1, 2, 3, 4] rfl)
 clear s s0
 have b0 : h.rd b 0 = some (.map (some ms)) := by rw [aG (Sep.get (s1.re6 [5] rfl)) 0]; rfl
 have d0 : h.rd d 0 = some (.map (some mt)) := by rw [aG s1.get 0]; rfl
 simp only [Go.Abs.F.rI, dF, aB, aT, if_true, aY, Bool.false_eq_true, if_false, aF, bK, bH, bC, Nat.zero_add, b0, d0]
 refine aL (aRo ve.op.mono hE hsp hl (s1.pE [6, 1, 0, 2, 3, 4, 5, 7, 8, 9] rfl)) ?_
 rintro r h2 ⟨rfl, s2⟩
 have b2 : h2.rd b 2 = some (.map (some mp)) := by rw [aG (Sep.get (s2.pE [6] rfl)) 2]; rfl
 have d2 : h2.rd d 2 = some (.map (some mq)) := by rw [aG (Sep.get (s2.pE [2] rfl)) 2]; rfl
 simp only [aB, aT, if_true, bK, bH, bC, Nat.zero_add, b2, d2]
 rw [hp1, hp2] at s2
 refine gF rfl (aL (aRn (s2.pE [8, 4, 0, 1, 2, 3, 5, 6, 7, 9] rfl)) ?_)
 rintro r h3 ⟨rfl, s3⟩
 have b3 : h3.rd b 3 = some c := by rw [aG (Sep.get (s3.pE [7] rfl)) 3]; rfl
 have d3 : h3.rd d 3 = some c' := by rw [aG (Sep.get (s3.pE [4] rfl)) 3]; rfl
 simp only [aB, aT, if_true, aY, bK, bH, bC, Nat.zero_add, b3, d3]
 refine gF rfl (aL (aJq (n := 12) (aM7 ve) ho (by omega) (s3.pE [9, 0, 1, 2, 3, 4, 5, 6, 7, 8] rfl)) ?_)
 rintro r h4 ⟨l1, p1, o1, s4⟩
 have d3' : h4.rd d 3 = some c' := by rw [aG (Sep.get (s4.fF [6] rfl)) 3]; rfl
 rw [d3']
 refine ⟨rfl, ?_⟩
 refine gF rfl (aL (aJq (n := 12) (aM7 ve) (by rw [← hov.length_eq]; exact ho) (by omega) (s4.fF [8, 0, 1, 2, 3, 4, 5, 6, 7, 9, 10] rfl)) ?_)
 rintro r2 h5 ⟨l2, p2, o2, s5⟩
 have hll : l1 = l2 := fJ.uniq aL3 ((p1.trans hov).trans p2.symm) o1 o2
 subst hll
 obtain ⟨f2, q2, _⟩ := s5.head
 obtain ⟨f1, q1, _⟩ := (s5.re3 [2] rfl).head
 have q2 : SlE dId h5 f2 r2 l1 := q2
 have q1 : SlE dId h5 f1 r l1 := q1
 refine gF rfl (aL (aRm q1 q2 (by rw [p1.length_eq]; omega)) ?_)
 rintro r6 h6 ⟨rfl, rfl⟩
 simp only [aY, if_true, aB]
 refine ⟨trivial, ?_⟩
 rw [← hp1] at s5
 have s6 := Sep.lK (st := t1) (s5.tX [10, 6, 11, 4, 3, 8, 7, 9, 5, 1] rfl)
 rw [hp1, ← hp2] at s6
 exact (Sep.lK (st := t2) (s6.re6 [1, 2, 3, 4, 5, 0] rfl)).up1
end Go.Abs
namespace Go.Abs
open Go Go.RowKit
def aDh (h : aA) : Prop := ∀ b o, h.get b = some o → o.tJ
structure pN (r : Ren) (h : aA) (r' : Ren) (h' : aA) : Prop where
 ren : r.le r'
 next : h.next ≤ h'.next
 get : ∀ b, b < h.next → h'.get b = h.get b
theorem Ro.more {r r' : Ren} {h h' : aA} {v : V} {es n : Nat} {cs : List V} (m : pN r h r' h') (s : Ro h.next h v es n cs) : Ro h'.next h' v es n cs := by
 obtain ⟨h0, h1, ⟨rfl, rfl⟩ | ⟨b, o, c, all, rfl, hb, hc, hg, ha⟩⟩ := s
 · exact ⟨h0, Nat.le_refl _, .inl ⟨rfl, rfl⟩⟩
 · exact ⟨h0, Nat.le_refl _, .inr ⟨b, o, c, all, rfl, Nat.lt_of_lt_of_le hb m.next, hc, by rw [m.get b hb, hg], ha⟩⟩
theorem R.aHq {J : World → Prop} {W : World} {r : Ren} {h : aA} (hR : R J W.heap.size r h W) (hro : aDh h) {a : Addr} {len cap es : Nat} (hs : a.spot = none) {cc : Array V} {el : TypeId} {fr : Nat × Nat}
 (hb : W.heap[a.block]? = some (.cells cc el fr)) (hsz : a.off + cap * es ≤ cc.size) (hlc : len ≤ cap) {cs : List V} (hcs : cs.length = len * es) (hc : ∀ j, j < len * es → cc[a.off + j]? = cs[j]?) (hcl : ∀ v ∈ cs, bS v = true) :
 ∃ r' h' v, R J W.heap.size r' h' W ∧ VR r' v (.slice (some a) len cap) ∧ Ro h'.next h' v es len cs ∧ pN r h r' h' := by
 obtain ⟨blk, off, spot⟩ := a
 simp only at hs hb hsz hc
 subst hs
 have hlt : blk < W.heap.size := (Array.getElem?_eq_some_iff.1 hb).1
 have hm : len * es ≤ cap * es := Nat.mul_le_mul_right _ hlc
 have hle := hR.oU ⟨blk, cc.size, es⟩
 have old : ∀ b o1, (h.new (.cells (List.replicate off cB ++ cs) es .ro)).get b = some o1 → (b = h.next ∧ o1 = .cells (List.replicate off cB ++ cs) es .ro) ∨ (b ≠ h.next ∧ h.get b = some o1) := by
  intro b o1 hb
  by_cases e : b = h.next
  · subst e; simp [aA.new] at hb; exact .inl ⟨rfl, hb.symm⟩
  · exact .inr ⟨e, by simpa [aA.new, e] using hb⟩
 refine ⟨r.upd h.next ⟨blk, cc.size, es⟩, h.new (.cells (List.replicate off cB ++ cs) es .ro), .slice (some ⟨h.next, off, none⟩) len (2 * len + 1), ?_, ?_, ?_, hle, Nat.le_succ _, fun b hb => ?_⟩
 · refine ⟨Nat.le_refl _, ?_, ?_, ?_, hR.inv⟩
   · intro b t' hb
     by_cases e : b = h.next
     · subst e; rw [Ren.dA] at hb; cases hb; exact ⟨hlt, by simp [aA.new]⟩
     · rw [Ren.eS _ _ e] at hb
       have := hR.lt b t' hb
       refine ⟨this.1, ?_⟩
       simp [aA.new]; omega
   · intro b o1 hb1
     rcases old b o1 hb1 with ⟨rfl, rfl⟩ | ⟨e, hb'⟩
     · refine ⟨_, Ren.dA _ _ _, rfl, ⟨cc, el, fr, hb, rfl, by simp; omega, fun i h1 h2 => ?_, fun hk => absurd rfl hk, fun hk => by cases hk⟩, fun hk => absurd rfl hk⟩
       rw [List.getElem_append]
       split
       · rw [List.getElem_replicate]; exact .cB _
       · rename_i hi
         simp only [List.length_replicate] at hi
         have hj : i - off < cs.length := by simp at h1; omega
         have := hc (i - off) (by omega)
         rw [show off + (i - off) = i by omega, Array.getElem?_eq_getElem h2, List.getElem?_eq_getElem hj, Option.some.injEq] at this
         simp only [List.length_replicate]
         rw [this]
         exact VR.closed (hcl _ (List.getElem_mem _))
     · obtain ⟨t', h3, h4⟩ := hR.live b o1 hb'
       exact ⟨t', hle _ _ h3, h4.mono hle⟩
   · intro b b' o1 o1' t1 t1' hb hb' g1 g1' e
     rcases old b o1 hb with ⟨rfl, rfl⟩ | ⟨e1, hb⟩ <;> rcases old b' o1' hb' with ⟨rfl, rfl⟩ | ⟨e2, hb'⟩
     · exact .inl rfl
     · exact .inr ⟨⟨_, _, rfl⟩, hro _ _ hb'⟩
     · exact .inr ⟨hro _ _ hb, _, _, rfl⟩
     · rw [Ren.eS _ _ e1] at g1; rw [Ren.eS _ _ e2] at g1'
       exact hR.inj b b' o1 o1' t1 t1' hb hb' g1 g1' e
 · exact VR.slice (b := h.next) (o := off) (n := len) (c := 2 * len + 1) (c' := cap) (t := ⟨blk, cc.size, es⟩) (Ren.dA _ _ _) ⟨by omega, fun he => by omega⟩ (by omega) hsz
 · refine ⟨hcs, Nat.le_refl _, .inr ⟨h.next, off, 2 * len + 1, List.replicate off cB ++ cs, rfl, by simp [aA.new], by omega, by simp [aA.new], ?_⟩⟩
   rw [List.drop_append, List.drop_of_length_le (by simp)]
   simp [← hcs]
 · have : b ≠ h.next := by omega
   simp [aA.new, this]
theorem pN.refl (r : Ren) (h : aA) : pN r h r h := ⟨Ren.le_refl r, Nat.le_refl _, fun _ _ => rfl⟩
theorem aUr {H : Type} {enc : TypeId × Value → H} {P : Program} {J : World → Prop} {W : World} {held : Bool} {base : Nat} {t e : TypeId} {v : V} {d : DataW H} {p : List MemPlace}
 (ht : P.underlying t = some (.slice e)) (he : P.underlying e = some (.int .i64)) (ce : P.cellsOf e = 1) {r : Ren} {h : aA} (hR : R J W.heap.size r h W) (hro : aDh h)
 (hval : Value.okWide P W .any base t v) (hd : DataW.Trod enc P W 0 (fun _ => true) held t v d p) :
 ∃ (l : List Int) (r' : Ren) (h' : aA) (v' : V), R J W.heap.size r' h' W ∧ VR r' v' v ∧ Ints h'.next h' v' l ∧ pN r h r' h' := by
 obtain ⟨fuel, hd⟩ := hd
 obtain ⟨a, len, cap, rfl⟩ := WideShapes.okWide_slice ht hval
 rcases Deep.open_slice ht hd with ⟨h1, _⟩ | ⟨a', len', cap', m, n, D, Pl, h1, _, hlc, hcap, hm, hx, hr⟩
 · simp only [Value.cells, List.cons.injEq, Value.slice.injEq, and_true] at h1
   obtain ⟨rfl, rfl, rfl⟩ := h1
   exact ⟨[], r, h, .slice none 0 0, hR, .sliceNil, ⟨rfl, Nat.le_refl _, .inl ⟨rfl, rfl⟩⟩, pN.refl r h⟩
 · simp only [Value.cells, List.cons.injEq, Value.slice.injEq, and_true] at h1
   obtain ⟨h11, h12, h13⟩ := h1
   subst h11
   simp only [if_true] at hm
   rw [← h12, ← h13] at hlc
   rw [← h13] at hcap hm
   rw [hm] at hr
   clear h12 h13 hm hx
   obtain ⟨hs, cc, el, fr, hb, ho⟩ := aLp ht hval
   rw [ce] at hr
   have hadd : ∀ k, a'.add k = ⟨a'.block, a'.off + k, none⟩ := by
    intro k
    obtain ⟨bb, oo, ss⟩ := a'
    simp only at hs
    subst hs
    exact addr_add _ _ _
   have each : ∀ i, i < cap → ∃ x : Int, cc[a'.off + i]? = some (i64 x) := by
    intro i hi
    obtain ⟨cs', h2, h3⟩ := hr i hi
    obtain ⟨h5, _, h4⟩ := World.cells?_some h2
    obtain ⟨c0, rfl⟩ : ∃ c0, cs' = [c0] := by
     match cs', h5 with
     | [c0], _ => exact ⟨c0, rfl⟩
    obtain ⟨x, h6, _⟩ := DataW.trod_int he h3
    simp only [List.cons.injEq, and_true] at h6
    have h7 := h4 0 (by decide)
    refine ⟨x, ?_⟩
    rw [hadd, addr_add, sX hb, Nat.add_zero, Nat.mul_one] at h7
    rw [h7, h6]
    rfl
   have hsz : a'.off + cap * 1 ≤ cc.size := by
    by_cases hc0 : cap = 0
    · omega
    · obtain ⟨x, h5⟩ := each (cap - 1) (by omega)
      have := (Array.getElem?_eq_some_iff.1 h5).1
      omega
   obtain ⟨X, hX⟩ := Deep.choose_lt (n := len) (p := fun i (x : Int) => cc[a'.off + i]? = some (i64 x)) fun i hi => each i (by omega)
   have hc1 : (((List.range len).map X).map i64).length = len * 1 := by simp
   have hc2 : ∀ j, j < len * 1 → cc[a'.off + j]? = (((List.range len).map X).map i64)[j]? := by
    intro j hj
    rw [hX j (by omega)]
    simp [show j < len by omega]
   have hc3 : ∀ u ∈ ((List.range len).map X).map i64, bS u = true := by
    intro u hu
    obtain ⟨s, _, rfl⟩ := List.mem_map.1 hu
    rfl
   obtain ⟨r', h', v', hR', hv, hro', hm⟩ := R.aHq hR hro (es := 1) hs hb hsz hlc hc1 hc2 hc3
   refine ⟨(List.range len).map X, r', h', v', hR', hv, ?_, hm⟩
   unfold Ints
   rw [List.length_map, List.length_range]
   exact hro'
end Go.Abs
namespace Go.Abs
open Go Go.RowKit
theorem R.start {J : World → Prop} {W : World} (hJ : J W) : ∃ r h, R J W.heap.size r h W := by
 obtain ⟨r, h, _, hR, _, _⟩ := R.aUo (W := W) hJ 1
 exact ⟨r, h, hR⟩
def aA.ros (h : aA) : aA := ⟨fun x => match h.get x with | some (.cells c e .ro) => some (.cells c e .ro) | _ => none, h.next⟩
theorem aMv {h : aA} {b : Nat} {o : cD} (hb : h.ros.get b = some o) : ∃ c e, h.get b = some (.cells c e .ro) ∧ o = .cells c e .ro := by
 simp only [aA.ros] at hb
 split at hb
 · rename_i c e he
   cases hb
   exact ⟨c, e, he, rfl⟩
 · cases hb
theorem R.aMt {J : World → Prop} {B : Nat} {r : Ren} {h : aA} {W : World} (hR : R J B r h W) : R J B r h.ros W ∧ aDh h.ros :=
 ⟨hR.sub ⟨Nat.le_refl _, fun b o hb => by
  obtain ⟨c, e, h1, rfl⟩ := aMv hb
  exact h1⟩, fun b o hb => by
  obtain ⟨c, e, _, rfl⟩ := aMv hb
  exact ⟨_, _, rfl⟩⟩
theorem Ro.ros {N : Nat} {h : aA} {v : V} {es n : Nat} {cs : List V} (s : Ro N h v es n cs) : Ro N h.ros v es n cs := by
 obtain ⟨h0, h1, ⟨rfl, rfl⟩ | ⟨b, o, c, all, rfl, hb, hc, hg, ha⟩⟩ := s
 · exact ⟨h0, h1, .inl ⟨rfl, rfl⟩⟩
 · exact ⟨h0, h1, .inr ⟨b, o, c, all, rfl, hb, hc, by simp only [aA.ros, hg], ha⟩⟩
theorem aUu {H : Type} {enc : TypeId × Value → H} {P : Program} {w : World} {base : Nat} {spare : Nat → Bool} {held : Bool} {fuel : Nat} {e : TypeId} {fs : Array Field} {cs : List V} {x : DataW H × List MemPlace}
 (he : P.underlying e = some (.struct fs)) (ce : P.cellsOf e = 5) (hf : ∀ i, i < 5 → ∃ f, fs[i]? = some f ∧ f.offset = i ∧ P.cellsOf f.type = 1 ∧ P.underlying f.type = some (wB i)) (hn : fs.size = 5)
 (h : DataW.trod enc P w base spare held fuel e cs = some x) {o : Oq} (ho : cs = o.cells) : o.space.size ≤ maxLen := by
 obtain ⟨xs, n, _, hx1, hl, hxs, hr⟩ := DataW.trod_struct he h
 obtain ⟨f, h1, h2, h3, h4⟩ := hf 1 (by decide)
 have h5 := hr 1 f h1
 rw [h2, h3] at h5
 have h6 : (cs.drop 1).take 1 = [str o.space] := by rw [ho]; rfl
 rw [h6] at h5
 rw [ce] at hl
 have hxi : 1 < xs.length := by omega
 rw [List.getElem?_eq_getElem hxi] at h5
 obtain ⟨m, h7, _, h8⟩ := DataW.trod_string (show P.underlying f.type = some .string from h4) h5
 simp only [List.cons.injEq, Value.string.injEq, and_true] at h7
 rw [h7]
 exact h8
theorem aX2 {H : Type} {enc : TypeId × Value → H} {P : Program} {J : World → Prop} {W : World} {held : Bool} {base : Nat} {t e : TypeId} {fs : Array Field} {v : V} {d : DataW H} {p : List MemPlace}
 (ht : P.underlying t = some (.slice e)) (he : P.underlying e = some (.struct fs)) (ce : P.cellsOf e = 5) (hf : ∀ i, i < 5 → ∃ f, fs[i]? = some f ∧ f.offset = i ∧ P.cellsOf f.type = 1 ∧ P.underlying f.type = some (wB i)) (hn : fs.size = 5)
 {r : Ren} {h : aA} (hR : R J W.heap.size r h W) (hval : Value.okWide P W .any base t v) (hd : DataW.Trod enc P W 0 (fun _ => true) held t v d p) :
 ∃ (l : List Oq) (r' : Ren) (h' : aA) (v' : V), R J W.heap.size r' h' W ∧ VR r' v' v ∧ Oqs h'.next h' v' l ∧ pN r h.ros r' h' ∧ ∀ o ∈ l, o.space.size ≤ maxLen := by
 obtain ⟨hR0, hro⟩ := hR.aMt
 obtain ⟨fuel, hd⟩ := hd
 obtain ⟨a, len, cap, rfl⟩ := WideShapes.okWide_slice ht hval
 rcases Deep.open_slice ht hd with ⟨h1, _⟩ | ⟨a', len', cap', m, n, D, Pl, h1, _, hlc, hcap, hm, hx, hr⟩
 · simp only [Value.cells, List.cons.injEq, Value.slice.injEq, and_true] at h1
   obtain ⟨rfl, rfl, rfl⟩ := h1
   exact ⟨[], r, h.ros, .slice none 0 0, hR0, .sliceNil, ⟨rfl, Nat.le_refl _, .inl ⟨rfl, rfl⟩⟩, pN.refl r h.ros, by simp⟩
 · simp only [Value.cells, List.cons.injEq, Value.slice.injEq, and_true] at h1
   obtain ⟨h11, h12, h13⟩ := h1
   subst h11
   simp only [if_true] at hm
   rw [← h12, ← h13] at hlc
   rw [← h13] at hcap hm
   rw [hm] at hr
   clear h12 h13 hm hx
   obtain ⟨hs, cc, el, fr, hb, ho⟩ := aLp ht hval
   rw [ce] at hr
   have hadd : ∀ k, a'.add k = ⟨a'.block, a'.off + k, none⟩ := by
    intro k
    obtain ⟨bb, oo, ss⟩ := a'
    simp only at hs
    subst hs
    exact addr_add _ _ _
   have each : ∀ i, i < cap → ∃ o : Oq, (∀ j, j < 5 → cc[a'.off + (i * 5 + j)]? = o.cells[j]?) ∧ o.space.size ≤ maxLen := by
    intro i hi
    obtain ⟨cs', h2, h3⟩ := hr i hi
    obtain ⟨o, hoc, _, hz⟩ := aUs he ce hf hn h3
    have hsp := aUu he ce hf hn h3 hoc
    subst hoc
    obtain ⟨_, _, h4⟩ := World.cells?_some h2
    refine ⟨o, fun j hj => ?_, hsp⟩
    rw [← h4 j hj, hadd, addr_add]
    rw [sX hb, Nat.add_assoc]
   have hsz : a'.off + cap * 5 ≤ cc.size := by
    by_cases hc0 : cap = 0
    · omega
    · obtain ⟨o, h5, _⟩ := each (cap - 1) (by omega)
      have h6 := h5 4 (by decide)
      have h7 : o.cells[4]? = some (i64 o.n) := rfl
      rw [h7] at h6
      have := (Array.getElem?_eq_some_iff.1 h6).1
      omega
   obtain ⟨O, hO⟩ := Deep.choose_lt (n := len) (p := fun i (o : Oq) => (∀ j, j < 5 → cc[a'.off + (i * 5 + j)]? = o.cells[j]?) ∧ o.space.size ≤ maxLen) fun i hi => each i (by omega)
   have hlen : ∀ l : List Oq, (l.flatMap Oq.cells).length = l.length * 5 := by
    intro l
    induction l with
    | nil => rfl
    | cons o l ih => simp [List.flatMap_cons, ih, Oq.cells]; omega
   have hc1 : (((List.range len).map O).flatMap Oq.cells).length = len * 5 := by rw [hlen, List.length_map, List.length_range]
   have hc2 : ∀ j, j < len * 5 → cc[a'.off + j]? = (((List.range len).map O).flatMap Oq.cells)[j]? := by
    intro j hj
    have h1 : j / 5 < len := by omega
    have h2 := aL1 ((List.range len).map O) (j / 5) (O (j / 5)) (by simp [h1]) (j % 5) (by omega)
    rw [show j / 5 * 5 + j % 5 = j by omega] at h2
    rw [h2, ← (hO (j / 5) h1).1 (j % 5) (by omega), show j / 5 * 5 + j % 5 = j by omega]
   have hc3 : ∀ u ∈ ((List.range len).map O).flatMap Oq.cells, bS u = true := by
    intro u hu
    simp only [List.mem_flatMap] at hu
    obtain ⟨o, _, hu⟩ := hu
    simp only [Oq.cells, List.mem_cons, List.not_mem_nil, or_false] at hu
    rcases hu with rfl | rfl | rfl | rfl | rfl <;> rfl
   obtain ⟨r', h', v', hR', hv, hro', hm⟩ := R.aHq hR0 hro (es := 5) hs hb hsz hlc hc1 hc2 hc3
   refine ⟨(List.range len).map O, r', h', v', hR', hv, ?_, hm, fun o ho => ?_⟩
   · unfold Oqs
     rw [List.length_map, List.length_range]
     exact hro'
   · obtain ⟨i, hi, rfl⟩ := List.mem_map.1 ho
     exact (hO i (by simpa using hi)).2
theorem aX1 {H : Type} {enc : TypeId × Value → H} {P : Program} {J : World → Prop} {W : World} {held : Bool} {base : Nat} {t e : TypeId} {v : V} {d : DataW H} {p : List MemPlace}
 (ht : P.underlying t = some (.slice e)) (he : P.underlying e = some (.int .i64)) (ce : P.cellsOf e = 1) {r : Ren} {h : aA} (hR : R J W.heap.size r h W)
 (hval : Value.okWide P W .any base t v) (hd : DataW.Trod enc P W 0 (fun _ => true) held t v d p) :
 ∃ (l : List Int) (r' : Ren) (h' : aA) (v' : V), R J W.heap.size r' h' W ∧ VR r' v' v ∧ Ints h'.next h' v' l ∧ pN r h.ros r' h' :=
 have h1 := hR.aMt
 aUr ht he ce h1.1 h1.2 hval hd
theorem Ro.on {r r' : Ren} {h h' : aA} {v : V} {es n : Nat} {cs : List V} (m : pN r h.ros r' h') (s : Ro h.next h v es n cs) : Ro h'.next h' v es n cs := Ro.more (h := h.ros) m (Ro.ros (h := h) s)
end Go.Abs

/- A desk: an answer is kept. -/
import Derived.Test.YthhegdifbnghpaaGreatDoorKbe
import Derived.Test.YthhegdifbnghpaaGreatDoorKbd
import Derived.Test.YthhegdifbnghpaaGreatDoorKbb
set_option linter.unusedSimpArgs false
set_option linter.unusedVariables false
namespace Go.Abs
open Go Go.Proofs
variable {E : FE} {F : Fr} {h : AHeap} {L : List Pl}
theorem Sep.ptsQ {v : V} {qs : List (Tri × List Int)} (s : Sep F h (plSls v (qs.map (·.1)) :: (qs.map pzI ++ L))) {i : Nat} {e : Tri × List Int} (he : qs[i]? = some e) :
 ∃ b, indexAddrD (.slice 1) v (i64 i) = some (ptr b (i * 1)) ∧ h.rd b (i * 1) = some (mkS e.1) ∧ ∃ f, SlE dInt h f (mkS e.1) e.2 := by
 obtain ⟨f, q, _⟩ := s.head
 have q : SlE dSl h f v (qs.map (·.1)) := q
 have hx : (qs.map (·.1))[i]? = some e.1 := by rw [List.getElem?_map, he]; rfl
 obtain ⟨b, _, a1, _, a3⟩ := q.at hx
 obtain ⟨f2, q2⟩ := s.memP (A := pzI e) (List.mem_cons_of_mem _ (List.mem_append.2 (.inl (List.mem_map.2 ⟨e, List.mem_of_getElem? he, rfl⟩))))
 exact ⟨b, a1, a3 0 (by decide), f2, q2⟩
theorem agg6_tri {a b c d e : V} {t u : Tri} (h : (.agg #[a, b, c, d, e, mkS t] : V) = .agg #[a, b, c, d, e, mkS u]) : t = u := by
 obtain ⟨t1, t2, t3⟩ := t
 obtain ⟨u1, u2, u3⟩ := u
 simp [mkS] at h
 simp [h]
theorem vt_form {k : Int} {v : V} {x : VoteM} {f : List Nat} (q : (vtV k v x).P h f) : ∃ t f', v = .agg #[i64 x.id.client, i64 x.id.seq, i64 x.shard, .bool x.yes, i64 x.now, mkS t] ∧ Ts h f' (mkS t) x.vals := by
 obtain ⟨u, a, r, rfl, ⟨rfl, e1⟩, ⟨a2, r2, rfl, b, _⟩, _⟩ := q
 have b : Ts h a2 u x.vals := b
 obtain ⟨t, rfl⟩ := sl_form (ts_sle.1 b)
 exact ⟨t, _, e1, b⟩
def plS1 (v : V) (l : List ByteArray) : Pl := ⟨fun h f => SlE dStr h f v l, fun _ _ q => q.lt, fun _ _ _ q hl hs => SlE.same q hl hs⟩
theorem Sep.s1Strs {v : V} {l : List ByteArray} (s : Sep F h (plS1 v l :: L)) : Sep F h (plStrs v l :: L) := s.conv fun _ q => ts_sle.2 q
theorem rank_inj {l : List Oq} {n i j : Nat} (hs : shO l n i = shO l n j) (hr : rankO l n i = rankO l n j) : i = j := by
 have up : ∀ {i j : Nat}, i < j → shO l n i = shO l n j → rankO l n i < rankO l n j := by
  intro i j hij hs
  have h1 : (List.range (i + 1)).filter (fun k => decide (shO l n k = shO l n j)) = ((List.range i).filter fun k => decide (shO l n k = shO l n i)) ++ [i] := by
   rw [List.range_succ, List.filter_append, hs]
   simp [hs]
  have h2 : ((List.range (i + 1)).filter (fun k => decide (shO l n k = shO l n j))).length ≤ ((List.range j).filter (fun k => decide (shO l n k = shO l n j))).length := by
   have : List.range (i + 1) = (List.range j).take (i + 1) := by
    rw [List.take_range, Nat.min_eq_left (by omega)]
   rw [this]
   exact ((List.take_sublist _ _).filter _).length_le
  rw [h1, List.length_append, List.length_singleton] at h2
  unfold rankO
  omega
 rcases Nat.lt_trichotomy i j with h | h | h
 · have := up h hs; omega
 · exact h
 · have := up h hs.symm; omega
theorem Sep.lookK2 {mk : Nat} {l : List (Int × List AnsM)} (s : Sep F h (plGM kdInt anV mk l :: L)) (c : Int) :
 ∃ (w : V) (B : Int → V → List AnsM → Pl), lookupD (some (.int, (some (.slice none 0 0)))) (.map (some mk)) (i64 c) false h = some w ∧ Sep F h (plAns w ((lkp c l).getD []) :: plGM kdInt B mk l :: L) ∧
  (∀ k' v' x', k' ≠ c → B k' v' x' = anV k' v' x') ∧ ∀ {g : AHeap} {L' : List Pl}, Sep F g (plGM kdInt B mk l :: L') → lookupD (some (.int, (some (.slice none 0 0)))) (.map (some mk)) (i64 c) false g = some w := by
 cases hk : Go.Abs.lkp c l with
 | none =>
  exact ⟨.slice none 0 0, anV, s.lookNone (D := kdInt) (z := .slice none 0 0) hk false, Sep.closeAns (qs := []) s.rowNil, fun _ _ _ _ => rfl, fun s' => s'.lookNone (D := kdInt) (z := .slice none 0 0) hk false⟩
 | some x =>
  obtain ⟨w, h1, s1⟩ := s.lookSome (D := kdInt) (z := .slice none 0 0) hk false
  refine ⟨w, holeP c w anV, h1, s1, fun k' v' x' hn => by simp only [holeP, if_neg hn], fun {g L'} s' => ?_⟩
  obtain ⟨w', h2, s2⟩ := s'.lookSome (D := kdInt) (z := .slice none 0 0) hk false
  simp only [holeP, if_true] at s2
  obtain ⟨rfl, _⟩ := Sep.pure s2
  exact h2
/-! ### The fields are laid, in any order -/
structure KSt (F : Fr) (ba bt : Nat) (vo : V) (c : List V) (i0 i1 : Int) (vn : V) (n : Nat) (R : List Pl) (m1 m2 : Option Tri) (e sv sn : Bool) (g : AHeap) : Prop where
 s : Sep F g (plBox ba [i64 i0, i64 i1, i64 (if e then 0 else 4), if sv then mkS (m1.getD (none, 0, 0)) else .slice none 0 0] 4 :: plBox bt (vo :: c ++ [if sn then mkS (m2.getD (none, 0, 0)) else vn]) 7 ::
  (match m1 with | some t => plS1 (mkS t) (List.replicate n ⟨#[]⟩) | none => plPure True) :: (match m2 with | some t => plI64s (mkS t) (List.replicate n 0) | none => plPure True) :: R)
section
variable {ba bt : Nat} {vo : V} {c : List V} {i0 i1 : Int} {vn : V} {n : Nat} {R : List Pl} {m1 m2 : Option Tri} {e sv sn : Bool} {g : AHeap}
theorem KSt.chk (z : KSt F ba bt vo c i0 i1 vn n R m1 m2 e sv sn g) : ldD .one (ptr bt 0) g = some vo := by
 rw [ld_one, rd_of (Sep.get z.s.up1) 0]
 rfl
theorem KSt.mk1 (hn : 0 < n ∧ n ≤ 8) (z : KSt F ba bt vo c i0 i1 vn n R none m2 e false sn g) {K : V → AHeap → Prop} (hK : ∀ t g', KSt F ba bt vo c i0 i1 vn n R (some t) m2 e false sn g' → K (mkS t) g') :
 kP (makeSliceD (some (1, 16, [(.string ⟨#[]⟩)])) (i64 (n : Nat)) (i64 (n : Nat)) g) K := by
 have s1 := z.s.re4 [0, 1, 3] rfl
 have e1 : makeSliceD (some (1, 16, [(.string ⟨#[]⟩)])) (i64 (n : Nat)) (i64 (n : Nat)) g = some (.slice (some ⟨g.next, 0, none⟩) (List.replicate n (⟨#[]⟩ : ByteArray)).length (2 * (List.replicate n (⟨#[]⟩ : ByteArray)).length), g.new (.cells (dStr.flat (List.replicate n ⟨#[]⟩)) 1 .rw)) := by
  have : n = 1 ∨ n = 2 ∨ n = 3 ∨ n = 4 ∨ n = 5 ∨ n = 6 ∨ n = 7 ∨ n = 8 := by omega
  rcases this with rfl | rfl | rfl | rfl | rfl | rfl | rfl | rfl <;> rfl
 rw [e1, kP_some]
 have s2 := s1.alloc (a' := [g.next]) (h' := g.new (.cells (dStr.flat (List.replicate n ⟨#[]⟩)) 1 .rw)) (plS1 (.slice (some ⟨g.next, 0, none⟩) (List.replicate n (⟨#[]⟩ : ByteArray)).length (2 * (List.replicate n (⟨#[]⟩ : ByteArray)).length)) (List.replicate n ⟨#[]⟩)) ⟨by simp, fun x hx _ => by
  have : x ≠ g.next := by omega
  simp [this], by simp, by simp⟩ (SlE.lit dStr g (List.replicate n ⟨#[]⟩) (by intro h; have := congrArg List.length h; simp at this; omega))
 exact hK (some ⟨g.next, 0, none⟩, (List.replicate n (⟨#[]⟩ : ByteArray)).length, 2 * (List.replicate n (⟨#[]⟩ : ByteArray)).length) _ ⟨s2.re4 [1, 2, 0, 3] rfl⟩
theorem KSt.mk2 (hn : 0 < n ∧ n ≤ 8) (z : KSt F ba bt vo c i0 i1 vn n R m1 none e sv false g) {K : V → AHeap → Prop} (hK : ∀ t g', KSt F ba bt vo c i0 i1 vn n R m1 (some t) e sv false g' → K (mkS t) g') :
 kP (makeSliceD (some (1, 8, [(.int .i64 0)])) (i64 (n : Nat)) (i64 (n : Nat)) g) K := by
 have s1 := z.s.re4 [0, 1, 2] rfl
 have e1 : makeSliceD (some (1, 8, [(.int .i64 0)])) (i64 (n : Nat)) (i64 (n : Nat)) g = some (.slice (some ⟨g.next, 0, none⟩) (List.replicate n (0 : Int)).length (2 * (List.replicate n (0 : Int)).length), g.new (.cells (dInt.flat (List.replicate n 0)) 1 .rw)) := by
  have : n = 1 ∨ n = 2 ∨ n = 3 ∨ n = 4 ∨ n = 5 ∨ n = 6 ∨ n = 7 ∨ n = 8 := by omega
  rcases this with rfl | rfl | rfl | rfl | rfl | rfl | rfl | rfl <;> rfl
 rw [e1, kP_some]
 have s2 := s1.litInts (List.replicate n 0) (by intro h; have := congrArg List.length h; simp at this; omega)
 exact hK (some ⟨g.next, 0, none⟩, (List.replicate n (0 : Int)).length, 2 * (List.replicate n (0 : Int)).length) _ ⟨s2.re4 [1, 2, 3, 0] rfl⟩
theorem KSt.st0 (z : KSt F ba bt vo c i0 i1 vn n R m1 m2 false sv sn g) {K : AHeap → Prop} (hK : ∀ g', KSt F ba bt vo c i0 i1 vn n R m1 m2 true sv sn g' → K g') :
 kH (stD (some 1) (ptr ba 2) (.int .i64 0) g) fun _ h => K h := by
 rw [st_one z.s.get (by simp) rfl rfl (by simp), kH_some]
 exact hK _ ⟨z.s.write⟩
theorem KSt.st1 {t : Tri} (z : KSt F ba bt vo c i0 i1 vn n R (some t) m2 e false sn g) {K : AHeap → Prop} (hK : ∀ g', KSt F ba bt vo c i0 i1 vn n R (some t) m2 e true sn g' → K g') :
 kH (stD (some 1) (ptr ba 3) (mkS t) g) fun _ h => K h := by
 rw [st_one z.s.get (by simp) rfl rfl (by simp), kH_some]
 exact hK _ ⟨z.s.write⟩
theorem KSt.st2 (hc : c.length = 5) {t : Tri} (z : KSt F ba bt vo c i0 i1 vn n R m1 (some t) e sv false g) {K : AHeap → Prop} (hK : ∀ g', KSt F ba bt vo c i0 i1 vn n R m1 (some t) e sv true g' → K g') :
 kH (stD (some 1) (ptr bt 6) (mkS t) g) fun _ h => K h := by
 obtain ⟨c1, c2, c3, c4, c5, rfl⟩ : ∃ c1 c2 c3 c4 c5, c = [c1, c2, c3, c4, c5] := by
  match c, hc with
  | [c1, c2, c3, c4, c5], _ => exact ⟨c1, c2, c3, c4, c5, rfl⟩
 rw [st_one (Sep.get z.s.up1) (by simp) rfl rfl (by simp), kH_some]
 exact hK _ ⟨(Sep.write z.s.up1).up1⟩
end
structure VtInv (t : TransM) : Prop where
 each : ∀ k v, lkp k t.votes = some v → hasF t.parts k = true ∧ v.vals.length = (t.parts.getD k.toNat []).length
 all : ∀ k, hasF t.parts k = true → (lkp k t.votes).isSome = true
set_option maxHeartbeats 4000000 in
theorem desk_keep {nn : Nat} {vt : V} {t : TransM} {b mk : Nat} {c0 c1 c2 : V} {kept : List (Int × List AnsM)} (id : IdM) (hn : 1 ≤ nn ∧ nn ≤ 3) (ti : TInv nn t) (vi : t.ok = true → VtInv t) (hkl : ((lkp id.client kept).getD []).length ≤ 1000)
 (s : Sep F h (plTr vt t :: plBox b [c0, c1, c2, .map (some mk)] 4 :: plGM kdInt anV mk kept :: L)) :
 cl (Go.Abs.F.desk_Desk_keep E) [ptr b 0, id.agg, vt] h fun r h' => Sep F h' (plTr vt { t with nows := nowsOf nn t } :: plBox b [c0, c1, c2, .map (some mk)] 4 :: plGM kdInt anV mk (ins id.client (keptL ((lkp id.client kept).getD []) (ansOf nn id t)) kept) :: L) := by
 refine cl_of ?_
 obtain ⟨bt, vo, vp, mv, md, vn, rfl, s0⟩ := s.openTr
 clear s
 have hops := ti.ops
 have hal := allF ti.all
 simp only [Go.Abs.F.desk_Desk_keep, new2, kP_some]
 have s1 := s0.box (cId id) 2
 clear s0
 generalize h.new (.cells (cId id) 2 .rw) = h1 at s1 ⊢
 generalize h.next = bi at s1 ⊢
 rw [ld2 s1.get, kv_some]
 refine kv_of (v := .agg #[i64 id.client, i64 id.seq, i64 4, .slice none 0 0]) rfl ?_
 refine kP_of (v := ptr h1.next 0) (g := h1.new (.cells [i64 0, i64 0, i64 0, .slice none 0 0] 4 .rw)) rfl ?_
 have s2 := s1.box [i64 0, i64 0, i64 0, .slice none 0 0] 4
 clear s1
 generalize h1.new (.cells [i64 0, i64 0, i64 0, .slice none 0 0] 4 .rw) = h2 at s2 ⊢
 generalize h1.next = ba at s2 ⊢
 rw [st_of (n := 4) (vs := [i64 id.client, i64 id.seq, i64 4, .slice none 0 0]) s2.get (by simp) rfl rfl rfl (by simp), kH_some]
 have s3 := s2.write (cs' := [i64 id.client, i64 id.seq, i64 4, .slice none 0 0])
 rw [show setList [i64 0, i64 0, i64 0, .slice none 0 0] 0 [i64 id.client, i64 id.seq, i64 4, .slice none 0 0] = [i64 id.client, i64 id.seq, i64 4, .slice none 0 0] from rfl]
 clear s2
 generalize AHeap.put _ _ _ = h3 at s3 ⊢
 have gt := Sep.get s3.up2
 have t4 : h3.rd bt 4 = some (.bool t.ok) := by rw [rd_of gt 4]; rfl
 have t0 : h3.rd bt 0 = some vo := by rw [rd_of gt 0]; rfl
 simp only [aNil_ptr, kv_some, fieldAddr_ptr, Nat.zero_add, ld_one, t4]
 generalize hT' : ({ t with nows := nowsOf nn t } : TransM) = T'
 refine ⟨fun vs h' => ∃ (t' : Tri), vs = [] ∧ Sep F h' (plBox ba [i64 id.client, i64 id.seq, i64 (ansOf nn id t).err, mkS t'] 4 :: plStrs (mkS t') (ansOf nn id t).vals :: plBox bi (cId id) 2 :: plTr (ptr bt 0) T' :: plBox b [c0, c1, c2, .map (some mk)] 4 :: plGM kdInt anV mk kept :: L), ?_, ?_⟩
 · cases hok : t.ok with
   | false =>
    have e1 : ansOf nn id t = ⟨id, 4, []⟩ := by unfold ansOf; rw [hok]; rfl
    have e2 : nowsOf nn t = t.nows := by unfold nowsOf; rw [hok]; rfl
    rw [e1]
    rw [e2] at hT'
    simp only [ifV_bool, Bool.false_eq_true, if_false]
    have s4 : Sep F h3 (plTr (ptr bt 0) { t with nows := t.nows } :: plBox ba [i64 id.client, i64 id.seq, i64 4, .slice none 0 0] 4 :: plBox bi (cId id) 2 :: plBox b [c0, c1, c2, .map (some mk)] 4 :: plGM kdInt anV mk kept :: L) := Sep.closeTr (t := { t with nows := t.nows }) (s3.re10 [2, 3, 4, 5, 6, 7, 0, 1, 8, 9] rfl)
    subst hT'
    exact ⟨(none, 0, 0), trivial, (Sep.noStrs s4).re6 [2, 0, 3, 1, 4, 5] rfl⟩
   | true =>
   have vi := vi hok
   have e1 : ansOf nn id t = ⟨id, 0, valsF t.ops nn t.votes⟩ := by unfold ansOf; rw [hok]; rfl
   have e2 : nowsOf nn t = nowsF t.ops nn t.votes := by unfold nowsOf; rw [hok]; rfl
   rw [e1]
   rw [e2] at hT'
   rw [hok] at s3 t4
   obtain ⟨fo, qo⟩ := s3.memP (A := plOps vo t.ops) (by simp)
   have qo : SlE dOp h3 fo vo t.ops := qo
   simp only [ifV_bool, if_true, t0, kv_some, qo.len]
   have hlen0 : 0 < t.ops.length ∧ t.ops.length ≤ 8 := ⟨by have := hal.1; omega, hal.2.1⟩
   have z0 : KSt F ba bt vo [vp, .map (some mv), .bool t.decided, .bool true, .map (some md)] id.client id.seq vn t.ops.length (plBox bi (cId id) 2 :: plOps vo t.ops :: plPts vp t.parts :: plGM kdInt vtV mv t.votes :: plGM kdInt dnV md t.done :: plBox b [c0, c1, c2, .map (some mk)] 4 :: plGM kdInt anV mk kept :: L) none none false false false h3 :=
    ⟨(Sep.mkPure trivial (Sep.mkPure trivial (s3.re10 [0, 2, 1, 3, 4, 5, 6, 8, 9] rfl))).re4 [2, 3, 0, 1] rfl⟩
   refine ⟨fun vs g => vs = [] ∧ ∃ t1 t2, KSt F ba bt vo [vp, .map (some mv), .bool t.decided, .bool true, .map (some md)] id.client id.seq vn t.ops.length (plBox bi (cId id) 2 :: plOps vo t.ops :: plPts vp t.parts :: plGM kdInt vtV mv t.votes :: plGM kdInt dnV md t.done :: plBox b [c0, c1, c2, .map (some mk)] 4 :: plGM kdInt anV mk kept :: L) (some t1) (some t2) true true true g, ?_, ?_⟩
   · clear s3 t4 t0 gt qo
     repeat' first
      | exact ⟨rfl, _, _, by assumption⟩
      | exact ⟨trivial, _, _, by assumption⟩
      | refine ⟨KSt.chk (by assumption), ?_⟩
      | refine ⟨?_, ?_⟩
      | refine KSt.mk1 hlen0 (by assumption) fun _ _ _ => ?_
      | refine KSt.mk2 hlen0 (by assumption) fun _ _ _ => ?_
      | refine KSt.st0 (by assumption) fun _ _ => ?_
      | refine KSt.st1 (by assumption) fun _ _ => ?_
      | refine KSt.st2 rfl (by assumption) fun _ _ => ?_
   rintro e8 g0 ⟨-, t1, t2, zz⟩
   have s5 : Sep F g0 (plBox ba [i64 id.client, i64 id.seq, i64 0, mkS t1] 4 :: plBox bt [vo, vp, .map (some mv), .bool t.decided, .bool true, .map (some md), mkS t2] 7 :: plS1 (mkS t1) (List.replicate t.ops.length ⟨#[]⟩) :: plI64s (mkS t2) (List.replicate t.ops.length 0) ::
    plBox bi (cId id) 2 :: plOps vo t.ops :: plPts vp t.parts :: plGM kdInt vtV mv t.votes :: plGM kdInt dnV md t.done :: plBox b [c0, c1, c2, .map (some mk)] 4 :: plGM kdInt anV mk kept :: L) := zz.s
   clear s3 t4 t0 gt qo z0 zz
   have g2 : g0.rd bt 2 = some (.map (some mv)) := by rw [rd_of (Sep.get s5.up1) 2]; rfl
   simp only [g2, kv_some]
   obtain ⟨qs, hqs, s6⟩ := (s5.re11 [6, 7, 0, 1, 2, 3, 4, 5, 8, 9, 10] rfl).openPts
   have s7 : Sep F g0 (plAll (plSls vp (qs.map (·.1)) :: qs.map pzI) :: plGM kdInt vtV mv t.votes :: plBox ba [i64 id.client, i64 id.seq, i64 0, mkS t1] 4 :: plBox bt [vo, vp, .map (some mv), .bool t.decided, .bool true, .map (some md), mkS t2] 7 :: plS1 (mkS t1) (List.replicate t.ops.length ⟨#[]⟩) :: plI64s (mkS t2) (List.replicate t.ops.length 0) ::
    plBox bi (cId id) 2 :: plOps vo t.ops :: plGM kdInt dnV md t.done :: plBox b [c0, c1, c2, .map (some mk)] 4 :: plGM kdInt anV mk kept :: L) := Sep.mkAll (L' := plSls vp (qs.map (·.1)) :: qs.map pzI) s6
   obtain ⟨tt, clk, q, s8⟩ := s7.up1.openM
   have s9 : Sep F g0 (plMap mv (tt.map (Et.m kdInt)) clk :: plAll (tt.map (Et.p vtV)) :: plAll (plSls vp (qs.map (·.1)) :: qs.map pzI) :: plBox ba [i64 id.client, i64 id.seq, i64 0, mkS t1] 4 :: plBox bt [vo, vp, .map (some mv), .bool t.decided, .bool true, .map (some md), mkS t2] 7 :: plS1 (mkS t1) (List.replicate t.ops.length ⟨#[]⟩) :: plI64s (mkS t2) (List.replicate t.ops.length 0) ::
    plBox bi (cId id) 2 :: plOps vo t.ops :: plGM kdInt dnV md t.done :: plBox b [c0, c1, c2, .map (some mk)] 4 :: plGM kdInt anV mk kept :: L) := (Sep.mkAll (L' := tt.map (Et.p vtV)) (s8.perm List.perm_middle.symm)).up1
   clear s5 s6 s7 s8 g2
   have htl : tt.length = t.votes.length := by have := q.perm.length_eq; simpa [absE] using this
   have hn0 : 0 < nn := hn.1
   have hlk : ∀ e ∈ tt, lkp e.k t.votes = some e.x := by
    intro e he
    have h1 : (e.k, e.x) ∈ absE tt := List.mem_map.2 ⟨e, he, rfl⟩
    rw [← q.lkp]
    exact lkp_of q.ndt h1
   have hT0 : Told t.ops nn t.votes (fun i => ∃ e ∈ ([] : List (Et Int VoteM)), e.k = (shO t.ops nn i : Int)) (List.replicate t.ops.length ⟨#[]⟩) (List.replicate t.ops.length 0) := Told.none.imp fun i _ ⟨e, he, _⟩ => by simp at he
   refine Sep.range s9 fun it g1 z1 => ?_
   refine ⟨fun n vs h' => ∃ (td : List (Et Int VoteM)) (seen : Array Nat) (va : List ByteArray) (na : List Int), vs = [] ∧ n = tt.length - td.length ∧ SeenT tt td seen ∧ Told t.ops nn t.votes (fun i => ∃ e ∈ td, e.k = (shO t.ops nn i : Int)) va na ∧
    Sep F h' (plIter it mv clk seen :: plMap mv (tt.map (Et.m kdInt)) clk :: plAll (tt.map (Et.p vtV)) :: plAll (plSls vp (qs.map (·.1)) :: qs.map pzI) :: plBox ba [i64 id.client, i64 id.seq, i64 0, mkS t1] 4 :: plBox bt [vo, vp, .map (some mv), .bool t.decided, .bool true, .map (some md), mkS t2] 7 :: plS1 (mkS t1) va :: plI64s (mkS t2) na ::
    plBox bi (cId id) 2 :: plOps vo t.ops :: plGM kdInt dnV md t.done :: plBox b [c0, c1, c2, .map (some mk)] 4 :: plGM kdInt anV mk kept :: L), tt.length, ⟨[], #[], _, _, rfl, rfl, SeenT.nil tt, hT0, z1⟩, ?_⟩
   clear z1 s9 hT0
   rintro n e0 g2 ⟨td, seen, va, na, -, rfl, hs, hT, z2⟩
   refine Sep.nextT z2 q.lt q.bn hs (fun e he hne g3 z3 hs5 hent hlen => ?_) (fun hp => ?_)
   · simp only [extract_tuple, List.getElem?_toArray, List.getElem?_cons_zero, List.getElem?_cons_succ, kv_some, ifV_bool, if_true]
     rw [hent, kV_some]
     simp only [extract_tuple, List.getElem?_toArray, List.getElem?_cons_zero, List.getElem?_cons_succ, kv_some]
     obtain ⟨hhas, hvl⟩ := vi.each _ _ (hlk e he)
     have form : ∀ {g : AHeap} {L' : List Pl}, Sep F g (plAll (tt.map (Et.p vtV)) :: L') → ∃ t' f', e.v = .agg #[i64 e.x.id.client, i64 e.x.id.seq, i64 e.x.shard, .bool e.x.yes, i64 e.x.now, mkS t'] ∧ Ts g f' (mkS t') e.x.vals := fun sg => by
      obtain ⟨f, qf⟩ := sg.all.memP (A := Et.p vtV e) (List.mem_append.2 (.inl (List.mem_map.2 ⟨e, he, rfl⟩)))
      exact vt_form qf
     obtain ⟨tv, fv, ev, _⟩ := form (z3.re3 [2] rfl)
     have hev : ∀ {t'' : Tri}, e.v = .agg #[i64 e.x.id.client, i64 e.x.id.seq, i64 e.x.shard, .bool e.x.yes, i64 e.x.now, mkS t''] → t'' = tv := fun h' => by
      rw [ev] at h'
      exact (agg6_tri h').symm
     have hkey := hlk e he
     obtain ⟨k, hk⟩ : ∃ k : Nat, e.k = (k : Int) := by
      refine ⟨e.k.toNat, ?_⟩
      unfold hasF at hhas
      simp only [Bool.and_eq_true, decide_eq_true_eq] at hhas
      omega
     have hkn : k < nn := by
      rw [hk, ti.parts] at hhas
      unfold hasF at hhas
      simp only [Bool.and_eq_true, decide_eq_true_eq, Int.toNat_natCast] at hhas
      refine Nat.lt_of_not_le fun hle => ?_
      rw [List.getD_eq_getElem?_getD, List.getElem?_eq_none (by rw [parts_len]; exact hle)] at hhas
      simp at hhas
     have hqk : k < qs.length := by
      have h1 := congrArg List.length hqs
      rw [List.length_map, ti.parts, parts_len] at h1
      omega
     have heq : qs[k]? = some qs[k] := List.getElem?_eq_getElem hqk
     have hpk : (qs[k]).2 = (partsF t.ops nn).getD k [] := by rw [← ti.parts, ← hqs, List.getD_eq_getElem?_getD, List.getElem?_map, heq]; rfl
     rw [hk, ti.parts, Int.toNat_natCast, ← hpk] at hvl
     generalize qs[k] = qk at heq hpk hvl
     obtain ⟨tk, pk⟩ := qk
     have hpk : pk = (partsF t.ops nn).getD k [] := hpk
     have hvl : e.x.vals.length = pk.length := hvl
     have rowk : ∀ {g : AHeap} {L' : List Pl}, Sep F g (plAll (plSls vp (qs.map (·.1)) :: qs.map pzI) :: L') → ∃ bb, indexAddrD (.slice 1) vp (i64 (k : Nat)) = some (ptr bb (k * 1)) ∧ g.rd bb (k * 1) = some (mkS tk) ∧ ∃ f, SlE dInt g f (mkS tk) pk := fun sg => Sep.ptsQ (show Sep F _ (plSls vp (qs.map (·.1)) :: (qs.map pzI ++ _)) from sg.all) heq
     have hplen : pk.length ≤ 8 := by
      have hm : pk ∈ partsF t.ops nn := by
       rw [hpk, List.getD_eq_getElem?_getD, List.getElem?_eq_getElem (by rw [parts_len]; exact hkn)]
       exact List.getElem_mem _
      have := parts_short hm
      omega
     refine kP_of (v := ptr g3.next 0) (g := g3.new (.cells [i64 0, i64 0, i64 0, .bool false, i64 0, .slice none 0 0] 6 .rw)) rfl ?_
     have z4 := z3.box [i64 0, i64 0, i64 0, .bool false, i64 0, .slice none 0 0] 6
     generalize g3.new (.cells [i64 0, i64 0, i64 0, .bool false, i64 0, .slice none 0 0] 6 .rw) = g4 at z4 ⊢
     generalize g3.next = bx at z4 ⊢
     rw [ev, st_of (n := 6) (vs := [i64 e.x.id.client, i64 e.x.id.seq, i64 e.x.shard, .bool e.x.yes, i64 e.x.now, mkS tv]) z4.get (by simp) rfl rfl rfl (by simp), kH_some]
     have z5 := z4.write (cs' := [i64 e.x.id.client, i64 e.x.id.seq, i64 e.x.shard, .bool e.x.yes, i64 e.x.now, mkS tv])
     rw [show setList [i64 0, i64 0, i64 0, .bool false, i64 0, .slice none 0 0] 0 [i64 e.x.id.client, i64 e.x.id.seq, i64 e.x.shard, .bool e.x.yes, i64 e.x.now, mkS tv] = [i64 e.x.id.client, i64 e.x.id.seq, i64 e.x.shard, .bool e.x.yes, i64 e.x.now, mkS tv] from rfl]
     clear z2 z3 z4
     generalize AHeap.put _ _ _ = g5 at z5 ⊢
     have w1 : g5.rd bt 1 = some vp := by rw [rd_of (Sep.get (z5.re7 [6] rfl)) 1]; rfl
     obtain ⟨bb, k1, k2, fk, k3⟩ := rowk (z5.re5 [4] rfl)
     have ek : kdInt.enc e.k = i64 (k : Nat) := by rw [hk]; rfl
     simp only [ek, w1, kv_some, k1, ld_one, k2, k3.len]
     refine ⟨fun n vs h' => ∃ (j : Nat) (va : List ByteArray) (na : List Int), vs = [i64 j] ∧ n = pk.length - j ∧ j ≤ pk.length ∧ Told t.ops nn t.votes (fun i => (∃ e ∈ td, e.k = (shO t.ops nn i : Int)) ∨ (shO t.ops nn i = k ∧ rankO t.ops nn i < j)) va na ∧
      Sep F h' (plBox bx [i64 e.x.id.client, i64 e.x.id.seq, i64 e.x.shard, .bool e.x.yes, i64 e.x.now, mkS tv] 6 :: plIter it mv clk (seen.push e.b) :: plMap mv (tt.map (Et.m kdInt)) clk :: plAll (tt.map (Et.p vtV)) :: plAll (plSls vp (qs.map (·.1)) :: qs.map pzI) :: plBox ba [i64 id.client, i64 id.seq, i64 0, mkS t1] 4 :: plBox bt [vo, vp, .map (some mv), .bool t.decided, .bool true, .map (some md), mkS t2] 7 :: plS1 (mkS t1) va :: plI64s (mkS t2) na ::
      plBox bi (cId id) 2 :: plOps vo t.ops :: plGM kdInt dnV md t.done :: plBox b [c0, c1, c2, .map (some mk)] 4 :: plGM kdInt anV mk kept :: L), pk.length, ⟨0, va, na, rfl, by omega, by omega, hT.imp (fun i _ hi => hi.elim (fun x => x) fun y => absurd y.2 (Nat.not_lt_zero _)), z5⟩, ?_⟩
     clear z5 w1 k2 k3
     rintro n2 e2 g6 ⟨j, va2, na2, he2, rfl, hj, hT2, z6⟩
     simp only [List.cons.injEq, and_true] at he2
     simp only [he2, bin_lss, kv_some, ifV_bool, decide_eq_true_eq]
     by_cases hx : j < pk.length
     case neg =>
      rw [if_neg (show ¬ ((j : Nat) : Int) < (pk.length : Nat) by omega)]
      refine ⟨tt.length - (td.length + 1), by omega, td ++ [e], _, va2, na2, (by first | rfl | trivial), by simp, hs5, hT2.imp (fun i hi ⟨e', he', hk'⟩ => ?_), z6.drop⟩
      rcases List.mem_append.1 he' with he' | he'
      · exact .inl ⟨e', he', hk'⟩
      · rw [List.mem_singleton.1 he', hk] at hk'
        have hsk : shO t.ops nn i = k := by omega
        refine .inr ⟨hsk, ?_⟩
        have := rank_lt hn0 hi
        rw [hsk, ← hpk] at this
        omega
     rw [if_pos (show ((j : Nat) : Int) < (pk.length : Nat) by omega)]
     obtain ⟨bb', k1', k2, fk, k3⟩ := rowk (z6.re5 [4] rfl)
     have hg : pk[j]? = some pk[j] := List.getElem?_eq_getElem hx
     obtain ⟨b3, _, c3, _, c4⟩ := k3.at hg
     have c3 : indexAddrD (.slice 1) (mkS tk) (i64 (j : Nat)) = some (ptr b3 (j * 1)) := c3
     have c4 : g6.rd b3 (j * 1) = some (i64 pk[j]) := c4 0 (by decide)
     obtain ⟨i, hi, hil, hish, hirk⟩ := parts_place (l := t.ops) hn0 hkn (j := j) (x := pk[j]) (by rw [← hpk]; exact hg)
     rw [hi] at c4
     have x3 : g6.rd ba 3 = some (mkS t1) := by rw [rd_of (Sep.get (z6.re6 [5] rfl)) 3]; rfl
     have x6 : g6.rd bt 6 = some (mkS t2) := by rw [rd_of (Sep.get (z6.re7 [6] rfl)) 6]; rfl
     have y5 : g6.rd bx 5 = some (mkS tv) := by rw [rd_of z6.get 5]; rfl
     have y4 : g6.rd bx 4 = some (i64 e.x.now) := by rw [rd_of z6.get 4]; rfl
     obtain ⟨tv', fv', ev', qv⟩ := form (z6.re4 [3] rfl)
     obtain rfl := hev ev'
     have hjv : j < e.x.vals.length := by omega
     have hgv : e.x.vals[j]? = some e.x.vals[j] := List.getElem?_eq_getElem hjv
     obtain ⟨b4, _, d3, _, d4⟩ := (ts_sle.1 qv).at hgv
     have d3 : indexAddrD (.slice 1) (mkS tv') (i64 (j : Nat)) = some (ptr b4 (j * 1)) := d3
     have d4 : g6.rd b4 (j * 1) = some (str e.x.vals[j]) := d4 0 (by decide)
     have htel : telS t.ops nn t.votes i = (e.x.vals[j], e.x.now) := by
      unfold telS
      rw [hish, ← hk, hkey, hirk]
      simp [List.getD_eq_getElem?_getD, hgv]
     generalize e.x.vals[j] = y at d4 htel
     simp only [c3, kv_some, ld_one, c4, aNil_ptr, fieldAddr_ptr, Nat.zero_add, x3, x6, y5, d3, d4, y4]
     obtain ⟨f7, q7, kk7⟩ := Sep.head (z6.re8 [7, 0, 1, 2, 3, 4, 5, 6] rfl)
     have q7 : SlE dStr g6 f7 (mkS t1) va2 := q7
     obtain ⟨b7, g7, i7, w7, q7', m7⟩ := q7.st (i := i) (by rw [hT2.lv]; exact hil) y
     have i7 : indexAddrD (.slice 1) (mkS t1) (i64 (i : Nat)) = some (ptr b7 (i * 1)) := i7
     have w7 : stD (some 1) (ptr b7 (i * 1)) (str y) g6 = some g7 := by rw [← w7]; rfl
     rw [i7, kv_some, w7, kH_some]
     have z7 := kk7 (plS1 (mkS t1) (va2.set i y)) m7 q7'
     have y4' : g7.rd bx 4 = some (i64 e.x.now) := by rw [rd_of (Sep.get z7.up1) 4]; rfl
     refine ⟨y4', ?_⟩
     obtain ⟨f8, q8, kk8⟩ := Sep.head (z7.re9 [8, 0, 1, 2, 3, 4, 5, 6, 7] rfl)
     have q8 : SlE dInt g7 f8 (mkS t2) na2 := q8
     obtain ⟨b8, g8, i8, w8, q8', m8⟩ := q8.st (i := i) (by rw [hT2.ln]; exact hil) e.x.now
     have i8 : indexAddrD (.slice 1) (mkS t2) (i64 (i : Nat)) = some (ptr b8 (i * 1)) := i8
     have w8 : stD (some 1) (ptr b8 (i * 1)) (i64 e.x.now) g7 = some g8 := by rw [← w8]; rfl
     rw [i8, kv_some, w8, kH_some]
     have z8 := kk8 (plI64s (mkS t2) (na2.set i e.x.now)) m8 q8'
     rw [add_i64 _ 1 (by omega) (by omega), kv_some]
     refine ⟨pk.length - (j + 1), by omega, j + 1, va2.set i y, na2.set i e.x.now, by simp, rfl, by omega, (hT2.put hil (by rw [htel]) (by rw [htel])).imp (fun i' hi' hh => ?_), z8.re9 [2, 3, 4, 5, 6, 7, 8, 1, 0] rfl⟩
     rcases hh with hh | ⟨h1, h2⟩
     · exact .inl (.inl hh)
     · by_cases hr : rankO t.ops nn i' = j
       · right
         exact rank_inj (h1.trans hish.symm) (hr.trans hirk.symm)
       · exact .inl (.inr ⟨h1, by omega⟩)
   · simp only [extract_tuple, List.getElem?_toArray, List.getElem?_cons_zero, List.getElem?_cons_succ, kv_some, ifV_bool, Bool.false_eq_true, if_false]
     have hall := hT.all (fun i hi => by
      have h1 := vi.all (shO t.ops nn i : Int) (by rw [ti.parts]; exact has_sh hn0 hi)
      obtain ⟨x, hx⟩ := Option.isSome_iff_exists.1 h1
      rw [← q.lkp] at hx
      obtain ⟨e, he, hek⟩ := List.mem_map.1 (lkp_mem hx)
      simp only [Prod.mk.injEq] at hek
      exact ⟨e, hp.mem_iff.1 he, hek.1⟩)
     obtain ⟨rfl, rfl⟩ := hall
     refine ⟨t1, trivial, ?_⟩
     have w1 := z2.drop.up1
     have w2 := w1.all
     have w4 := Sep.closeM q (w2.perm List.perm_middle)
     have w5 := w4.up1.all
     have w6 := Sep.closePts (qs := qs) w5
     rw [hqs] at w6
     have w7 : Sep F g2 (plBox bt [vo, vp, .map (some mv), .bool t.decided, .bool t.ok, .map (some md), mkS t2] 7 :: plOps vo t.ops :: plPts vp t.parts :: plGM kdInt vtV mv t.votes :: plGM kdInt dnV md t.done :: plI64s (mkS t2) (nowsF t.ops nn t.votes) :: plS1 (mkS t1) (valsF t.ops nn t.votes) :: plBox ba [i64 id.client, i64 id.seq, i64 0, mkS t1] 4 :: plBox bi (cId id) 2 :: plBox b [c0, c1, c2, .map (some mk)] 4 :: plGM kdInt anV mk kept :: L) := by
      rw [hok]
      exact w6.re11 [3, 7, 0, 1, 8, 5, 4, 2, 6, 9, 10] rfl
     have w8 := Sep.closeTr (t := { t with nows := nowsF t.ops nn t.votes }) w7
     rw [hT'] at w8
     exact (Sep.s1Strs w8.up1).re6 [2, 0, 3, 1, 4, 5] rfl
 · rintro e7 g0 ⟨t', -, s4⟩
   have b3 : g0.rd b 3 = some (.map (some mk)) := by rw [rd_of (Sep.get (s4.re5 [4] rfl)) 3]; rfl
   have c0' : g0.rd bi 0 = some (i64 id.client) := by rw [rd_of (Sep.get s4.up2) 0]; rfl
   simp only [aNil_ptr, kv_some, fieldAddr_ptr, Nat.zero_add, ld_one, b3, c0']
   obtain ⟨w, B, k1, s5, hB, hlk⟩ := Sep.lookK2 (s4.re6 [5, 0, 1, 2, 3, 4] rfl) id.client
   rw [k1, kv_some]
   obtain ⟨qs, hqs, s6⟩ := s5.openAns
   generalize ha : ansOf nn id t = a at s6 ⊢
   rw [ld_agg, rdN_of (Sep.get s6.up2)]
   refine kv_of (v := .agg #[i64 id.client, i64 id.seq, i64 a.err, mkS t']) rfl ?_
   have hai : a.id = id := by
    rw [← ha]; unfold ansOf; split <;> rfl
   refine kP_of (v := .slice (some ⟨g0.next, 0, none⟩) 1 2) (g := g0.new (.cells (dAn.enc (a, t')) 4 .rw)) (by rw [show dAn.enc (a, t') = [i64 a.id.client, i64 a.id.seq, i64 a.err, mkS t'] from rfl, hai]; rfl) ?_
   have m : Mod g0 [] (g0.new (.cells (dAn.enc (a, t')) 4 .rw)) [] := ⟨by simp, fun y hy _ => by
    have : y ≠ g0.next := by omega
    simp [this], by simp, by simp⟩
   have hw : aSrc dAn.es (.slice (some ⟨g0.next, 0, none⟩) 1 2) (g0.new (.cells (dAn.enc (a, t')) 4 .rw)) = some (dAn.enc (a, t')) := by
    have : (g0.new (.cells (dAn.enc (a, t')) 4 .rw)).get g0.next = some (.cells (dAn.enc (a, t')) 4 .rw) := by simp
    show (g0.new (.cells (dAn.enc (a, t')) 4 .rw)).rdN g0.next 0 (1 * 4) = _
    rw [rdN_of this]
    rfl
   have s7 := s6.skip m
   generalize g0.new (.cells (dAn.enc (a, t')) 4 .rw) = g1 at s7 hw ⊢
   generalize g0.next = bl at hw ⊢
   clear s6 s5 s4 m
   have b3 : g1.rd b 3 = some (.map (some mk)) := by rw [rd_of (Sep.get (s7.re7 [6] rfl)) 3]; rfl
   have c0' : g1.rd bi 0 = some (i64 id.client) := by rw [rd_of (Sep.get (s7.re5 [4] rfl)) 0]; rfl
   refine ⟨b3, c0', hlk s7.up1, ?_⟩
   have hql : qs.length ≤ 1000 := by have := congrArg List.length hqs; rw [List.length_map] at this; omega
   obtain ⟨v', g2, e2, s8⟩ := Sep.rowSnoc (R := rdAn) (x := (a, t')) (bytes := 48) (z := [(.int .i64 0), (.int .i64 0), (.int .i64 0), (.slice none 0 0)]) (w := .slice (some ⟨bl, 0, none⟩) 1 2) (L := plGM kdInt B mk kept :: plBox ba [i64 id.client, i64 id.seq, i64 a.err, mkS t'] 4 :: plBox bi (cId id) 2 :: plTr (ptr bt 0) T' :: plBox b [c0, c1, c2, .map (some mk)] 4 :: L) (s7.re7 [0, 3, 1, 2, 4, 5, 6] rfl) rfl (by decide) rfl hw (by omega)
   have e2 : appendD (some (4, 48, [(.int .i64 0), (.int .i64 0), (.int .i64 0), (.slice none 0 0)])) w (.slice (some ⟨bl, 0, none⟩) 1 2) g1 = some (v', g2) := e2
   rw [e2, kP_some]
   clear s7 e2 b3 c0'
   have b3 : g2.rd b 3 = some (.map (some mk)) := by rw [rd_of (Sep.get (s8.re6 [5] rfl)) 3]; rfl
   have c0' : g2.rd bi 0 = some (i64 id.client) := by rw [rd_of (Sep.get (s8.re4 [3] rfl)) 0]; rfl
   have hl8 := Sep.rowLen s8
   have hlen : (qs ++ [(a, t')]).length = qs.length + 1 := by simp
   simp only [aNil_ptr, kv_some, fieldAddr_ptr, Nat.zero_add, ld_one, b3, c0', hl8]
   rw [sub_i64 _ 8 (by omega) (by omega), kv_some, max2, kv_some, show max (((qs ++ [(a, t')]).length : Int) - 8) 0 = (((qs ++ [(a, t')]).length - 8 : Nat) : Int) by omega]
   obtain ⟨v2, e3, s9⟩ := Sep.rowCut (t := .i64) s8 (k := (qs ++ [(a, t')]).length - 8) (by omega)
   have e3 : sliceD (.slice 4) v' (some (i64 (((qs ++ [(a, t')]).length - 8 : Nat) : Int))) none none g2 = some v2 := e3
   rw [e3, kv_some]
   have s10 := Sep.closeAns s9
   have hk : ((qs ++ [(a, t')]).drop ((qs ++ [(a, t')]).length - 8)).map (·.1) = keptL ((lkp id.client kept).getD []) a := by
    unfold keptL
    rw [← hqs, List.map_drop, List.map_append]
    simp
   rw [hk] at s10
   obtain ⟨g3, e4, s11⟩ := Sep.insM2 (D := kdInt) (A := anV) (k := id.client) (v := v2) (z := .slice none 0 0) hB s10.up1
   have e4 : mapUpdateD (some (.int, (some (.slice none 0 0)))) (.map (some mk)) (i64 id.client) v2 g2 = some g3 := e4
   rw [e4, kH_some]
   subst hT'
   exact s11.re5 [3, 4, 0] rfl
end Go.Abs
namespace Go.Abs
open Go Go.Proofs
variable {E : FE} {F : Fr} {h : AHeap} {L : List Pl}
theorem lookup_same {m : Nat} {kz : Option (KeyK × Option V)} {k : V} {ok : Bool} {g h : AHeap} (e : g.get m = h.get m) : lookupD kz (.map (some m)) k ok g = lookupD kz (.map (some m)) k ok h := by
 unfold lookupD
 simp only [e]
theorem Sep.mapLt {κ α : Type} [DecidableEq κ] {D : KD κ} {A : κ → V → α → Pl} {m : Nat} {l : List (κ × α)} (s : Sep F h (plGM D A m l :: L)) : m < h.next := by
 obtain ⟨t, clk, p, s⟩ := s.openM
 obtain ⟨f, q, _⟩ := s.head
 exact q.2.1
theorem short_of_sub {α : Type} [DecidableEq α] : ∀ {a b : List α}, a.Nodup → (∀ x ∈ a, x ∈ b) → a.length ≤ b.length
 | [], b, _, _ => Nat.zero_le _
 | y :: a, b, hn, hs => by
  rw [List.nodup_cons] at hn
  have hy := hs y (by simp)
  have := short_of_sub (b := b.erase y) hn.2 fun x hx => by
   have hxy : x ≠ y := fun e => hn.1 (e ▸ hx)
   exact (List.mem_erase_of_ne hxy).2 (hs x (by simp [hx]))
  have hl := List.length_erase_of_mem hy
  have := List.length_pos_of_mem hy
  simp only [List.length_cons]
  omega
structure VU (t : TransM) : Prop where
 nd : (keysL t.votes).Nodup
 each : ∀ k v, lkp k t.votes = some v → hasF t.parts k = true ∧ v.vals.length = (t.parts.getD k.toNat []).length
theorem hasF_mem {ps : List (List Int)} {k : Int} (h : hasF ps k = true) : k ∈ shardsF ps := by
 have h2 := h
 unfold hasF at h2
 simp only [Bool.and_eq_true, decide_eq_true_eq] at h2
 refine List.mem_filter.2 ⟨List.mem_map.2 ⟨k.toNat, List.mem_range.2 (Nat.lt_of_not_le fun hle => ?_), by omega⟩, h⟩
 rw [List.getD_eq_getElem?_getD, List.getElem?_eq_none hle] at h2
 simp at h2
theorem VU.full {t : TransM} (vu : VU t) (hl : (shardsF t.parts).length ≤ t.votes.length) : VtInv t := by
 refine ⟨vu.each, fun k hk => ?_⟩
 cases hx : Go.Abs.lkp k t.votes with
 | some x => rfl
 | none =>
  have hn := lkp_none.1 hx
  have h1 := short_of_sub (a := k :: keysL t.votes) (b := shardsF t.parts) (by rw [List.nodup_cons]; exact ⟨hn, vu.nd⟩) fun x hx => by
   rcases List.mem_cons.1 hx with rfl | hx
   · exact hasF_mem hk
   · have : Go.Abs.lkp x t.votes ≠ none := fun e => (lkp_none.1 e) hx
     obtain ⟨y, hy⟩ := Option.ne_none_iff_exists'.1 this
     exact hasF_mem (vu.each x y hy).1
  simp [keysL] at h1
  omega
theorem vote_mid {y : Bool} {h4 : AHeap} {bv bt : Nat} {vp a row tv : V} {sh : Int} {m k : Nat} (h3 : h4.rd bv 3 = some (.bool y)) (h5 : h4.rd bv 5 = some tv) (h2 : h4.rd bv 2 = some (i64 sh)) (hl : lenD .slice tv h4 = some (i64 m)) (t1 : h4.rd bt 1 = some vp)
 (hi : indexAddrD (.slice 1) vp (i64 sh) = some a) (hr : ldD .one a h4 = some row) (hk : lenD .slice row h4 = some (i64 k)) {X : V → Prop} (hX : X (.bool (y && decide (m ≠ k)))) :
 kv (gdV (Value.bool false) false (some (ptr bv 3))) fun v44 => kv (gdV (Value.bool false) false (ldD Lay.one v44 h4)) fun v45 => kv (gdV (Value.bool false) false (some v45)) fun v46 =>
 kv (gdV v46 true (some (ptr bv 5))) fun v47 => kv (gdV v46 true (ldD Lay.one v47 h4)) fun v48 => kv (gdV v46 true (lenD LenK.slice v48 h4)) fun v49 => kv (gdV v46 true (some (ptr bt 0))) fun v50 => kv (gdV v46 true (aNil v50)) fun v51 =>
 kv (gdV v46 true (fieldAddrD (some 1) v51)) fun v52 => kv (gdV v46 true (ldD Lay.one v52 h4)) fun v53 => kv (gdV v46 true (some (ptr bv 2))) fun v54 => kv (gdV v46 true (ldD Lay.one v54 h4)) fun v55 => kv (gdV v46 true (indexAddrD (IxK.slice 1) v53 v55)) fun v56 =>
 kv (gdV v46 true (ldD Lay.one v56 h4)) fun v57 => kv (gdV v46 true (lenD LenK.slice v57 h4)) fun v58 => kv (gdV v46 true (binD EqK.bad BinOp.neq false v49 v58 h4)) fun v59 =>
 kv (gdV (Value.bool false) false (pickV v46 v59 (Value.bool false))) fun v60 => kv (pickV (Value.bool false) (Value.bool true) v60) X := by
 simp only [gdV_bool, if_true, kv_some, ld_one, h3]
 cases y with
 | false =>
  simp only [Bool.false_eq_true, if_false, kv_some, pickV_bool, Bool.false_and] at hX ⊢
  exact hX
 | true =>
  have e : ((m : Int) != (k : Int)) = decide (m ≠ k) := by
   by_cases hz : m = k
   · subst hz; simp
   · have : (m : Int) ≠ k := by omega
     simp [hz, this]
  simp only [if_true, kv_some, ld_one, h5, hl, aNil_ptr, fieldAddr_ptr, Nat.zero_add, t1, h2, hi, hr, hk, bin_neq, pickV_bool, Bool.true_and, e, Bool.false_eq_true, if_false] at hX ⊢
  exact hX
theorem Sep.mkVt {k : Int} {x : VoteM} {t : Tri} (s : Sep F h (plStrs (mkS t) x.vals :: L)) : Sep F h (vtV k (.agg #[i64 x.id.client, i64 x.id.seq, i64 x.shard, .bool x.yes, i64 x.now, mkS t]) x :: L) :=
 Sep.mkEx (A := fun (w : V) => plAll [plPure ((.agg #[i64 x.id.client, i64 x.id.seq, i64 x.shard, .bool x.yes, i64 x.now, mkS t] : V) = .agg #[i64 x.id.client, i64 x.id.seq, i64 x.shard, .bool x.yes, i64 x.now, w]), plStrs w x.vals]) (mkS t)
  (Sep.mkAll (L' := [plPure ((.agg #[i64 x.id.client, i64 x.id.seq, i64 x.shard, .bool x.yes, i64 x.now, mkS t] : V) = .agg #[i64 x.id.client, i64 x.id.seq, i64 x.shard, .bool x.yes, i64 x.now, mkS t]), plStrs (mkS t) x.vals]) (Sep.mkPure rfl s))
structure DV (d : DeskM) : Prop where
 each : ∀ id t, lkp id d.opn = some t → t.decided = false → VU t
 kept : ∀ c, ((lkp c d.kept).getD []).length ≤ 8
theorem vote_full {y : Bool} {bt mv : Nat} {cs : List V} {vp : V} {ps : List (List Int)} {vs : List (Int × VoteM)} (hc1 : cs[1]? = some vp) (hc2 : cs[2]? = some (.map (some mv))) (hsz : ps.length ≤ 1000000)
 (s : Sep F h (plBox bt cs 7 :: plPts vp ps :: plGM kdInt vtV mv vs :: L)) {X : V → AHeap → Prop} (hX : ∀ h', Sep F h' (plBox bt cs 7 :: plPts vp ps :: plGM kdInt vtV mv vs :: L) → X (.bool (y && decide (vs.length < (shardsF ps).length))) h') :
 kv (gdV (Value.bool y) true (some (ptr bt 0))) fun v76 => kv (gdV (Value.bool y) true (aNil v76)) fun v77 => kv (gdV (Value.bool y) true (fieldAddrD (some 2) v77)) fun v78 => kv (gdV (Value.bool y) true (ldD Lay.one v78 h)) fun v79 =>
 kv (gdV (Value.bool y) true (lenD LenK.map v79 h)) fun v80 => kv (gdV (Value.bool y) true (some (ptr bt 0))) fun v81 => gdC (Value.bool y) true h (fun K66 => cl (Go.Abs.F.desk_trans_shards E) [v81] h fun v h => K66 v h) fun v82 h =>
 kv (gdV (Value.bool y) true (lenD LenK.slice v82 h)) fun v83 => kv (gdV (Value.bool y) true (binD EqK.bad BinOp.lss false v80 v83 h)) fun v84 => kv (pickV (Value.bool y) v84 (Value.bool false)) fun v85 => X v85 h := by
 cases y with
 | false =>
  simp only [gdV_bool, Bool.false_eq_true, if_false, kv_some]
  refine gdC_no (by decide) ?_
  simp only [gdV_bool, Bool.false_eq_true, if_false, kv_some, pickV_bool]
  exact hX h s
 | true =>
  have r2 : h.rd bt 2 = some (.map (some mv)) := by rw [rd_of s.get 2, hc2]
  have ll := Sep.lenM (s.re3 [2] rfl)
  simp only [gdV_bool, if_true, kv_some, aNil_ptr, fieldAddr_ptr, Nat.zero_add, ld_one, r2, ll]
  refine gdC_yes rfl (cl_then (trans_shards (cs := cs) hc1 hsz s) ?_)
  intro r h' s'
  obtain ⟨f, q, _⟩ := s'.head
  have q : SlE dInt h' f r (shardsF ps) := q
  have e : decide ((vs.length : Int) < ((shardsF ps).length : Int)) = decide (vs.length < (shardsF ps).length) := by
   by_cases hz : vs.length < (shardsF ps).length
   · rw [decide_eq_true hz]; exact decide_eq_true (by omega)
   · rw [decide_eq_false hz]; exact decide_eq_false (by omega)
  have := hX h' s'.drop
  simp only [q.len, kv_some, bin_lss, pickV_bool, if_true, e, Bool.true_and] at this ⊢
  exact this
set_option maxHeartbeats 4000000 in
theorem desk_Vote {nn : Nat} {p : V} {d : DeskM} (di : DInv nn d) (dv : DV d) (v : VoteM) {tv : Tri} (hvl : v.vals.length ≤ 1000000) (s : Sep F h (plDsk p d :: plStrs (mkS tv) v.vals :: L)) :
 cl (Go.Abs.F.desk_Desk_Vote E) [p, .agg #[i64 v.id.client, i64 v.id.seq, i64 v.shard, .bool v.yes, i64 v.now, mkS tv]] h fun r h' => r = .bool (voteV nn d v).1 ∧ Sep F h' (plDsk p (voteV nn d v).2 :: plStrs (mkS tv) v.vals :: L) := by
 refine cl_of ?_
 obtain ⟨b, ml, mo, mk, rfl, s0⟩ := s.openDsk
 clear s
 simp only [Go.Abs.F.desk_Desk_Vote]
 refine kP_of (v := ptr h.next 0) (g := h.new (.cells [i64 v.id.client, i64 v.id.seq, i64 v.shard, .bool v.yes, i64 v.now, mkS tv] 6 .rw)) rfl ?_
 have s1 := s0.box [i64 v.id.client, i64 v.id.seq, i64 v.shard, .bool v.yes, i64 v.now, mkS tv] 6
 clear s0
 generalize h.new (.cells [i64 v.id.client, i64 v.id.seq, i64 v.shard, .bool v.yes, i64 v.now, mkS tv] 6 .rw) = h1 at s1 ⊢
 generalize h.next = bv at s1 ⊢
 have gb := Sep.get s1.up1
 have b2 : h1.rd b 2 = some (.map (some mo)) := by rw [rd_of gb 2]; rfl
 have li : ldD (.agg 2) (ptr bv 0) h1 = some v.id.agg := by rw [ld_agg, rdN_of s1.get]; rfl
 have v2 : h1.rd bv 2 = some (i64 v.shard) := by rw [rd_of s1.get 2]; rfl
 simp only [ptr_eq_nil, kv_some, ifV_bool, Bool.false_eq_true, if_false, aNil_ptr, fieldAddr_ptr, Nat.zero_add, ld_one, b2, li]
 unfold voteV
 cases ht : Go.Abs.lkp v.id d.opn with
 | none =>
  have lo := (s1.re5 [3] rfl).lookNone (z := nil) ht false
  have lo : lookupD (some ((.struct false [(0, .int), (1, .int)]), (some (.pointer none)))) (.map (some mo)) v.id.agg false h1 = some nil := lo
  simp only [lo, kv_some, nil_eq_nil, gdV_bool, Bool.true_eq_false, if_false, pickV_bool, if_true]
  refine gdC_no (by decide) ?_
  simp only [kv_some, gdV_bool, Bool.true_eq_false, if_false, pickV_bool, if_true, ifV_bool]
  exact ⟨trivial, Sep.closeDsk s1.drop⟩
 | some t =>
 have ti := di.opn v.id t ht
 obtain ⟨w, lo, s2⟩ := (s1.re6 [3, 0, 1, 2, 4, 5] rfl).lookSome (z := nil) ht false
 have lo : lookupD (some ((.struct false [(0, .int), (1, .int)]), (some (.pointer none)))) (.map (some mo)) v.id.agg false h1 = some w := lo
 obtain ⟨bt, vo, vp, mv, md, vn, rfl, s3⟩ := Sep.openTr (t := t) s2
 clear s1 s2
 have back : ∀ {g : AHeap} {t' : TransM}, Sep F g (plBox bt [vo, vp, .map (some mv), .bool t'.decided, .bool t'.ok, .map (some md), vn] 7 :: plOps vo t'.ops :: plPts vp t'.parts :: plGM kdInt vtV mv t'.votes :: plGM kdInt dnV md t'.done :: plI64s vn t'.nows :: plGM kdId (holeP v.id (ptr bt 0) trV) mo d.opn :: plBox b [i64 d.n, .map (some ml), .map (some mo), .map (some mk)] 4 :: plGM kdInt lsV ml d.last :: plGM kdInt anV mk d.kept :: plStrs (mkS tv) v.vals :: L) →
  Sep F g (plDsk (ptr b 0) { d with opn := ins v.id t' d.opn } :: plStrs (mkS tv) v.vals :: L) := fun sg => by
  have := Sep.backM (A := trV) (k := v.id) (v := ptr bt 0) (Sep.closeTr sg) ht
  exact Sep.closeDsk (d := { d with opn := ins v.id _ d.opn }) (this.re5 [1, 2, 0, 3, 4] rfl)
 have same : ∀ {g : AHeap} {X : Pl}, Sep F g (plBox bt [vo, vp, .map (some mv), .bool t.decided, .bool t.ok, .map (some md), vn] 7 :: plOps vo t.ops :: plPts vp t.parts :: plGM kdInt vtV mv t.votes :: plGM kdInt dnV md t.done :: plI64s vn t.nows :: plGM kdId (holeP v.id (ptr bt 0) trV) mo d.opn :: X :: plBox b [i64 d.n, .map (some ml), .map (some mo), .map (some mk)] 4 :: plGM kdInt lsV ml d.last :: plGM kdInt anV mk d.kept :: plStrs (mkS tv) v.vals :: L) →
  Sep F g (plDsk (ptr b 0) d :: plStrs (mkS tv) v.vals :: L) := fun sg => by
  have := back (t' := t) (sg.re12 [0, 1, 2, 3, 4, 5, 6, 8, 9, 10, 11] rfl)
  rwa [ins_same ht] at this
 have t3 : h1.rd bt 3 = some (.bool t.decided) := by rw [rd_of s3.get 3]; rfl
 have t1 : h1.rd bt 1 = some vp := by rw [rd_of s3.get 1]; rfl
 have t2 : h1.rd bt 2 = some (.map (some mv)) := by rw [rd_of s3.get 2]; rfl
 have pr := Sep.ptsR s3.up2
 simp only [lo, kv_some, ptr_eq_nil, gdV_bool, if_true, aNil_ptr, fieldAddr_ptr, Nat.zero_add, ld_one, t3, pickV_bool, Bool.false_eq_true, if_false]
 cases hdec : t.decided with
 | true =>
  simp only [gdV_bool, Bool.true_eq_false, if_false, kv_some]
  refine gdC_no (by decide) ?_
  simp only [kv_some, gdV_bool, Bool.true_eq_false, if_false, pickV_bool, if_true, ifV_bool, Bool.true_or]
  rw [hdec] at same s3
  exact ⟨trivial, same s3⟩
 | false =>
 have vu := dv.each v.id t ht hdec
 simp only [gdV_bool, if_true, kv_some, ld_one, v2]
 refine gdC_yes rfl (cl_then (trans_has t1 pr v.shard) ?_)
 rintro r h2 ⟨rfl, rfl⟩
 simp only [not_bool, kv_some, pickV_bool, Bool.false_eq_true, if_false, Bool.false_or]
 cases hh : hasF t.parts v.shard with
 | false =>
  simp only [Bool.not_false, if_true, ifV_bool, Bool.true_or]
  exact ⟨trivial, same s3⟩
 | true =>
 obtain ⟨c0, c1, c2, c4, c3, c5, lv⟩ := Sep.lookVt (s3.re4 [3] rfl) v.shard
 have hmv := Sep.mapLt (s3.re4 [3] rfl)
 simp only [Bool.not_true, ifV_bool, Bool.false_eq_true, if_false, Bool.false_or, aNil_ptr, fieldAddr_ptr, Nat.zero_add, kv_some, ld_one, t2, v2, lv, extract_tuple, List.getElem?_toArray, List.getElem?_cons_zero, List.getElem?_cons_succ]
 refine kP_of (v := ptr h2.next 0) (g := h2.new (.cells [i64 0, i64 0, i64 0, .bool false, i64 0, .slice none 0 0] 6 .rw)) rfl ?_
 have s4 := s3.box [i64 0, i64 0, i64 0, .bool false, i64 0, .slice none 0 0] 6
 have hlv : (h2.new (.cells [i64 0, i64 0, i64 0, .bool false, i64 0, .slice none 0 0] 6 .rw)).get mv = h2.get mv := by
  have : mv ≠ h2.next := by omega
  simp [this]
 have lv' := (lookup_same hlv).trans lv
 generalize h2.new (.cells [i64 0, i64 0, i64 0, .bool false, i64 0, .slice none 0 0] 6 .rw) = h3 at s4 lv' ⊢
 generalize h2.next = bx at s4 ⊢
 have t2' : h3.rd bt 2 = some (.map (some mv)) := by rw [rd_of (Sep.get s4.up1) 2]; rfl
 have v2' : h3.rd bv 2 = some (i64 v.shard) := by rw [rd_of (Sep.get (s4.re9 [8] rfl)) 2]; rfl
 refine ⟨t2', v2', lv', ?_⟩
 rw [st_of (n := 6) (vs := [i64 c0, i64 c1, i64 c2, .bool c3, i64 c4, mkS c5]) s4.get (by simp) rfl rfl rfl (by simp), kH_some]
 have s5 := s4.write (cs' := setList [i64 0, i64 0, i64 0, .bool false, i64 0, .slice none 0 0] 0 [i64 c0, i64 c1, i64 c2, .bool c3, i64 c4, mkS c5])
 have s6 := s5.drop
 clear s3 s4 s5 lv lv' hlv t1 t2 t2' v2 v2' t3 pr li b2 gb lo
 generalize AHeap.put _ _ _ = h4 at s6 ⊢
 cases hlk : (Go.Abs.lkp v.shard t.votes).isSome with
 | true =>
  simp only [gdV_bool, Bool.true_eq_false, if_false, kv_some, pickV_bool, if_true, ifV_bool, Bool.true_or]
  exact ⟨trivial, same s6⟩
 | false =>
 obtain ⟨k, hk, hkl⟩ : ∃ k : Nat, v.shard = (k : Int) ∧ k < t.parts.length := by
  have h2 := hh
  unfold hasF at h2
  simp only [Bool.and_eq_true, decide_eq_true_eq] at h2
  refine ⟨v.shard.toNat, by omega, Nat.lt_of_not_le fun hle => ?_⟩
  rw [List.getD_eq_getElem?_getD, List.getElem?_eq_none hle] at h2
  simp at h2
 have hg : t.parts[k]? = some t.parts[k] := List.getElem?_eq_getElem hkl
 have hgd : t.parts.getD v.shard.toNat [] = t.parts[k] := by rw [hk, Int.toNat_natCast, List.getD_eq_getElem?_getD, hg]; rfl
 obtain ⟨a, row, a1, a2, a3, _⟩ := (Sep.ptsR s6.up2).row k _ hg
 rw [← hk] at a1
 have gv := Sep.get (s6.re8 [7] rfl)
 obtain ⟨ft, qt⟩ := s6.memP (A := plStrs (mkS tv) v.vals) (by simp)
 have qt : Ts h4 ft (mkS tv) v.vals := qt
 refine vote_mid (y := v.yes) (sh := v.shard) (by rw [rd_of gv 3]; rfl) (by rw [rd_of gv 5]; rfl) (by rw [rd_of gv 2]; rfl) (Sl.len qt) (by rw [rd_of s6.get 1]; rfl) a1 a2 a3 ?_
 rw [← hgd]
 simp only [Bool.false_or]
 cases hc : (v.yes && decide (v.vals.length ≠ (t.parts.getD v.shard.toNat []).length)) with
 | true =>
  simp only [ifV_bool, if_true]
  exact ⟨trivial, same s6⟩
 | false =>
 simp only [ifV_bool, Bool.false_eq_true, if_false]
 clear a1 a2 a3 hg
 rw [rd_of gv 5]
 refine kv_of (v := mkS tv) rfl ?_
 refine cl_then (clone_strs qt hvl) ?_
 rintro r h5 ⟨f5, q5, m5⟩
 have s7 := s6.alloc (plStrs r v.vals) m5 q5
 obtain ⟨tw, rfl⟩ := sl_form (ts_sle.1 q5)
 have s8 := s7.re13 [8, 0, 1, 2, 3, 4, 5, 6, 7, 9, 10, 11, 12] rfl
 rw [st_one s8.get (by simp) rfl rfl (by simp), kH_some]
 have s9 := s8.write (cs' := [i64 v.id.client, i64 v.id.seq, i64 v.shard, .bool v.yes, i64 v.now, mkS tw])
 rw [show [i64 v.id.client, i64 v.id.seq, i64 v.shard, .bool v.yes, i64 v.now, mkS tv].set 5 (mkS tw) = [i64 v.id.client, i64 v.id.seq, i64 v.shard, .bool v.yes, i64 v.now, mkS tw] from rfl]
 clear s6 s7 s8 qt q5 m5 gv
 generalize AHeap.put _ _ _ = h6 at s9 ⊢
 have t2 : h6.rd bt 2 = some (.map (some mv)) := by rw [rd_of (Sep.get s9.up2) 2]; rfl
 have v2 : h6.rd bv 2 = some (i64 v.shard) := by rw [rd_of s9.get 2]; rfl
 simp only [t2, v2, kv_some]
 rw [ld_agg, rdN_of s9.get]
 refine kv_of (v := .agg #[i64 v.id.client, i64 v.id.seq, i64 v.shard, .bool v.yes, i64 v.now, mkS tw]) rfl ?_
 have s10 : Sep F h6 (vtV v.shard (.agg #[i64 v.id.client, i64 v.id.seq, i64 v.shard, .bool v.yes, i64 v.now, mkS tw]) v :: plGM kdInt vtV mv t.votes :: plBox bv [i64 v.id.client, i64 v.id.seq, i64 v.shard, .bool v.yes, i64 v.now, mkS tw] 6 :: plBox bt [vo, vp, .map (some mv), .bool t.decided, .bool t.ok, .map (some md), vn] 7 :: plOps vo t.ops :: plPts vp t.parts :: plGM kdInt dnV md t.done :: plI64s vn t.nows :: plGM kdId (holeP v.id (ptr bt 0) trV) mo d.opn :: plBox b [i64 d.n, .map (some ml), .map (some mo), .map (some mk)] 4 :: plGM kdInt lsV ml d.last :: plGM kdInt anV mk d.kept :: plStrs (mkS tv) v.vals :: L) :=
  Sep.mkVt (s9.re13 [1, 5, 0, 2, 3, 4, 6, 7, 8, 9, 10, 11, 12] rfl)
 obtain ⟨h7, e7, s11⟩ := Sep.insM (D := kdInt) (A := vtV) (k := v.shard) (z := .agg #[(.int .i64 0), (.int .i64 0), (.int .i64 0), (.bool false), (.int .i64 0), (.slice none 0 0)]) s10.up1
 have e7 : mapUpdateD (some (.int, (some (.agg #[(.int .i64 0), (.int .i64 0), (.int .i64 0), (.bool false), (.int .i64 0), (.slice none 0 0)])))) (.map (some mv)) (i64 v.shard) (.agg #[i64 v.id.client, i64 v.id.seq, i64 v.shard, .bool v.yes, i64 v.now, mkS tw]) h6 = some h7 := e7
 rw [e7, kH_some]
 clear s9 s10 t2 v2 e7
 have v3 : h7.rd bv 3 = some (.bool v.yes) := by rw [rd_of (Sep.get s11.up1) 3]; rfl
 have t2 : h7.rd bt 2 = some (.map (some mv)) := by rw [rd_of (Sep.get s11.up2) 2]; rfl
 have ll := Sep.lenM s11
 simp only [v3, kv_some]
 refine vote_full (cs := [vo, vp, .map (some mv), .bool t.decided, .bool t.ok, .map (some md), vn]) rfl rfl (by rw [ti.parts, parts_len]; have := di.hn.2; omega) (s11.re12 [2, 4, 0, 1, 3, 5, 6, 7, 8, 9, 10, 11] rfl) fun h8 s12 => ?_
 clear s11 v3 t2 ll
 have vu1 : v.yes = true → VU { t with votes := ins v.shard v t.votes } := fun hy => by
  refine ⟨nodup_ins vu.nd, fun k' v' hk' => ?_⟩
  rw [lkp_ins] at hk'
  split at hk'
  · rename_i he
    subst he
    cases hk'
    refine ⟨hh, ?_⟩
    rw [hy] at hc
    simpa using hc
  · exact vu.each k' v' hk'
 cases hf : (v.yes && decide ((ins v.shard v t.votes).length < (shardsF t.parts).length)) with
 | true =>
  simp only [ifV_bool, if_true]
  refine ⟨trivial, ?_⟩
  have := back (t' := { t with votes := ins v.shard v t.votes }) (s12.re12 [0, 4, 1, 2, 5, 6, 7, 8, 9, 10, 11] rfl)
  rwa [hdec] at this
 | false =>
 simp only [ifV_bool, Bool.false_eq_true, if_false]
 have v3 : h8.rd bv 3 = some (.bool v.yes) := by rw [rd_of (Sep.get (s12.re4 [3] rfl)) 3]; rfl
 rw [v3, kv_some, st_one s12.get (by simp) rfl rfl (by simp), kH_some]
 have s13 := s12.write (cs' := [vo, vp, .map (some mv), .bool true, .bool t.ok, .map (some md), vn])
 rw [show [vo, vp, .map (some mv), .bool t.decided, .bool t.ok, .map (some md), vn].set 3 (.bool true) = [vo, vp, .map (some mv), .bool true, .bool t.ok, .map (some md), vn] from rfl]
 clear s12 v3
 generalize AHeap.put _ _ _ = h9 at s13 ⊢
 have v3 : h9.rd bv 3 = some (.bool v.yes) := by rw [rd_of (Sep.get (s13.re4 [3] rfl)) 3]; rfl
 refine ⟨v3, ?_⟩
 rw [st_one s13.get (by simp) rfl rfl (by simp), kH_some]
 have s14 := s13.write (cs' := [vo, vp, .map (some mv), .bool true, .bool v.yes, .map (some md), vn])
 rw [show [vo, vp, .map (some mv), .bool true, .bool t.ok, .map (some md), vn].set 4 (.bool v.yes) = [vo, vp, .map (some mv), .bool true, .bool v.yes, .map (some md), vn] from rfl]
 clear s13 v3
 generalize AHeap.put _ _ _ = h10 at s14 ⊢
 rw [ld_agg, rdN_of (Sep.get (s14.re4 [3] rfl))]
 refine kv_of (v := v.id.agg) rfl ?_
 have s15 := Sep.closeTr (t := { t with votes := ins v.shard v t.votes, decided := true, ok := v.yes }) (s14.re12 [0, 4, 1, 2, 5, 6, 8, 10, 7, 9, 11] rfl)
 clear s14
 have vi : v.yes = true → VtInv { t with votes := ins v.shard v t.votes, decided := true, ok := v.yes } := fun hy => by
  have h1 := (vu1 hy).full (by
   rw [hy] at hf
   simpa using hf)
  exact ⟨h1.each, h1.all⟩
 refine cl_then (desk_keep v.id di.hn (t := { t with votes := ins v.shard v t.votes, decided := true, ok := v.yes }) ⟨ti.all, ti.parts⟩ vi (by have := dv.kept v.id.client; omega) s15) ?_
 intro r h11 s16
 refine ⟨trivial, ?_⟩
 have s17 := Sep.backM (A := trV) (k := v.id) (v := ptr bt 0) (s16.re6 [0, 3, 1, 2, 4, 5] rfl) ht
 exact Sep.closeDsk (d := { d with opn := ins v.id _ d.opn, kept := ins v.id.client _ d.kept }) (s17.re5 [1, 3, 0, 2, 4] rfl)
end Go.Abs
namespace Go.Abs
open Go Go.Proofs
variable {E : FE} {h : AHeap}
theorem begun15_spec : cl (Go.Abs.F.estafettelaw15_begun E) [] h fun r h' => r = .bool true ∧ h' = h := cl_of ⟨rfl, rfl, rfl⟩
end Go.Abs
namespace Go.Abs
open Go Go.Proofs
variable {E : FE} {F : Fr} {h : AHeap} {L : List Pl}
theorem mod_up (x : Int) {d : Int} (hd : 0 < d ∧ d < 1000000) : ∃ n : Int, (0 ≤ n ∧ n < d) ∧ ∀ {h : AHeap} {X : V → Prop}, X (i64 n) →
 kv (binD .bad .rem true (i64 x) (.int .i64 d) h) fun v17 => kv (binD .bad .add true v17 (.int .i64 d) h) fun v18 => kv (binD .bad .rem true v18 (.int .i64 d) h) X := by
 have h1 := Int.tmod_lt_of_pos x hd.1
 have h2 : -d < x.tmod d := Int.lt_tmod_of_pos x hd.1
 have h3 : 0 ≤ (x.tmod d + d).tmod d := Int.tmod_nonneg _ (by omega)
 have h4 := Int.tmod_lt_of_pos (x.tmod d + d) hd.1
 refine ⟨(x.tmod d + d).tmod d, ⟨h3, h4⟩, fun {h X} hX => ?_⟩
 rw [bin_rem, if_neg (by omega), kv_some, add_i64 _ _ (by omega) (by omega), kv_some, bin_rem, if_neg (by omega), kv_some]
 exact hX
abbrev opAK : Oq := ⟨3, ⟨#[97]⟩, ⟨#[107]⟩, ⟨#[]⟩, 0⟩
end Go.Abs
namespace Go.Abs
open Go Go.Proofs
variable {E : FE} {F : Fr} {h : AHeap} {L : List Pl}
structure DkE (E : FE) : Prop where
 op : OpE E
 nord : ∃ E1 : FE, E.I (E.k 10) = some (cl (Go.Abs.F.name_order E1))
theorem DkE.sort (de : DkE E) : SortOk E 12 := fun h fp v l s hl => by
 obtain ⟨E1, hE1⟩ := de.nord
 exact sort_id de.op.mono ordI_ord s (cmp_id hE1) hl
/-! ### One client, one operation each -/
theorem parts1 : partsF [opAK] 1 = [[0]] := by
 unfold partsF
 simp [addP, Nat.mod_one]
def yesF (l : List Bool) (i : Nat) : Bool := decide (l.length ≤ i) || l.getD i false
def voteK (l : List Bool) (i : Nat) : VoteM := ⟨⟨3, (i : Int)⟩, 0, yesF l i, 0, if yesF l i then [⟨#[45]⟩] else []⟩
structure KInv (l : List Bool) (m : Nat) (d : DeskM) : Prop where
 n : d.n = ((1 : Nat) : Int)
 opn : d.opn = []
 last : (lkp 3 d.last).getD 0 = (m : Int)
 last2 : lkp 2 d.last = none
 kept2 : lkp 2 d.kept = none
 other : ∀ c, c ≠ 3 → lkp c d.kept = none
 kept : ((lkp 3 d.kept).getD []).map (fun a => (a.id, a.err)) = ((List.range m).drop (m - 8)).map fun j : Nat => ((⟨3, (j : Int) + 1⟩ : IdM), if yesF l (j + 1) then (0 : Int) else 4)
 vals : ∀ a ∈ (lkp 3 d.kept).getD [], a.vals.length ≤ 1
variable {l : List Bool} {m : Nat} {d : DeskM}
theorem KInv.len (k : KInv l m d) : ((lkp 3 d.kept).getD []).length ≤ 8 := by
 have := congrArg List.length k.kept
 simp only [List.length_map, List.length_drop, List.length_range] at this
 omega
theorem KInv.di (k : KInv l m d) : DInv 1 d := ⟨k.n, by omega, fun id t ht => by rw [k.opn] at ht; cases ht⟩
theorem KInv.keptLe (k : KInv l m d) (c : Int) : ((lkp c d.kept).getD []).length ≤ 8 := by
 by_cases hc : c = 3
 · subst hc; exact k.len
 · rw [k.other c hc]; simp
def dB (d : DeskM) (m : Nat) : DeskM := { d with last := ins 3 ((m : Int) + 1) d.last, opn := [(⟨3, (m : Int) + 1⟩, newTr [opAK] 1)] }
theorem KInv.begin (k : KInv l m d) (hm : m ≤ 20) : beginV d ⟨3, (m : Int) + 1⟩ [opAK] = (true, dB d m) := by
 unfold beginV
 have h1 : clientB ⟨3, (m : Int) + 1⟩ = true := by
  unfold clientB
  simp only [Bool.and_eq_true, decide_eq_true_eq]
  omega
 have h2 : allO [opAK] = true := get_ak
 have h3 : decide ((lkp 3 d.last).getD 0 < (m : Int) + 1) = true := by rw [k.last]; exact decide_eq_true (by omega)
 simp only [h1, h2, h3, Bool.and_self, if_true, k.opn, k.n]
 simp [dB, ins, k.n]
def tV (l : List Bool) (m : Nat) : TransM := { newTr [opAK] 1 with votes := [(0, voteK l (m + 1))], decided := true, ok := yesF l (m + 1) }
def dV (l : List Bool) (d : DeskM) (m : Nat) : DeskM := { dB d m with
 opn := [(⟨3, (m : Int) + 1⟩, { tV l m with nows := nowsOf 1 (tV l m) })]
 kept := ins 3 (keptL ((lkp 3 d.kept).getD []) (ansOf 1 ⟨3, (m : Int) + 1⟩ (tV l m))) d.kept }
theorem voteK_id : (voteK l (m + 1)).id = ⟨3, (m : Int) + 1⟩ := by simp [voteK]
theorem hasF1 : hasF [[0]] 0 = true := by decide
theorem shards1 : (shardsF [[0]]).length = 1 := by decide
theorem KInv.vote (k : KInv l m d) : voteV 1 (dB d m) (voteK l (m + 1)) = (true, dV l d m) := by
 have e : lkp (voteK l (m + 1)).id (dB d m).opn = some (newTr [opAK] 1) := by
  rw [voteK_id]
  simp [dB, lkp]
 unfold voteV
 rw [e]
 simp only [newTr, parts1]
 have h1 : hasF [[0]] (voteK l (m + 1)).shard = true := hasF1
 have h2 : lkp (voteK l (m + 1)).shard ([] : List (Int × VoteM)) = none := rfl
 have h3 : ((voteK l (m + 1)).yes && decide ((voteK l (m + 1)).vals.length ≠ (([[0]] : List (List Int)).getD (voteK l (m + 1)).shard.toNat []).length)) = false := by
  unfold voteK
  cases yesF l (m + 1) <;> rfl
 have h4 : ((voteK l (m + 1)).yes && decide ((ins (voteK l (m + 1)).shard (voteK l (m + 1)) ([] : List (Int × VoteM))).length < (shardsF [[0]]).length)) = false := by
  rw [shards1]
  simp [ins]
 rw [h1, h2, h3, h4]
 simp only [Bool.not_true, Option.isSome_none, Bool.or_self, Bool.false_eq_true, if_false, voteK_id]
 simp [dV, dB, tV, newTr, ins, voteK, parts1]
def dD (l : List Bool) (d : DeskM) (m : Nat) : DeskM := { dV l d m with opn := [] }
theorem KInv.done (k : KInv l m d) : doneV (dV l d m) ⟨3, (m : Int) + 1⟩ 0 = (true, dD l d m) := by
 have e : lkp ⟨3, (m : Int) + 1⟩ (dV l d m).opn = some { tV l m with nows := nowsOf 1 (tV l m) } := by
  simp [dV, lkp]
 unfold doneV
 rw [e]
 have h1 : hasF (tV l m).parts 0 = true := by show hasF (partsF [opAK] 1) 0 = true; rw [parts1]; exact hasF1
 have h2 : (ins 0 () (tV l m).done).length = (shardsF (tV l m).parts).length := by show 1 = (shardsF (partsF [opAK] 1)).length; rw [parts1]; exact shards1.symm
 have h3 : (lkp (0 : Int) (tV l m).done).isSome = false := rfl
 have h4 : (tV l m).decided = true := rfl
 simp only [h1, h2, h3, h4, Bool.not_false, Bool.and_self, if_true]
 simp [dD, dV, rmv]
theorem drop_next {α : Type} {g : Nat → α} (m : Nat) : ((((List.range m).drop (m - 8)).map g ++ [g m]).drop ((m - (m - 8) + 1) - 8)) = ((List.range (m + 1)).drop (m + 1 - 8)).map g := by
 have h1 : ((List.range m).drop (m - 8)).map g ++ [g m] = ((List.range (m + 1)).drop (m - 8)).map g := by
  rw [List.range_succ, List.drop_append_of_le_length (by simp), List.map_append]
  rfl
 rw [h1, ← List.map_drop, List.drop_drop]
 congr 2
 omega
theorem KInv.next (k : KInv l m d) : KInv l (m + 1) (dD l d m) := by
 have hk : (lkp 3 (dD l d m).kept).getD [] = keptL ((lkp 3 d.kept).getD []) (ansOf 1 ⟨3, (m : Int) + 1⟩ (tV l m)) := by
  show (lkp 3 (ins 3 _ d.kept)).getD [] = _
  rw [lkp_ins, if_pos rfl]
  rfl
 have ha : (ansOf 1 ⟨3, (m : Int) + 1⟩ (tV l m)).id = ⟨3, (m : Int) + 1⟩ ∧ (ansOf 1 ⟨3, (m : Int) + 1⟩ (tV l m)).err = if yesF l (m + 1) then 0 else 4 := by
  unfold ansOf
  rw [show (tV l m).ok = yesF l (m + 1) from rfl]
  by_cases hy : yesF l (m + 1) = true <;> simp [hy]
 refine ⟨k.n, rfl, ?_, ?_, ?_, fun c hc => ?_, ?_, fun a haa => ?_⟩
 · show (lkp 3 (ins 3 ((m : Int) + 1) d.last)).getD 0 = _
   rw [lkp_ins, if_pos rfl]
   simp
 · show lkp 2 (ins 3 ((m : Int) + 1) d.last) = none
   rw [lkp_ins, if_neg (by decide)]
   exact k.last2
 · show lkp 2 (ins 3 _ d.kept) = none
   rw [lkp_ins, if_neg (by decide)]
   exact k.kept2
 · show lkp c (ins 3 _ d.kept) = none
   rw [lkp_ins, if_neg (fun e => hc e.symm)]
   exact k.other c hc
 · rw [hk]
   have hl : ((lkp 3 d.kept).getD []).length = m - (m - 8) := by
    have := congrArg List.length k.kept
    simpa only [List.length_map, List.length_drop, List.length_range] using this
   unfold keptL
   rw [List.map_drop, List.map_append, k.kept, List.length_append, hl, List.length_singleton, List.map_singleton, ha.1, ha.2]
   exact drop_next (g := fun j : Nat => ((⟨3, (j : Int) + 1⟩ : IdM), if yesF l (j + 1) then (0 : Int) else 4)) m
 · rw [hk] at haa
   unfold keptL at haa
   rcases List.mem_append.1 (List.mem_of_mem_drop haa) with h1 | h1
   · exact k.vals a h1
   · rw [List.mem_singleton.1 h1]
     unfold ansOf
     split
     · show (valsF [opAK] 1 _).length ≤ 1
       simp [valsF]
     · simp
theorem KInv.answer (k : KInv l m d) (hm : m ≤ 20) {i : Nat} (hi : 1 ≤ i ∧ i ≤ m + 1) :
 (answerV d ⟨3, (i : Int)⟩).2 = decide (i ≤ m) ∧ (i ≤ m → (answerV d ⟨3, (i : Int)⟩).1.err = if i + 8 ≤ m then 5 else if yesF l i then 0 else 4) := by
 unfold answerV
 have hs : staleV d ⟨3, (i : Int)⟩ = decide (i ≤ m) := by
  unfold staleV
  have h1 : clientB ⟨3, (i : Int)⟩ = true := by
   unfold clientB
   simp only [Bool.and_eq_true, decide_eq_true_eq]
   omega
  rw [h1, k.last, k.opn]
  by_cases hx : i ≤ m
  · have : (i : Int) ≤ (m : Int) := by omega
    simp [hx, this, lkp]
  · have : ¬ (i : Int) ≤ (m : Int) := by omega
    simp [hx, this, lkp]
 have mem : ∀ j : Nat, j ∈ (List.range m).drop (m - 8) ↔ m - 8 ≤ j ∧ j < m := by
  intro j
  rw [List.mem_iff_getElem?]
  constructor
  · rintro ⟨x, hx⟩
    rw [List.getElem?_drop, List.getElem?_eq_some_iff] at hx
    obtain ⟨h1, h2⟩ := hx
    simp at h1 h2
    omega
  · rintro ⟨h1, h2⟩
    refine ⟨j - (m - 8), ?_⟩
    rw [List.getElem?_drop, show m - 8 + (j - (m - 8)) = j by omega, List.getElem?_range h2]
 cases hf : ((lkp (⟨3, (i : Int)⟩ : IdM).client d.kept).getD []).find? (fun a => decide (a.id = ⟨3, (i : Int)⟩)) with
 | some a =>
  have h1 := List.mem_of_find?_eq_some hf
  have h2 : a.id = ⟨3, (i : Int)⟩ := by simpa using List.find?_some hf
  have h3 : (a.id, a.err) ∈ ((lkp 3 d.kept).getD []).map (fun a => (a.id, a.err)) := List.mem_map.2 ⟨a, h1, rfl⟩
  rw [k.kept] at h3
  obtain ⟨j, hj, he⟩ := List.mem_map.1 h3
  rw [mem j] at hj
  simp only [Prod.mk.injEq] at he
  rw [h2] at he
  have hij : (j : Int) + 1 = i := by
   have := congrArg IdM.seq he.1
   exact this
  have hji : j + 1 = i := by omega
  subst hji
  refine ⟨(decide_eq_true (by omega)).symm, fun _ => ?_⟩
  rw [if_neg (show ¬ (j + 1 + 8 ≤ m) by omega), ← he.2]
 | none =>
  have hno : ¬ (m - 8 < i ∧ i ≤ m) := by
   rintro ⟨h1, h2⟩
   have h3 : ((⟨3, ((i - 1 : Nat) : Int) + 1⟩ : IdM), if yesF l (i - 1 + 1) then (0 : Int) else 4) ∈ ((lkp 3 d.kept).getD []).map (fun a => (a.id, a.err)) := by
    rw [k.kept]
    exact List.mem_map.2 ⟨i - 1, (mem _).2 (by omega), rfl⟩
   obtain ⟨a, ha, he⟩ := List.mem_map.1 h3
   have h4 := List.find?_eq_none.1 hf a ha
   simp only [Prod.mk.injEq] at he
   refine h4 (decide_eq_true ?_)
   rw [he.1]
   congr 1
   omega
  rw [hs]
  by_cases hx : i ≤ m
  · simp only [hx, decide_true, if_true]
    refine ⟨trivial, fun _ => ?_⟩
    rw [if_pos (by omega)]
  · simp only [hx, decide_false, Bool.false_eq_true, if_false]
    exact ⟨trivial, fun h => absurd h (by simp)⟩
end Go.Abs
namespace Go.Abs
open Go Go.RowKit
def AllRo (h : AHeap) : Prop := ∀ b o, h.get b = some o → o.isRo
structure More (r : Ren) (h : AHeap) (r' : Ren) (h' : AHeap) : Prop where
 ren : r.le r'
 next : h.next ≤ h'.next
 get : ∀ b, b < h.next → h'.get b = h.get b
theorem Ro.more {r r' : Ren} {h h' : AHeap} {v : V} {es n : Nat} {cs : List V} (m : More r h r' h') (s : Ro h.next h v es n cs) : Ro h'.next h' v es n cs := by
 obtain ⟨h0, h1, ⟨rfl, rfl⟩ | ⟨b, o, c, all, rfl, hb, hc, hg, ha⟩⟩ := s
 · exact ⟨h0, Nat.le_refl _, .inl ⟨rfl, rfl⟩⟩
 · exact ⟨h0, Nat.le_refl _, .inr ⟨b, o, c, all, rfl, Nat.lt_of_lt_of_le hb m.next, hc, by rw [m.get b hb, hg], ha⟩⟩
theorem R.addSlice {J : World → Prop} {W : World} {r : Ren} {h : AHeap} (hR : R J W.heap.size r h W) (hro : AllRo h) {a : Addr} {len cap es : Nat} (hs : a.spot = none) {cc : Array V} {el : TypeId} {fr : Nat × Nat}
 (hb : W.heap[a.block]? = some (.cells cc el fr)) (hsz : a.off + cap * es ≤ cc.size) (hlc : len ≤ cap) {cs : List V} (hcs : cs.length = len * es) (hc : ∀ j, j < len * es → cc[a.off + j]? = cs[j]?) (hcl : ∀ v ∈ cs, closedV v = true) :
 ∃ r' h' v, R J W.heap.size r' h' W ∧ VR r' v (.slice (some a) len cap) ∧ Ro h'.next h' v es len cs ∧ More r h r' h' := by
 obtain ⟨blk, off, spot⟩ := a
 simp only at hs hb hsz hc
 subst hs
 have hlt : blk < W.heap.size := (Array.getElem?_eq_some_iff.1 hb).1
 have hm : len * es ≤ cap * es := Nat.mul_le_mul_right _ hlc
 have hle := hR.le_upd ⟨blk, cc.size, es, 0⟩
 have old : ∀ b o1, (h.new (.cells (List.replicate off junk ++ cs) es .ro)).get b = some o1 → (b = h.next ∧ o1 = .cells (List.replicate off junk ++ cs) es .ro) ∨ (b ≠ h.next ∧ h.get b = some o1) := by
  intro b o1 hb
  by_cases e : b = h.next
  · subst e; simp [AHeap.new] at hb; exact .inl ⟨rfl, hb.symm⟩
  · exact .inr ⟨e, by simpa [AHeap.new, e] using hb⟩
 refine ⟨r.upd h.next ⟨blk, cc.size, es, 0⟩, h.new (.cells (List.replicate off junk ++ cs) es .ro), .slice (some ⟨h.next, off, none⟩) len (2 * len + 1), ?_, ?_, ?_, hle, Nat.le_succ _, fun b hb => ?_⟩
 · refine ⟨Nat.le_refl _, ?_, ?_, ?_, hR.inv⟩
   · intro b t' hb
     by_cases e : b = h.next
     · subst e; rw [Ren.upd_same] at hb; cases hb; exact ⟨hlt, by simp [AHeap.new]⟩
     · rw [Ren.upd_ne _ _ e] at hb
       have := hR.lt b t' hb
       refine ⟨this.1, ?_⟩
       simp [AHeap.new]; omega
   · intro b o1 hb1
     rcases old b o1 hb1 with ⟨rfl, rfl⟩ | ⟨e, hb'⟩
     · refine ⟨_, Ren.upd_same _ _ _, rfl, ⟨cc, el, fr, hb, rfl, by simp; omega, fun i h1 h2 => ?_, fun hk => absurd rfl hk, fun hk => by cases hk⟩, fun hk => absurd rfl hk, fun _ => rfl⟩
       have h2 : i < cc.size := h2
       show VR _ _ cc[i]
       rw [List.getElem_append]
       split
       · rw [List.getElem_replicate]; exact .junk _
       · rename_i hi
         simp only [List.length_replicate] at hi
         have hj : i - off < cs.length := by simp at h1; omega
         have := hc (i - off) (by omega)
         rw [show off + (i - off) = i by omega, Array.getElem?_eq_getElem h2, List.getElem?_eq_getElem hj, Option.some.injEq] at this
         simp only [List.length_replicate]
         rw [this]
         exact VR.closed (hcl _ (List.getElem_mem _))
     · obtain ⟨t', h3, h4⟩ := hR.live b o1 hb'
       exact ⟨t', hle _ _ h3, h4.mono hle⟩
   · intro b b' o1 o1' t1 t1' hb hb' g1 g1' e
     rcases old b o1 hb with ⟨rfl, rfl⟩ | ⟨e1, hb⟩ <;> rcases old b' o1' hb' with ⟨rfl, rfl⟩ | ⟨e2, hb'⟩
     · exact .inl rfl
     · exact .inr ⟨⟨_, _, rfl⟩, hro _ _ hb'⟩
     · exact .inr ⟨hro _ _ hb, _, _, rfl⟩
     · rw [Ren.upd_ne _ _ e1] at g1; rw [Ren.upd_ne _ _ e2] at g1'
       exact hR.inj b b' o1 o1' t1 t1' hb hb' g1 g1' e
 · exact VR.slice (b := h.next) (o := off) (n := len) (c := 2 * len + 1) (c' := cap) (t := ⟨blk, cc.size, es, 0⟩) (Ren.upd_same _ _ _) ⟨by omega, fun he => by omega⟩ (by omega) hsz
 · refine ⟨hcs, Nat.le_refl _, .inr ⟨h.next, off, 2 * len + 1, List.replicate off junk ++ cs, rfl, by simp [AHeap.new], by omega, by simp [AHeap.new], ?_⟩⟩
   rw [List.drop_append, List.drop_of_length_le (by simp)]
   simp [← hcs]
 · have : b ≠ h.next := by omega
   simp [AHeap.new, this]
theorem More.refl (r : Ren) (h : AHeap) : More r h r h := ⟨Ren.le_refl r, Nat.le_refl _, fun _ _ => rfl⟩
theorem open_i64s {H : Type} {enc : TypeId × Value → H} {P : Program} {J : World → Prop} {W : World} {held : Bool} {base : Nat} {t e : TypeId} {v : V} {d : DataW H} {p : List MemPlace}
 (ht : P.underlying t = some (.slice e)) (he : P.underlying e = some (.int .i64)) (ce : P.cellsOf e = 1) {r : Ren} {h : AHeap} (hR : R J W.heap.size r h W) (hro : AllRo h)
 (hval : Value.okWide P W .any base t v) (hd : DataW.Trod enc P W 0 (fun _ => true) held t v d p) :
 ∃ (l : List Int) (r' : Ren) (h' : AHeap) (v' : V), R J W.heap.size r' h' W ∧ VR r' v' v ∧ Ints h'.next h' v' l ∧ More r h r' h' := by
 obtain ⟨fuel, hd⟩ := hd
 obtain ⟨a, len, cap, rfl⟩ := WideShapes.okWide_slice ht hval
 rcases Deep.open_slice ht hd with ⟨h1, _⟩ | ⟨a', len', cap', m, n, D, Pl, h1, _, hlc, hcap, hm, hx, hr⟩
 · simp only [Value.cells, List.cons.injEq, Value.slice.injEq, and_true] at h1
   obtain ⟨rfl, rfl, rfl⟩ := h1
   exact ⟨[], r, h, .slice none 0 0, hR, .sliceNil, ⟨rfl, Nat.le_refl _, .inl ⟨rfl, rfl⟩⟩, More.refl r h⟩
 · simp only [Value.cells, List.cons.injEq, Value.slice.injEq, and_true] at h1
   obtain ⟨h11, h12, h13⟩ := h1
   subst h11
   simp only [if_true] at hm
   rw [← h12, ← h13] at hlc
   rw [← h13] at hcap hm
   rw [hm] at hr
   clear h12 h13 hm hx
   obtain ⟨hs, cc, el, fr, hb, ho⟩ := okWide_slice_at ht hval
   rw [ce] at hr
   have hadd : ∀ k, a'.add k = ⟨a'.block, a'.off + k, none⟩ := by
    intro k
    obtain ⟨bb, oo, ss⟩ := a'
    simp only at hs
    subst hs
    exact addr_add _ _ _
   have each : ∀ i, i < cap → ∃ x : Int, cc[a'.off + i]? = some (i64 x) := by
    intro i hi
    obtain ⟨cs', h2, h3⟩ := hr i hi
    obtain ⟨h5, _, h4⟩ := World.cells?_some h2
    obtain ⟨c0, rfl⟩ : ∃ c0, cs' = [c0] := by
     match cs', h5 with
     | [c0], _ => exact ⟨c0, rfl⟩
    obtain ⟨x, h6, _⟩ := DataW.trod_int he h3
    simp only [List.cons.injEq, and_true] at h6
    have h7 := h4 0 (by decide)
    refine ⟨x, ?_⟩
    rw [hadd, addr_add, cell_of_block hb, Nat.add_zero, Nat.mul_one] at h7
    rw [h7, h6]
    rfl
   have hsz : a'.off + cap * 1 ≤ cc.size := by
    by_cases hc0 : cap = 0
    · omega
    · obtain ⟨x, h5⟩ := each (cap - 1) (by omega)
      have := (Array.getElem?_eq_some_iff.1 h5).1
      omega
   obtain ⟨X, hX⟩ := Deep.choose_lt (n := len) (p := fun i (x : Int) => cc[a'.off + i]? = some (i64 x)) fun i hi => each i (by omega)
   have hc1 : (((List.range len).map X).map i64).length = len * 1 := by simp
   have hc2 : ∀ j, j < len * 1 → cc[a'.off + j]? = (((List.range len).map X).map i64)[j]? := by
    intro j hj
    rw [hX j (by omega)]
    simp [show j < len by omega]
   have hc3 : ∀ u ∈ ((List.range len).map X).map i64, closedV u = true := by
    intro u hu
    obtain ⟨s, _, rfl⟩ := List.mem_map.1 hu
    rfl
   obtain ⟨r', h', v', hR', hv, hro', hm⟩ := R.addSlice hR hro (es := 1) hs hb hsz hlc hc1 hc2 hc3
   refine ⟨(List.range len).map X, r', h', v', hR', hv, ?_, hm⟩
   unfold Ints
   rw [List.length_map, List.length_range]
   exact hro'
end Go.Abs
namespace Go.Abs
open Go Go.RowKit
theorem R.start {J : World → Prop} {W : World} (hJ : J W) : ∃ r h, R J W.heap.size r h W := by
 obtain ⟨r, h, _, hR, _, _⟩ := R.ofNil (W := W) hJ 1
 exact ⟨r, h, hR⟩
def AHeap.ros (h : AHeap) : AHeap := ⟨fun x => match h.get x with | some (.cells c e .ro) => some (.cells c e .ro) | _ => none, h.next⟩
theorem ros_get {h : AHeap} {b : Nat} {o : AObj} (hb : h.ros.get b = some o) : ∃ c e, h.get b = some (.cells c e .ro) ∧ o = .cells c e .ro := by
 simp only [AHeap.ros] at hb
 split at hb
 · rename_i c e he
   cases hb
   exact ⟨c, e, he, rfl⟩
 · cases hb
theorem R.roOnly {J : World → Prop} {B : Nat} {r : Ren} {h : AHeap} {W : World} (hR : R J B r h W) : R J B r h.ros W ∧ AllRo h.ros :=
 ⟨hR.sub ⟨Nat.le_refl _, fun b o hb => by
  obtain ⟨c, e, h1, rfl⟩ := ros_get hb
  exact h1⟩, fun b o hb => by
  obtain ⟨c, e, _, rfl⟩ := ros_get hb
  exact ⟨_, _, rfl⟩⟩
theorem Ro.ros {N : Nat} {h : AHeap} {v : V} {es n : Nat} {cs : List V} (s : Ro N h v es n cs) : Ro N h.ros v es n cs := by
 obtain ⟨h0, h1, ⟨rfl, rfl⟩ | ⟨b, o, c, all, rfl, hb, hc, hg, ha⟩⟩ := s
 · exact ⟨h0, h1, .inl ⟨rfl, rfl⟩⟩
 · exact ⟨h0, h1, .inr ⟨b, o, c, all, rfl, hb, hc, by simp only [AHeap.ros, hg], ha⟩⟩
theorem oq_space {H : Type} {enc : TypeId × Value → H} {P : Program} {w : World} {base : Nat} {spare : Nat → Bool} {held : Bool} {fuel : Nat} {e : TypeId} {fs : Array Field} {cs : List V} {x : DataW H × List MemPlace}
 (he : P.underlying e = some (.struct fs)) (ce : P.cellsOf e = 5) (hf : ∀ i, i < 5 → ∃ f, fs[i]? = some f ∧ f.offset = i ∧ P.cellsOf f.type = 1 ∧ P.underlying f.type = some (qField i)) (hn : fs.size = 5)
 (h : DataW.trod enc P w base spare held fuel e cs = some x) {o : Oq} (ho : cs = o.cells) : o.space.size ≤ maxLen := by
 obtain ⟨xs, n, _, hx1, hl, hxs, hr⟩ := DataW.trod_struct he h
 obtain ⟨f, h1, h2, h3, h4⟩ := hf 1 (by decide)
 have h5 := hr 1 f h1
 rw [h2, h3] at h5
 have h6 : (cs.drop 1).take 1 = [str o.space] := by rw [ho]; rfl
 rw [h6] at h5
 rw [ce] at hl
 have hxi : 1 < xs.length := by omega
 rw [List.getElem?_eq_getElem hxi] at h5
 obtain ⟨m, h7, _, h8⟩ := DataW.trod_string (show P.underlying f.type = some .string from h4) h5
 simp only [List.cons.injEq, Value.string.injEq, and_true] at h7
 rw [h7]
 exact h8
theorem open_opsX {H : Type} {enc : TypeId × Value → H} {P : Program} {J : World → Prop} {W : World} {held : Bool} {base : Nat} {t e : TypeId} {fs : Array Field} {v : V} {d : DataW H} {p : List MemPlace}
 (ht : P.underlying t = some (.slice e)) (he : P.underlying e = some (.struct fs)) (ce : P.cellsOf e = 5) (hf : ∀ i, i < 5 → ∃ f, fs[i]? = some f ∧ f.offset = i ∧ P.cellsOf f.type = 1 ∧ P.underlying f.type = some (qField i)) (hn : fs.size = 5)
 {r : Ren} {h : AHeap} (hR : R J W.heap.size r h W) (hval : Value.okWide P W .any base t v) (hd : DataW.Trod enc P W 0 (fun _ => true) held t v d p) :
 ∃ (l : List Oq) (r' : Ren) (h' : AHeap) (v' : V), R J W.heap.size r' h' W ∧ VR r' v' v ∧ Oqs h'.next h' v' l ∧ More r h.ros r' h' ∧ ∀ o ∈ l, o.space.size ≤ maxLen := by
 obtain ⟨hR0, hro⟩ := hR.roOnly
 obtain ⟨fuel, hd⟩ := hd
 obtain ⟨a, len, cap, rfl⟩ := WideShapes.okWide_slice ht hval
 rcases Deep.open_slice ht hd with ⟨h1, _⟩ | ⟨a', len', cap', m, n, D, Pl, h1, _, hlc, hcap, hm, hx, hr⟩
 · simp only [Value.cells, List.cons.injEq, Value.slice.injEq, and_true] at h1
   obtain ⟨rfl, rfl, rfl⟩ := h1
   exact ⟨[], r, h.ros, .slice none 0 0, hR0, .sliceNil, ⟨rfl, Nat.le_refl _, .inl ⟨rfl, rfl⟩⟩, More.refl r h.ros, by simp⟩
 · simp only [Value.cells, List.cons.injEq, Value.slice.injEq, and_true] at h1
   obtain ⟨h11, h12, h13⟩ := h1
   subst h11
   simp only [if_true] at hm
   rw [← h12, ← h13] at hlc
   rw [← h13] at hcap hm
   rw [hm] at hr
   clear h12 h13 hm hx
   obtain ⟨hs, cc, el, fr, hb, ho⟩ := okWide_slice_at ht hval
   rw [ce] at hr
   have hadd : ∀ k, a'.add k = ⟨a'.block, a'.off + k, none⟩ := by
    intro k
    obtain ⟨bb, oo, ss⟩ := a'
    simp only at hs
    subst hs
    exact addr_add _ _ _
   have each : ∀ i, i < cap → ∃ o : Oq, (∀ j, j < 5 → cc[a'.off + (i * 5 + j)]? = o.cells[j]?) ∧ o.space.size ≤ maxLen := by
    intro i hi
    obtain ⟨cs', h2, h3⟩ := hr i hi
    obtain ⟨o, hoc, _, hz⟩ := open_oq he ce hf hn h3
    have hsp := oq_space he ce hf hn h3 hoc
    subst hoc
    obtain ⟨_, _, h4⟩ := World.cells?_some h2
    refine ⟨o, fun j hj => ?_, hsp⟩
    rw [← h4 j hj, hadd, addr_add]
    rw [cell_of_block hb, Nat.add_assoc]
   have hsz : a'.off + cap * 5 ≤ cc.size := by
    by_cases hc0 : cap = 0
    · omega
    · obtain ⟨o, h5, _⟩ := each (cap - 1) (by omega)
      have h6 := h5 4 (by decide)
      have h7 : o.cells[4]? = some (i64 o.n) := rfl
      rw [h7] at h6
      have := (Array.getElem?_eq_some_iff.1 h6).1
      omega
   obtain ⟨O, hO⟩ := Deep.choose_lt (n := len) (p := fun i (o : Oq) => (∀ j, j < 5 → cc[a'.off + (i * 5 + j)]? = o.cells[j]?) ∧ o.space.size ≤ maxLen) fun i hi => each i (by omega)
   have hlen : ∀ l : List Oq, (l.flatMap Oq.cells).length = l.length * 5 := by
    intro l
    induction l with
    | nil => rfl
    | cons o l ih => simp [List.flatMap_cons, ih, Oq.cells]; omega
   have hc1 : (((List.range len).map O).flatMap Oq.cells).length = len * 5 := by rw [hlen, List.length_map, List.length_range]
   have hc2 : ∀ j, j < len * 5 → cc[a'.off + j]? = (((List.range len).map O).flatMap Oq.cells)[j]? := by
    intro j hj
    have h1 : j / 5 < len := by omega
    have h2 := oqs_cells ((List.range len).map O) (j / 5) (O (j / 5)) (by simp [h1]) (j % 5) (by omega)
    rw [show j / 5 * 5 + j % 5 = j by omega] at h2
    rw [h2, ← (hO (j / 5) h1).1 (j % 5) (by omega), show j / 5 * 5 + j % 5 = j by omega]
   have hc3 : ∀ u ∈ ((List.range len).map O).flatMap Oq.cells, closedV u = true := by
    intro u hu
    simp only [List.mem_flatMap] at hu
    obtain ⟨o, _, hu⟩ := hu
    simp only [Oq.cells, List.mem_cons, List.not_mem_nil, or_false] at hu
    rcases hu with rfl | rfl | rfl | rfl | rfl <;> rfl
   obtain ⟨r', h', v', hR', hv, hro', hm⟩ := R.addSlice hR0 hro (es := 5) hs hb hsz hlc hc1 hc2 hc3
   refine ⟨(List.range len).map O, r', h', v', hR', hv, ?_, hm, fun o ho => ?_⟩
   · unfold Oqs
     rw [List.length_map, List.length_range]
     exact hro'
   · obtain ⟨i, hi, rfl⟩ := List.mem_map.1 ho
     exact (hO i (by simpa using hi)).2
theorem open_intsX {H : Type} {enc : TypeId × Value → H} {P : Program} {J : World → Prop} {W : World} {held : Bool} {base : Nat} {t e : TypeId} {v : V} {d : DataW H} {p : List MemPlace}
 (ht : P.underlying t = some (.slice e)) (he : P.underlying e = some (.int .i64)) (ce : P.cellsOf e = 1) {r : Ren} {h : AHeap} (hR : R J W.heap.size r h W)
 (hval : Value.okWide P W .any base t v) (hd : DataW.Trod enc P W 0 (fun _ => true) held t v d p) :
 ∃ (l : List Int) (r' : Ren) (h' : AHeap) (v' : V), R J W.heap.size r' h' W ∧ VR r' v' v ∧ Ints h'.next h' v' l ∧ More r h.ros r' h' :=
 have h1 := hR.roOnly
 open_i64s ht he ce h1.1 h1.2 hval hd
theorem Ro.on {r r' : Ren} {h h' : AHeap} {v : V} {es n : Nat} {cs : List V} (m : More r h.ros r' h') (s : Ro h.next h v es n cs) : Ro h'.next h' v es n cs := Ro.more (h := h.ros) m (Ro.ros (h := h) s)
end Go.Abs
namespace Go.Abs
open Go Go.RowKit
def Bls (N : Nat) (h : AHeap) (v : V) (l : List Bool) : Prop := Ro N h v 1 l.length (l.map Value.bool)
theorem Bls.row {h : AHeap} {N : Nat} {v : V} {l : List Bool} (s : Bls N h v l) {i : Nat} {x : Bool} (hi : l[i]? = some x) : ∃ b off, indexAddrD (.slice 1) v (i64 i) = some (ptr b off) ∧ h.rd b off = some (.bool x) := by
 obtain ⟨hlt, hx⟩ := List.getElem?_eq_some_iff.1 hi
 obtain ⟨b, off, e, hr⟩ := Ro.at s hlt
 refine ⟨b, off, e, ?_⟩
 have := hr 0 (by decide)
 rw [Nat.add_zero] at this
 rw [this]
 simp [hi]
theorem open_bools0 {H : Type} {enc : TypeId × Value → H} {P : Program} {J : World → Prop} {W : World} {held : Bool} {base : Nat} {t e : TypeId} {v : V} {d : DataW H} {p : List MemPlace}
 (ht : P.underlying t = some (.slice e)) (he : P.underlying e = some .bool) (ce : P.cellsOf e = 1) {r : Ren} {h : AHeap} (hR : R J W.heap.size r h W) (hro : AllRo h)
 (hval : Value.okWide P W .any base t v) (hd : DataW.Trod enc P W 0 (fun _ => true) held t v d p) :
 ∃ (l : List Bool) (r' : Ren) (h' : AHeap) (v' : V), R J W.heap.size r' h' W ∧ VR r' v' v ∧ Bls h'.next h' v' l ∧ More r h r' h' := by
 obtain ⟨fuel, hd⟩ := hd
 obtain ⟨a, len, cap, rfl⟩ := WideShapes.okWide_slice ht hval
 rcases Deep.open_slice ht hd with ⟨h1, _⟩ | ⟨a', len', cap', m, n, D, Pl, h1, _, hlc, hcap, hm, hx, hr⟩
 · simp only [Value.cells, List.cons.injEq, Value.slice.injEq, and_true] at h1
   obtain ⟨rfl, rfl, rfl⟩ := h1
   exact ⟨[], r, h, .slice none 0 0, hR, .sliceNil, ⟨rfl, Nat.le_refl _, .inl ⟨rfl, rfl⟩⟩, More.refl r h⟩
 · simp only [Value.cells, List.cons.injEq, Value.slice.injEq, and_true] at h1
   obtain ⟨h11, h12, h13⟩ := h1
   subst h11
   simp only [if_true] at hm
   rw [← h12, ← h13] at hlc
   rw [← h13] at hcap hm
   rw [hm] at hr
   clear h12 h13 hm hx
   obtain ⟨hs, cc, el, fr, hb, ho⟩ := okWide_slice_at ht hval
   rw [ce] at hr
   have hadd : ∀ k, a'.add k = ⟨a'.block, a'.off + k, none⟩ := by
    intro k
    obtain ⟨bb, oo, ss⟩ := a'
    simp only at hs
    subst hs
    exact addr_add _ _ _
   have each : ∀ i, i < cap → ∃ x : Bool, cc[a'.off + i]? = some (.bool x) := by
    intro i hi
    obtain ⟨cs', h2, h3⟩ := hr i hi
    obtain ⟨h5, _, h4⟩ := World.cells?_some h2
    obtain ⟨c0, rfl⟩ : ∃ c0, cs' = [c0] := by
     match cs', h5 with
     | [c0], _ => exact ⟨c0, rfl⟩
    obtain ⟨x, h6, _⟩ := DataW.trod_bool he h3
    simp only [List.cons.injEq, and_true] at h6
    have h7 := h4 0 (by decide)
    refine ⟨x, ?_⟩
    rw [hadd, addr_add, cell_of_block hb, Nat.add_zero, Nat.mul_one] at h7
    rw [h7, h6]
    rfl
   have hsz : a'.off + cap * 1 ≤ cc.size := by
    by_cases hc0 : cap = 0
    · omega
    · obtain ⟨x, h5⟩ := each (cap - 1) (by omega)
      have := (Array.getElem?_eq_some_iff.1 h5).1
      omega
   obtain ⟨X, hX⟩ := Deep.choose_lt (n := len) (p := fun i (x : Bool) => cc[a'.off + i]? = some (.bool x)) fun i hi => each i (by omega)
   have hc1 : (((List.range len).map X).map Value.bool).length = len * 1 := by simp
   have hc2 : ∀ j, j < len * 1 → cc[a'.off + j]? = (((List.range len).map X).map Value.bool)[j]? := by
    intro j hj
    rw [hX j (by omega)]
    simp [show j < len by omega]
   have hc3 : ∀ u ∈ ((List.range len).map X).map Value.bool, closedV u = true := by
    intro u hu
    obtain ⟨s, _, rfl⟩ := List.mem_map.1 hu
    rfl
   obtain ⟨r', h', v', hR', hv, hro', hm⟩ := R.addSlice hR hro (es := 1) hs hb hsz hlc hc1 hc2 hc3
   refine ⟨(List.range len).map X, r', h', v', hR', hv, ?_, hm⟩
   unfold Bls
   rw [List.length_map, List.length_range]
   exact hro'
theorem open_boolsX {H : Type} {enc : TypeId × Value → H} {P : Program} {J : World → Prop} {W : World} {held : Bool} {base : Nat} {t e : TypeId} {v : V} {d : DataW H} {p : List MemPlace}
 (ht : P.underlying t = some (.slice e)) (he : P.underlying e = some .bool) (ce : P.cellsOf e = 1) {r : Ren} {h : AHeap} (hR : R J W.heap.size r h W)
 (hval : Value.okWide P W .any base t v) (hd : DataW.Trod enc P W 0 (fun _ => true) held t v d p) :
 ∃ (l : List Bool) (r' : Ren) (h' : AHeap) (v' : V), R J W.heap.size r' h' W ∧ VR r' v' v ∧ Bls h'.next h' v' l ∧ More r h.ros r' h' :=
 have h1 := hR.roOnly
 open_bools0 ht he ce h1.1 h1.2 hval hd
end Go.Abs

/- A desk: Answer, of a client of whom nothing is kept. A shard's time. -/
import Derived.Test.YthhegdifbnghpaaGreatDoorVbc
set_option linter.unusedSimpArgs false
set_option linter.unusedVariables false
namespace Go.Abs
open Go Go.Proofs
variable {E : FE} {F : Fr} {h : AHeap} {L : List Pl}
theorem Sep.lookO {mo : Nat} {l : List (IdM × TransM)} (s : Sep F h (plGM kdId trV mo l :: L)) (id : IdM) :
 ∃ w, lookupD (some ((.struct false [(0, .int), (1, .int)]), (some (.pointer none)))) (.map (some mo)) id.agg false h = some w ∧ binD (.ptr true) .eql true w (.pointer none) h = some (.bool (lkp id l).isNone) := by
 cases hk : Go.Abs.lkp id l with
 | none => exact ⟨nil, s.lookNone (z := nil) hk false, nil_eq_nil ..⟩
 | some x =>
  obtain ⟨w, h1, s1⟩ := s.lookSome (z := nil) hk false
  obtain ⟨b, _, _, _, _, _, rfl, _⟩ := Sep.openTr (t := x) s1
  exact ⟨_, h1, ptr_eq_nil ..⟩
def staleV (d : DeskM) (id : IdM) : Bool := clientB id && decide (id.seq ≤ (lkp id.client d.last).getD 0) && (lkp id d.opn).isNone
end Go.Abs
namespace Go.Abs
open Go Go.Proofs
variable {E : FE} {F : Fr} {h : AHeap} {L : List Pl}
theorem Sep.litInts (s : Sep F h L) (l : List Int) (hl : l ≠ []) : Sep F (h.new (.cells (dInt.flat l) 1 .rw)) (plI64s (.slice (some ⟨h.next, 0, none⟩) l.length (2 * l.length)) l :: L) :=
 s.alloc (a' := [h.next]) (plI64s (.slice (some ⟨h.next, 0, none⟩) l.length (2 * l.length)) l) ⟨by simp, fun x hx _ => by
  have : x ≠ h.next := by omega
  simp [this], by simp, by simp⟩ (SlE.lit dInt h l hl)
theorem Sep.litStrs (s : Sep F h L) (l : List ByteArray) (hl : l ≠ []) : Sep F (h.new (.cells (dStr.flat l) 1 .rw)) (plStrs (.slice (some ⟨h.next, 0, none⟩) l.length (2 * l.length)) l :: L) :=
 s.alloc (a' := [h.next]) (plStrs (.slice (some ⟨h.next, 0, none⟩) l.length (2 * l.length)) l) ⟨by simp, fun x hx _ => by
  have : x ≠ h.next := by omega
  simp [this], by simp, by simp⟩ (ts_sle.2 (SlE.lit dStr h l hl))
theorem Sep.noStrs (s : Sep F h L) : Sep F h (plStrs (.slice none 0 0) [] :: L) := s.alloc (a' := []) (plStrs (.slice none 0 0) []) (Mod.refl (by simp)) Sl.nil
theorem clock2 (now x y : Int) : clockV now [x, y] [] = now := rfl
end Go.Abs
namespace Go.Abs
open Go Go.Proofs
variable {E : FE} {F : Fr} {h : AHeap} {L : List Pl}
structure PtsR (h : AHeap) (v : V) (ps : List (List Int)) : Prop where
 len : lenD .slice v h = some (i64 ps.length)
 row : ∀ (i : Nat) (p : List Int), ps[i]? = some p → ∃ a t, indexAddrD (.slice 1) v (i64 i) = some a ∧ ldD .one a h = some t ∧ lenD .slice t h = some (i64 p.length) ∧
  ∀ (j : Nat) (x : Int), p[j]? = some x → ∃ c, indexAddrD (.slice 1) t (i64 j) = some c ∧ ldD .one c h = some (i64 x)
theorem Sep.ptsR {v : V} {ps : List (List Int)} (s : Sep F h (plPts v ps :: L)) : PtsR h v ps := by
 obtain ⟨qs, rfl, s1⟩ := s.openPts
 obtain ⟨f, q, _⟩ := s1.head
 have q : SlE dSl h f v (qs.map (·.1)) := q
 refine ⟨by rw [q.len, List.length_map, List.length_map], fun i p hp => ?_⟩
 rw [List.getElem?_map, Option.map_eq_some_iff] at hp
 obtain ⟨e, he, rfl⟩ := hp
 have hx : (qs.map (·.1))[i]? = some e.1 := by rw [List.getElem?_map, he]; rfl
 obtain ⟨b, _, a1, _, a3⟩ := q.at hx
 obtain ⟨f2, q2⟩ := s1.memP (A := pzI e) (List.mem_cons_of_mem _ (List.mem_append.2 (.inl (List.mem_map.2 ⟨e, List.mem_of_getElem? he, rfl⟩))))
 have q2 : SlE dInt h f2 (mkS e.1) e.2 := q2
 refine ⟨ptr b (i * 1), mkS e.1, a1, a3 0 (by decide), q2.len, fun j x hx => ?_⟩
 obtain ⟨b2, _, c1, _, c3⟩ := q2.at hx
 exact ⟨ptr b2 (j * 1), c1, c3 0 (by decide)⟩
def hasF (ps : List (List Int)) (s : Int) : Bool := decide (0 ≤ s) && decide (0 < (ps.getD s.toNat []).length)
theorem trans_has {b : Nat} {vp : V} {ps : List (List Int)} (r1 : h.rd b 1 = some vp) (q : PtsR h vp ps) (s : Int) :
 cl (Go.Abs.F.desk_trans_has E) [ptr b 0, i64 s] h fun r h' => r = .bool (hasF ps s) ∧ h' = h := by
 refine cl_of ?_
 simp only [Go.Abs.F.desk_trans_has, bin_geq, kv_some]
 unfold hasF
 by_cases h0 : 0 ≤ s
 case neg =>
  have h0' : ¬ s ≥ 0 := h0
  simp only [h0, h0', decide_false, gdV_bool, Bool.false_eq_true, if_false, kv_some, pickV_bool, Bool.false_and, show (false == true) = false from rfl]
  constructor <;> first | trivial | rfl
 obtain ⟨k, rfl⟩ : ∃ k : Nat, s = k := ⟨s.toNat, by omega⟩
 have h0' : (k : Int) ≥ 0 := h0
 simp only [h0, h0', decide_true, gdV_bool, if_true, kv_some, show (true == true) = true from rfl, aNil_ptr, fieldAddr_ptr, Nat.zero_add, ld_one, r1, q.len, bin_lss, pickV_bool, Bool.true_and, Int.toNat_natCast]
 by_cases hk : k < ps.length
 case neg =>
  have e : ps.getD k [] = [] := by rw [List.getD_eq_getElem?_getD, List.getElem?_eq_none (by omega)]; rfl
  have hk' : ¬ (k : Int) < (ps.length : Nat) := by omega
  simp only [hk', decide_false, gdV_bool, Bool.false_eq_true, if_false, kv_some, pickV_bool, e, List.length_nil, Nat.lt_irrefl, show (false == true) = false from rfl]
  constructor <;> first | trivial | rfl
 have hg : ps[k]? = some ps[k] := List.getElem?_eq_getElem hk
 have e : ps.getD k [] = ps[k] := by rw [List.getD_eq_getElem?_getD, hg]; rfl
 obtain ⟨a, t, a1, a2, a3, _⟩ := q.row k _ hg
 have hk' : (k : Int) < (ps.length : Nat) := by omega
 have e5 : decide (((ps[k]).length : Int) > 0) = decide (0 < (ps[k]).length) := by
  by_cases hz : 0 < (ps[k]).length
  · rw [decide_eq_true hz]; exact decide_eq_true (by omega)
  · rw [decide_eq_false hz]; exact decide_eq_false (by omega)
 simp only [hk', decide_true, gdV_bool, if_true, kv_some, aNil_ptr, fieldAddr_ptr, Nat.zero_add, ld_one, r1, a1, a2, a3, bin_gtr, pickV_bool, e, e5]
 constructor <;> first | trivial | rfl
def shardsF (ps : List (List Int)) : List Int := ((List.range ps.length).map fun i : Nat => (i : Int)).filter (hasF ps)
theorem shards_step (ps : List (List Int)) (i : Nat) : ((List.range (i + 1)).map fun i : Nat => (i : Int)).filter (hasF ps) = ((List.range i).map fun i : Nat => (i : Int)).filter (hasF ps) ++ if hasF ps i = true then [(i : Int)] else [] := by
 rw [List.range_succ, List.map_append, List.filter_append]
 congr 1
 simp only [List.map_cons, List.map_nil, List.filter_cons, List.filter_nil]
theorem trans_shards {b : Nat} {cs : List V} {vp : V} {ps : List (List Int)} (hc : cs[1]? = some vp) (hsz : ps.length ≤ 1000000) (s : Sep F h (plBox b cs 7 :: plPts vp ps :: L)) :
 cl (Go.Abs.F.desk_trans_shards E) [ptr b 0] h fun r h' => Sep F h' (plI64s r (shardsF ps) :: plBox b cs 7 :: plPts vp ps :: L) := by
 refine cl_of ?_
 have r1 : h.rd b 1 = some vp := by rw [rd_of s.get 1, hc]
 have q := s.up1.ptsR
 simp only [Go.Abs.F.desk_trans_shards, aNil_ptr, kv_some, fieldAddr_ptr, Nat.zero_add, ld_one, r1, q.len]
 refine ⟨fun n vs h' => ∃ (i : Nat) (t : Tri), vs = [mkS t, i64 i] ∧ n = ps.length - i ∧ i ≤ ps.length ∧ Sep F h' (plI64s (mkS t) (((List.range i).map fun i : Nat => (i : Int)).filter (hasF ps)) :: plBox b cs 7 :: plPts vp ps :: L),
  ps.length, ⟨0, (none, 0, 0), rfl, by omega, by omega, Sep.noInts s⟩, ?_⟩
 rintro n e h2 ⟨i, t, he, rfl, hi, s2⟩
 simp only [List.cons.injEq, and_true] at he
 simp only [he.1, he.2, bin_lss, kv_some, ifV_bool, decide_eq_true_eq]
 by_cases hx : i < ps.length
 case neg =>
  rw [if_neg (show ¬ ((i : Nat) : Int) < (ps.length : Nat) by omega)]
  obtain rfl : i = ps.length := by omega
  exact s2
 rw [if_pos (show ((i : Nat) : Int) < (ps.length : Nat) by omega)]
 have r1 : h2.rd b 1 = some vp := by rw [rd_of s2.up1.get 1, hc]
 have q := (s2.up2).ptsR
 refine cl_then (trans_has r1 q (i : Int)) ?_
 rintro r h3 ⟨rfl, rfl⟩
 rw [ifV_bool]
 have hst := shards_step ps i
 cases hb : hasF ps (i : Int) with
 | false =>
  rw [hb] at hst
  simp only [Bool.false_eq_true, if_false, List.append_nil] at hst ⊢
  rw [add_i64 _ 1 (by omega) (by omega), kv_some]
  exact ⟨ps.length - (i + 1), by omega, i + 1, t, by simp, rfl, by omega, by rw [hst]; exact s2⟩
 | true =>
  rw [hb] at hst
  simp only [if_true] at hst ⊢
  obtain ⟨f, q1, kk⟩ := s2.head
  have q1 : SlE dInt h3 f (mkS t) (((List.range i).map fun i : Nat => (i : Int)).filter (hasF ps)) := q1
  have hl : (((List.range i).map fun i : Nat => (i : Int)).filter (hasF ps)).length ≤ 1000000 := by
   refine Nat.le_trans (List.length_filter_le _ _) ?_
   simp; omega
  obtain ⟨h4, e4, t2, h5, f5, e5, q5, m5⟩ := append_int q1 hl (i : Int)
  rw [e4, kP_some, e5, kP_some, add_i64 _ 1 (by omega) (by omega), kv_some]
  refine ⟨ps.length - (i + 1), by omega, i + 1, t2, by simp, rfl, by omega, ?_⟩
  rw [hst]
  exact kk (plI64s (mkS t2) _) m5 q5
end Go.Abs
namespace Go.Abs
open Go Go.Proofs
variable {E : FE} {F : Fr} {h : AHeap} {L : List Pl}
theorem ret4 {b : Nat} {c0 c1 c2 c3 x0 x1 x2 x3 : V} (s : Sep F h (plBox b [c0, c1, c2, c3] 4 :: L)) (h0 : oneCell x0 = true) (h1 : oneCell x1 = true) (h2 : oneCell x2 = true) (h3 : oneCell x3 = true) {K : V → AHeap → Prop}
 (hK : ∀ h', Sep F h' (plBox b [x0, x1, x2, x3] 4 :: L) → K (.agg #[x0, x1, x2, x3]) h') : kH (stD (some 4) (ptr b 0) (.agg #[x0, x1, x2, x3]) h) fun _ h => kv (ldD (.agg 4) (ptr b 0) h) fun r => K r h := by
 rw [st_of (n := 4) (vs := [x0, x1, x2, x3]) s.get (by simp) rfl rfl (by simp [h0, h1, h2, h3]) (by simp), kH_some]
 have s1 := s.write (cs' := setList [c0, c1, c2, c3] 0 [x0, x1, x2, x3])
 have e : setList [c0, c1, c2, c3] 0 [x0, x1, x2, x3] = [x0, x1, x2, x3] := rfl
 rw [e] at s1 ⊢
 rw [ld_agg, rdN_of s1.get]
 exact hK _ s1
end Go.Abs
namespace Go.Abs
open Go Go.Proofs
variable {E : FE} {F : Fr} {h : AHeap} {L : List Pl}
theorem parts_short {ops : List Oq} {n : Nat} {p : List Int} (hp : p ∈ partsF ops n) : p.length ≤ ops.length := by
 have := parts_small ops.zipIdx n (List.replicate n []) 0 (fun p hp => by rw [(List.mem_replicate.1 hp).2]; simp) p hp
 rw [List.length_zipIdx] at this
 omega
end Go.Abs
namespace Go.Abs
open Go Go.Proofs
variable {E : FE} {F : Fr} {h : AHeap} {L : List Pl}
theorem Sep.lookVt {mv : Nat} {l : List (Int × VoteM)} (s : Sep F h (plGM kdInt vtV mv l :: L)) (k : Int) : ∃ (c0 c1 c2 c4 : Int) (c3 : Bool) (c5 : Tri),
 lookupD (some (.int, (some (.agg #[(.int .i64 0), (.int .i64 0), (.int .i64 0), (.bool false), (.int .i64 0), (.slice none 0 0)])))) (.map (some mv)) (i64 k) true h = some (.tuple #[.agg #[i64 c0, i64 c1, i64 c2, .bool c3, i64 c4, mkS c5], .bool (lkp k l).isSome]) := by
 cases hk : Go.Abs.lkp k l with
 | none =>
  have h1 := s.lookNone (z := .agg #[(.int .i64 0), (.int .i64 0), (.int .i64 0), (.bool false), (.int .i64 0), (.slice none 0 0)]) hk true
  exact ⟨0, 0, 0, 0, false, (none, 0, 0), h1⟩
 | some x =>
  obtain ⟨w, h1, s1⟩ := s.lookSome (z := .agg #[(.int .i64 0), (.int .i64 0), (.int .i64 0), (.bool false), (.int .i64 0), (.slice none 0 0)]) hk true
  obtain ⟨u, s2⟩ := Sep.ex (A := fun (u : V) => plAll [plPure (w = .agg #[i64 x.id.client, i64 x.id.seq, i64 x.shard, .bool x.yes, i64 x.now, u]), plStrs u x.vals]) s1
  have s3 := s2.all
  obtain ⟨e, s4⟩ := Sep.pure (L := plStrs u x.vals :: plGM kdInt (holeP k w vtV) mv l :: L) s3
  obtain ⟨f, q, _⟩ := s4.head
  have q : Ts h f u x.vals := q
  obtain ⟨t, rfl⟩ := sl_form (ts_sle.1 q)
  subst e
  exact ⟨_, _, _, _, _, t, h1⟩
theorem shards_len (ps : List (List Int)) : (shardsF ps).length ≤ ps.length := by
 unfold shardsF
 refine Nat.le_trans (List.length_filter_le _ _) ?_
 simp
end Go.Abs
namespace Go.Abs
open Go Go.Proofs
variable {E : FE} {F : Fr} {h : AHeap} {L : List Pl}
structure TInv (nn : Nat) (t : TransM) : Prop where
 all : allO t.ops = true
 parts : t.parts = partsF t.ops nn
structure DInv (nn : Nat) (d : DeskM) : Prop where
 n : d.n = (nn : Nat)
 hn : 1 ≤ nn ∧ nn ≤ 3
 opn : ∀ id t, lkp id d.opn = some t → TInv nn t
theorem TInv.ops {nn : Nat} {t : TransM} (ti : TInv nn t) : t.ops.length ≤ 8 ∧ ∀ o ∈ t.ops, o.space.size ≤ 20 := by
 have hal := allF ti.all
 exact ⟨hal.2.1, fun o ho => (mayF (hal.2.2 o ho)).sp.2⟩
end Go.Abs
namespace Go.Abs
open Go Go.Proofs
section
variable {κ α : Type} [DecidableEq κ] {D : KD κ} {A B : κ → V → α → Pl} {F : Fr} {h : AHeap} {L : List Pl} {m : Nat} {z : V} {l : List (κ × α)}
theorem Sep.insM2 {k : κ} {v : V} {x : α} (hB : ∀ k' v' x', k' ≠ k → B k' v' x' = A k' v' x') (s : Sep F h (plGM D B m l :: A k v x :: L)) :
 ∃ h', mapUpdateD (some (D.kk, some z)) (.map (some m)) (D.enc k) v h = some h' ∧ Sep F h' (plGM D A m (ins k x l) :: L) := by
 obtain ⟨t, clk, p, s⟩ := s.openM
 have hm : ∀ {tt : List (Et κ α)}, (∀ e' ∈ tt, e'.k ≠ k) → tt.map (Et.p B) = tt.map (Et.p A) := fun ht => List.map_congr_left fun e' he' => hB _ _ _ (ht e' he')
 cases hk : Go.Abs.lkp k l with
 | none =>
  have h1 : ∀ e' ∈ t, e'.k ≠ k := by
   intro e' he' hc
   have := (p.lkp k).trans hk
   rw [lkp_none, absE_keys] at this
   exact this (List.mem_map.2 ⟨e', he', hc⟩)
  rw [hm h1] at s
  exact Sep.insM (Sep.closeM p s)
 | some x0 =>
  have g := s.mapGet
  rw [map_meg] at g
  rw [update_G D g k v]
  refine ⟨_, rfl, ?_⟩
  obtain ⟨t1, e, t2, rfl, h1, h2, h3, h4⟩ := split_abs ((p.lkp k).trans hk)
  have h5 : ∀ e' ∈ t2, e'.k ≠ k := by
   have := p.ndt
   rw [absE_keys, List.map_append, List.map_cons, List.nodup_append] at this
   have h6 := (List.nodup_cons.1 this.2.1).1
   intro e' he' hc
   exact h6 (List.mem_map.2 ⟨e', he', hc.trans h1.symm⟩)
  have hg : ¬ getG k ((t1 ++ e :: t2).map Et.g) = none := by rw [h3]; simp
  have e2 : putG k v clk ((t1 ++ e :: t2).map Et.g) = (t1 ++ ⟨k, v, e.b, x⟩ :: t2).map Et.g := by
   rw [List.map_append, List.map_cons, putG_split (fun e' he' => ?_) (by exact h1)]
   · simp [Et.g]
   · obtain ⟨a, ha, rfl⟩ := List.mem_map.1 he'
     exact h4 a ha
  rw [if_neg hg, e2]
  refine Sep.closeM (p.put rfl h1 h4 v x) ?_
  have s1 := s.mapPut (es' := (t1 ++ (⟨k, v, e.b, x⟩ : Et κ α) :: t2).map (Et.m D)) (clk' := clk)
  rw [← map_meg]
  rw [List.map_append (f := Et.p B), List.map_cons (f := Et.p B), hm h4, hm h5] at s1
  have s2 : Sep F (h.put m (.map ((t1 ++ ⟨k, v, e.b, x⟩ :: t2).map (Et.m D)) clk)) (Et.p B e :: plMap m ((t1 ++ ⟨k, v, e.b, x⟩ :: t2).map (Et.m D)) clk :: ((t1 ++ ⟨k, v, e.b, x⟩ :: t2).map (Et.p A) ++ L)) := by
   refine s1.perm ?_
   simp only [List.map_append, List.map_cons, List.append_assoc, List.cons_append]
   refine (List.Perm.cons _ ?_).trans (List.Perm.swap _ _ _)
   refine List.perm_middle.trans (List.Perm.cons _ ?_)
   exact List.Perm.append_left _ List.perm_middle
  exact s2.drop
end
variable {E : FE} {F : Fr} {h : AHeap} {L : List Pl}
theorem Sep.openAns {v : V} {l : List AnsM} (s : Sep F h (plAns v l :: L)) : ∃ qs : List (AnsM × Tri), qs.map (·.1) = l ∧ Sep F h (plRow rdAn v qs :: L) := by
 obtain ⟨qs, s⟩ := s.ex
 have s1 := s.all
 obtain ⟨e, s2⟩ := Sep.pure (L := plRow rdAn v qs :: L) s1
 exact ⟨qs, e, s2⟩
theorem Sep.closeAns {v : V} {qs : List (AnsM × Tri)} (s : Sep F h (plRow rdAn v qs :: L)) : Sep F h (plAns v (qs.map (·.1)) :: L) :=
 Sep.mkEx (A := fun (q : List (AnsM × Tri)) => plAll [plPure (q.map (·.1) = qs.map (·.1)), plRow rdAn v q]) qs
  (Sep.mkAll (L' := [plPure (qs.map (·.1) = qs.map (·.1)), plRow rdAn v qs]) (Sep.mkPure rfl s))
theorem Sep.lookK {mk : Nat} {l : List (Int × List AnsM)} (s : Sep F h (plGM kdInt anV mk l :: L)) (c : Int) :
 ∃ (w : V) (B : Int → V → List AnsM → Pl), lookupD (some (.int, (some (.slice none 0 0)))) (.map (some mk)) (i64 c) false h = some w ∧ Sep F h (plAns w ((lkp c l).getD []) :: plGM kdInt B mk l :: L) ∧
  (∀ k' v' x', k' ≠ c → B k' v' x' = anV k' v' x') ∧ ∀ {g : AHeap} {L' : List Pl}, Sep F g (plAns w ((lkp c l).getD []) :: plGM kdInt B mk l :: L') → Sep F g (plGM kdInt anV mk l :: L') := by
 cases hk : Go.Abs.lkp c l with
 | none =>
  refine ⟨.slice none 0 0, anV, s.lookNone (D := kdInt) (z := .slice none 0 0) hk false, Sep.closeAns (qs := []) s.rowNil, fun _ _ _ _ => rfl, fun s' => s'.drop⟩
 | some x =>
  obtain ⟨w, h1, s1⟩ := s.lookSome (D := kdInt) (z := .slice none 0 0) hk false
  refine ⟨w, holeP c w anV, h1, s1, fun k' v' x' hn => by simp only [holeP, if_neg hn], fun {g L'} s' => ?_⟩
  have s2 := Sep.backM (A := anV) (k := c) (v := w) (x' := x) s' hk
  rwa [ins_same hk] at s2
def plAn1 (v : V) (a : AnsM) : Pl := plEx fun (t : Tri) => plAll [plPure (v = .agg #[i64 a.id.client, i64 a.id.seq, i64 a.err, mkS t]), plStrs (mkS t) a.vals]
theorem Sep.mkAn1 {a : AnsM} {t : Tri} (s : Sep F h (plStrs (mkS t) a.vals :: L)) : Sep F h (plAn1 (.agg #[i64 a.id.client, i64 a.id.seq, i64 a.err, mkS t]) a :: L) :=
 Sep.mkEx (A := fun (u : Tri) => plAll [plPure ((.agg #[i64 a.id.client, i64 a.id.seq, i64 a.err, mkS t] : V) = .agg #[i64 a.id.client, i64 a.id.seq, i64 a.err, mkS u]), plStrs (mkS u) a.vals]) t
  (Sep.mkAll (L' := [plPure ((.agg #[i64 a.id.client, i64 a.id.seq, i64 a.err, mkS t] : V) = .agg #[i64 a.id.client, i64 a.id.seq, i64 a.err, mkS t]), plStrs (mkS t) a.vals]) (Sep.mkPure rfl s))
theorem Sep.openAn1 {v : V} {a : AnsM} (s : Sep F h (plAn1 v a :: L)) : ∃ t, v = .agg #[i64 a.id.client, i64 a.id.seq, i64 a.err, mkS t] ∧ Sep F h (plStrs (mkS t) a.vals :: L) := by
 obtain ⟨t, s⟩ := s.ex
 have s1 := s.all
 obtain ⟨e, s2⟩ := Sep.pure (L := plStrs (mkS t) a.vals :: L) s1
 exact ⟨t, e, s2⟩
def noAns : AnsM := ⟨⟨0, 0⟩, 0, []⟩
def answerV (d : DeskM) (id : IdM) : AnsM × Bool :=
 match ((lkp id.client d.kept).getD []).find? (fun a => decide (a.id = id)) with
 | some a => (a, true)
 | none => if staleV d id then (⟨id, 5, []⟩, true) else (noAns, false)
set_option maxHeartbeats 1000000 in
theorem desk_Answer {p : V} {d : DeskM} (id : IdM) (hsz : ((lkp id.client d.kept).getD []).length ≤ 1000000) (hv : ∀ a ∈ (lkp id.client d.kept).getD [], a.vals.length ≤ 1000000) (s : Sep F h (plDsk p d :: L)) :
 cl (Go.Abs.F.desk_Desk_Answer E) [p, id.agg] h fun r h' => ∃ v, r = .tuple #[v, .bool (answerV d id).2] ∧ Sep F h' (plAn1 v (answerV d id).1 :: plDsk p d :: L) := by
 refine cl_of ?_
 obtain ⟨b, ml, mo, mk, rfl, s0⟩ := s.openDsk
 clear s
 simp only [Go.Abs.F.desk_Desk_Answer, new2, kP_some]
 have s1 := s0.box (cId id) 2
 clear s0
 generalize h.new (.cells (cId id) 2 .rw) = h1 at s1 ⊢
 generalize h.next = bi at s1 ⊢
 have e2 : ∀ g : AHeap, newD none (.agg #[(.int .i64 0), (.int .i64 0), (.int .i64 0), (.slice none 0 0)]) g = some (ptr g.next 0, g.new (.cells [i64 0, i64 0, i64 0, .slice none 0 0] 4 .rw)) := fun _ => rfl
 rw [e2, kP_some]
 have s2 := s1.box [i64 0, i64 0, i64 0, .slice none 0 0] 4
 clear s1
 generalize h1.new (.cells [i64 0, i64 0, i64 0, .slice none 0 0] 4 .rw) = h2 at s2 ⊢
 generalize h1.next = ba at s2 ⊢
 have gb := Sep.get s2.up2
 have b3 : h2.rd b 3 = some (.map (some mk)) := by rw [rd_of gb 3]; rfl
 have i0 : h2.rd bi 0 = some (i64 id.client) := by rw [rd_of (Sep.get s2.up1) 0]; rfl
 obtain ⟨w, B, lk, s3, _, back⟩ := Sep.lookK (s2.re6 [5, 0, 1, 2, 3, 4] rfl) id.client
 have hans : ∀ K : List AnsM, K = (lkp id.client d.kept).getD [] → answerV d id = match K.find? (fun a => decide (a.id = id)) with | some a => (a, true) | none => if staleV d id then (⟨id, 5, []⟩, true) else (noAns, false) := fun K hK => by rw [hK]; rfl
 generalize (lkp id.client d.kept).getD [] = ks at s3 back hsz hv hans
 have hans := hans ks rfl
 obtain ⟨qs, rfl, s4⟩ := s3.openAns
 have hl := s4.rowLen
 rw [List.length_map] at hsz
 simp only [ptr_eq_nil, kv_some, ifV_bool, Bool.false_eq_true, if_false, aNil_ptr, fieldAddr_ptr, ld_one, Nat.zero_add, b3, i0, lk, hl]
 refine ⟨fun n vs h' => ∃ i : Nat, vs = [i64 i] ∧ n = qs.length - i ∧ i ≤ qs.length ∧ (∀ e ∈ qs.take i, e.1.id ≠ id) ∧ Sep F h' (plRow rdAn w qs :: plGM kdInt B mk d.kept :: plBox ba [i64 0, i64 0, i64 0, .slice none 0 0] 4 :: plBox bi (cId id) 2 :: plBox b [i64 d.n, .map (some ml), .map (some mo), .map (some mk)] 4 :: plGM kdInt lsV ml d.last :: plGM kdId trV mo d.opn :: L),
  qs.length, ⟨0, rfl, by omega, by omega, by simp, s4⟩, ?_⟩
 clear s2 s3 s4 gb b3 i0 lk hl
 rintro n e g1 ⟨i, he, rfl, hi, hne, z1⟩
 simp only [List.cons.injEq, and_true] at he
 simp only [he, bin_lss, kv_some, ifV_bool, decide_eq_true_eq]
 by_cases hx : i < qs.length
 · rw [if_pos (show ((i : Nat) : Int) < (qs.length : Nat) by omega)]
   have hg : qs[i]? = some qs[i] := List.getElem?_eq_getElem hx
   obtain ⟨bq, oq, a1, a2, _, _⟩ := z1.rowAt hg
   have a1 : indexAddrD (.slice 4) w (i64 (i : Nat)) = some (ptr bq oq) := a1
   have a2 : g1.rdN bq oq 4 = some ((qs[i]).1.cells (qs[i]).2) := a2
   have htk : qs.take (i + 1) = qs.take i ++ [qs[i]] := by rw [List.take_add_one, hg]; rfl
   have hdr : qs = qs.take i ++ qs[i] :: qs.drop (i + 1) := by rw [← List.drop_eq_getElem_cons hx, List.take_append_drop]
   have hvl : (qs[i]).1.vals.length ≤ 1000000 := hv _ (List.mem_map.2 ⟨qs[i], List.getElem_mem hx, rfl⟩)
   have hmem : (plStrs (mkS (qs[i]).2) (qs[i]).1.vals) ∈ qs.flatMap rdAn.I := List.mem_flatMap.2 ⟨qs[i], List.getElem_mem hx, by simp [rdAn]⟩
   generalize qs[i] = q at a2 htk hdr hmem hvl
   obtain ⟨a, t⟩ := q
   rw [a1, kv_some, ld_agg, a2, Option.map_some, kv_some, e2, kP_some]
   have z2 := z1.box [i64 0, i64 0, i64 0, .slice none 0 0] 4
   clear a1 a2
   generalize g1.new (.cells [i64 0, i64 0, i64 0, .slice none 0 0] 4 .rw) = g2 at z2 ⊢
   generalize g1.next = bx at z2 ⊢
   rw [show (a.cells t).toArray = #[i64 a.id.client, i64 a.id.seq, i64 a.err, mkS t] from rfl]
   rw [st_of (n := 4) (vs := [i64 a.id.client, i64 a.id.seq, i64 a.err, mkS t]) z2.get (by simp) rfl rfl rfl (by simp), kH_some]
   have z3 := z2.write (cs' := [i64 a.id.client, i64 a.id.seq, i64 a.err, mkS t])
   rw [show setList [i64 0, i64 0, i64 0, .slice none 0 0] 0 [i64 a.id.client, i64 a.id.seq, i64 a.err, mkS t] = [i64 a.id.client, i64 a.id.seq, i64 a.err, mkS t] from rfl]
   clear z1 z2
   generalize AHeap.put _ _ _ = g3 at z3 ⊢
   have x0 : g3.rdN bx 0 2 = some [i64 a.id.client, i64 a.id.seq] := by rw [rdN_of z3.get]; rfl
   have x3 : g3.rd bx 3 = some (mkS t) := by rw [rd_of z3.get 3]; rfl
   have li : ldD (.agg 2) (ptr bi 0) g3 = some id.agg := ld2 (Sep.get (z3.re5 [4] rfl))
   simp only [fieldAddr_ptr, Nat.zero_add, kv_some, ld_agg 2 bx 0, x0, Option.map_some, li, show (.agg [i64 a.id.client, i64 a.id.seq].toArray : V) = a.id.agg from rfl, id_eq, ifV_bool, decide_eq_true_eq]
   by_cases hid : a.id = id
   case neg =>
    rw [if_neg hid, add_i64 _ 1 (by omega) (by omega), kv_some]
    refine ⟨qs.length - (i + 1), by omega, i + 1, rfl, rfl, by omega, fun e he => ?_, z3.drop⟩
    rw [htk] at he
    rcases List.mem_append.1 he with he | he
    · exact hne e he
    · rw [List.mem_singleton.1 he]; exact hid
   rw [if_pos hid, ld_one, x3, kv_some]
   obtain ⟨ft, qt⟩ := z3.up1.openRow.memP (A := plStrs (mkS t) a.vals) (List.mem_cons_of_mem _ (List.mem_append.2 (.inl hmem)))
   have qt : Ts g3 ft (mkS t) a.vals := qt
   refine cl_then (clone_strs qt hvl) ?_
   rintro r g4 ⟨f4, q4, m4⟩
   have z4 := z3.alloc (plStrs r a.vals) m4 q4
   obtain ⟨t', rfl⟩ := sl_form (ts_sle.1 q4)
   rw [st_one (Sep.get z4.up1) (by simp) rfl rfl (by simp), kH_some]
   have z5 := Sep.write (cs' := [i64 a.id.client, i64 a.id.seq, i64 a.err, mkS t']) z4.up1
   rw [show [i64 a.id.client, i64 a.id.seq, i64 a.err, mkS t].set 3 (mkS t') = [i64 a.id.client, i64 a.id.seq, i64 a.err, mkS t'] from rfl]
   clear z3 z4 qt
   generalize AHeap.put _ _ _ = g5 at z5 ⊢
   rw [ld_agg, rdN_of z5.get, if_pos (by simp), Option.map_some, kv_some]
   have hf : (qs.map (·.1)).find? (fun a => decide (a.id = id)) = some a := by
    rw [hdr, List.map_append, List.find?_append, List.find?_eq_none.2, Option.none_or, List.map_cons, List.find?_cons]
    · simp [hid]
    · intro x hx'
      obtain ⟨e, he, rfl⟩ := List.mem_map.1 hx'
      simpa using hne e he
   rw [hf] at hans
   refine ret4 (z5.re9 [4, 0, 1, 2, 3, 5, 6, 7, 8] rfl) rfl rfl rfl rfl fun g6 z6 => ?_
   rw [hans]
   refine ⟨_, rfl, Sep.mkAn1 (a := a) ?_⟩
   have z7 := back (Sep.closeAns (z6.re9 [3, 4, 2, 6, 7, 8] rfl))
   exact (Sep.closeDsk (z7.re5 [2, 3, 4, 0, 1] rfl)).up1
 rw [if_neg (show ¬ ((i : Nat) : Int) < (qs.length : Nat) by omega)]
 rw [List.take_of_length_le (by omega)] at hne
 have hf : (qs.map (·.1)).find? (fun a => decide (a.id = id)) = none := by
  rw [List.find?_eq_none]
  intro x hx'
  obtain ⟨e, he, rfl⟩ := List.mem_map.1 hx'
  simpa using hne e he
 rw [hf] at hans
 simp only at hans
 have z2 := back (Sep.closeAns z1)
 have z3 := z2.re6 [1, 2, 3, 4, 5, 0] rfl
 clear z1 z2
 rw [ld2 (Sep.get z3.up1), kv_some]
 refine cl_then (op_Client_ok id z3) ?_
 rintro r h4 ⟨rfl, s4⟩
 clear z3
 have gb := Sep.get s4.up2
 have b1 : h4.rd b 1 = some (.map (some ml)) := by rw [rd_of gb 1]; rfl
 have b2 : h4.rd b 2 = some (.map (some mo)) := by rw [rd_of gb 2]; rfl
 have i0 : h4.rd bi 0 = some (i64 id.client) := by rw [rd_of (Sep.get s4.up1) 0]; rfl
 have i1 : h4.rd bi 1 = some (i64 id.seq) := by rw [rd_of (Sep.get s4.up1) 1]; rfl
 have ia : ldD (.agg 2) (ptr bi 0) h4 = some id.agg := ld2 (Sep.get s4.up1)
 have ll := Sep.lookL (s4.re6 [3] rfl) id.client
 obtain ⟨w', lo, we⟩ := Sep.lookO (s4.re6 [4] rfl) id
 have end0 : staleV d id = false → kH (stD (some 4) (ptr ba 0) (.agg #[i64 0, i64 0, i64 0, .slice none 0 0]) h4) fun _ h => kv (ldD (.agg 4) (ptr ba 0) h) fun r53 => ∃ v, (.tuple #[r53, (.bool false)] : V) = .tuple #[v, .bool (answerV d id).2] ∧ Sep F h (plAn1 v (answerV d id).1 :: plDsk (ptr b 0) d :: L) := by
  intro hs
  rw [hans, hs]
  exact ret4 s4 rfl rfl rfl rfl fun g z => ⟨_, rfl, Sep.mkAn1 (a := noAns) (t := (none, 0, 0)) (Sep.noStrs (Sep.closeDsk z.drop.drop))⟩
 have ez : buildD (.struct [(.int .i64 0), (.int .i64 0), (.int .i64 0), (.slice none 0 0)] [(0, 2), (2, 1), (3, 1)]) [] = some (.agg #[i64 0, i64 0, i64 0, .slice none 0 0]) := rfl
 have e5 : buildD (.struct [(.int .i64 0), (.int .i64 0), (.int .i64 0), (.slice none 0 0)] [(0, 2), (2, 1), (3, 1)]) [(0, id.agg), (1, (.int .i64 5))] = some (.agg #[i64 id.client, i64 id.seq, i64 5, .slice none 0 0]) := rfl
 have hst : staleV d id = (clientB id && decide (id.seq ≤ (lkp id.client d.last).getD 0) && (lkp id d.opn).isNone) := rfl
 cases hc : clientB id with
 | false =>
  simp only [gdV_bool, Bool.false_eq_true, if_false, kv_some, pickV_bool, ifV_bool, ez]
  exact end0 (by rw [hst, hc]; rfl)
 | true =>
 simp only [gdV_bool, if_true, fieldAddr_ptr, kv_some, ld_one, Nat.zero_add, i1, i0, aNil_ptr, b1, ll, bin_leq, pickV_bool]
 by_cases hq : id.seq ≤ (lkp id.client d.last).getD 0
 case neg =>
  simp only [hq, decide_false, gdV_bool, Bool.false_eq_true, if_false, kv_some, pickV_bool, ifV_bool, ez]
  exact end0 (by rw [hst, decide_eq_false hq, Bool.and_false]; rfl)
 simp only [hq, decide_true, gdV_bool, if_true, kv_some, aNil_ptr, fieldAddr_ptr, ld_one, Nat.zero_add, b2, ia, lo, we, pickV_bool, ifV_bool]
 cases ho : (lkp id d.opn).isNone with
 | false =>
  simp only [Bool.false_eq_true, if_false, ez, kv_some]
  exact end0 (by rw [hst, ho, Bool.and_false])
 | true =>
  have hs : staleV d id = true := by rw [hst, hc, decide_eq_true hq, ho]; rfl
  simp only [if_true, e5, kv_some]
  rw [hs] at hans
  rw [hans]
  exact ret4 s4 rfl rfl rfl rfl fun g z => ⟨_, rfl, Sep.mkAn1 (a := ⟨id, 5, []⟩) (t := (none, 0, 0)) (Sep.noStrs (Sep.closeDsk z.drop.drop))⟩
end Go.Abs
namespace Go.Abs
open Go Go.Proofs
variable {l : List Oq} {n : Nat}
def shO (l : List Oq) (n i : Nat) : Nat := match l[i]? with | some o => markN o.space % n | none => 0
theorem parts_upto (hn : 0 < n) : ∀ i, i ≤ l.length → ∀ s, s < n → (partsF (l.take i) n).getD s [] = ((List.range i).filter fun j => decide (shO l n j = s)).map fun j : Nat => (j : Int) := by
 intro i
 induction i with
 | zero =>
  intro _ s hs
  have : partsF (l.take 0) n = List.replicate n [] := by simp [partsF]
  rw [this, List.getD_eq_getElem?_getD, List.getElem?_replicate, if_pos hs]
  rfl
 | succ i ih =>
  intro hi s hs
  have hx : i < l.length := by omega
  rw [parts_step l n i hx]
  have hk : markN l[i].space % n = shO l n i := by unfold shO; rw [List.getElem?_eq_getElem hx]
  have hlen : (partsF (l.take i) n).length = n := parts_len _ _
  have hb : shO l n i < n := by rw [← hk]; exact Nat.mod_lt _ hn
  rw [hk, addP, List.getD_eq_getElem?_getD, List.getElem?_set, List.range_succ, List.filter_append, List.map_append]
  by_cases he : shO l n i = s
  · rw [if_pos he, if_pos (by omega), ih (by omega) _ hb]
    subst he
    simp
  · rw [if_neg he, ← List.getD_eq_getElem?_getD, ih (by omega) s hs]
    simp [he]
theorem parts_get (hn : 0 < n) {s : Nat} (hs : s < n) : (partsF l n).getD s [] = ((List.range l.length).filter fun j => decide (shO l n j = s)).map fun j : Nat => (j : Int) := by
 have := parts_upto (l := l) hn l.length (Nat.le_refl _) s hs
 rwa [List.take_length] at this
theorem shO_lt (hn : 0 < n) (i : Nat) : shO l n i < n := by
 unfold shO
 split
 · exact Nat.mod_lt _ hn
 · exact hn
def rankO (l : List Oq) (n i : Nat) : Nat := ((List.range i).filter fun j => decide (shO l n j = shO l n i)).length
theorem filter_rank (P : Nat → Bool) : ∀ (m j x : Nat), ((List.range m).filter P)[j]? = some x → x < m ∧ P x = true ∧ j = ((List.range x).filter P).length := by
 intro m
 induction m with
 | zero => intro j x h; simp at h
 | succ m ih =>
  intro j x h
  rw [List.range_succ, List.filter_append] at h
  by_cases hj : j < ((List.range m).filter P).length
  · rw [List.getElem?_append_left hj] at h
    obtain ⟨h1, h2, h3⟩ := ih j x h
    exact ⟨by omega, h2, h3⟩
  · rw [List.getElem?_append_right (by omega)] at h
    by_cases hp : P m = true
    · rw [List.filter_cons_of_pos hp, List.filter_nil] at h
      have hj0 : j - ((List.range m).filter P).length = 0 := by
       have := (List.getElem?_eq_some_iff.1 h).1
       simp at this
       omega
      rw [hj0] at h
      simp only [List.getElem?_cons_zero, Option.some.injEq] at h
      subst h
      exact ⟨by omega, hp, by omega⟩
    · rw [List.filter_cons_of_neg (by simpa using hp), List.filter_nil] at h
      simp at h
theorem parts_place (hn : 0 < n) {s j : Nat} (hs : s < n) {x : Int} (hx : ((partsF l n).getD s [])[j]? = some x) : ∃ i : Nat, x = i ∧ i < l.length ∧ shO l n i = s ∧ rankO l n i = j := by
 rw [parts_get hn hs, List.getElem?_map, Option.map_eq_some_iff] at hx
 obtain ⟨i, hi, rfl⟩ := hx
 obtain ⟨h1, h2, h3⟩ := filter_rank _ _ _ _ hi
 have h2 : shO l n i = s := by simpa using h2
 refine ⟨i, rfl, h1, h2, ?_⟩
 unfold rankO
 rw [h2]
 exact h3.symm
theorem rank_lt (hn : 0 < n) {i : Nat} (hi : i < l.length) : rankO l n i < ((partsF l n).getD (shO l n i) []).length := by
 rw [parts_get hn (shO_lt hn i), List.length_map]
 have h1 : (List.range (i + 1)).filter (fun j => decide (shO l n j = shO l n i)) = ((List.range i).filter fun j => decide (shO l n j = shO l n i)) ++ [i] := by
  rw [List.range_succ, List.filter_append]
  simp
 have h2 : ((List.range (i + 1)).filter (fun j => decide (shO l n j = shO l n i))).length ≤ ((List.range l.length).filter (fun j => decide (shO l n j = shO l n i))).length := by
  have : List.range (i + 1) = (List.range l.length).take (i + 1) := by
   rw [List.take_range, Nat.min_eq_left (by omega)]
  rw [this]
  exact ((List.take_sublist _ _).filter _).length_le
 rw [h1, List.length_append, List.length_singleton] at h2
 unfold rankO
 omega
theorem has_sh (hn : 0 < n) {i : Nat} (hi : i < l.length) : hasF (partsF l n) (shO l n i) = true := by
 unfold hasF
 have := rank_lt hn hi
 simp only [Int.toNat_natCast, Bool.and_eq_true, decide_eq_true_eq]
 omega
/-! ### What is told -/
def telS (l : List Oq) (n : Nat) (votes : List (Int × VoteM)) (i : Nat) : ByteArray × Int :=
 match lkp (shO l n i : Int) votes with
 | some v => (v.vals.getD (rankO l n i) ⟨#[]⟩, v.now)
 | none => (⟨#[]⟩, 0)
def valsF (l : List Oq) (n : Nat) (votes : List (Int × VoteM)) : List ByteArray := (List.range l.length).map fun i => (telS l n votes i).1
def nowsF (l : List Oq) (n : Nat) (votes : List (Int × VoteM)) : List Int := (List.range l.length).map fun i => (telS l n votes i).2
structure Told (l : List Oq) (n : Nat) (votes : List (Int × VoteM)) (P : Nat → Prop) (va : List ByteArray) (na : List Int) : Prop where
 lv : va.length = l.length
 ln : na.length = l.length
 val : ∀ i, i < l.length → P i → va[i]? = some (telS l n votes i).1
 now : ∀ i, i < l.length → P i → na[i]? = some (telS l n votes i).2
theorem Told.all {votes : List (Int × VoteM)} {P : Nat → Prop} {va : List ByteArray} {na : List Int} (t : Told l n votes P va na) (hP : ∀ i, i < l.length → P i) : va = valsF l n votes ∧ na = nowsF l n votes := by
 constructor
 · refine List.ext_getElem? fun i => ?_
   unfold valsF
   by_cases hi : i < l.length
   · rw [t.val i hi (hP i hi), List.getElem?_map, List.getElem?_range hi]; rfl
   · rw [List.getElem?_eq_none (by rw [t.lv]; omega), List.getElem?_eq_none (by simp; omega)]
 · refine List.ext_getElem? fun i => ?_
   unfold nowsF
   by_cases hi : i < l.length
   · rw [t.now i hi (hP i hi), List.getElem?_map, List.getElem?_range hi]; rfl
   · rw [List.getElem?_eq_none (by rw [t.ln]; omega), List.getElem?_eq_none (by simp; omega)]
theorem Told.none {votes : List (Int × VoteM)} : Told l n votes (fun _ => False) (List.replicate l.length ⟨#[]⟩) (List.replicate l.length 0) :=
 ⟨by simp, by simp, fun _ _ h => h.elim, fun _ _ h => h.elim⟩
theorem Told.imp {votes : List (Int × VoteM)} {P Q : Nat → Prop} {va : List ByteArray} {na : List Int} (t : Told l n votes P va na) (h : ∀ i, i < l.length → Q i → P i) : Told l n votes Q va na :=
 ⟨t.lv, t.ln, fun i hi hq => t.val i hi (h i hi hq), fun i hi hq => t.now i hi (h i hi hq)⟩
theorem Told.put {votes : List (Int × VoteM)} {P : Nat → Prop} {va : List ByteArray} {na : List Int} (t : Told l n votes P va na) {k : Nat} (hk : k < l.length) {x : ByteArray} {y : Int} (hx : (telS l n votes k).1 = x) (hy : (telS l n votes k).2 = y) :
 Told l n votes (fun i => P i ∨ i = k) (va.set k x) (na.set k y) := by
 refine ⟨by rw [List.length_set, t.lv], by rw [List.length_set, t.ln], fun i hi hp => ?_, fun i hi hp => ?_⟩
 · rw [List.getElem?_set]
   by_cases he : k = i
   · subst he; rw [if_pos rfl, if_pos (by rw [t.lv]; exact hi), hx]
   · rw [if_neg he]
     rcases hp with hp | hp
     · exact t.val i hi hp
     · omega
 · rw [List.getElem?_set]
   by_cases he : k = i
   · subst he; rw [if_pos rfl, if_pos (by rw [t.ln]; exact hi), hy]
   · rw [if_neg he]
     rcases hp with hp | hp
     · exact t.now i hi hp
     · omega
/-! ### Votes -/
def ansOf (nn : Nat) (id : IdM) (t : TransM) : AnsM := if t.ok then ⟨id, 0, valsF t.ops nn t.votes⟩ else ⟨id, 4, []⟩
def nowsOf (nn : Nat) (t : TransM) : List Int := if t.ok then nowsF t.ops nn t.votes else t.nows
def keptL (l : List AnsM) (a : AnsM) : List AnsM := (l ++ [a]).drop ((l ++ [a]).length - 8)
def voteV (nn : Nat) (d : DeskM) (v : VoteM) : Bool × DeskM :=
 match lkp v.id d.opn with
 | none => (false, d)
 | some t =>
  if t.decided || !hasF t.parts v.shard || (lkp v.shard t.votes).isSome || (v.yes && decide (v.vals.length ≠ (t.parts.getD v.shard.toNat []).length)) then (false, d)
  else
   let t1 : TransM := { t with votes := ins v.shard v t.votes }
   if v.yes && decide (t1.votes.length < (shardsF t.parts).length) then (false, { d with opn := ins v.id t1 d.opn })
   else
    let t2 : TransM := { t1 with decided := true, ok := v.yes }
    (true, { d with opn := ins v.id { t2 with nows := nowsOf nn t2 } d.opn, kept := ins v.id.client (keptL ((lkp v.id.client d.kept).getD []) (ansOf nn v.id t2)) d.kept })
end Go.Abs
namespace Go.Abs
open Go Go.Proofs
variable {E : FE} {F : Fr} {h : AHeap} {L : List Pl}
theorem Sep.ptsQ {v : V} {qs : List (Tri × List Int)} (s : Sep F h (plSls v (qs.map (·.1)) :: (qs.map pzI ++ L))) {i : Nat} {e : Tri × List Int} (he : qs[i]? = some e) :
 ∃ b, indexAddrD (.slice 1) v (i64 i) = some (ptr b (i * 1)) ∧ h.rd b (i * 1) = some (mkS e.1) ∧ ∃ f, SlE dInt h f (mkS e.1) e.2 := by
 obtain ⟨f, q, _⟩ := s.head
 have q : SlE dSl h f v (qs.map (·.1)) := q
 have hx : (qs.map (·.1))[i]? = some e.1 := by rw [List.getElem?_map, he]; rfl
 obtain ⟨b, _, a1, _, a3⟩ := q.at hx
 obtain ⟨f2, q2⟩ := s.memP (A := pzI e) (List.mem_cons_of_mem _ (List.mem_append.2 (.inl (List.mem_map.2 ⟨e, List.mem_of_getElem? he, rfl⟩))))
 exact ⟨b, a1, a3 0 (by decide), f2, q2⟩
theorem agg6_tri {a b c d e : V} {t u : Tri} (h : (.agg #[a, b, c, d, e, mkS t] : V) = .agg #[a, b, c, d, e, mkS u]) : t = u := by
 obtain ⟨t1, t2, t3⟩ := t
 obtain ⟨u1, u2, u3⟩ := u
 simp [mkS] at h
 simp [h]
theorem vt_form {k : Int} {v : V} {x : VoteM} {f : List Nat} (q : (vtV k v x).P h f) : ∃ t f', v = .agg #[i64 x.id.client, i64 x.id.seq, i64 x.shard, .bool x.yes, i64 x.now, mkS t] ∧ Ts h f' (mkS t) x.vals := by
 obtain ⟨u, a, r, rfl, ⟨rfl, e1⟩, ⟨a2, r2, rfl, b, _⟩, _⟩ := q
 have b : Ts h a2 u x.vals := b
 obtain ⟨t, rfl⟩ := sl_form (ts_sle.1 b)
 exact ⟨t, _, e1, b⟩
def plS1 (v : V) (l : List ByteArray) : Pl := ⟨fun h f => SlE dStr h f v l, fun _ _ q => q.lt, fun _ _ _ q hl hs => SlE.same q hl hs⟩
theorem Sep.s1Strs {v : V} {l : List ByteArray} (s : Sep F h (plS1 v l :: L)) : Sep F h (plStrs v l :: L) := s.conv fun _ q => ts_sle.2 q
theorem rank_inj {l : List Oq} {n i j : Nat} (hs : shO l n i = shO l n j) (hr : rankO l n i = rankO l n j) : i = j := by
 have up : ∀ {i j : Nat}, i < j → shO l n i = shO l n j → rankO l n i < rankO l n j := by
  intro i j hij hs
  have h1 : (List.range (i + 1)).filter (fun k => decide (shO l n k = shO l n j)) = ((List.range i).filter fun k => decide (shO l n k = shO l n i)) ++ [i] := by
   rw [List.range_succ, List.filter_append, hs]
   simp [hs]
  have h2 : ((List.range (i + 1)).filter (fun k => decide (shO l n k = shO l n j))).length ≤ ((List.range j).filter (fun k => decide (shO l n k = shO l n j))).length := by
   have : List.range (i + 1) = (List.range j).take (i + 1) := by
    rw [List.take_range, Nat.min_eq_left (by omega)]
   rw [this]
   exact ((List.take_sublist _ _).filter _).length_le
  rw [h1, List.length_append, List.length_singleton] at h2
  unfold rankO
  omega
 rcases Nat.lt_trichotomy i j with h | h | h
 · have := up h hs; omega
 · exact h
 · have := up h hs.symm; omega
theorem Sep.lookK2 {mk : Nat} {l : List (Int × List AnsM)} (s : Sep F h (plGM kdInt anV mk l :: L)) (c : Int) :
 ∃ (w : V) (B : Int → V → List AnsM → Pl), lookupD (some (.int, (some (.slice none 0 0)))) (.map (some mk)) (i64 c) false h = some w ∧ Sep F h (plAns w ((lkp c l).getD []) :: plGM kdInt B mk l :: L) ∧
  (∀ k' v' x', k' ≠ c → B k' v' x' = anV k' v' x') ∧ ∀ {g : AHeap} {L' : List Pl}, Sep F g (plGM kdInt B mk l :: L') → lookupD (some (.int, (some (.slice none 0 0)))) (.map (some mk)) (i64 c) false g = some w := by
 cases hk : Go.Abs.lkp c l with
 | none =>
  exact ⟨.slice none 0 0, anV, s.lookNone (D := kdInt) (z := .slice none 0 0) hk false, Sep.closeAns (qs := []) s.rowNil, fun _ _ _ _ => rfl, fun s' => s'.lookNone (D := kdInt) (z := .slice none 0 0) hk false⟩
 | some x =>
  obtain ⟨w, h1, s1⟩ := s.lookSome (D := kdInt) (z := .slice none 0 0) hk false
  refine ⟨w, holeP c w anV, h1, s1, fun k' v' x' hn => by simp only [holeP, if_neg hn], fun {g L'} s' => ?_⟩
  obtain ⟨w', h2, s2⟩ := s'.lookSome (D := kdInt) (z := .slice none 0 0) hk false
  simp only [holeP, if_true] at s2
  obtain ⟨rfl, _⟩ := Sep.pure s2
  exact h2
/-! ### The fields are laid, in any order -/
structure KSt (F : Fr) (ba bt : Nat) (vo : V) (c : List V) (i0 i1 : Int) (vn : V) (n : Nat) (R : List Pl) (m1 m2 : Option Tri) (e sv sn : Bool) (g : AHeap) : Prop where
 s : Sep F g (plBox ba [i64 i0, i64 i1, i64 (if e then 0 else 4), if sv then mkS (m1.getD (none, 0, 0)) else .slice none 0 0] 4 :: plBox bt (vo :: c ++ [if sn then mkS (m2.getD (none, 0, 0)) else vn]) 7 ::
  (match m1 with | some t => plS1 (mkS t) (List.replicate n ⟨#[]⟩) | none => plPure True) :: (match m2 with | some t => plI64s (mkS t) (List.replicate n 0) | none => plPure True) :: R)
section
variable {ba bt : Nat} {vo : V} {c : List V} {i0 i1 : Int} {vn : V} {n : Nat} {R : List Pl} {m1 m2 : Option Tri} {e sv sn : Bool} {g : AHeap}
theorem KSt.chk (z : KSt F ba bt vo c i0 i1 vn n R m1 m2 e sv sn g) : ldD .one (ptr bt 0) g = some vo := by
 rw [ld_one, rd_of (Sep.get z.s.up1) 0]
 rfl
theorem KSt.mk1 (hn : 0 < n ∧ n ≤ 8) (z : KSt F ba bt vo c i0 i1 vn n R none m2 e false sn g) {K : V → AHeap → Prop} (hK : ∀ t g', KSt F ba bt vo c i0 i1 vn n R (some t) m2 e false sn g' → K (mkS t) g') :
 kP (makeSliceD (some (1, 16, [(.string ⟨#[]⟩)])) (i64 (n : Nat)) (i64 (n : Nat)) g) K := by
 have s1 := z.s.re4 [0, 1, 3] rfl
 have e1 : makeSliceD (some (1, 16, [(.string ⟨#[]⟩)])) (i64 (n : Nat)) (i64 (n : Nat)) g = some (.slice (some ⟨g.next, 0, none⟩) (List.replicate n (⟨#[]⟩ : ByteArray)).length (2 * (List.replicate n (⟨#[]⟩ : ByteArray)).length), g.new (.cells (dStr.flat (List.replicate n ⟨#[]⟩)) 1 .rw)) := by
  have : n = 1 ∨ n = 2 ∨ n = 3 ∨ n = 4 ∨ n = 5 ∨ n = 6 ∨ n = 7 ∨ n = 8 := by omega
  rcases this with rfl | rfl | rfl | rfl | rfl | rfl | rfl | rfl <;> rfl
 rw [e1, kP_some]
 have s2 := s1.alloc (a' := [g.next]) (h' := g.new (.cells (dStr.flat (List.replicate n ⟨#[]⟩)) 1 .rw)) (plS1 (.slice (some ⟨g.next, 0, none⟩) (List.replicate n (⟨#[]⟩ : ByteArray)).length (2 * (List.replicate n (⟨#[]⟩ : ByteArray)).length)) (List.replicate n ⟨#[]⟩)) ⟨by simp, fun x hx _ => by
  have : x ≠ g.next := by omega
  simp [this], by simp, by simp⟩ (SlE.lit dStr g (List.replicate n ⟨#[]⟩) (by intro h; have := congrArg List.length h; simp at this; omega))
 exact hK (some ⟨g.next, 0, none⟩, (List.replicate n (⟨#[]⟩ : ByteArray)).length, 2 * (List.replicate n (⟨#[]⟩ : ByteArray)).length) _ ⟨s2.re4 [1, 2, 0, 3] rfl⟩
theorem KSt.mk2 (hn : 0 < n ∧ n ≤ 8) (z : KSt F ba bt vo c i0 i1 vn n R m1 none e sv false g) {K : V → AHeap → Prop} (hK : ∀ t g', KSt F ba bt vo c i0 i1 vn n R m1 (some t) e sv false g' → K (mkS t) g') :
 kP (makeSliceD (some (1, 8, [(.int .i64 0)])) (i64 (n : Nat)) (i64 (n : Nat)) g) K := by
 have s1 := z.s.re4 [0, 1, 2] rfl
 have e1 : makeSliceD (some (1, 8, [(.int .i64 0)])) (i64 (n : Nat)) (i64 (n : Nat)) g = some (.slice (some ⟨g.next, 0, none⟩) (List.replicate n (0 : Int)).length (2 * (List.replicate n (0 : Int)).length), g.new (.cells (dInt.flat (List.replicate n 0)) 1 .rw)) := by
  have : n = 1 ∨ n = 2 ∨ n = 3 ∨ n = 4 ∨ n = 5 ∨ n = 6 ∨ n = 7 ∨ n = 8 := by omega
  rcases this with rfl | rfl | rfl | rfl | rfl | rfl | rfl | rfl <;> rfl
 rw [e1, kP_some]
 have s2 := s1.litInts (List.replicate n 0) (by intro h; have := congrArg List.length h; simp at this; omega)
 exact hK (some ⟨g.next, 0, none⟩, (List.replicate n (0 : Int)).length, 2 * (List.replicate n (0 : Int)).length) _ ⟨s2.re4 [1, 2, 3, 0] rfl⟩
theorem KSt.st0 (z : KSt F ba bt vo c i0 i1 vn n R m1 m2 false sv sn g) {K : AHeap → Prop} (hK : ∀ g', KSt F ba bt vo c i0 i1 vn n R m1 m2 true sv sn g' → K g') :
 kH (stD (some 1) (ptr ba 2) (.int .i64 0) g) fun _ h => K h := by
 rw [st_one z.s.get (by simp) rfl rfl (by simp), kH_some]
 exact hK _ ⟨z.s.write⟩
theorem KSt.st1 {t : Tri} (z : KSt F ba bt vo c i0 i1 vn n R (some t) m2 e false sn g) {K : AHeap → Prop} (hK : ∀ g', KSt F ba bt vo c i0 i1 vn n R (some t) m2 e true sn g' → K g') :
 kH (stD (some 1) (ptr ba 3) (mkS t) g) fun _ h => K h := by
 rw [st_one z.s.get (by simp) rfl rfl (by simp), kH_some]
 exact hK _ ⟨z.s.write⟩
theorem KSt.st2 (hc : c.length = 5) {t : Tri} (z : KSt F ba bt vo c i0 i1 vn n R m1 (some t) e sv false g) {K : AHeap → Prop} (hK : ∀ g', KSt F ba bt vo c i0 i1 vn n R m1 (some t) e sv true g' → K g') :
 kH (stD (some 1) (ptr bt 6) (mkS t) g) fun _ h => K h := by
 obtain ⟨c1, c2, c3, c4, c5, rfl⟩ : ∃ c1 c2 c3 c4 c5, c = [c1, c2, c3, c4, c5] := by
  match c, hc with
  | [c1, c2, c3, c4, c5], _ => exact ⟨c1, c2, c3, c4, c5, rfl⟩
 rw [st_one (Sep.get z.s.up1) (by simp) rfl rfl (by simp), kH_some]
 exact hK _ ⟨(Sep.write z.s.up1).up1⟩
end
structure VtInv (t : TransM) : Prop where
 each : ∀ k v, lkp k t.votes = some v → hasF t.parts k = true ∧ v.vals.length = (t.parts.getD k.toNat []).length
 all : ∀ k, hasF t.parts k = true → (lkp k t.votes).isSome = true
set_option maxHeartbeats 4000000 in
theorem desk_keep {nn : Nat} {vt : V} {t : TransM} {b mk : Nat} {c0 c1 c2 : V} {kept : List (Int × List AnsM)} (id : IdM) (hn : 1 ≤ nn ∧ nn ≤ 3) (ti : TInv nn t) (vi : t.ok = true → VtInv t) (hkl : ((lkp id.client kept).getD []).length ≤ 1000)
 (s : Sep F h (plTr vt t :: plBox b [c0, c1, c2, .map (some mk)] 4 :: plGM kdInt anV mk kept :: L)) :
 cl (Go.Abs.F.desk_Desk_keep E) [ptr b 0, id.agg, vt] h fun r h' => Sep F h' (plTr vt { t with nows := nowsOf nn t } :: plBox b [c0, c1, c2, .map (some mk)] 4 :: plGM kdInt anV mk (ins id.client (keptL ((lkp id.client kept).getD []) (ansOf nn id t)) kept) :: L) := by
 refine cl_of ?_
 obtain ⟨bt, vo, vp, mv, md, vn, rfl, s0⟩ := s.openTr
 clear s
 have hops := ti.ops
 have hal := allF ti.all
 simp only [Go.Abs.F.desk_Desk_keep, new2, kP_some]
 have s1 := s0.box (cId id) 2
 clear s0
 generalize h.new (.cells (cId id) 2 .rw) = h1 at s1 ⊢
 generalize h.next = bi at s1 ⊢
 rw [ld2 s1.get, kv_some]
 refine kv_of (v := .agg #[i64 id.client, i64 id.seq, i64 4, .slice none 0 0]) rfl ?_
 refine kP_of (v := ptr h1.next 0) (g := h1.new (.cells [i64 0, i64 0, i64 0, .slice none 0 0] 4 .rw)) rfl ?_
 have s2 := s1.box [i64 0, i64 0, i64 0, .slice none 0 0] 4
 clear s1
 generalize h1.new (.cells [i64 0, i64 0, i64 0, .slice none 0 0] 4 .rw) = h2 at s2 ⊢
 generalize h1.next = ba at s2 ⊢
 rw [st_of (n := 4) (vs := [i64 id.client, i64 id.seq, i64 4, .slice none 0 0]) s2.get (by simp) rfl rfl rfl (by simp), kH_some]
 have s3 := s2.write (cs' := [i64 id.client, i64 id.seq, i64 4, .slice none 0 0])
 rw [show setList [i64 0, i64 0, i64 0, .slice none 0 0] 0 [i64 id.client, i64 id.seq, i64 4, .slice none 0 0] = [i64 id.client, i64 id.seq, i64 4, .slice none 0 0] from rfl]
 clear s2
 generalize AHeap.put _ _ _ = h3 at s3 ⊢
 have gt := Sep.get s3.up2
 have t4 : h3.rd bt 4 = some (.bool t.ok) := by rw [rd_of gt 4]; rfl
 have t0 : h3.rd bt 0 = some vo := by rw [rd_of gt 0]; rfl
 simp only [aNil_ptr, kv_some, fieldAddr_ptr, Nat.zero_add, ld_one, t4]
 generalize hT' : ({ t with nows := nowsOf nn t } : TransM) = T'
 refine ⟨fun vs h' => ∃ (t' : Tri), vs = [] ∧ Sep F h' (plBox ba [i64 id.client, i64 id.seq, i64 (ansOf nn id t).err, mkS t'] 4 :: plStrs (mkS t') (ansOf nn id t).vals :: plBox bi (cId id) 2 :: plTr (ptr bt 0) T' :: plBox b [c0, c1, c2, .map (some mk)] 4 :: plGM kdInt anV mk kept :: L), ?_, ?_⟩
 · cases hok : t.ok with
   | false =>
    have e1 : ansOf nn id t = ⟨id, 4, []⟩ := by unfold ansOf; rw [hok]; rfl
    have e2 : nowsOf nn t = t.nows := by unfold nowsOf; rw [hok]; rfl
    rw [e1]
    rw [e2] at hT'
    simp only [ifV_bool, Bool.false_eq_true, if_false]
    have s4 : Sep F h3 (plTr (ptr bt 0) { t with nows := t.nows } :: plBox ba [i64 id.client, i64 id.seq, i64 4, .slice none 0 0] 4 :: plBox bi (cId id) 2 :: plBox b [c0, c1, c2, .map (some mk)] 4 :: plGM kdInt anV mk kept :: L) := Sep.closeTr (t := { t with nows := t.nows }) (s3.re10 [2, 3, 4, 5, 6, 7, 0, 1, 8, 9] rfl)
    subst hT'
    exact ⟨(none, 0, 0), trivial, (Sep.noStrs s4).re6 [2, 0, 3, 1, 4, 5] rfl⟩
   | true =>
   have vi := vi hok
   have e1 : ansOf nn id t = ⟨id, 0, valsF t.ops nn t.votes⟩ := by unfold ansOf; rw [hok]; rfl
   have e2 : nowsOf nn t = nowsF t.ops nn t.votes := by unfold nowsOf; rw [hok]; rfl
   rw [e1]
   rw [e2] at hT'
   rw [hok] at s3 t4
   obtain ⟨fo, qo⟩ := s3.memP (A := plOps vo t.ops) (by simp)
   have qo : SlE dOp h3 fo vo t.ops := qo
   simp only [ifV_bool, if_true, t0, kv_some, qo.len]
   have hlen0 : 0 < t.ops.length ∧ t.ops.length ≤ 8 := ⟨by have := hal.1; omega, hal.2.1⟩
   have z0 : KSt F ba bt vo [vp, .map (some mv), .bool t.decided, .bool true, .map (some md)] id.client id.seq vn t.ops.length (plBox bi (cId id) 2 :: plOps vo t.ops :: plPts vp t.parts :: plGM kdInt vtV mv t.votes :: plGM kdInt dnV md t.done :: plBox b [c0, c1, c2, .map (some mk)] 4 :: plGM kdInt anV mk kept :: L) none none false false false h3 :=
    ⟨(Sep.mkPure trivial (Sep.mkPure trivial (s3.re10 [0, 2, 1, 3, 4, 5, 6, 8, 9] rfl))).re4 [2, 3, 0, 1] rfl⟩
   refine ⟨fun vs g => vs = [] ∧ ∃ t1 t2, KSt F ba bt vo [vp, .map (some mv), .bool t.decided, .bool true, .map (some md)] id.client id.seq vn t.ops.length (plBox bi (cId id) 2 :: plOps vo t.ops :: plPts vp t.parts :: plGM kdInt vtV mv t.votes :: plGM kdInt dnV md t.done :: plBox b [c0, c1, c2, .map (some mk)] 4 :: plGM kdInt anV mk kept :: L) (some t1) (some t2) true true true g, ?_, ?_⟩
   · clear s3 t4 t0 gt qo
     repeat' first
      | exact ⟨rfl, _, _, by assumption⟩
      | exact ⟨trivial, _, _, by assumption⟩
      | refine ⟨KSt.chk (by assumption), ?_⟩
      | refine ⟨?_, ?_⟩
      | refine KSt.mk1 hlen0 (by assumption) fun _ _ _ => ?_
      | refine KSt.mk2 hlen0 (by assumption) fun _ _ _ => ?_
      | refine KSt.st0 (by assumption) fun _ _ => ?_
      | refine KSt.st1 (by assumption) fun _ _ => ?_
      | refine KSt.st2 rfl (by assumption) fun _ _ => ?_
   rintro e8 g0 ⟨-, t1, t2, zz⟩
   have s5 : Sep F g0 (plBox ba [i64 id.client, i64 id.seq, i64 0, mkS t1] 4 :: plBox bt [vo, vp, .map (some mv), .bool t.decided, .bool true, .map (some md), mkS t2] 7 :: plS1 (mkS t1) (List.replicate t.ops.length ⟨#[]⟩) :: plI64s (mkS t2) (List.replicate t.ops.length 0) ::
    plBox bi (cId id) 2 :: plOps vo t.ops :: plPts vp t.parts :: plGM kdInt vtV mv t.votes :: plGM kdInt dnV md t.done :: plBox b [c0, c1, c2, .map (some mk)] 4 :: plGM kdInt anV mk kept :: L) := zz.s
   clear s3 t4 t0 gt qo z0 zz
   have g2 : g0.rd bt 2 = some (.map (some mv)) := by rw [rd_of (Sep.get s5.up1) 2]; rfl
   simp only [g2, kv_some]
   obtain ⟨qs, hqs, s6⟩ := (s5.re11 [6, 7, 0, 1, 2, 3, 4, 5, 8, 9, 10] rfl).openPts
   have s7 : Sep F g0 (plAll (plSls vp (qs.map (·.1)) :: qs.map pzI) :: plGM kdInt vtV mv t.votes :: plBox ba [i64 id.client, i64 id.seq, i64 0, mkS t1] 4 :: plBox bt [vo, vp, .map (some mv), .bool t.decided, .bool true, .map (some md), mkS t2] 7 :: plS1 (mkS t1) (List.replicate t.ops.length ⟨#[]⟩) :: plI64s (mkS t2) (List.replicate t.ops.length 0) ::
    plBox bi (cId id) 2 :: plOps vo t.ops :: plGM kdInt dnV md t.done :: plBox b [c0, c1, c2, .map (some mk)] 4 :: plGM kdInt anV mk kept :: L) := Sep.mkAll (L' := plSls vp (qs.map (·.1)) :: qs.map pzI) s6
   obtain ⟨tt, clk, q, s8⟩ := s7.up1.openM
   have s9 : Sep F g0 (plMap mv (tt.map (Et.m kdInt)) clk :: plAll (tt.map (Et.p vtV)) :: plAll (plSls vp (qs.map (·.1)) :: qs.map pzI) :: plBox ba [i64 id.client, i64 id.seq, i64 0, mkS t1] 4 :: plBox bt [vo, vp, .map (some mv), .bool t.decided, .bool true, .map (some md), mkS t2] 7 :: plS1 (mkS t1) (List.replicate t.ops.length ⟨#[]⟩) :: plI64s (mkS t2) (List.replicate t.ops.length 0) ::
    plBox bi (cId id) 2 :: plOps vo t.ops :: plGM kdInt dnV md t.done :: plBox b [c0, c1, c2, .map (some mk)] 4 :: plGM kdInt anV mk kept :: L) := (Sep.mkAll (L' := tt.map (Et.p vtV)) (s8.perm List.perm_middle.symm)).up1
   clear s5 s6 s7 s8 g2
   have htl : tt.length = t.votes.length := by have := q.perm.length_eq; simpa [absE] using this
   have hn0 : 0 < nn := hn.1
   have hlk : ∀ e ∈ tt, lkp e.k t.votes = some e.x := by
    intro e he
    have h1 : (e.k, e.x) ∈ absE tt := List.mem_map.2 ⟨e, he, rfl⟩
    rw [← q.lkp]
    exact lkp_of q.ndt h1
   have hT0 : Told t.ops nn t.votes (fun i => ∃ e ∈ ([] : List (Et Int VoteM)), e.k = (shO t.ops nn i : Int)) (List.replicate t.ops.length ⟨#[]⟩) (List.replicate t.ops.length 0) := Told.none.imp fun i _ ⟨e, he, _⟩ => by simp at he
   refine Sep.range s9 fun it g1 z1 => ?_
   refine ⟨fun n vs h' => ∃ (td : List (Et Int VoteM)) (seen : Array Nat) (va : List ByteArray) (na : List Int), vs = [] ∧ n = tt.length - td.length ∧ SeenT tt td seen ∧ Told t.ops nn t.votes (fun i => ∃ e ∈ td, e.k = (shO t.ops nn i : Int)) va na ∧
    Sep F h' (plIter it mv clk seen :: plMap mv (tt.map (Et.m kdInt)) clk :: plAll (tt.map (Et.p vtV)) :: plAll (plSls vp (qs.map (·.1)) :: qs.map pzI) :: plBox ba [i64 id.client, i64 id.seq, i64 0, mkS t1] 4 :: plBox bt [vo, vp, .map (some mv), .bool t.decided, .bool true, .map (some md), mkS t2] 7 :: plS1 (mkS t1) va :: plI64s (mkS t2) na ::
    plBox bi (cId id) 2 :: plOps vo t.ops :: plGM kdInt dnV md t.done :: plBox b [c0, c1, c2, .map (some mk)] 4 :: plGM kdInt anV mk kept :: L), tt.length, ⟨[], #[], _, _, rfl, rfl, SeenT.nil tt, hT0, z1⟩, ?_⟩
   clear z1 s9 hT0
   rintro n e0 g2 ⟨td, seen, va, na, -, rfl, hs, hT, z2⟩
   refine Sep.nextT z2 q.lt q.bn hs (fun e he hne g3 z3 hs5 hent hlen => ?_) (fun hp => ?_)
   · simp only [extract_tuple, List.getElem?_toArray, List.getElem?_cons_zero, List.getElem?_cons_succ, kv_some, ifV_bool, if_true]
     rw [hent, kV_some]
     simp only [extract_tuple, List.getElem?_toArray, List.getElem?_cons_zero, List.getElem?_cons_succ, kv_some]
     obtain ⟨hhas, hvl⟩ := vi.each _ _ (hlk e he)
     have form : ∀ {g : AHeap} {L' : List Pl}, Sep F g (plAll (tt.map (Et.p vtV)) :: L') → ∃ t' f', e.v = .agg #[i64 e.x.id.client, i64 e.x.id.seq, i64 e.x.shard, .bool e.x.yes, i64 e.x.now, mkS t'] ∧ Ts g f' (mkS t') e.x.vals := fun sg => by
      obtain ⟨f, qf⟩ := sg.all.memP (A := Et.p vtV e) (List.mem_append.2 (.inl (List.mem_map.2 ⟨e, he, rfl⟩)))
      exact vt_form qf
     obtain ⟨tv, fv, ev, _⟩ := form (z3.re3 [2] rfl)
     have hev : ∀ {t'' : Tri}, e.v = .agg #[i64 e.x.id.client, i64 e.x.id.seq, i64 e.x.shard, .bool e.x.yes, i64 e.x.now, mkS t''] → t'' = tv := fun h' => by
      rw [ev] at h'
      exact (agg6_tri h').symm
     have hkey := hlk e he
     obtain ⟨k, hk⟩ : ∃ k : Nat, e.k = (k : Int) := by
      refine ⟨e.k.toNat, ?_⟩
      unfold hasF at hhas
      simp only [Bool.and_eq_true, decide_eq_true_eq] at hhas
      omega
     have hkn : k < nn := by
      rw [hk, ti.parts] at hhas
      unfold hasF at hhas
      simp only [Bool.and_eq_true, decide_eq_true_eq, Int.toNat_natCast] at hhas
      refine Nat.lt_of_not_le fun hle => ?_
      rw [List.getD_eq_getElem?_getD, List.getElem?_eq_none (by rw [parts_len]; exact hle)] at hhas
      simp at hhas
     have hqk : k < qs.length := by
      have h1 := congrArg List.length hqs
      rw [List.length_map, ti.parts, parts_len] at h1
      omega
     have heq : qs[k]? = some qs[k] := List.getElem?_eq_getElem hqk
     have hpk : (qs[k]).2 = (partsF t.ops nn).getD k [] := by rw [← ti.parts, ← hqs, List.getD_eq_getElem?_getD, List.getElem?_map, heq]; rfl
     rw [hk, ti.parts, Int.toNat_natCast, ← hpk] at hvl
     generalize qs[k] = qk at heq hpk hvl
     obtain ⟨tk, pk⟩ := qk
     have hpk : pk = (partsF t.ops nn).getD k [] := hpk
     have hvl : e.x.vals.length = pk.length := hvl
     have rowk : ∀ {g : AHeap} {L' : List Pl}, Sep F g (plAll (plSls vp (qs.map (·.1)) :: qs.map pzI) :: L') → ∃ bb, indexAddrD (.slice 1) vp (i64 (k : Nat)) = some (ptr bb (k * 1)) ∧ g.rd bb (k * 1) = some (mkS tk) ∧ ∃ f, SlE dInt g f (mkS tk) pk := fun sg => Sep.ptsQ (show Sep F _ (plSls vp (qs.map (·.1)) :: (qs.map pzI ++ _)) from sg.all) heq
     have hplen : pk.length ≤ 8 := by
      have hm : pk ∈ partsF t.ops nn := by
       rw [hpk, List.getD_eq_getElem?_getD, List.getElem?_eq_getElem (by rw [parts_len]; exact hkn)]
       exact List.getElem_mem _
      have := parts_short hm
      omega
     refine kP_of (v := ptr g3.next 0) (g := g3.new (.cells [i64 0, i64 0, i64 0, .bool false, i64 0, .slice none 0 0] 6 .rw)) rfl ?_
     have z4 := z3.box [i64 0, i64 0, i64 0, .bool false, i64 0, .slice none 0 0] 6
     generalize g3.new (.cells [i64 0, i64 0, i64 0, .bool false, i64 0, .slice none 0 0] 6 .rw) = g4 at z4 ⊢
     generalize g3.next = bx at z4 ⊢
     rw [ev, st_of (n := 6) (vs := [i64 e.x.id.client, i64 e.x.id.seq, i64 e.x.shard, .bool e.x.yes, i64 e.x.now, mkS tv]) z4.get (by simp) rfl rfl rfl (by simp), kH_some]
     have z5 := z4.write (cs' := [i64 e.x.id.client, i64 e.x.id.seq, i64 e.x.shard, .bool e.x.yes, i64 e.x.now, mkS tv])
     rw [show setList [i64 0, i64 0, i64 0, .bool false, i64 0, .slice none 0 0] 0 [i64 e.x.id.client, i64 e.x.id.seq, i64 e.x.shard, .bool e.x.yes, i64 e.x.now, mkS tv] = [i64 e.x.id.client, i64 e.x.id.seq, i64 e.x.shard, .bool e.x.yes, i64 e.x.now, mkS tv] from rfl]
     clear z2 z3 z4
     generalize AHeap.put _ _ _ = g5 at z5 ⊢
     have w1 : g5.rd bt 1 = some vp := by rw [rd_of (Sep.get (z5.re7 [6] rfl)) 1]; rfl
     obtain ⟨bb, k1, k2, fk, k3⟩ := rowk (z5.re5 [4] rfl)
     have ek : kdInt.enc e.k = i64 (k : Nat) := by rw [hk]; rfl
     simp only [ek, w1, kv_some, k1, ld_one, k2, k3.len]
     refine ⟨fun n vs h' => ∃ (j : Nat) (va : List ByteArray) (na : List Int), vs = [i64 j] ∧ n = pk.length - j ∧ j ≤ pk.length ∧ Told t.ops nn t.votes (fun i => (∃ e ∈ td, e.k = (shO t.ops nn i : Int)) ∨ (shO t.ops nn i = k ∧ rankO t.ops nn i < j)) va na ∧
      Sep F h' (plBox bx [i64 e.x.id.client, i64 e.x.id.seq, i64 e.x.shard, .bool e.x.yes, i64 e.x.now, mkS tv] 6 :: plIter it mv clk (seen.push e.b) :: plMap mv (tt.map (Et.m kdInt)) clk :: plAll (tt.map (Et.p vtV)) :: plAll (plSls vp (qs.map (·.1)) :: qs.map pzI) :: plBox ba [i64 id.client, i64 id.seq, i64 0, mkS t1] 4 :: plBox bt [vo, vp, .map (some mv), .bool t.decided, .bool true, .map (some md), mkS t2] 7 :: plS1 (mkS t1) va :: plI64s (mkS t2) na ::
      plBox bi (cId id) 2 :: plOps vo t.ops :: plGM kdInt dnV md t.done :: plBox b [c0, c1, c2, .map (some mk)] 4 :: plGM kdInt anV mk kept :: L), pk.length, ⟨0, va, na, rfl, by omega, by omega, hT.imp (fun i _ hi => hi.elim (fun x => x) fun y => absurd y.2 (Nat.not_lt_zero _)), z5⟩, ?_⟩
     clear z5 w1 k2 k3
     rintro n2 e2 g6 ⟨j, va2, na2, he2, rfl, hj, hT2, z6⟩
     simp only [List.cons.injEq, and_true] at he2
     simp only [he2, bin_lss, kv_some, ifV_bool, decide_eq_true_eq]
     by_cases hx : j < pk.length
     case neg =>
      rw [if_neg (show ¬ ((j : Nat) : Int) < (pk.length : Nat) by omega)]
      refine ⟨tt.length - (td.length + 1), by omega, td ++ [e], _, va2, na2, (by first | rfl | trivial), by simp, hs5, hT2.imp (fun i hi ⟨e', he', hk'⟩ => ?_), z6.drop⟩
      rcases List.mem_append.1 he' with he' | he'
      · exact .inl ⟨e', he', hk'⟩
      · rw [List.mem_singleton.1 he', hk] at hk'
        have hsk : shO t.ops nn i = k := by omega
        refine .inr ⟨hsk, ?_⟩
        have := rank_lt hn0 hi
        rw [hsk, ← hpk] at this
        omega
     rw [if_pos (show ((j : Nat) : Int) < (pk.length : Nat) by omega)]
     obtain ⟨bb', k1', k2, fk, k3⟩ := rowk (z6.re5 [4] rfl)
     have hg : pk[j]? = some pk[j] := List.getElem?_eq_getElem hx
     obtain ⟨b3, _, c3, _, c4⟩ := k3.at hg
     have c3 : indexAddrD (.slice 1) (mkS tk) (i64 (j : Nat)) = some (ptr b3 (j * 1)) := c3
     have c4 : g6.rd b3 (j * 1) = some (i64 pk[j]) := c4 0 (by decide)
     obtain ⟨i, hi, hil, hish, hirk⟩ := parts_place (l := t.ops) hn0 hkn (j := j) (x := pk[j]) (by rw [← hpk]; exact hg)
     rw [hi] at c4
     have x3 : g6.rd ba 3 = some (mkS t1) := by rw [rd_of (Sep.get (z6.re6 [5] rfl)) 3]; rfl
     have x6 : g6.rd bt 6 = some (mkS t2) := by rw [rd_of (Sep.get (z6.re7 [6] rfl)) 6]; rfl
     have y5 : g6.rd bx 5 = some (mkS tv) := by rw [rd_of z6.get 5]; rfl
     have y4 : g6.rd bx 4 = some (i64 e.x.now) := by rw [rd_of z6.get 4]; rfl
     obtain ⟨tv', fv', ev', qv⟩ := form (z6.re4 [3] rfl)
     obtain rfl := hev ev'
     have hjv : j < e.x.vals.length := by omega
     have hgv : e.x.vals[j]? = some e.x.vals[j] := List.getElem?_eq_getElem hjv
     obtain ⟨b4, _, d3, _, d4⟩ := (ts_sle.1 qv).at hgv
     have d3 : indexAddrD (.slice 1) (mkS tv') (i64 (j : Nat)) = some (ptr b4 (j * 1)) := d3
     have d4 : g6.rd b4 (j * 1) = some (str e.x.vals[j]) := d4 0 (by decide)
     have htel : telS t.ops nn t.votes i = (e.x.vals[j], e.x.now) := by
      unfold telS
      rw [hish, ← hk, hkey, hirk]
      simp [List.getD_eq_getElem?_getD, hgv]
     generalize e.x.vals[j] = y at d4 htel
     simp only [c3, kv_some, ld_one, c4, aNil_ptr, fieldAddr_ptr, Nat.zero_add, x3, x6, y5, d3, d4, y4]
     obtain ⟨f7, q7, kk7⟩ := Sep.head (z6.re8 [7, 0, 1, 2, 3, 4, 5, 6] rfl)
     have q7 : SlE dStr g6 f7 (mkS t1) va2 := q7
     obtain ⟨b7, g7, i7, w7, q7', m7⟩ := q7.st (i := i) (by rw [hT2.lv]; exact hil) y
     have i7 : indexAddrD (.slice 1) (mkS t1) (i64 (i : Nat)) = some (ptr b7 (i * 1)) := i7
     have w7 : stD (some 1) (ptr b7 (i * 1)) (str y) g6 = some g7 := by rw [← w7]; rfl
     rw [i7, kv_some, w7, kH_some]
     have z7 := kk7 (plS1 (mkS t1) (va2.set i y)) m7 q7'
     have y4' : g7.rd bx 4 = some (i64 e.x.now) := by rw [rd_of (Sep.get z7.up1) 4]; rfl
     refine ⟨y4', ?_⟩
     obtain ⟨f8, q8, kk8⟩ := Sep.head (z7.re9 [8, 0, 1, 2, 3, 4, 5, 6, 7] rfl)
     have q8 : SlE dInt g7 f8 (mkS t2) na2 := q8
     obtain ⟨b8, g8, i8, w8, q8', m8⟩ := q8.st (i := i) (by rw [hT2.ln]; exact hil) e.x.now
     have i8 : indexAddrD (.slice 1) (mkS t2) (i64 (i : Nat)) = some (ptr b8 (i * 1)) := i8
     have w8 : stD (some 1) (ptr b8 (i * 1)) (i64 e.x.now) g7 = some g8 := by rw [← w8]; rfl
     rw [i8, kv_some, w8, kH_some]
     have z8 := kk8 (plI64s (mkS t2) (na2.set i e.x.now)) m8 q8'
     rw [add_i64 _ 1 (by omega) (by omega), kv_some]
     refine ⟨pk.length - (j + 1), by omega, j + 1, va2.set i y, na2.set i e.x.now, by simp, rfl, by omega, (hT2.put hil (by rw [htel]) (by rw [htel])).imp (fun i' hi' hh => ?_), z8.re9 [2, 3, 4, 5, 6, 7, 8, 1, 0] rfl⟩
     rcases hh with hh | ⟨h1, h2⟩
     · exact .inl (.inl hh)
     · by_cases hr : rankO t.ops nn i' = j
       · right
         exact rank_inj (h1.trans hish.symm) (hr.trans hirk.symm)
       · exact .inl (.inr ⟨h1, by omega⟩)
   · simp only [extract_tuple, List.getElem?_toArray, List.getElem?_cons_zero, List.getElem?_cons_succ, kv_some, ifV_bool, Bool.false_eq_true, if_false]
     have hall := hT.all (fun i hi => by
      have h1 := vi.all (shO t.ops nn i : Int) (by rw [ti.parts]; exact has_sh hn0 hi)
      obtain ⟨x, hx⟩ := Option.isSome_iff_exists.1 h1
      rw [← q.lkp] at hx
      obtain ⟨e, he, hek⟩ := List.mem_map.1 (lkp_mem hx)
      simp only [Prod.mk.injEq] at hek
      exact ⟨e, hp.mem_iff.1 he, hek.1⟩)
     obtain ⟨rfl, rfl⟩ := hall
     refine ⟨t1, trivial, ?_⟩
     have w1 := z2.drop.up1
     have w2 := w1.all
     have w4 := Sep.closeM q (w2.perm List.perm_middle)
     have w5 := w4.up1.all
     have w6 := Sep.closePts (qs := qs) w5
     rw [hqs] at w6
     have w7 : Sep F g2 (plBox bt [vo, vp, .map (some mv), .bool t.decided, .bool t.ok, .map (some md), mkS t2] 7 :: plOps vo t.ops :: plPts vp t.parts :: plGM kdInt vtV mv t.votes :: plGM kdInt dnV md t.done :: plI64s (mkS t2) (nowsF t.ops nn t.votes) :: plS1 (mkS t1) (valsF t.ops nn t.votes) :: plBox ba [i64 id.client, i64 id.seq, i64 0, mkS t1] 4 :: plBox bi (cId id) 2 :: plBox b [c0, c1, c2, .map (some mk)] 4 :: plGM kdInt anV mk kept :: L) := by
      rw [hok]
      exact w6.re11 [3, 7, 0, 1, 8, 5, 4, 2, 6, 9, 10] rfl
     have w8 := Sep.closeTr (t := { t with nows := nowsF t.ops nn t.votes }) w7
     rw [hT'] at w8
     exact (Sep.s1Strs w8.up1).re6 [2, 0, 3, 1, 4, 5] rfl
 · rintro e7 g0 ⟨t', -, s4⟩
   have b3 : g0.rd b 3 = some (.map (some mk)) := by rw [rd_of (Sep.get (s4.re5 [4] rfl)) 3]; rfl
   have c0' : g0.rd bi 0 = some (i64 id.client) := by rw [rd_of (Sep.get s4.up2) 0]; rfl
   simp only [aNil_ptr, kv_some, fieldAddr_ptr, Nat.zero_add, ld_one, b3, c0']
   obtain ⟨w, B, k1, s5, hB, hlk⟩ := Sep.lookK2 (s4.re6 [5, 0, 1, 2, 3, 4] rfl) id.client
   rw [k1, kv_some]
   obtain ⟨qs, hqs, s6⟩ := s5.openAns
   generalize ha : ansOf nn id t = a at s6 ⊢
   rw [ld_agg, rdN_of (Sep.get s6.up2)]
   refine kv_of (v := .agg #[i64 id.client, i64 id.seq, i64 a.err, mkS t']) rfl ?_
   have hai : a.id = id := by
    rw [← ha]; unfold ansOf; split <;> rfl
   refine kP_of (v := .slice (some ⟨g0.next, 0, none⟩) 1 2) (g := g0.new (.cells (dAn.enc (a, t')) 4 .rw)) (by rw [show dAn.enc (a, t') = [i64 a.id.client, i64 a.id.seq, i64 a.err, mkS t'] from rfl, hai]; rfl) ?_
   have m : Mod g0 [] (g0.new (.cells (dAn.enc (a, t')) 4 .rw)) [] := ⟨by simp, fun y hy _ => by
    have : y ≠ g0.next := by omega
    simp [this], by simp, by simp⟩
   have hw : aSrc dAn.es (.slice (some ⟨g0.next, 0, none⟩) 1 2) (g0.new (.cells (dAn.enc (a, t')) 4 .rw)) = some (dAn.enc (a, t')) := by
    have : (g0.new (.cells (dAn.enc (a, t')) 4 .rw)).get g0.next = some (.cells (dAn.enc (a, t')) 4 .rw) := by simp
    show (g0.new (.cells (dAn.enc (a, t')) 4 .rw)).rdN g0.next 0 (1 * 4) = _
    rw [rdN_of this]
    rfl
   have s7 := s6.skip m
   generalize g0.new (.cells (dAn.enc (a, t')) 4 .rw) = g1 at s7 hw ⊢
   generalize g0.next = bl at hw ⊢
   clear s6 s5 s4 m
   have b3 : g1.rd b 3 = some (.map (some mk)) := by rw [rd_of (Sep.get (s7.re7 [6] rfl)) 3]; rfl
   have c0' : g1.rd bi 0 = some (i64 id.client) := by rw [rd_of (Sep.get (s7.re5 [4] rfl)) 0]; rfl
   refine ⟨b3, c0', hlk s7.up1, ?_⟩
   have hql : qs.length ≤ 1000 := by have := congrArg List.length hqs; rw [List.length_map] at this; omega
   obtain ⟨v', g2, e2, s8⟩ := Sep.rowSnoc (R := rdAn) (x := (a, t')) (bytes := 48) (z := [(.int .i64 0), (.int .i64 0), (.int .i64 0), (.slice none 0 0)]) (w := .slice (some ⟨bl, 0, none⟩) 1 2) (L := plGM kdInt B mk kept :: plBox ba [i64 id.client, i64 id.seq, i64 a.err, mkS t'] 4 :: plBox bi (cId id) 2 :: plTr (ptr bt 0) T' :: plBox b [c0, c1, c2, .map (some mk)] 4 :: L) (s7.re7 [0, 3, 1, 2, 4, 5, 6] rfl) rfl (by decide) rfl hw (by omega)
   have e2 : appendD (some (4, 48, [(.int .i64 0), (.int .i64 0), (.int .i64 0), (.slice none 0 0)])) w (.slice (some ⟨bl, 0, none⟩) 1 2) g1 = some (v', g2) := e2
   rw [e2, kP_some]
   clear s7 e2 b3 c0'
   have b3 : g2.rd b 3 = some (.map (some mk)) := by rw [rd_of (Sep.get (s8.re6 [5] rfl)) 3]; rfl
   have c0' : g2.rd bi 0 = some (i64 id.client) := by rw [rd_of (Sep.get (s8.re4 [3] rfl)) 0]; rfl
   have hl8 := Sep.rowLen s8
   have hlen : (qs ++ [(a, t')]).length = qs.length + 1 := by simp
   simp only [aNil_ptr, kv_some, fieldAddr_ptr, Nat.zero_add, ld_one, b3, c0', hl8]
   rw [sub_i64 _ 8 (by omega) (by omega), kv_some, max2, kv_some, show max (((qs ++ [(a, t')]).length : Int) - 8) 0 = (((qs ++ [(a, t')]).length - 8 : Nat) : Int) by omega]
   obtain ⟨v2, e3, s9⟩ := Sep.rowCut (t := .i64) s8 (k := (qs ++ [(a, t')]).length - 8) (by omega)
   have e3 : sliceD (.slice 4) v' (some (i64 (((qs ++ [(a, t')]).length - 8 : Nat) : Int))) none none g2 = some v2 := e3
   rw [e3, kv_some]
   have s10 := Sep.closeAns s9
   have hk : ((qs ++ [(a, t')]).drop ((qs ++ [(a, t')]).length - 8)).map (·.1) = keptL ((lkp id.client kept).getD []) a := by
    unfold keptL
    rw [← hqs, List.map_drop, List.map_append]
    simp
   rw [hk] at s10
   obtain ⟨g3, e4, s11⟩ := Sep.insM2 (D := kdInt) (A := anV) (k := id.client) (v := v2) (z := .slice none 0 0) hB s10.up1
   have e4 : mapUpdateD (some (.int, (some (.slice none 0 0)))) (.map (some mk)) (i64 id.client) v2 g2 = some g3 := e4
   rw [e4, kH_some]
   subst hT'
   exact s11.re5 [3, 4, 0] rfl
end Go.Abs
namespace Go.Abs
open Go Go.Proofs
variable {E : FE} {F : Fr} {h : AHeap} {L : List Pl}
theorem lookup_same {m : Nat} {kz : Option (KeyK × Option V)} {k : V} {ok : Bool} {g h : AHeap} (e : g.get m = h.get m) : lookupD kz (.map (some m)) k ok g = lookupD kz (.map (some m)) k ok h := by
 unfold lookupD
 simp only [e]
theorem Sep.mapLt {κ α : Type} [DecidableEq κ] {D : KD κ} {A : κ → V → α → Pl} {m : Nat} {l : List (κ × α)} (s : Sep F h (plGM D A m l :: L)) : m < h.next := by
 obtain ⟨t, clk, p, s⟩ := s.openM
 obtain ⟨f, q, _⟩ := s.head
 exact q.2.1
theorem short_of_sub {α : Type} [DecidableEq α] : ∀ {a b : List α}, a.Nodup → (∀ x ∈ a, x ∈ b) → a.length ≤ b.length
 | [], b, _, _ => Nat.zero_le _
 | y :: a, b, hn, hs => by
  rw [List.nodup_cons] at hn
  have hy := hs y (by simp)
  have := short_of_sub (b := b.erase y) hn.2 fun x hx => by
   have hxy : x ≠ y := fun e => hn.1 (e ▸ hx)
   exact (List.mem_erase_of_ne hxy).2 (hs x (by simp [hx]))
  have hl := List.length_erase_of_mem hy
  have := List.length_pos_of_mem hy
  simp only [List.length_cons]
  omega
structure VU (t : TransM) : Prop where
 nd : (keysL t.votes).Nodup
 each : ∀ k v, lkp k t.votes = some v → hasF t.parts k = true ∧ v.vals.length = (t.parts.getD k.toNat []).length
theorem hasF_mem {ps : List (List Int)} {k : Int} (h : hasF ps k = true) : k ∈ shardsF ps := by
 have h2 := h
 unfold hasF at h2
 simp only [Bool.and_eq_true, decide_eq_true_eq] at h2
 refine List.mem_filter.2 ⟨List.mem_map.2 ⟨k.toNat, List.mem_range.2 (Nat.lt_of_not_le fun hle => ?_), by omega⟩, h⟩
 rw [List.getD_eq_getElem?_getD, List.getElem?_eq_none hle] at h2
 simp at h2
theorem VU.full {t : TransM} (vu : VU t) (hl : (shardsF t.parts).length ≤ t.votes.length) : VtInv t := by
 refine ⟨vu.each, fun k hk => ?_⟩
 cases hx : Go.Abs.lkp k t.votes with
 | some x => rfl
 | none =>
  have hn := lkp_none.1 hx
  have h1 := short_of_sub (a := k :: keysL t.votes) (b := shardsF t.parts) (by rw [List.nodup_cons]; exact ⟨hn, vu.nd⟩) fun x hx => by
   rcases List.mem_cons.1 hx with rfl | hx
   · exact hasF_mem hk
   · have : Go.Abs.lkp x t.votes ≠ none := fun e => (lkp_none.1 e) hx
     obtain ⟨y, hy⟩ := Option.ne_none_iff_exists'.1 this
     exact hasF_mem (vu.each x y hy).1
  simp [keysL] at h1
  omega
theorem vote_mid {y : Bool} {h4 : AHeap} {bv bt : Nat} {vp a row tv : V} {sh : Int} {m k : Nat} (h3 : h4.rd bv 3 = some (.bool y)) (h5 : h4.rd bv 5 = some tv) (h2 : h4.rd bv 2 = some (i64 sh)) (hl : lenD .slice tv h4 = some (i64 m)) (t1 : h4.rd bt 1 = some vp)
 (hi : indexAddrD (.slice 1) vp (i64 sh) = some a) (hr : ldD .one a h4 = some row) (hk : lenD .slice row h4 = some (i64 k)) {X : V → Prop} (hX : X (.bool (y && decide (m ≠ k)))) :
 kv (gdV (Value.bool false) false (some (ptr bv 3))) fun v44 => kv (gdV (Value.bool false) false (ldD Lay.one v44 h4)) fun v45 => kv (gdV (Value.bool false) false (some v45)) fun v46 =>
 kv (gdV v46 true (some (ptr bv 5))) fun v47 => kv (gdV v46 true (ldD Lay.one v47 h4)) fun v48 => kv (gdV v46 true (lenD LenK.slice v48 h4)) fun v49 => kv (gdV v46 true (some (ptr bt 0))) fun v50 => kv (gdV v46 true (aNil v50)) fun v51 =>
 kv (gdV v46 true (fieldAddrD (some 1) v51)) fun v52 => kv (gdV v46 true (ldD Lay.one v52 h4)) fun v53 => kv (gdV v46 true (some (ptr bv 2))) fun v54 => kv (gdV v46 true (ldD Lay.one v54 h4)) fun v55 => kv (gdV v46 true (indexAddrD (IxK.slice 1) v53 v55)) fun v56 =>
 kv (gdV v46 true (ldD Lay.one v56 h4)) fun v57 => kv (gdV v46 true (lenD LenK.slice v57 h4)) fun v58 => kv (gdV v46 true (binD EqK.bad BinOp.neq false v49 v58 h4)) fun v59 =>
 kv (gdV (Value.bool false) false (pickV v46 v59 (Value.bool false))) fun v60 => kv (pickV (Value.bool false) (Value.bool true) v60) X := by
 simp only [gdV_bool, if_true, kv_some, ld_one, h3]
 cases y with
 | false =>
  simp only [Bool.false_eq_true, if_false, kv_some, pickV_bool, Bool.false_and] at hX ⊢
  exact hX
 | true =>
  have e : ((m : Int) != (k : Int)) = decide (m ≠ k) := by
   by_cases hz : m = k
   · subst hz; simp
   · have : (m : Int) ≠ k := by omega
     simp [hz, this]
  simp only [if_true, kv_some, ld_one, h5, hl, aNil_ptr, fieldAddr_ptr, Nat.zero_add, t1, h2, hi, hr, hk, bin_neq, pickV_bool, Bool.true_and, e, Bool.false_eq_true, if_false] at hX ⊢
  exact hX
theorem Sep.mkVt {k : Int} {x : VoteM} {t : Tri} (s : Sep F h (plStrs (mkS t) x.vals :: L)) : Sep F h (vtV k (.agg #[i64 x.id.client, i64 x.id.seq, i64 x.shard, .bool x.yes, i64 x.now, mkS t]) x :: L) :=
 Sep.mkEx (A := fun (w : V) => plAll [plPure ((.agg #[i64 x.id.client, i64 x.id.seq, i64 x.shard, .bool x.yes, i64 x.now, mkS t] : V) = .agg #[i64 x.id.client, i64 x.id.seq, i64 x.shard, .bool x.yes, i64 x.now, w]), plStrs w x.vals]) (mkS t)
  (Sep.mkAll (L' := [plPure ((.agg #[i64 x.id.client, i64 x.id.seq, i64 x.shard, .bool x.yes, i64 x.now, mkS t] : V) = .agg #[i64 x.id.client, i64 x.id.seq, i64 x.shard, .bool x.yes, i64 x.now, mkS t]), plStrs (mkS t) x.vals]) (Sep.mkPure rfl s))
structure DV (d : DeskM) : Prop where
 each : ∀ id t, lkp id d.opn = some t → t.decided = false → VU t
 kept : ∀ c, ((lkp c d.kept).getD []).length ≤ 8
theorem vote_full {y : Bool} {bt mv : Nat} {cs : List V} {vp : V} {ps : List (List Int)} {vs : List (Int × VoteM)} (hc1 : cs[1]? = some vp) (hc2 : cs[2]? = some (.map (some mv))) (hsz : ps.length ≤ 1000000)
 (s : Sep F h (plBox bt cs 7 :: plPts vp ps :: plGM kdInt vtV mv vs :: L)) {X : V → AHeap → Prop} (hX : ∀ h', Sep F h' (plBox bt cs 7 :: plPts vp ps :: plGM kdInt vtV mv vs :: L) → X (.bool (y && decide (vs.length < (shardsF ps).length))) h') :
 kv (gdV (Value.bool y) true (some (ptr bt 0))) fun v76 => kv (gdV (Value.bool y) true (aNil v76)) fun v77 => kv (gdV (Value.bool y) true (fieldAddrD (some 2) v77)) fun v78 => kv (gdV (Value.bool y) true (ldD Lay.one v78 h)) fun v79 =>
 kv (gdV (Value.bool y) true (lenD LenK.map v79 h)) fun v80 => kv (gdV (Value.bool y) true (some (ptr bt 0))) fun v81 => gdC (Value.bool y) true h (fun K66 => cl (Go.Abs.F.desk_trans_shards E) [v81] h fun v h => K66 v h) fun v82 h =>
 kv (gdV (Value.bool y) true (lenD LenK.slice v82 h)) fun v83 => kv (gdV (Value.bool y) true (binD EqK.bad BinOp.lss false v80 v83 h)) fun v84 => kv (pickV (Value.bool y) v84 (Value.bool false)) fun v85 => X v85 h := by
 cases y with
 | false =>
  simp only [gdV_bool, Bool.false_eq_true, if_false, kv_some]
  refine gdC_no (by decide) ?_
  simp only [gdV_bool, Bool.false_eq_true, if_false, kv_some, pickV_bool]
  exact hX h s
 | true =>
  have r2 : h.rd bt 2 = some (.map (some mv)) := by rw [rd_of s.get 2, hc2]
  have ll := Sep.lenM (s.re3 [2] rfl)
  simp only [gdV_bool, if_true, kv_some, aNil_ptr, fieldAddr_ptr, Nat.zero_add, ld_one, r2, ll]
  refine gdC_yes rfl (cl_then (trans_shards (cs := cs) hc1 hsz s) ?_)
  intro r h' s'
  obtain ⟨f, q, _⟩ := s'.head
  have q : SlE dInt h' f r (shardsF ps) := q
  have e : decide ((vs.length : Int) < ((shardsF ps).length : Int)) = decide (vs.length < (shardsF ps).length) := by
   by_cases hz : vs.length < (shardsF ps).length
   · rw [decide_eq_true hz]; exact decide_eq_true (by omega)
   · rw [decide_eq_false hz]; exact decide_eq_false (by omega)
  have := hX h' s'.drop
  simp only [q.len, kv_some, bin_lss, pickV_bool, if_true, e, Bool.true_and] at this ⊢
  exact this
set_option maxHeartbeats 4000000 in
theorem desk_Vote {nn : Nat} {p : V} {d : DeskM} (di : DInv nn d) (dv : DV d) (v : VoteM) {tv : Tri} (hvl : v.vals.length ≤ 1000000) (s : Sep F h (plDsk p d :: plStrs (mkS tv) v.vals :: L)) :
 cl (Go.Abs.F.desk_Desk_Vote E) [p, .agg #[i64 v.id.client, i64 v.id.seq, i64 v.shard, .bool v.yes, i64 v.now, mkS tv]] h fun r h' => r = .bool (voteV nn d v).1 ∧ Sep F h' (plDsk p (voteV nn d v).2 :: plStrs (mkS tv) v.vals :: L) := by
 refine cl_of ?_
 obtain ⟨b, ml, mo, mk, rfl, s0⟩ := s.openDsk
 clear s
 simp only [Go.Abs.F.desk_Desk_Vote]
 refine kP_of (v := ptr h.next 0) (g := h.new (.cells [i64 v.id.client, i64 v.id.seq, i64 v.shard, .bool v.yes, i64 v.now, mkS tv] 6 .rw)) rfl ?_
 have s1 := s0.box [i64 v.id.client, i64 v.id.seq, i64 v.shard, .bool v.yes, i64 v.now, mkS tv] 6
 clear s0
 generalize h.new (.cells [i64 v.id.client, i64 v.id.seq, i64 v.shard, .bool v.yes, i64 v.now, mkS tv] 6 .rw) = h1 at s1 ⊢
 generalize h.next = bv at s1 ⊢
 have gb := Sep.get s1.up1
 have b2 : h1.rd b 2 = some (.map (some mo)) := by rw [rd_of gb 2]; rfl
 have li : ldD (.agg 2) (ptr bv 0) h1 = some v.id.agg := by rw [ld_agg, rdN_of s1.get]; rfl
 have v2 : h1.rd bv 2 = some (i64 v.shard) := by rw [rd_of s1.get 2]; rfl
 simp only [ptr_eq_nil, kv_some, ifV_bool, Bool.false_eq_true, if_false, aNil_ptr, fieldAddr_ptr, Nat.zero_add, ld_one, b2, li]
 unfold voteV
 cases ht : Go.Abs.lkp v.id d.opn with
 | none =>
  have lo := (s1.re5 [3] rfl).lookNone (z := nil) ht false
  have lo : lookupD (some ((.struct false [(0, .int), (1, .int)]), (some (.pointer none)))) (.map (some mo)) v.id.agg false h1 = some nil := lo
  simp only [lo, kv_some, nil_eq_nil, gdV_bool, Bool.true_eq_false, if_false, pickV_bool, if_true]
  refine gdC_no (by decide) ?_
  simp only [kv_some, gdV_bool, Bool.true_eq_false, if_false, pickV_bool, if_true, ifV_bool]
  exact ⟨trivial, Sep.closeDsk s1.drop⟩
 | some t =>
 have ti := di.opn v.id t ht
 obtain ⟨w, lo, s2⟩ := (s1.re6 [3, 0, 1, 2, 4, 5] rfl).lookSome (z := nil) ht false
 have lo : lookupD (some ((.struct false [(0, .int), (1, .int)]), (some (.pointer none)))) (.map (some mo)) v.id.agg false h1 = some w := lo
 obtain ⟨bt, vo, vp, mv, md, vn, rfl, s3⟩ := Sep.openTr (t := t) s2
 clear s1 s2
 have back : ∀ {g : AHeap} {t' : TransM}, Sep F g (plBox bt [vo, vp, .map (some mv), .bool t'.decided, .bool t'.ok, .map (some md), vn] 7 :: plOps vo t'.ops :: plPts vp t'.parts :: plGM kdInt vtV mv t'.votes :: plGM kdInt dnV md t'.done :: plI64s vn t'.nows :: plGM kdId (holeP v.id (ptr bt 0) trV) mo d.opn :: plBox b [i64 d.n, .map (some ml), .map (some mo), .map (some mk)] 4 :: plGM kdInt lsV ml d.last :: plGM kdInt anV mk d.kept :: plStrs (mkS tv) v.vals :: L) →
  Sep F g (plDsk (ptr b 0) { d with opn := ins v.id t' d.opn } :: plStrs (mkS tv) v.vals :: L) := fun sg => by
  have := Sep.backM (A := trV) (k := v.id) (v := ptr bt 0) (Sep.closeTr sg) ht
  exact Sep.closeDsk (d := { d with opn := ins v.id _ d.opn }) (this.re5 [1, 2, 0, 3, 4] rfl)
 have same : ∀ {g : AHeap} {X : Pl}, Sep F g (plBox bt [vo, vp, .map (some mv), .bool t.decided, .bool t.ok, .map (some md), vn] 7 :: plOps vo t.ops :: plPts vp t.parts :: plGM kdInt vtV mv t.votes :: plGM kdInt dnV md t.done :: plI64s vn t.nows :: plGM kdId (holeP v.id (ptr bt 0) trV) mo d.opn :: X :: plBox b [i64 d.n, .map (some ml), .map (some mo), .map (some mk)] 4 :: plGM kdInt lsV ml d.last :: plGM kdInt anV mk d.kept :: plStrs (mkS tv) v.vals :: L) →
  Sep F g (plDsk (ptr b 0) d :: plStrs (mkS tv) v.vals :: L) := fun sg => by
  have := back (t' := t) (sg.re12 [0, 1, 2, 3, 4, 5, 6, 8, 9, 10, 11] rfl)
  rwa [ins_same ht] at this
 have t3 : h1.rd bt 3 = some (.bool t.decided) := by rw [rd_of s3.get 3]; rfl
 have t1 : h1.rd bt 1 = some vp := by rw [rd_of s3.get 1]; rfl
 have t2 : h1.rd bt 2 = some (.map (some mv)) := by rw [rd_of s3.get 2]; rfl
 have pr := Sep.ptsR s3.up2
 simp only [lo, kv_some, ptr_eq_nil, gdV_bool, if_true, aNil_ptr, fieldAddr_ptr, Nat.zero_add, ld_one, t3, pickV_bool, Bool.false_eq_true, if_false]
 cases hdec : t.decided with
 | true =>
  simp only [gdV_bool, Bool.true_eq_false, if_false, kv_some]
  refine gdC_no (by decide) ?_
  simp only [kv_some, gdV_bool, Bool.true_eq_false, if_false, pickV_bool, if_true, ifV_bool, Bool.true_or]
  rw [hdec] at same s3
  exact ⟨trivial, same s3⟩
 | false =>
 have vu := dv.each v.id t ht hdec
 simp only [gdV_bool, if_true, kv_some, ld_one, v2]
 refine gdC_yes rfl (cl_then (trans_has t1 pr v.shard) ?_)
 rintro r h2 ⟨rfl, rfl⟩
 simp only [not_bool, kv_some, pickV_bool, Bool.false_eq_true, if_false, Bool.false_or]
 cases hh : hasF t.parts v.shard with
 | false =>
  simp only [Bool.not_false, if_true, ifV_bool, Bool.true_or]
  exact ⟨trivial, same s3⟩
 | true =>
 obtain ⟨c0, c1, c2, c4, c3, c5, lv⟩ := Sep.lookVt (s3.re4 [3] rfl) v.shard
 have hmv := Sep.mapLt (s3.re4 [3] rfl)
 simp only [Bool.not_true, ifV_bool, Bool.false_eq_true, if_false, Bool.false_or, aNil_ptr, fieldAddr_ptr, Nat.zero_add, kv_some, ld_one, t2, v2, lv, extract_tuple, List.getElem?_toArray, List.getElem?_cons_zero, List.getElem?_cons_succ]
 refine kP_of (v := ptr h2.next 0) (g := h2.new (.cells [i64 0, i64 0, i64 0, .bool false, i64 0, .slice none 0 0] 6 .rw)) rfl ?_
 have s4 := s3.box [i64 0, i64 0, i64 0, .bool false, i64 0, .slice none 0 0] 6
 have hlv : (h2.new (.cells [i64 0, i64 0, i64 0, .bool false, i64 0, .slice none 0 0] 6 .rw)).get mv = h2.get mv := by
  have : mv ≠ h2.next := by omega
  simp [this]
 have lv' := (lookup_same hlv).trans lv
 generalize h2.new (.cells [i64 0, i64 0, i64 0, .bool false, i64 0, .slice none 0 0] 6 .rw) = h3 at s4 lv' ⊢
 generalize h2.next = bx at s4 ⊢
 have t2' : h3.rd bt 2 = some (.map (some mv)) := by rw [rd_of (Sep.get s4.up1) 2]; rfl
 have v2' : h3.rd bv 2 = some (i64 v.shard) := by rw [rd_of (Sep.get (s4.re9 [8] rfl)) 2]; rfl
 refine ⟨t2', v2', lv', ?_⟩
 rw [st_of (n := 6) (vs := [i64 c0, i64 c1, i64 c2, .bool c3, i64 c4, mkS c5]) s4.get (by simp) rfl rfl rfl (by simp), kH_some]
 have s5 := s4.write (cs' := setList [i64 0, i64 0, i64 0, .bool false, i64 0, .slice none 0 0] 0 [i64 c0, i64 c1, i64 c2, .bool c3, i64 c4, mkS c5])
 have s6 := s5.drop
 clear s3 s4 s5 lv lv' hlv t1 t2 t2' v2 v2' t3 pr li b2 gb lo
 generalize AHeap.put _ _ _ = h4 at s6 ⊢
 cases hlk : (Go.Abs.lkp v.shard t.votes).isSome with
 | true =>
  simp only [gdV_bool, Bool.true_eq_false, if_false, kv_some, pickV_bool, if_true, ifV_bool, Bool.true_or]
  exact ⟨trivial, same s6⟩
 | false =>
 obtain ⟨k, hk, hkl⟩ : ∃ k : Nat, v.shard = (k : Int) ∧ k < t.parts.length := by
  have h2 := hh
  unfold hasF at h2
  simp only [Bool.and_eq_true, decide_eq_true_eq] at h2
  refine ⟨v.shard.toNat, by omega, Nat.lt_of_not_le fun hle => ?_⟩
  rw [List.getD_eq_getElem?_getD, List.getElem?_eq_none hle] at h2
  simp at h2
 have hg : t.parts[k]? = some t.parts[k] := List.getElem?_eq_getElem hkl
 have hgd : t.parts.getD v.shard.toNat [] = t.parts[k] := by rw [hk, Int.toNat_natCast, List.getD_eq_getElem?_getD, hg]; rfl
 obtain ⟨a, row, a1, a2, a3, _⟩ := (Sep.ptsR s6.up2).row k _ hg
 rw [← hk] at a1
 have gv := Sep.get (s6.re8 [7] rfl)
 obtain ⟨ft, qt⟩ := s6.memP (A := plStrs (mkS tv) v.vals) (by simp)
 have qt : Ts h4 ft (mkS tv) v.vals := qt
 refine vote_mid (y := v.yes) (sh := v.shard) (by rw [rd_of gv 3]; rfl) (by rw [rd_of gv 5]; rfl) (by rw [rd_of gv 2]; rfl) (Sl.len qt) (by rw [rd_of s6.get 1]; rfl) a1 a2 a3 ?_
 rw [← hgd]
 simp only [Bool.false_or]
 cases hc : (v.yes && decide (v.vals.length ≠ (t.parts.getD v.shard.toNat []).length)) with
 | true =>
  simp only [ifV_bool, if_true]
  exact ⟨trivial, same s6⟩
 | false =>
 simp only [ifV_bool, Bool.false_eq_true, if_false]
 clear a1 a2 a3 hg
 rw [rd_of gv 5]
 refine kv_of (v := mkS tv) rfl ?_
 refine cl_then (clone_strs qt hvl) ?_
 rintro r h5 ⟨f5, q5, m5⟩
 have s7 := s6.alloc (plStrs r v.vals) m5 q5
 obtain ⟨tw, rfl⟩ := sl_form (ts_sle.1 q5)
 have s8 := s7.re13 [8, 0, 1, 2, 3, 4, 5, 6, 7, 9, 10, 11, 12] rfl
 rw [st_one s8.get (by simp) rfl rfl (by simp), kH_some]
 have s9 := s8.write (cs' := [i64 v.id.client, i64 v.id.seq, i64 v.shard, .bool v.yes, i64 v.now, mkS tw])
 rw [show [i64 v.id.client, i64 v.id.seq, i64 v.shard, .bool v.yes, i64 v.now, mkS tv].set 5 (mkS tw) = [i64 v.id.client, i64 v.id.seq, i64 v.shard, .bool v.yes, i64 v.now, mkS tw] from rfl]
 clear s6 s7 s8 qt q5 m5 gv
 generalize AHeap.put _ _ _ = h6 at s9 ⊢
 have t2 : h6.rd bt 2 = some (.map (some mv)) := by rw [rd_of (Sep.get s9.up2) 2]; rfl
 have v2 : h6.rd bv 2 = some (i64 v.shard) := by rw [rd_of s9.get 2]; rfl
 simp only [t2, v2, kv_some]
 rw [ld_agg, rdN_of s9.get]
 refine kv_of (v := .agg #[i64 v.id.client, i64 v.id.seq, i64 v.shard, .bool v.yes, i64 v.now, mkS tw]) rfl ?_
 have s10 : Sep F h6 (vtV v.shard (.agg #[i64 v.id.client, i64 v.id.seq, i64 v.shard, .bool v.yes, i64 v.now, mkS tw]) v :: plGM kdInt vtV mv t.votes :: plBox bv [i64 v.id.client, i64 v.id.seq, i64 v.shard, .bool v.yes, i64 v.now, mkS tw] 6 :: plBox bt [vo, vp, .map (some mv), .bool t.decided, .bool t.ok, .map (some md), vn] 7 :: plOps vo t.ops :: plPts vp t.parts :: plGM kdInt dnV md t.done :: plI64s vn t.nows :: plGM kdId (holeP v.id (ptr bt 0) trV) mo d.opn :: plBox b [i64 d.n, .map (some ml), .map (some mo), .map (some mk)] 4 :: plGM kdInt lsV ml d.last :: plGM kdInt anV mk d.kept :: plStrs (mkS tv) v.vals :: L) :=
  Sep.mkVt (s9.re13 [1, 5, 0, 2, 3, 4, 6, 7, 8, 9, 10, 11, 12] rfl)
 obtain ⟨h7, e7, s11⟩ := Sep.insM (D := kdInt) (A := vtV) (k := v.shard) (z := .agg #[(.int .i64 0), (.int .i64 0), (.int .i64 0), (.bool false), (.int .i64 0), (.slice none 0 0)]) s10.up1
 have e7 : mapUpdateD (some (.int, (some (.agg #[(.int .i64 0), (.int .i64 0), (.int .i64 0), (.bool false), (.int .i64 0), (.slice none 0 0)])))) (.map (some mv)) (i64 v.shard) (.agg #[i64 v.id.client, i64 v.id.seq, i64 v.shard, .bool v.yes, i64 v.now, mkS tw]) h6 = some h7 := e7
 rw [e7, kH_some]
 clear s9 s10 t2 v2 e7
 have v3 : h7.rd bv 3 = some (.bool v.yes) := by rw [rd_of (Sep.get s11.up1) 3]; rfl
 have t2 : h7.rd bt 2 = some (.map (some mv)) := by rw [rd_of (Sep.get s11.up2) 2]; rfl
 have ll := Sep.lenM s11
 simp only [v3, kv_some]
 refine vote_full (cs := [vo, vp, .map (some mv), .bool t.decided, .bool t.ok, .map (some md), vn]) rfl rfl (by rw [ti.parts, parts_len]; have := di.hn.2; omega) (s11.re12 [2, 4, 0, 1, 3, 5, 6, 7, 8, 9, 10, 11] rfl) fun h8 s12 => ?_
 clear s11 v3 t2 ll
 have vu1 : v.yes = true → VU { t with votes := ins v.shard v t.votes } := fun hy => by
  refine ⟨nodup_ins vu.nd, fun k' v' hk' => ?_⟩
  rw [lkp_ins] at hk'
  split at hk'
  · rename_i he
    subst he
    cases hk'
    refine ⟨hh, ?_⟩
    rw [hy] at hc
    simpa using hc
  · exact vu.each k' v' hk'
 cases hf : (v.yes && decide ((ins v.shard v t.votes).length < (shardsF t.parts).length)) with
 | true =>
  simp only [ifV_bool, if_true]
  refine ⟨trivial, ?_⟩
  have := back (t' := { t with votes := ins v.shard v t.votes }) (s12.re12 [0, 4, 1, 2, 5, 6, 7, 8, 9, 10, 11] rfl)
  rwa [hdec] at this
 | false =>
 simp only [ifV_bool, Bool.false_eq_true, if_false]
 have v3 : h8.rd bv 3 = some (.bool v.yes) := by rw [rd_of (Sep.get (s12.re4 [3] rfl)) 3]; rfl
 rw [v3, kv_some, st_one s12.get (by simp) rfl rfl (by simp), kH_some]
 have s13 := s12.write (cs' := [vo, vp, .map (some mv), .bool true, .bool t.ok, .map (some md), vn])
 rw [show [vo, vp, .map (some mv), .bool t.decided, .bool t.ok, .map (some md), vn].set 3 (.bool true) = [vo, vp, .map (some mv), .bool true, .bool t.ok, .map (some md), vn] from rfl]
 clear s12 v3
 generalize AHeap.put _ _ _ = h9 at s13 ⊢
 have v3 : h9.rd bv 3 = some (.bool v.yes) := by rw [rd_of (Sep.get (s13.re4 [3] rfl)) 3]; rfl
 refine ⟨v3, ?_⟩
 rw [st_one s13.get (by simp) rfl rfl (by simp), kH_some]
 have s14 := s13.write (cs' := [vo, vp, .map (some mv), .bool true, .bool v.yes, .map (some md), vn])
 rw [show [vo, vp, .map (some mv), .bool true, .bool t.ok, .map (some md), vn].set 4 (.bool v.yes) = [vo, vp, .map (some mv), .bool true, .bool v.yes, .map (some md), vn] from rfl]
 clear s13 v3
 generalize AHeap.put _ _ _ = h10 at s14 ⊢
 rw [ld_agg, rdN_of (Sep.get (s14.re4 [3] rfl))]
 refine kv_of (v := v.id.agg) rfl ?_
 have s15 := Sep.closeTr (t := { t with votes := ins v.shard v t.votes, decided := true, ok := v.yes }) (s14.re12 [0, 4, 1, 2, 5, 6, 8, 10, 7, 9, 11] rfl)
 clear s14
 have vi : v.yes = true → VtInv { t with votes := ins v.shard v t.votes, decided := true, ok := v.yes } := fun hy => by
  have h1 := (vu1 hy).full (by
   rw [hy] at hf
   simpa using hf)
  exact ⟨h1.each, h1.all⟩
 refine cl_then (desk_keep v.id di.hn (t := { t with votes := ins v.shard v t.votes, decided := true, ok := v.yes }) ⟨ti.all, ti.parts⟩ vi (by have := dv.kept v.id.client; omega) s15) ?_
 intro r h11 s16
 refine ⟨trivial, ?_⟩
 have s17 := Sep.backM (A := trV) (k := v.id) (v := ptr bt 0) (s16.re6 [0, 3, 1, 2, 4, 5] rfl) ht
 exact Sep.closeDsk (d := { d with opn := ins v.id _ d.opn, kept := ins v.id.client _ d.kept }) (s17.re5 [1, 3, 0, 2, 4] rfl)
end Go.Abs

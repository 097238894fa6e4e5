/- A desk: which are open; what is wanted. -/
import Derived.Test.YthhegdifbnghpaaGreatDoorWbe
import Derived.Test.YthhegdifbnghpaaGreatDoorWbd
set_option linter.unusedSimpArgs false
set_option linter.unusedVariables false
namespace Go.Abs
open Go Go.Proofs
variable {E : FE} {F : Fr} {h : AHeap} {L : List Pl}
theorem desk_Open {n : Nat} {p : V} {d : DeskM} (so : SortOk E n) (hl : d.opn.length ≤ n) (hn : n ≤ 1000000) (s : Sep F h (plDsk p d :: L)) :
 cl (Go.Abs.F.desk_Desk_Open E) [p] h fun r h' => ∃ l', l'.Perm (keysL d.opn) ∧ Srtd ordI l' ∧ Sep F h' (plIl r l' :: plDsk p d :: L) := by
 refine cl_of ?_
 obtain ⟨b, ml, mo, mk, rfl, s0⟩ := s.openDsk
 have r2 : h.rd b 2 = some (.map (some mo)) := by rw [rd_of s0.get 2]; rfl
 simp only [Go.Abs.F.desk_Desk_Open, ptr_eq_nil, kv_some, ifV_bool, Bool.false_eq_true, if_false, aNil_ptr, fieldAddr_ptr, ld_one, Nat.zero_add, r2]
 refine cl_of ?_
 have e2 : newD none (.map (some mo)) h = some (ptr h.next 0, h.new (.cells [.map (some mo)] 1 .rw)) := rfl
 simp only [Go.Abs.F.maps_Keys_map_api_Id_desk_trans_api_Id_desk_trans, e2, kP_some]
 have s1 := s0.box [.map (some mo)] 1
 generalize h.new (.cells [.map (some mo)] 1 .rw) = h1 at s1 ⊢
 generalize h.next = bx at s1 ⊢
 have hnd := Sep.nodupM (s1.re5 [3] rfl)
 refine keys_collect (s1.re5 [3, 0, 1, 2, 4] rfl) (by omega) (.inr (.inr rfl)) fun r h2 ks hks s2 => ?_
 have hkl : ks.length ≤ n := by
  have := hks.length_eq
  simp only [keysL, List.length_map] at this
  omega
 refine cl_then (ids_New (hks.nodup_iff.2 hnd) (by omega) s2) ?_
 intro q h3 s3
 refine cl_then (ids_All so hkl hn s3) ?_
 rintro r2 h4 ⟨l', hl', hs, s4⟩
 refine ⟨l', hl'.trans hks, hs, ?_⟩
 exact (Sep.closeDsk (s4.re8 [5, 6, 3, 7, 0] rfl)).up1
/-! ### Words -/
structure WdM where
 to : Int
 r : RecM
def dWd : EL (WdM × Tri × Tri) := ⟨4, fun e => [i64 e.1.to, i64 e.1.r.kind, mkS e.2.1, mkS e.2.2], fun _ => rfl, fun _ => rfl, by decide⟩
def rdWd : RD (WdM × Tri × Tri) := ⟨dWd, fun e => [plI64s (mkS e.2.1) e.1.r.nums, plStrs (mkS e.2.2) e.1.r.texts]⟩
def plWds (v : V) (l : List WdM) : Pl := plEx fun (qs : List (WdM × Tri × Tri)) => plAll [plPure (qs.map (·.1) = l), plRow rdWd v qs]
theorem Sep.openWds {v : V} {l : List WdM} (s : Sep F h (plWds v l :: L)) : ∃ qs : List (WdM × Tri × Tri), qs.map (·.1) = l ∧ Sep F h (plRow rdWd v qs :: L) := by
 obtain ⟨qs, s⟩ := s.ex
 have s1 := s.all
 obtain ⟨e, s2⟩ := Sep.pure (L := plRow rdWd v qs :: L) s1
 exact ⟨qs, e, s2⟩
theorem Sep.closeWds {v : V} {qs : List (WdM × Tri × Tri)} (s : Sep F h (plRow rdWd v qs :: L)) : Sep F h (plWds v (qs.map (·.1)) :: L) :=
 Sep.mkEx (A := fun (q : List (WdM × Tri × Tri)) => plAll [plPure (q.map (·.1) = qs.map (·.1)), plRow rdWd v q]) qs
  (Sep.mkAll (L' := [plPure (qs.map (·.1) = qs.map (·.1)), plRow rdWd v qs]) (Sep.mkPure rfl s))
theorem Sep.noWds (s : Sep F h L) : Sep F h (plWds (.slice none 0 0) [] :: L) := Sep.closeWds (qs := []) s.rowNil
theorem Sep.lenWds {v : V} {l : List WdM} (s : Sep F h (plWds v l :: L)) : lenD .slice v h = some (i64 l.length) := by
 obtain ⟨qs, rfl, s1⟩ := s.openWds
 rw [s1.rowLen, List.length_map]
theorem Sep.wdPush {v : V} {l : List WdM} {t u : Tri} {to kind : Int} {nums : List Int} {texts : List ByteArray} (s : Sep F h (plWds v l :: plI64s (mkS t) nums :: plStrs (mkS u) texts :: L)) (hsz : l.length ≤ 1000000)
 {K : V → AHeap → Prop} (hK : ∀ v' h', Sep F h' (plWds v' (l ++ [⟨to, ⟨kind, nums, texts⟩⟩]) :: L) → K v' h') :
 kP (buildSliceD (some (4, [(.int .i64 0), (.int .i64 0), (.slice none 0 0), (.slice none 0 0)])) 1 [(0, .agg #[i64 to, i64 kind, mkS t, mkS u])] h) fun w h => kP (appendD (some (4, 64, [(.int .i64 0), (.int .i64 0), (.slice none 0 0), (.slice none 0 0)])) v w h) K := by
 obtain ⟨qs, rfl, s1⟩ := s.openWds
 rw [List.length_map] at hsz
 refine Sep.rowPush (R := rdWd) (x := ((⟨to, ⟨kind, nums, texts⟩⟩ : WdM), t, u)) s1 rfl rfl (by decide) hsz fun v' h' s' => hK v' h' ?_
 have := Sep.closeWds s'
 rw [List.map_append] at this
 exact this
theorem Sep.wdApp {v w : V} {l m : List WdM} (s : Sep F h (plWds v l :: plWds w m :: L)) (hsz : l.length + m.length ≤ 1000000) :
 ∃ v' h', appendD (some (4, 64, [(.int .i64 0), (.int .i64 0), (.slice none 0 0), (.slice none 0 0)])) v w h = some (v', h') ∧ Sep F h' (plWds v' (l ++ m) :: L) := by
 obtain ⟨qs, rfl, s1⟩ := s.openWds
 obtain ⟨ws, rfl, s2⟩ := s1.up1.openWds
 rw [List.length_map, List.length_map] at hsz
 obtain ⟨v', h', e, s3⟩ := Sep.rowApp (R := rdWd) (bytes := 64) (z := [(.int .i64 0), (.int .i64 0), (.slice none 0 0), (.slice none 0 0)]) s2.up1 rfl (by decide) hsz
 refine ⟨v', h', e, ?_⟩
 have := Sep.closeWds s3
 rw [List.map_append] at this
 exact this
/-! ### What can be read of votes, of what is done -/
theorem Sep.lookVt {mv : Nat} {l : List (Int × VoteM)} (s : Sep F h (plGM kdInt vtV mv l :: L)) (k : Int) : ∃ (c0 c1 c2 c4 : Int) (c3 : Bool) (c5 : Tri),
 lookupD (some (.int, (some (.agg #[(.int .i64 0), (.int .i64 0), (.int .i64 0), (.bool false), (.int .i64 0), (.slice none 0 0)])))) (.map (some mv)) (i64 k) true h = some (.tuple #[.agg #[i64 c0, i64 c1, i64 c2, .bool c3, i64 c4, mkS c5], .bool (lkp k l).isSome]) := by
 cases hk : Go.Abs.lkp k l with
 | none =>
  have h1 := s.lookNone (z := .agg #[(.int .i64 0), (.int .i64 0), (.int .i64 0), (.bool false), (.int .i64 0), (.slice none 0 0)]) hk true
  exact ⟨0, 0, 0, 0, false, (none, 0, 0), h1⟩
 | some x =>
  obtain ⟨w, h1, s1⟩ := s.lookSome (z := .agg #[(.int .i64 0), (.int .i64 0), (.int .i64 0), (.bool false), (.int .i64 0), (.slice none 0 0)]) hk true
  obtain ⟨u, s2⟩ := Sep.ex (A := fun (u : V) => plAll [plPure (w = .agg #[i64 x.id.client, i64 x.id.seq, i64 x.shard, .bool x.yes, i64 x.now, u]), plStrs u x.vals]) s1
  have s3 := s2.all
  obtain ⟨e, s4⟩ := Sep.pure (L := plStrs u x.vals :: plGM kdInt (holeP k w vtV) mv l :: L) s3
  obtain ⟨f, q, _⟩ := s4.head
  have q : Ts h f u x.vals := q
  obtain ⟨t, rfl⟩ := sl_form (ts_sle.1 q)
  subst e
  exact ⟨_, _, _, _, _, t, h1⟩
theorem Sep.lookDn {md : Nat} {l : List (Int × Unit)} (s : Sep F h (plGM kdInt dnV md l :: L)) (k : Int) :
 lookupD (some (.int, (some (.bool false)))) (.map (some md)) (i64 k) false h = some (.bool (lkp k l).isSome) := by
 cases hk : Go.Abs.lkp k l with
 | none => exact s.lookNone (z := .bool false) hk false
 | some x =>
  obtain ⟨w, h1, s1⟩ := s.lookSome (z := .bool false) hk false
  obtain ⟨e, _⟩ := Sep.pure (φ := w = .bool true) s1
  subst e
  exact h1
def wantF (nn : Nat) (id : IdM) (t : TransM) (s : Int) : Option WdM :=
 if t.decided && !(lkp s t.done).isSome then (if (wordV 6 id s t.ok).2 then some ⟨s, (wordV 6 id s t.ok).1⟩ else none)
 else if !t.decided && !(lkp s t.votes).isSome then (if (putV 4 id (ofF t.ops ((partsF t.ops nn).getD s.toNat []))).2 then some ⟨s, (putV 4 id (ofF t.ops ((partsF t.ops nn).getD s.toNat []))).1⟩ else none)
 else none
def wantsF (nn : Nat) (id : IdM) (t : TransM) : List WdM := (shardsF t.parts).filterMap (wantF nn id t)
theorem shards_in {ps : List (List Int)} {s : Int} (hs : s ∈ shardsF ps) : ∃ k : Nat, s = k ∧ k < ps.length ∧ hasF ps s = true := by
 unfold shardsF at hs
 obtain ⟨h1, h2⟩ := List.mem_filter.1 hs
 obtain ⟨k, hk, rfl⟩ := List.mem_map.1 h1
 exact ⟨k, rfl, by simpa using hk, h2⟩
theorem shards_len (ps : List (List Int)) : (shardsF ps).length ≤ ps.length := by
 unfold shardsF
 refine Nat.le_trans (List.length_filter_le _ _) ?_
 simp
theorem ofF_mem {l : List Oq} {p : List Int} : ∀ o ∈ ofF l p, o ∈ l := by
 intro o ho
 obtain ⟨i, _, hi⟩ := List.mem_filterMap.1 ho
 exact List.mem_of_getElem? hi
set_option maxHeartbeats 1000000 in
theorem desk_wants (oe : OpE E) {vt : V} {t : TransM} {b nn : Nat} {c1 c2 c3 : V} (id : IdM) (hn : 1 ≤ nn ∧ nn ≤ 3) (hp : t.parts = partsF t.ops nn) (hl : t.ops.length ≤ 100000) (hz : ∀ o ∈ t.ops, o.space.size ≤ 1000000000)
 (s : Sep F h (plTr vt t :: plBox b [i64 (nn : Nat), c1, c2, c3] 4 :: L)) :
 cl (Go.Abs.F.desk_Desk_wants E) [ptr b 0, id.agg, vt] h fun r h' => Sep F h' (plWds r (wantsF nn id t) :: plTr vt t :: plBox b [i64 (nn : Nat), c1, c2, c3] 4 :: L) := by
 refine cl_of ?_
 obtain ⟨bt, vo, vp, mv, md, vn, rfl, s0⟩ := s.openTr
 clear s
 have hpl : t.parts.length = nn := by rw [hp, parts_len]
 simp only [Go.Abs.F.desk_Desk_wants, new2, kP_some]
 have s1 := s0.box (cId id) 2
 clear s0
 generalize h.new (.cells (cId id) 2 .rw) = h1 at s1 ⊢
 generalize h.next = bi at s1 ⊢
 refine cl_then (trans_shards (cs := [vo, vp, .map (some mv), .bool t.decided, .bool t.ok, .map (some md), vn]) rfl (by omega) (s1.re8 [1, 3, 0, 2, 4, 5, 6, 7] rfl)) ?_
 intro r h2 s2
 clear s1
 generalize hsl : shardsF t.parts = sl at s2
 have hsin : ∀ x ∈ sl, ∃ k : Nat, x = k ∧ k < t.parts.length ∧ hasF t.parts x = true := fun x hx => shards_in (by rw [hsl]; exact hx)
 have hsll : sl.length ≤ nn := by rw [← hsl, ← hpl]; exact shards_len _
 obtain ⟨f, q, _⟩ := s2.head
 have q : SlE dInt h2 f r sl := q
 rw [q.len, kv_some]
 refine ⟨fun n vs h' => ∃ (i : Nat) (w : V), vs = [w, i64 i] ∧ n = sl.length - i ∧ i ≤ sl.length ∧ Sep F h' (plWds w ((sl.take i).filterMap (wantF nn id t)) :: plI64s r sl :: plBox bt [vo, vp, .map (some mv), .bool t.decided, .bool t.ok, .map (some md), vn] 7 :: plPts vp t.parts :: plBox bi (cId id) 2 :: plOps vo t.ops :: plGM kdInt vtV mv t.votes :: plGM kdInt dnV md t.done :: plI64s vn t.nows :: plBox b [i64 (nn : Nat), c1, c2, c3] 4 :: L),
  sl.length, ⟨0, _, rfl, by omega, by omega, Sep.noWds s2⟩, ?_⟩
 rintro n e g1 ⟨i, w, he, rfl, hi, z1⟩
 simp only [List.cons.injEq, and_true] at he
 simp only [he.1, he.2, bin_lss, kv_some, ifV_bool, decide_eq_true_eq]
 by_cases hx : i < sl.length
 case neg =>
  rw [if_neg (show ¬ ((i : Nat) : Int) < (sl.length : Nat) by omega)]
  rw [List.take_of_length_le (by omega)] at z1
  have z2 : Sep F g1 (plTr (ptr bt 0) t :: plWds w (sl.filterMap (wantF nn id t)) :: plBox b [i64 (nn : Nat), c1, c2, c3] 4 :: L) := Sep.closeTr (z1.re10 [2, 5, 3, 6, 7, 8, 0, 9] rfl)
  unfold wantsF
  rw [hsl]
  exact z2.up1
 rw [if_pos (show ((i : Nat) : Int) < (sl.length : Nat) by omega)]
 obtain ⟨f1, q1⟩ := z1.memP (A := plI64s r sl) (by simp)
 have q1 : SlE dInt g1 f1 r sl := q1
 have hg : sl[i]? = some sl[i] := List.getElem?_eq_getElem hx
 obtain ⟨bc, _, a1, _, a3⟩ := q1.at hg
 have a1 : indexAddrD (.slice 1) r (i64 i) = some (ptr bc (i * 1)) := a1
 have a3 : g1.rd bc (i * 1) = some (i64 sl[i]) := a3 0 (by decide)
 obtain ⟨k, hk, hkl, hhas⟩ := hsin _ (List.getElem_mem hx)
 have htk : (sl.take (i + 1)).filterMap (wantF nn id t) = (sl.take i).filterMap (wantF nn id t) ++ (wantF nn id t sl[i]).toList := by
  rw [List.take_add_one, hg, Option.toList_some, List.filterMap_append]
  congr 1
 generalize sl[i] = x at hk a3 htk hhas
 subst hk
 have hlen : ((sl.take i).filterMap (wantF nn id t)).length ≤ 1000000 := by
  have h1 := List.length_filterMap_le (wantF nn id t) (sl.take i)
  rw [List.length_take] at h1
  omega
 generalize (sl.take i).filterMap (wantF nn id t) = out at z1 htk hlen
 rw [a1, kv_some, ld_one, a3, kv_some]
 have e4 : newD none (.agg #[(.int .i64 0), (.int .i64 0), (.slice none 0 0), (.slice none 0 0)]) g1 = some (ptr g1.next 0, g1.new (.cells [i64 0, i64 0, .slice none 0 0, .slice none 0 0] 4 .rw)) := rfl
 rw [e4, kP_some]
 have z2 := z1.box [i64 0, i64 0, .slice none 0 0, .slice none 0 0] 4
 clear z1 q1 a1 a3 e4
 generalize g1.new (.cells [i64 0, i64 0, .slice none 0 0, .slice none 0 0] 4 .rw) = g2 at z2 ⊢
 generalize g1.next = bw at z2 ⊢
 have gt := Sep.get (z2.re11 [3] rfl)
 have t2 : g2.rd bt 2 = some (.map (some mv)) := by rw [rd_of gt 2]; rfl
 obtain ⟨d0, d1, d2, d4, d3, d5, hv⟩ := Sep.lookVt (z2.re11 [7] rfl) (k : Int)
 simp only [aNil_ptr, kv_some, fieldAddr_ptr, Nat.zero_add, ld_one, t2, hv, extract_tuple, List.getElem?_toArray, List.getElem?_cons_zero, List.getElem?_cons_succ]
 have e6 : newD none (.agg #[(.int .i64 0), (.int .i64 0), (.int .i64 0), (.bool false), (.int .i64 0), (.slice none 0 0)]) g2 = some (ptr g2.next 0, g2.new (.cells [i64 0, i64 0, i64 0, .bool false, i64 0, .slice none 0 0] 6 .rw)) := rfl
 rw [e6, kP_some]
 have z3 := z2.box [i64 0, i64 0, i64 0, .bool false, i64 0, .slice none 0 0] 6
 clear z2 gt t2 hv e6
 generalize g2.new (.cells [i64 0, i64 0, i64 0, .bool false, i64 0, .slice none 0 0] 6 .rw) = g3 at z3 ⊢
 generalize g2.next = bv at z3 ⊢
 rw [st_of (n := 6) (vs := [i64 d0, i64 d1, i64 d2, .bool d3, i64 d4, mkS d5]) z3.get (by simp) rfl rfl rfl (by simp), kH_some]
 have z4 := (z3.write (cs' := setList [i64 0, i64 0, i64 0, .bool false, i64 0, .slice none 0 0] 0 [i64 d0, i64 d1, i64 d2, .bool d3, i64 d4, mkS d5])).drop
 clear z3
 generalize AHeap.put _ _ _ = g4 at z4 ⊢
 refine ⟨fun vs h' => ∃ (o : Option WdM) (kind : Int) (tt uu : Tri) (nums : List Int) (texts : List ByteArray), o = wantF nn id t k ∧ vs = [.bool o.isSome] ∧ (∀ y, o = some y → y = ⟨(k : Int), ⟨kind, nums, texts⟩⟩) ∧
  Sep F h' (plI64s (mkS tt) nums :: plStrs (mkS uu) texts :: plBox bw [i64 0, i64 kind, mkS tt, mkS uu] 4 :: plWds w out :: plI64s r sl :: plBox bt [vo, vp, .map (some mv), .bool t.decided, .bool t.ok, .map (some md), vn] 7 :: plPts vp t.parts :: plBox bi (cId id) 2 :: plOps vo t.ops :: plGM kdInt vtV mv t.votes :: plGM kdInt dnV md t.done :: plI64s vn t.nows :: plBox b [i64 (nn : Nat), c1, c2, c3] 4 :: L), ?_, ?_⟩
 · -- the record
   have gt := Sep.get (z4.re11 [3] rfl)
   have t0 : g4.rd bt 0 = some vo := by rw [rd_of gt 0]; rfl
   have t3 : g4.rd bt 3 = some (.bool t.decided) := by rw [rd_of gt 3]; rfl
   have t4 : g4.rd bt 4 = some (.bool t.ok) := by rw [rd_of gt 4]; rfl
   have t5 : g4.rd bt 5 = some (.map (some md)) := by rw [rd_of gt 5]; rfl
   have hd := Sep.lookDn (z4.re11 [8] rfl) (k : Int)
   have li : ldD (.agg 2) (ptr bi 0) g4 = some id.agg := ld2 (Sep.get (z4.re11 [5] rfl))
   have b0 : g4.rd b 0 = some (i64 (nn : Nat)) := by rw [rd_of (Sep.get (z4.re11 [10] rfl)) 0]; rfl
   have none' : wantF nn id t k = none → Sep F g4 (plI64s (mkS (none, 0, 0)) [] :: plStrs (mkS (none, 0, 0)) [] :: plBox bw [i64 0, i64 0, mkS (none, 0, 0), mkS (none, 0, 0)] 4 :: plWds w out :: plI64s r sl :: plBox bt [vo, vp, .map (some mv), .bool t.decided, .bool t.ok, .map (some md), vn] 7 :: plPts vp t.parts :: plBox bi (cId id) 2 :: plOps vo t.ops :: plGM kdInt vtV mv t.votes :: plGM kdInt dnV md t.done :: plI64s vn t.nows :: plBox b [i64 (nn : Nat), c1, c2, c3] 4 :: L) := fun _ => Sep.noInts (Sep.noStrs z4)
   have fin : ∀ {g : AHeap} {v : V} {rr : RecM} {ok : Bool}, Sep F g (plRec v rr :: plBox bw [i64 0, i64 0, .slice none 0 0, .slice none 0 0] 4 :: plWds w out :: plI64s r sl :: plBox bt [vo, vp, .map (some mv), .bool t.decided, .bool t.ok, .map (some md), vn] 7 :: plPts vp t.parts :: plBox bi (cId id) 2 :: plOps vo t.ops :: plGM kdInt vtV mv t.votes :: plGM kdInt dnV md t.done :: plI64s vn t.nows :: plBox b [i64 (nn : Nat), c1, c2, c3] 4 :: L) →
    wantF nn id t k = (if ok then some ⟨(k : Int), rr⟩ else none) → kH (stD (some 3) (ptr bw 1) v g) fun _ h' => ∃ (o : Option WdM) (kind : Int) (tt uu : Tri) (nums : List Int) (texts : List ByteArray), o = wantF nn id t k ∧ [(.bool ok : V)] = [.bool o.isSome] ∧ (∀ y, o = some y → y = ⟨(k : Int), ⟨kind, nums, texts⟩⟩) ∧
   Sep F h' (plI64s (mkS tt) nums :: plStrs (mkS uu) texts :: plBox bw [i64 0, i64 kind, mkS tt, mkS uu] 4 :: plWds w out :: plI64s r sl :: plBox bt [vo, vp, .map (some mv), .bool t.decided, .bool t.ok, .map (some md), vn] 7 :: plPts vp t.parts :: plBox bi (cId id) 2 :: plOps vo t.ops :: plGM kdInt vtV mv t.votes :: plGM kdInt dnV md t.done :: plI64s vn t.nows :: plBox b [i64 (nn : Nat), c1, c2, c3] 4 :: L) := by
    intro g v rr ok sg hw
    obtain ⟨kind, nums, texts⟩ := rr
    obtain ⟨tt, uu, rfl, sg1⟩ := sg.openRec
    rw [st_of (n := 3) (vs := [i64 kind, mkS tt, mkS uu]) (Sep.get sg1.up2) (by simp) rfl rfl rfl (by simp), kH_some]
    have sg2 := Sep.write (cs' := setList [i64 0, i64 0, .slice none 0 0, .slice none 0 0] 1 [i64 kind, mkS tt, mkS uu]) sg1.up2
    refine ⟨_, kind, tt, uu, nums, texts, rfl, ?_, ?_, sg2.dn2⟩
    · rw [hw]; cases ok <;> rfl
    · intro y hy
      rw [hw] at hy
      cases ok with
      | false => cases hy
      | true => exact (Option.some.inj hy).symm
   simp only [t3, kv_some]
   cases hdec : t.decided with
   | true =>
    simp only [gdV_bool, if_true, aNil_ptr, kv_some, fieldAddr_ptr, Nat.zero_add, ld_one, t5, hd, not_bool, pickV_bool]
    cases hdn : (lkp (k : Int) t.done).isSome with
    | true =>
     have hw : wantF nn id t k = none := by unfold wantF; rw [hdec, hdn]; rfl
     rw [hdec] at t3 none'
     simp only [Bool.not_true, ifV_bool, Bool.false_eq_true, if_false, aNil_ptr, kv_some, fieldAddr_ptr, Nat.zero_add, ld_one, t3, not_bool, gdV_bool, pickV_bool]
     exact ⟨_, 0, (none, 0, 0), (none, 0, 0), [], [], rfl, by rw [hw]; rfl, fun y hy => (by rw [hw] at hy; cases hy), none' hw⟩
    | false =>
     have hw : wantF nn id t k = if (wordV 6 id k t.ok).2 then some ⟨(k : Int), (wordV 6 id k t.ok).1⟩ else none := by unfold wantF; rw [hdec, hdn]; rfl
     rw [hdec] at z4 fin
     simp only [Bool.not_false, ifV_bool, if_true, li, aNil_ptr, kv_some, fieldAddr_ptr, Nat.zero_add, ld_one, t4]
     refine cl_then (op_Word (.inl rfl) id (k : Int) t.ok z4) ?_
     rintro r5 g5 ⟨v5, rfl, z5⟩
     simp only [extract_tuple, List.getElem?_toArray, List.getElem?_cons_zero, List.getElem?_cons_succ, kv_some, fieldAddr_ptr, Nat.zero_add]
     exact fin z5 hw
   | false =>
    simp only [gdV_bool, Bool.false_eq_true, if_false, kv_some, pickV_bool, ifV_bool, aNil_ptr, fieldAddr_ptr, Nat.zero_add, ld_one, t3, hdec, not_bool, Bool.not_false, if_true]
    cases hvt : (lkp (k : Int) t.votes).isSome with
    | true =>
     have hw : wantF nn id t k = none := by unfold wantF; rw [hdec, hvt]; rfl
     rw [hdec] at none'
     simp only [Bool.not_true, Bool.false_eq_true, if_false]
     exact ⟨_, 0, (none, 0, 0), (none, 0, 0), [], [], rfl, by rw [hw]; rfl, fun y hy => (by rw [hw] at hy; cases hy), none' hw⟩
    | false =>
     have hw : wantF nn id t k = if (putV 4 id (ofF t.ops ((partsF t.ops nn).getD k []))).2 then some ⟨(k : Int), (putV 4 id (ofF t.ops ((partsF t.ops nn).getD k []))).1⟩ else none := by unfold wantF; rw [hdec, hvt]; rfl
     rw [hdec] at z4 fin
     simp only [Bool.not_false, if_true, li, aNil_ptr, kv_some, fieldAddr_ptr, Nat.zero_add, ld_one, t0, b0]
     refine cl_then (op_Of (sh := k) hn (by omega) hl hz (z4.re11 [6, 0, 1, 2, 3, 4, 5, 7, 8, 9, 10] rfl)) ?_
     intro r5 g5 z5
     have li5 : ldD (.agg 2) (ptr bi 0) g5 = some id.agg := ld2 (Sep.get (z5.re12 [7] rfl))
     refine ⟨li5, ?_⟩
     have hofl : (ofF t.ops ((partsF t.ops nn).getD k [])).length ≤ 100000 := by
      refine Nat.le_trans (ofF_len _ _) ?_
      have hm : (partsF t.ops nn).getD k [] ∈ partsF t.ops nn := by
       rw [List.getD_eq_getElem?_getD, List.getElem?_eq_getElem (by rw [parts_len]; omega)]
       exact List.getElem_mem _
      have := parts_short hm
      omega
     refine cl_then (op_Put oe (.inr rfl) id hofl (fun o ho => by have := hz o (ofF_mem o ho); have : (1000000000 : Nat) ≤ maxLen := by decide
                                                                  omega) z5) ?_
     rintro r6 g6 ⟨v6, rfl, z6⟩
     simp only [extract_tuple, List.getElem?_toArray, List.getElem?_cons_zero, List.getElem?_cons_succ, kv_some, fieldAddr_ptr, Nat.zero_add]
     exact fin (z6.re13 [0, 3, 4, 5, 6, 7, 8, 2, 9, 10, 11, 12] rfl) hw
 · rintro e15 g5 ⟨o, kind, tt, uu, nums, texts, ho, he15, hy, z5⟩
   simp only [List.cons.injEq, and_true] at he15
   simp only [he15, fieldAddr_ptr, Nat.zero_add, kv_some, ifV_bool]
   rw [st_one (Sep.get z5.up2) (by simp) rfl rfl (by simp), kH_some]
   have z6 := Sep.write (cs' := [i64 (k : Int), i64 kind, mkS tt, mkS uu]) z5.up2
   rw [show [i64 0, i64 kind, mkS tt, mkS uu].set 0 (i64 (k : Int)) = [i64 (k : Int), i64 kind, mkS tt, mkS uu] from rfl]
   generalize AHeap.put _ _ _ = g6 at z6 ⊢
   cases o with
   | none =>
    simp only [Option.isSome_none, Bool.false_eq_true, if_false]
    rw [add_i64 _ 1 (by omega) (by omega), kv_some]
    refine ⟨sl.length - (i + 1), by omega, i + 1, w, by simp, rfl, by omega, ?_⟩
    rw [htk, ← ho]
    simp only [Option.toList_none, List.append_nil]
    exact z6.drop.drop.drop
   | some y =>
    have := hy y rfl
    subst this
    simp only [Option.isSome_some, if_true]
    rw [ld_agg, rdN_of z6.get, if_pos (by simp), Option.map_some, kv_some]
    refine Sep.wdPush (to := (k : Int)) (kind := kind) (z6.re4 [3, 1, 2] rfl) hlen fun w' g7 z7 => ?_
    rw [add_i64 _ 1 (by omega) (by omega), kv_some]
    refine ⟨sl.length - (i + 1), by omega, i + 1, w', by simp, rfl, by omega, ?_⟩
    rw [htk, ← ho]
    exact z7
end Go.Abs
namespace Go.Abs
open Go Go.Proofs
variable {E : FE} {F : Fr} {h : AHeap} {L : List Pl}
structure TInv (nn : Nat) (t : TransM) : Prop where
 all : allO t.ops = true
 parts : t.parts = partsF t.ops nn
structure DInv (nn : Nat) (d : DeskM) : Prop where
 n : d.n = (nn : Nat)
 hn : 1 ≤ nn ∧ nn ≤ 3
 opn : ∀ id t, lkp id d.opn = some t → TInv nn t
def wantsA (nn : Nat) (d : DeskM) (ids : List IdM) : List WdM := ids.flatMap fun id => match lkp id d.opn with | some t => wantsF nn id t | none => []
theorem wantsF_len (nn : Nat) (id : IdM) (t : TransM) (hp : t.parts = partsF t.ops nn) : (wantsF nn id t).length ≤ nn := by
 unfold wantsF
 refine Nat.le_trans (List.length_filterMap_le _ _) (Nat.le_trans (shards_len _) ?_)
 rw [hp, parts_len]
 exact Nat.le_refl _
theorem wantsA_len {nn : Nat} {d : DeskM} (di : DInv nn d) (ids : List IdM) : (wantsA nn d ids).length ≤ 3 * ids.length := by
 unfold wantsA
 induction ids with
 | nil => simp
 | cons a l ih =>
  rw [List.flatMap_cons, List.length_append, List.length_cons]
  have : (match lkp a d.opn with | some t => wantsF nn a t | none => []).length ≤ 3 := by
   cases hk : lkp a d.opn with
   | none => simp
   | some t =>
    have h1 := wantsF_len nn a t (di.opn a t hk).parts
    have h2 := di.hn.2
    simp only
    omega
  omega
theorem TInv.ops {nn : Nat} {t : TransM} (ti : TInv nn t) : t.ops.length ≤ 8 ∧ ∀ o ∈ t.ops, o.space.size ≤ 20 := by
 have hal := allF ti.all
 exact ⟨hal.2.1, fun o ho => (mayF (hal.2.2 o ho)).sp.2⟩
set_option maxHeartbeats 1000000 in
theorem desk_Wants (oe : OpE E) {n nn : Nat} {p : V} {d : DeskM} (di : DInv nn d) (so : SortOk E n) (hl : d.opn.length ≤ n) (hn : n ≤ 100000) (s : Sep F h (plDsk p d :: L)) :
 cl (Go.Abs.F.desk_Desk_Wants E) [p] h fun r h' => ∃ ids, ids.Perm (keysL d.opn) ∧ Srtd ordI ids ∧ Sep F h' (plWds r (wantsA nn d ids) :: plDsk p d :: L) := by
 refine cl_of ?_
 simp only [Go.Abs.F.desk_Desk_Wants]
 refine cl_then (desk_Open so hl (by omega) s) ?_
 rintro r h1 ⟨ids, hids, hsr, s1⟩
 obtain ⟨f, q, _⟩ := s1.head
 have q : SlE dId h1 f r ids := q
 have hil : ids.length ≤ n := by
  have := hids.length_eq
  simp only [keysL, List.length_map] at this
  omega
 rw [q.len, kv_some]
 refine ⟨fun m vs h' => ∃ (i : Nat) (w : V), vs = [w, i64 i] ∧ m = ids.length - i ∧ i ≤ ids.length ∧ Sep F h' (plWds w (wantsA nn d (ids.take i)) :: plIl r ids :: plDsk p d :: L), ids.length, ⟨0, _, rfl, by omega, by omega, Sep.noWds s1⟩, ?_⟩
 rintro m e g1 ⟨i, w, he, rfl, hi, z1⟩
 simp only [List.cons.injEq, and_true] at he
 simp only [he.1, he.2, bin_lss, kv_some, ifV_bool, decide_eq_true_eq]
 by_cases hx : i < ids.length
 case neg =>
  rw [if_neg (show ¬ ((i : Nat) : Int) < (ids.length : Nat) by omega)]
  rw [List.take_of_length_le (by omega)] at z1
  exact ⟨ids, hids, hsr, z1.re3 [0, 2] rfl⟩
 rw [if_pos (show ((i : Nat) : Int) < (ids.length : Nat) by omega)]
 obtain ⟨f1, q1⟩ := z1.memP (A := plIl r ids) (by simp)
 have q1 : SlE dId g1 f1 r ids := q1
 have hg : ids[i]? = some ids[i] := List.getElem?_eq_getElem hx
 obtain ⟨c, c1, c2⟩ := q1.ld hg
 have c1 : indexAddrD (.slice 2) r (i64 (i : Nat)) = _ := c1
 have c2 : ldD (.agg 2) _ _ = some (ids[i]).agg := c2
 have hmem : ids[i] ∈ keysL d.opn := hids.subset (List.getElem_mem hx)
 have htk : wantsA nn d (ids.take (i + 1)) = wantsA nn d (ids.take i) ++ (match lkp ids[i] d.opn with | some t => wantsF nn ids[i] t | none => []) := by
  unfold wantsA
  rw [List.take_add_one, hg, Option.toList_some, List.flatMap_append]
  simp
 have hol : (wantsA nn d (ids.take i)).length ≤ 300000 := by
  have := wantsA_len di (ids.take i)
  rw [List.length_take] at this
  omega
 generalize ids[i] = id at c2 hmem htk
 generalize wantsA nn d (ids.take i) = out at z1 htk hol
 obtain ⟨t, ht⟩ : ∃ t, lkp id d.opn = some t := by
  cases hk : Go.Abs.lkp id d.opn with
  | none => exact absurd hmem (lkp_none.1 hk)
  | some t => exact ⟨t, rfl⟩
 have ti := di.opn id t ht
 have hto := ti.ops
 rw [ht] at htk
 simp only at htk
 rw [c1, kv_some, c2, kv_some, newI0, kP_some]
 have z2 := z1.box (cId ⟨0, 0⟩) 2
 rw [st2 z2.get, kH_some]
 have z3 := z2.write (cs' := cId id)
 clear z1 z2 q1 c1 c2
 generalize AHeap.put _ _ _ = g3 at z3 ⊢
 generalize g1.next = bi at z3 ⊢
 obtain ⟨b, ml, mo, mk, rfl, z4⟩ := (z3.re4 [3, 0, 1, 2] rfl).openDsk
 clear z3
 have b2 : g3.rd b 2 = some (.map (some mo)) := by rw [rd_of z4.get 2]; rfl
 have li : ldD (.agg 2) (ptr bi 0) g3 = some id.agg := ld2 (Sep.get (z4.re5 [4] rfl))
 obtain ⟨vt, lo, z5⟩ := (z4.re7 [2, 0, 1, 3, 4, 5, 6] rfl).lookSome (z := nil) ht false
 have lo : lookupD (some ((.struct false [(0, .int), (1, .int)]), (some (.pointer none)))) (.map (some mo)) id.agg false g3 = some vt := lo
 simp only [li, kv_some, aNil_ptr, fieldAddr_ptr, Nat.zero_add, ld_one, b2, lo]
 have z5 : Sep F g3 (plTr vt t :: plGM kdId (holeP id vt trV) mo d.opn :: plBox b [i64 d.n, .map (some ml), .map (some mo), .map (some mk)] 4 :: plGM kdInt lsV ml d.last :: plGM kdInt anV mk d.kept :: plBox bi (cId id) 2 :: plWds w out :: plIl r ids :: L) := z5
 have hdn := di.n
 rw [hdn] at z5
 refine cl_then (desk_wants oe id di.hn ti.parts (by omega) (fun o ho => by have := hto.2 o ho; omega) (z5.re8 [0, 2, 1, 3, 4, 5, 6, 7] rfl)) ?_
 intro r5 g5 z6
 obtain ⟨w', g6, e6, z7⟩ := Sep.wdApp (z6.re8 [7, 0, 1, 2, 3, 4, 5] rfl) (by
  have := wantsF_len nn id t ti.parts
  have := di.hn.2
  omega)
 rw [e6, kP_some, add_i64 _ 1 (by omega) (by omega), kv_some]
 refine ⟨ids.length - (i + 1), by omega, i + 1, w', by simp, rfl, by omega, ?_⟩
 rw [htk]
 have z8 := Sep.backM (A := trV) (k := id) (v := vt) (x' := t) (z7.re7 [1, 3, 0, 2, 4, 5, 6] rfl) ht
 rw [ins_same ht] at z8
 rw [← hdn] at z8
 exact (Sep.closeDsk (z8.re6 [2, 3, 0, 4, 1, 5] rfl)).re3 [1, 2, 0] rfl
end Go.Abs
namespace Go.Abs
open Go Go.Proofs
variable {E : FE} {F : Fr} {h : AHeap} {L : List Pl}
theorem rmv_ins {κ α : Type} [DecidableEq κ] (k : κ) (x : α) : ∀ l : List (κ × α), lkp k l ≠ none → rmv k (ins k x l) = rmv k l
 | [], h => by simp [lkp] at h
 | (a, u) :: l, h => by
  simp only [lkp] at h
  by_cases hk : a = k
  · simp [ins, rmv, hk]
  · rw [if_neg hk] at h
    simp only [ins, rmv, if_neg hk, rmv_ins k x l h]
def doneV (d : DeskM) (id : IdM) (s : Int) : Bool × DeskM :=
 match lkp id d.opn with
 | none => (false, d)
 | some t => if t.decided && hasF t.parts s && !(lkp s t.done).isSome then
  (true, { d with opn := if (ins s () t.done).length = (shardsF t.parts).length then rmv id d.opn else ins id { t with done := ins s () t.done } d.opn })
  else (false, d)
set_option maxHeartbeats 1000000 in
theorem desk_Done {nn : Nat} {p : V} {d : DeskM} (di : DInv nn d) (id : IdM) (sh : Int) (s : Sep F h (plDsk p d :: L)) :
 cl (Go.Abs.F.desk_Desk_Done E) [p, id.agg, i64 sh] h fun r h' => r = .bool (doneV d id sh).1 ∧ Sep F h' (plDsk p (doneV d id sh).2 :: L) := by
 refine cl_of ?_
 obtain ⟨b, ml, mo, mk, rfl, s0⟩ := s.openDsk
 clear s
 simp only [Go.Abs.F.desk_Desk_Done, new2, kP_some]
 have s1 := s0.box (cId id) 2
 clear s0
 generalize h.new (.cells (cId id) 2 .rw) = h1 at s1 ⊢
 generalize h.next = bi at s1 ⊢
 have gb := Sep.get s1.up1
 have b2 : h1.rd b 2 = some (.map (some mo)) := by rw [rd_of gb 2]; rfl
 have li : ldD (.agg 2) (ptr bi 0) h1 = some id.agg := ld2 s1.get
 simp only [ptr_eq_nil, kv_some, ifV_bool, Bool.false_eq_true, if_false, aNil_ptr, fieldAddr_ptr, Nat.zero_add, ld_one, b2, li]
 unfold doneV
 cases ht : Go.Abs.lkp id d.opn with
 | none =>
  have lo := (s1.re5 [3] rfl).lookNone (z := nil) ht false
  have lo : lookupD (some ((.struct false [(0, .int), (1, .int)]), (some (.pointer none)))) (.map (some mo)) id.agg false h1 = some nil := lo
  simp only [lo, kv_some, nil_eq_nil, gdV_bool, Bool.true_eq_false, if_false, pickV_bool, if_true]
  refine gdC_no (by decide) ?_
  simp only [kv_some, gdV_bool, Bool.true_eq_false, if_false, pickV_bool, if_true, ifV_bool]
  exact ⟨trivial, Sep.closeDsk s1.drop⟩
 | some t =>
 have ti := di.opn id t ht
 obtain ⟨w, lo, s2⟩ := (s1.re5 [3, 0, 1, 2, 4] rfl).lookSome (z := nil) ht false
 have lo : lookupD (some ((.struct false [(0, .int), (1, .int)]), (some (.pointer none)))) (.map (some mo)) id.agg false h1 = some w := lo
 obtain ⟨bt, vo, vp, mv, md, vn, rfl, s3⟩ := Sep.openTr (t := t) s2
 clear s1 s2
 have back : ∀ {g : AHeap} {t' : TransM}, Sep F g (plBox bt [vo, vp, .map (some mv), .bool t'.decided, .bool t'.ok, .map (some md), vn] 7 :: plOps vo t'.ops :: plPts vp t'.parts :: plGM kdInt vtV mv t'.votes :: plGM kdInt dnV md t'.done :: plI64s vn t'.nows :: plGM kdId (holeP id (ptr bt 0) trV) mo d.opn :: plBox bi (cId id) 2 :: plBox b [i64 d.n, .map (some ml), .map (some mo), .map (some mk)] 4 :: plGM kdInt lsV ml d.last :: plGM kdInt anV mk d.kept :: L) →
  Sep F g (plGM kdId trV mo (ins id t' d.opn) :: plBox bi (cId id) 2 :: plBox b [i64 d.n, .map (some ml), .map (some mo), .map (some mk)] 4 :: plGM kdInt lsV ml d.last :: plGM kdInt anV mk d.kept :: L) := fun sg =>
  Sep.backM (A := trV) (k := id) (v := ptr bt 0) (Sep.closeTr sg) ht
 have same : ∀ {g : AHeap}, Sep F g (plBox bt [vo, vp, .map (some mv), .bool t.decided, .bool t.ok, .map (some md), vn] 7 :: plOps vo t.ops :: plPts vp t.parts :: plGM kdInt vtV mv t.votes :: plGM kdInt dnV md t.done :: plI64s vn t.nows :: plGM kdId (holeP id (ptr bt 0) trV) mo d.opn :: plBox bi (cId id) 2 :: plBox b [i64 d.n, .map (some ml), .map (some mo), .map (some mk)] 4 :: plGM kdInt lsV ml d.last :: plGM kdInt anV mk d.kept :: L) →
  Sep F g (plDsk (ptr b 0) d :: L) := fun sg => by
  have := back (t' := t) sg
  rw [ins_same ht] at this
  exact Sep.closeDsk (this.re5 [2, 3, 0, 4] rfl)
 have t3 : h1.rd bt 3 = some (.bool t.decided) := by rw [rd_of s3.get 3]; rfl
 have t1 : h1.rd bt 1 = some vp := by rw [rd_of s3.get 1]; rfl
 have t5 : h1.rd bt 5 = some (.map (some md)) := by rw [rd_of s3.get 5]; rfl
 have pr := Sep.ptsR s3.up2
 have hd := Sep.lookDn (s3.re5 [4] rfl) sh
 simp only [lo, kv_some, ptr_eq_nil, gdV_bool, if_true, aNil_ptr, fieldAddr_ptr, Nat.zero_add, ld_one, t3, not_bool, pickV_bool, Bool.false_eq_true, if_false]
 cases hdec : t.decided with
 | false =>
  simp only [Bool.not_false, gdV_bool, Bool.true_eq_false, if_false, kv_some]
  refine gdC_no (by decide) ?_
  simp only [kv_some, gdV_bool, Bool.true_eq_false, if_false, pickV_bool, if_true, ifV_bool, Bool.false_and, Bool.false_eq_true]
  exact ⟨trivial, same s3⟩
 | true =>
 simp only [Bool.not_true, gdV_bool, if_true, kv_some]
 refine gdC_yes rfl (cl_then (trans_has t1 pr sh) ?_)
 rintro r h2 ⟨rfl, rfl⟩
 simp only [not_bool, kv_some, pickV_bool, Bool.false_eq_true, if_false, Bool.true_and]
 cases hh : hasF t.parts sh with
 | false =>
  simp only [Bool.not_false, gdV_bool, Bool.true_eq_false, if_false, kv_some, pickV_bool, if_true, ifV_bool, Bool.false_and, Bool.false_eq_true]
  exact ⟨trivial, same s3⟩
 | true =>
 simp only [Bool.not_true, gdV_bool, if_true, aNil_ptr, fieldAddr_ptr, Nat.zero_add, kv_some, ld_one, t5, hd, pickV_bool, Bool.false_eq_true, if_false, Bool.true_and]
 cases hdn : (lkp sh t.done).isSome with
 | true =>
  simp only [ifV_bool, if_true, Bool.not_true, Bool.false_eq_true, if_false]
  exact ⟨trivial, same s3⟩
 | false =>
 simp only [ifV_bool, Bool.false_eq_true, if_false, Bool.not_false, if_true]
 obtain ⟨h4, e4, s4⟩ := Sep.insM (D := kdInt) (A := dnV) (k := sh) (v := .bool true) (x := ()) (z := .bool false) (Sep.up1 (Sep.mkPure (φ := (Value.bool true : V) = .bool true) rfl (s3.re11 [4, 0, 1, 2, 3, 5, 6, 7, 8, 9, 10] rfl)))
 have e4 : mapUpdateD (some (.int, (some (.bool false)))) (.map (some md)) (i64 sh) (.bool true) h2 = some h4 := e4
 rw [e4, kH_some]
 clear s3 pr hd t1 t3 t5 li b2 gb
 have t5 : h4.rd bt 5 = some (.map (some md)) := by rw [rd_of (Sep.get s4.up1) 5]; rfl
 have ll := Sep.lenM s4
 simp only [t5, ll, kv_some]
 refine cl_then (trans_shards (cs := [vo, vp, .map (some mv), .bool t.decided, .bool t.ok, .map (some md), vn]) rfl (by rw [ti.parts, parts_len]; have := di.hn.2; omega) (s4.re11 [1, 3, 0, 2, 4, 5, 6, 7, 8, 9, 10] rfl)) ?_
 intro r h5 s5
 obtain ⟨f, q, _⟩ := s5.head
 have q : SlE dInt h5 f r (shardsF t.parts) := q
 have s6 := back (t' := { t with done := ins sh () t.done }) (s5.re12 [1, 4, 2, 5, 3, 6, 7, 8, 9, 10, 11] rfl)
 rw [hdec] at s6
 rw [q.len, kv_some, bin_eql, kv_some, ifV_bool]
 have e7 : (((ins sh () t.done).length : Int) == ((shardsF t.parts).length : Int)) = decide ((ins sh () t.done).length = (shardsF t.parts).length) := by
  by_cases hz : (ins sh () t.done).length = (shardsF t.parts).length
  · rw [decide_eq_true hz]; simp [hz]
  · rw [decide_eq_false hz]; simp; omega
 rw [e7]
 by_cases hz : (ins sh () t.done).length = (shardsF t.parts).length
 case neg =>
  simp only [hz, decide_false, Bool.false_eq_true, if_false]
  exact ⟨trivial, Sep.closeDsk (d := { d with opn := ins id { t with decided := true, done := ins sh () t.done } d.opn }) (s6.re5 [2, 3, 0, 4] rfl)⟩
 simp only [hz, decide_true, if_true]
 have b2 : h5.rd b 2 = some (.map (some mo)) := by rw [rd_of (Sep.get s6.up2) 2]; rfl
 have li : ldD (.agg 2) (ptr bi 0) h5 = some id.agg := ld2 (Sep.get s6.up1)
 simp only [b2, li, kv_some]
 obtain ⟨h6, e6, s7⟩ := Sep.delM (D := kdId) (A := trV) (k := id) (z := nil) s6
 have e6 : deleteD (some ((.struct false [(0, .int), (1, .int)]), (some (.pointer none)))) (.map (some mo)) id.agg h5 = some h6 := e6
 rw [e6, kH_some]
 rw [rmv_ins id _ d.opn (by rw [ht]; simp)] at s7
 exact ⟨trivial, Sep.closeDsk (d := { d with opn := rmv id d.opn }) (s7.re5 [2, 3, 0, 4] rfl)⟩
end Go.Abs
namespace Go.Abs
open Go Go.Proofs
section
variable {κ α : Type} [DecidableEq κ] {D : KD κ} {A B : κ → V → α → Pl} {F : Fr} {h : AHeap} {L : List Pl} {m : Nat} {z : V} {l : List (κ × α)}
theorem Sep.insM2 {k : κ} {v : V} {x : α} (hB : ∀ k' v' x', k' ≠ k → B k' v' x' = A k' v' x') (s : Sep F h (plGM D B m l :: A k v x :: L)) :
 ∃ h', mapUpdateD (some (D.kk, some z)) (.map (some m)) (D.enc k) v h = some h' ∧ Sep F h' (plGM D A m (ins k x l) :: L) := by
 obtain ⟨t, clk, p, s⟩ := s.openM
 have hm : ∀ {tt : List (Et κ α)}, (∀ e' ∈ tt, e'.k ≠ k) → tt.map (Et.p B) = tt.map (Et.p A) := fun ht => List.map_congr_left fun e' he' => hB _ _ _ (ht e' he')
 cases hk : Go.Abs.lkp k l with
 | none =>
  have h1 : ∀ e' ∈ t, e'.k ≠ k := by
   intro e' he' hc
   have := (p.lkp k).trans hk
   rw [lkp_none, absE_keys] at this
   exact this (List.mem_map.2 ⟨e', he', hc⟩)
  rw [hm h1] at s
  exact Sep.insM (Sep.closeM p s)
 | some x0 =>
  have g := s.mapGet
  rw [map_meg] at g
  rw [update_G D g k v]
  refine ⟨_, rfl, ?_⟩
  obtain ⟨t1, e, t2, rfl, h1, h2, h3, h4⟩ := split_abs ((p.lkp k).trans hk)
  have h5 : ∀ e' ∈ t2, e'.k ≠ k := by
   have := p.ndt
   rw [absE_keys, List.map_append, List.map_cons, List.nodup_append] at this
   have h6 := (List.nodup_cons.1 this.2.1).1
   intro e' he' hc
   exact h6 (List.mem_map.2 ⟨e', he', hc.trans h1.symm⟩)
  have hg : ¬ getG k ((t1 ++ e :: t2).map Et.g) = none := by rw [h3]; simp
  have e2 : putG k v clk ((t1 ++ e :: t2).map Et.g) = (t1 ++ ⟨k, v, e.b, x⟩ :: t2).map Et.g := by
   rw [List.map_append, List.map_cons, putG_split (fun e' he' => ?_) (by exact h1)]
   · simp [Et.g]
   · obtain ⟨a, ha, rfl⟩ := List.mem_map.1 he'
     exact h4 a ha
  rw [if_neg hg, e2]
  refine Sep.closeM (p.put rfl h1 h4 v x) ?_
  have s1 := s.mapPut (es' := (t1 ++ (⟨k, v, e.b, x⟩ : Et κ α) :: t2).map (Et.m D)) (clk' := clk)
  rw [← map_meg]
  rw [List.map_append (f := Et.p B), List.map_cons (f := Et.p B), hm h4, hm h5] at s1
  have s2 : Sep F (h.put m (.map ((t1 ++ ⟨k, v, e.b, x⟩ :: t2).map (Et.m D)) clk)) (Et.p B e :: plMap m ((t1 ++ ⟨k, v, e.b, x⟩ :: t2).map (Et.m D)) clk :: ((t1 ++ ⟨k, v, e.b, x⟩ :: t2).map (Et.p A) ++ L)) := by
   refine s1.perm ?_
   simp only [List.map_append, List.map_cons, List.append_assoc, List.cons_append]
   refine (List.Perm.cons _ ?_).trans (List.Perm.swap _ _ _)
   refine List.perm_middle.trans (List.Perm.cons _ ?_)
   exact List.Perm.append_left _ List.perm_middle
  exact s2.drop
end
variable {E : FE} {F : Fr} {h : AHeap} {L : List Pl}
theorem Sep.openAns {v : V} {l : List AnsM} (s : Sep F h (plAns v l :: L)) : ∃ qs : List (AnsM × Tri), qs.map (·.1) = l ∧ Sep F h (plRow rdAn v qs :: L) := by
 obtain ⟨qs, s⟩ := s.ex
 have s1 := s.all
 obtain ⟨e, s2⟩ := Sep.pure (L := plRow rdAn v qs :: L) s1
 exact ⟨qs, e, s2⟩
theorem Sep.closeAns {v : V} {qs : List (AnsM × Tri)} (s : Sep F h (plRow rdAn v qs :: L)) : Sep F h (plAns v (qs.map (·.1)) :: L) :=
 Sep.mkEx (A := fun (q : List (AnsM × Tri)) => plAll [plPure (q.map (·.1) = qs.map (·.1)), plRow rdAn v q]) qs
  (Sep.mkAll (L' := [plPure (qs.map (·.1) = qs.map (·.1)), plRow rdAn v qs]) (Sep.mkPure rfl s))
end Go.Abs
namespace Go.Abs
open Go Go.Proofs
variable {l : List Oq} {n : Nat}
def shO (l : List Oq) (n i : Nat) : Nat := match l[i]? with | some o => markN o.space % n | none => 0
theorem parts_upto (hn : 0 < n) : ∀ i, i ≤ l.length → ∀ s, s < n → (partsF (l.take i) n).getD s [] = ((List.range i).filter fun j => decide (shO l n j = s)).map fun j : Nat => (j : Int) := by
 intro i
 induction i with
 | zero =>
  intro _ s hs
  have : partsF (l.take 0) n = List.replicate n [] := by simp [partsF]
  rw [this, List.getD_eq_getElem?_getD, List.getElem?_replicate, if_pos hs]
  rfl
 | succ i ih =>
  intro hi s hs
  have hx : i < l.length := by omega
  rw [parts_step l n i hx]
  have hk : markN l[i].space % n = shO l n i := by unfold shO; rw [List.getElem?_eq_getElem hx]
  have hlen : (partsF (l.take i) n).length = n := parts_len _ _
  have hb : shO l n i < n := by rw [← hk]; exact Nat.mod_lt _ hn
  rw [hk, addP, List.getD_eq_getElem?_getD, List.getElem?_set, List.range_succ, List.filter_append, List.map_append]
  by_cases he : shO l n i = s
  · rw [if_pos he, if_pos (by omega), ih (by omega) _ hb]
    subst he
    simp
  · rw [if_neg he, ← List.getD_eq_getElem?_getD, ih (by omega) s hs]
    simp [he]
theorem parts_get (hn : 0 < n) {s : Nat} (hs : s < n) : (partsF l n).getD s [] = ((List.range l.length).filter fun j => decide (shO l n j = s)).map fun j : Nat => (j : Int) := by
 have := parts_upto (l := l) hn l.length (Nat.le_refl _) s hs
 rwa [List.take_length] at this
theorem shO_lt (hn : 0 < n) (i : Nat) : shO l n i < n := by
 unfold shO
 split
 · exact Nat.mod_lt _ hn
 · exact hn
def rankO (l : List Oq) (n i : Nat) : Nat := ((List.range i).filter fun j => decide (shO l n j = shO l n i)).length
theorem filter_rank (P : Nat → Bool) : ∀ (m j x : Nat), ((List.range m).filter P)[j]? = some x → x < m ∧ P x = true ∧ j = ((List.range x).filter P).length := by
 intro m
 induction m with
 | zero => intro j x h; simp at h
 | succ m ih =>
  intro j x h
  rw [List.range_succ, List.filter_append] at h
  by_cases hj : j < ((List.range m).filter P).length
  · rw [List.getElem?_append_left hj] at h
    obtain ⟨h1, h2, h3⟩ := ih j x h
    exact ⟨by omega, h2, h3⟩
  · rw [List.getElem?_append_right (by omega)] at h
    by_cases hp : P m = true
    · rw [List.filter_cons_of_pos hp, List.filter_nil] at h
      have hj0 : j - ((List.range m).filter P).length = 0 := by
       have := (List.getElem?_eq_some_iff.1 h).1
       simp at this
       omega
      rw [hj0] at h
      simp only [List.getElem?_cons_zero, Option.some.injEq] at h
      subst h
      exact ⟨by omega, hp, by omega⟩
    · rw [List.filter_cons_of_neg (by simpa using hp), List.filter_nil] at h
      simp at h
theorem parts_place (hn : 0 < n) {s j : Nat} (hs : s < n) {x : Int} (hx : ((partsF l n).getD s [])[j]? = some x) : ∃ i : Nat, x = i ∧ i < l.length ∧ shO l n i = s ∧ rankO l n i = j := by
 rw [parts_get hn hs, List.getElem?_map, Option.map_eq_some_iff] at hx
 obtain ⟨i, hi, rfl⟩ := hx
 obtain ⟨h1, h2, h3⟩ := filter_rank _ _ _ _ hi
 have h2 : shO l n i = s := by simpa using h2
 refine ⟨i, rfl, h1, h2, ?_⟩
 unfold rankO
 rw [h2]
 exact h3.symm
theorem rank_lt (hn : 0 < n) {i : Nat} (hi : i < l.length) : rankO l n i < ((partsF l n).getD (shO l n i) []).length := by
 rw [parts_get hn (shO_lt hn i), List.length_map]
 have h1 : (List.range (i + 1)).filter (fun j => decide (shO l n j = shO l n i)) = ((List.range i).filter fun j => decide (shO l n j = shO l n i)) ++ [i] := by
  rw [List.range_succ, List.filter_append]
  simp
 have h2 : ((List.range (i + 1)).filter (fun j => decide (shO l n j = shO l n i))).length ≤ ((List.range l.length).filter (fun j => decide (shO l n j = shO l n i))).length := by
  have : List.range (i + 1) = (List.range l.length).take (i + 1) := by
   rw [List.take_range, Nat.min_eq_left (by omega)]
  rw [this]
  exact ((List.take_sublist _ _).filter _).length_le
 rw [h1, List.length_append, List.length_singleton] at h2
 unfold rankO
 omega
theorem has_sh (hn : 0 < n) {i : Nat} (hi : i < l.length) : hasF (partsF l n) (shO l n i) = true := by
 unfold hasF
 have := rank_lt hn hi
 simp only [Int.toNat_natCast, Bool.and_eq_true, decide_eq_true_eq]
 omega
/-! ### What is told -/
def telS (l : List Oq) (n : Nat) (votes : List (Int × VoteM)) (i : Nat) : ByteArray × Int :=
 match lkp (shO l n i : Int) votes with
 | some v => (v.vals.getD (rankO l n i) ⟨#[]⟩, v.now)
 | none => (⟨#[]⟩, 0)
def valsF (l : List Oq) (n : Nat) (votes : List (Int × VoteM)) : List ByteArray := (List.range l.length).map fun i => (telS l n votes i).1
def nowsF (l : List Oq) (n : Nat) (votes : List (Int × VoteM)) : List Int := (List.range l.length).map fun i => (telS l n votes i).2
structure Told (l : List Oq) (n : Nat) (votes : List (Int × VoteM)) (P : Nat → Prop) (va : List ByteArray) (na : List Int) : Prop where
 lv : va.length = l.length
 ln : na.length = l.length
 val : ∀ i, i < l.length → P i → va[i]? = some (telS l n votes i).1
 now : ∀ i, i < l.length → P i → na[i]? = some (telS l n votes i).2
theorem Told.all {votes : List (Int × VoteM)} {P : Nat → Prop} {va : List ByteArray} {na : List Int} (t : Told l n votes P va na) (hP : ∀ i, i < l.length → P i) : va = valsF l n votes ∧ na = nowsF l n votes := by
 constructor
 · refine List.ext_getElem? fun i => ?_
   unfold valsF
   by_cases hi : i < l.length
   · rw [t.val i hi (hP i hi), List.getElem?_map, List.getElem?_range hi]; rfl
   · rw [List.getElem?_eq_none (by rw [t.lv]; omega), List.getElem?_eq_none (by simp; omega)]
 · refine List.ext_getElem? fun i => ?_
   unfold nowsF
   by_cases hi : i < l.length
   · rw [t.now i hi (hP i hi), List.getElem?_map, List.getElem?_range hi]; rfl
   · rw [List.getElem?_eq_none (by rw [t.ln]; omega), List.getElem?_eq_none (by simp; omega)]
theorem Told.none {votes : List (Int × VoteM)} : Told l n votes (fun _ => False) (List.replicate l.length ⟨#[]⟩) (List.replicate l.length 0) :=
 ⟨by simp, by simp, fun _ _ h => h.elim, fun _ _ h => h.elim⟩
theorem Told.imp {votes : List (Int × VoteM)} {P Q : Nat → Prop} {va : List ByteArray} {na : List Int} (t : Told l n votes P va na) (h : ∀ i, i < l.length → Q i → P i) : Told l n votes Q va na :=
 ⟨t.lv, t.ln, fun i hi hq => t.val i hi (h i hi hq), fun i hi hq => t.now i hi (h i hi hq)⟩
theorem Told.put {votes : List (Int × VoteM)} {P : Nat → Prop} {va : List ByteArray} {na : List Int} (t : Told l n votes P va na) {k : Nat} (hk : k < l.length) {x : ByteArray} {y : Int} (hx : (telS l n votes k).1 = x) (hy : (telS l n votes k).2 = y) :
 Told l n votes (fun i => P i ∨ i = k) (va.set k x) (na.set k y) := by
 refine ⟨by rw [List.length_set, t.lv], by rw [List.length_set, t.ln], fun i hi hp => ?_, fun i hi hp => ?_⟩
 · rw [List.getElem?_set]
   by_cases he : k = i
   · subst he; rw [if_pos rfl, if_pos (by rw [t.lv]; exact hi), hx]
   · rw [if_neg he]
     rcases hp with hp | hp
     · exact t.val i hi hp
     · omega
 · rw [List.getElem?_set]
   by_cases he : k = i
   · subst he; rw [if_pos rfl, if_pos (by rw [t.ln]; exact hi), hy]
   · rw [if_neg he]
     rcases hp with hp | hp
     · exact t.now i hi hp
     · omega
/-! ### Votes -/
def ansOf (nn : Nat) (id : IdM) (t : TransM) : AnsM := if t.ok then ⟨id, 0, valsF t.ops nn t.votes⟩ else ⟨id, 4, []⟩
def nowsOf (nn : Nat) (t : TransM) : List Int := if t.ok then nowsF t.ops nn t.votes else t.nows
def keptL (l : List AnsM) (a : AnsM) : List AnsM := (l ++ [a]).drop ((l ++ [a]).length - 8)
def voteV (nn : Nat) (d : DeskM) (v : VoteM) : Bool × DeskM :=
 match lkp v.id d.opn with
 | none => (false, d)
 | some t =>
  if t.decided || !hasF t.parts v.shard || (lkp v.shard t.votes).isSome || (v.yes && decide (v.vals.length ≠ (t.parts.getD v.shard.toNat []).length)) then (false, d)
  else
   let t1 : TransM := { t with votes := ins v.shard v t.votes }
   if v.yes && decide (t1.votes.length < (shardsF t.parts).length) then (false, { d with opn := ins v.id t1 d.opn })
   else
    let t2 : TransM := { t1 with decided := true, ok := v.yes }
    (true, { d with opn := ins v.id { t2 with nows := nowsOf nn t2 } d.opn, kept := ins v.id.client (keptL ((lkp v.id.client d.kept).getD []) (ansOf nn v.id t2)) d.kept })
end Go.Abs
namespace Go.Abs
open Go Go.Proofs
variable {E : FE} {F : Fr} {h : AHeap} {L : List Pl}
theorem Sep.ptsQ {v : V} {qs : List (Tri × List Int)} (s : Sep F h (plSls v (qs.map (·.1)) :: (qs.map pzI ++ L))) {i : Nat} {e : Tri × List Int} (he : qs[i]? = some e) :
 ∃ b, indexAddrD (.slice 1) v (i64 i) = some (ptr b (i * 1)) ∧ h.rd b (i * 1) = some (mkS e.1) ∧ ∃ f, SlE dInt h f (mkS e.1) e.2 := by
 obtain ⟨f, q, _⟩ := s.head
 have q : SlE dSl h f v (qs.map (·.1)) := q
 have hx : (qs.map (·.1))[i]? = some e.1 := by rw [List.getElem?_map, he]; rfl
 obtain ⟨b, _, a1, _, a3⟩ := q.at hx
 obtain ⟨f2, q2⟩ := s.memP (A := pzI e) (List.mem_cons_of_mem _ (List.mem_append.2 (.inl (List.mem_map.2 ⟨e, List.mem_of_getElem? he, rfl⟩))))
 exact ⟨b, a1, a3 0 (by decide), f2, q2⟩
theorem agg6_tri {a b c d e : V} {t u : Tri} (h : (.agg #[a, b, c, d, e, mkS t] : V) = .agg #[a, b, c, d, e, mkS u]) : t = u := by
 obtain ⟨t1, t2, t3⟩ := t
 obtain ⟨u1, u2, u3⟩ := u
 simp [mkS] at h
 simp [h]
theorem vt_form {k : Int} {v : V} {x : VoteM} {f : List Nat} (q : (vtV k v x).P h f) : ∃ t f', v = .agg #[i64 x.id.client, i64 x.id.seq, i64 x.shard, .bool x.yes, i64 x.now, mkS t] ∧ Ts h f' (mkS t) x.vals := by
 obtain ⟨u, a, r, rfl, ⟨rfl, e1⟩, ⟨a2, r2, rfl, b, _⟩, _⟩ := q
 have b : Ts h a2 u x.vals := b
 obtain ⟨t, rfl⟩ := sl_form (ts_sle.1 b)
 exact ⟨t, _, e1, b⟩
def plS1 (v : V) (l : List ByteArray) : Pl := ⟨fun h f => SlE dStr h f v l, fun _ _ q => q.lt, fun _ _ _ q hl hs => SlE.same q hl hs⟩
theorem Sep.s1Strs {v : V} {l : List ByteArray} (s : Sep F h (plS1 v l :: L)) : Sep F h (plStrs v l :: L) := s.conv fun _ q => ts_sle.2 q
theorem rank_inj {l : List Oq} {n i j : Nat} (hs : shO l n i = shO l n j) (hr : rankO l n i = rankO l n j) : i = j := by
 have up : ∀ {i j : Nat}, i < j → shO l n i = shO l n j → rankO l n i < rankO l n j := by
  intro i j hij hs
  have h1 : (List.range (i + 1)).filter (fun k => decide (shO l n k = shO l n j)) = ((List.range i).filter fun k => decide (shO l n k = shO l n i)) ++ [i] := by
   rw [List.range_succ, List.filter_append, hs]
   simp [hs]
  have h2 : ((List.range (i + 1)).filter (fun k => decide (shO l n k = shO l n j))).length ≤ ((List.range j).filter (fun k => decide (shO l n k = shO l n j))).length := by
   have : List.range (i + 1) = (List.range j).take (i + 1) := by
    rw [List.take_range, Nat.min_eq_left (by omega)]
   rw [this]
   exact ((List.take_sublist _ _).filter _).length_le
  rw [h1, List.length_append, List.length_singleton] at h2
  unfold rankO
  omega
 rcases Nat.lt_trichotomy i j with h | h | h
 · have := up h hs; omega
 · exact h
 · have := up h hs.symm; omega
theorem Sep.lookK2 {mk : Nat} {l : List (Int × List AnsM)} (s : Sep F h (plGM kdInt anV mk l :: L)) (c : Int) :
 ∃ (w : V) (B : Int → V → List AnsM → Pl), lookupD (some (.int, (some (.slice none 0 0)))) (.map (some mk)) (i64 c) false h = some w ∧ Sep F h (plAns w ((lkp c l).getD []) :: plGM kdInt B mk l :: L) ∧
  (∀ k' v' x', k' ≠ c → B k' v' x' = anV k' v' x') ∧ ∀ {g : AHeap} {L' : List Pl}, Sep F g (plGM kdInt B mk l :: L') → lookupD (some (.int, (some (.slice none 0 0)))) (.map (some mk)) (i64 c) false g = some w := by
 cases hk : Go.Abs.lkp c l with
 | none =>
  exact ⟨.slice none 0 0, anV, s.lookNone (D := kdInt) (z := .slice none 0 0) hk false, Sep.closeAns (qs := []) s.rowNil, fun _ _ _ _ => rfl, fun s' => s'.lookNone (D := kdInt) (z := .slice none 0 0) hk false⟩
 | some x =>
  obtain ⟨w, h1, s1⟩ := s.lookSome (D := kdInt) (z := .slice none 0 0) hk false
  refine ⟨w, holeP c w anV, h1, s1, fun k' v' x' hn => by simp only [holeP, if_neg hn], fun {g L'} s' => ?_⟩
  obtain ⟨w', h2, s2⟩ := s'.lookSome (D := kdInt) (z := .slice none 0 0) hk false
  simp only [holeP, if_true] at s2
  obtain ⟨rfl, _⟩ := Sep.pure s2
  exact h2
/-! ### The fields are laid, in any order -/
structure KSt (F : Fr) (ba bt : Nat) (vo : V) (c : List V) (i0 i1 : Int) (vn : V) (n : Nat) (R : List Pl) (m1 m2 : Option Tri) (e sv sn : Bool) (g : AHeap) : Prop where
 s : Sep F g (plBox ba [i64 i0, i64 i1, i64 (if e then 0 else 4), if sv then mkS (m1.getD (none, 0, 0)) else .slice none 0 0] 4 :: plBox bt (vo :: c ++ [if sn then mkS (m2.getD (none, 0, 0)) else vn]) 7 ::
  (match m1 with | some t => plS1 (mkS t) (List.replicate n ⟨#[]⟩) | none => plPure True) :: (match m2 with | some t => plI64s (mkS t) (List.replicate n 0) | none => plPure True) :: R)
section
variable {ba bt : Nat} {vo : V} {c : List V} {i0 i1 : Int} {vn : V} {n : Nat} {R : List Pl} {m1 m2 : Option Tri} {e sv sn : Bool} {g : AHeap}
theorem KSt.chk (z : KSt F ba bt vo c i0 i1 vn n R m1 m2 e sv sn g) : ldD .one (ptr bt 0) g = some vo := by
 rw [ld_one, rd_of (Sep.get z.s.up1) 0]
 rfl
theorem KSt.mk1 (hn : 0 < n ∧ n ≤ 8) (z : KSt F ba bt vo c i0 i1 vn n R none m2 e false sn g) {K : V → AHeap → Prop} (hK : ∀ t g', KSt F ba bt vo c i0 i1 vn n R (some t) m2 e false sn g' → K (mkS t) g') :
 kP (makeSliceD (some (1, 16, [(.string ⟨#[]⟩)])) (i64 (n : Nat)) (i64 (n : Nat)) g) K := by
 have s1 := z.s.re4 [0, 1, 3] rfl
 have e1 : makeSliceD (some (1, 16, [(.string ⟨#[]⟩)])) (i64 (n : Nat)) (i64 (n : Nat)) g = some (.slice (some ⟨g.next, 0, none⟩) (List.replicate n (⟨#[]⟩ : ByteArray)).length (2 * (List.replicate n (⟨#[]⟩ : ByteArray)).length), g.new (.cells (dStr.flat (List.replicate n ⟨#[]⟩)) 1 .rw)) := by
  have : n = 1 ∨ n = 2 ∨ n = 3 ∨ n = 4 ∨ n = 5 ∨ n = 6 ∨ n = 7 ∨ n = 8 := by omega
  rcases this with rfl | rfl | rfl | rfl | rfl | rfl | rfl | rfl <;> rfl
 rw [e1, kP_some]
 have s2 := s1.alloc (a' := [g.next]) (h' := g.new (.cells (dStr.flat (List.replicate n ⟨#[]⟩)) 1 .rw)) (plS1 (.slice (some ⟨g.next, 0, none⟩) (List.replicate n (⟨#[]⟩ : ByteArray)).length (2 * (List.replicate n (⟨#[]⟩ : ByteArray)).length)) (List.replicate n ⟨#[]⟩)) ⟨by simp, fun x hx _ => by
  have : x ≠ g.next := by omega
  simp [this], by simp, by simp⟩ (SlE.lit dStr g (List.replicate n ⟨#[]⟩) (by intro h; have := congrArg List.length h; simp at this; omega))
 exact hK (some ⟨g.next, 0, none⟩, (List.replicate n (⟨#[]⟩ : ByteArray)).length, 2 * (List.replicate n (⟨#[]⟩ : ByteArray)).length) _ ⟨s2.re4 [1, 2, 0, 3] rfl⟩
theorem KSt.mk2 (hn : 0 < n ∧ n ≤ 8) (z : KSt F ba bt vo c i0 i1 vn n R m1 none e sv false g) {K : V → AHeap → Prop} (hK : ∀ t g', KSt F ba bt vo c i0 i1 vn n R m1 (some t) e sv false g' → K (mkS t) g') :
 kP (makeSliceD (some (1, 8, [(.int .i64 0)])) (i64 (n : Nat)) (i64 (n : Nat)) g) K := by
 have s1 := z.s.re4 [0, 1, 2] rfl
 have e1 : makeSliceD (some (1, 8, [(.int .i64 0)])) (i64 (n : Nat)) (i64 (n : Nat)) g = some (.slice (some ⟨g.next, 0, none⟩) (List.replicate n (0 : Int)).length (2 * (List.replicate n (0 : Int)).length), g.new (.cells (dInt.flat (List.replicate n 0)) 1 .rw)) := by
  have : n = 1 ∨ n = 2 ∨ n = 3 ∨ n = 4 ∨ n = 5 ∨ n = 6 ∨ n = 7 ∨ n = 8 := by omega
  rcases this with rfl | rfl | rfl | rfl | rfl | rfl | rfl | rfl <;> rfl
 rw [e1, kP_some]
 have s2 := s1.litInts (List.replicate n 0) (by intro h; have := congrArg List.length h; simp at this; omega)
 exact hK (some ⟨g.next, 0, none⟩, (List.replicate n (0 : Int)).length, 2 * (List.replicate n (0 : Int)).length) _ ⟨s2.re4 [1, 2, 3, 0] rfl⟩
theorem KSt.st0 (z : KSt F ba bt vo c i0 i1 vn n R m1 m2 false sv sn g) {K : AHeap → Prop} (hK : ∀ g', KSt F ba bt vo c i0 i1 vn n R m1 m2 true sv sn g' → K g') :
 kH (stD (some 1) (ptr ba 2) (.int .i64 0) g) fun _ h => K h := by
 rw [st_one z.s.get (by simp) rfl rfl (by simp), kH_some]
 exact hK _ ⟨z.s.write⟩
theorem KSt.st1 {t : Tri} (z : KSt F ba bt vo c i0 i1 vn n R (some t) m2 e false sn g) {K : AHeap → Prop} (hK : ∀ g', KSt F ba bt vo c i0 i1 vn n R (some t) m2 e true sn g' → K g') :
 kH (stD (some 1) (ptr ba 3) (mkS t) g) fun _ h => K h := by
 rw [st_one z.s.get (by simp) rfl rfl (by simp), kH_some]
 exact hK _ ⟨z.s.write⟩
theorem KSt.st2 (hc : c.length = 5) {t : Tri} (z : KSt F ba bt vo c i0 i1 vn n R m1 (some t) e sv false g) {K : AHeap → Prop} (hK : ∀ g', KSt F ba bt vo c i0 i1 vn n R m1 (some t) e sv true g' → K g') :
 kH (stD (some 1) (ptr bt 6) (mkS t) g) fun _ h => K h := by
 obtain ⟨c1, c2, c3, c4, c5, rfl⟩ : ∃ c1 c2 c3 c4 c5, c = [c1, c2, c3, c4, c5] := by
  match c, hc with
  | [c1, c2, c3, c4, c5], _ => exact ⟨c1, c2, c3, c4, c5, rfl⟩
 rw [st_one (Sep.get z.s.up1) (by simp) rfl rfl (by simp), kH_some]
 exact hK _ ⟨(Sep.write z.s.up1).up1⟩
end
structure VtInv (t : TransM) : Prop where
 each : ∀ k v, lkp k t.votes = some v → hasF t.parts k = true ∧ v.vals.length = (t.parts.getD k.toNat []).length
 all : ∀ k, hasF t.parts k = true → (lkp k t.votes).isSome = true
set_option maxHeartbeats 4000000 in
theorem desk_keep {nn : Nat} {vt : V} {t : TransM} {b mk : Nat} {c0 c1 c2 : V} {kept : List (Int × List AnsM)} (id : IdM) (hn : 1 ≤ nn ∧ nn ≤ 3) (ti : TInv nn t) (vi : t.ok = true → VtInv t) (hkl : ((lkp id.client kept).getD []).length ≤ 1000)
 (s : Sep F h (plTr vt t :: plBox b [c0, c1, c2, .map (some mk)] 4 :: plGM kdInt anV mk kept :: L)) :
 cl (Go.Abs.F.desk_Desk_keep E) [ptr b 0, id.agg, vt] h fun r h' => Sep F h' (plTr vt { t with nows := nowsOf nn t } :: plBox b [c0, c1, c2, .map (some mk)] 4 :: plGM kdInt anV mk (ins id.client (keptL ((lkp id.client kept).getD []) (ansOf nn id t)) kept) :: L) := by
 refine cl_of ?_
 obtain ⟨bt, vo, vp, mv, md, vn, rfl, s0⟩ := s.openTr
 clear s
 have hops := ti.ops
 have hal := allF ti.all
 simp only [Go.Abs.F.desk_Desk_keep, new2, kP_some]
 have s1 := s0.box (cId id) 2
 clear s0
 generalize h.new (.cells (cId id) 2 .rw) = h1 at s1 ⊢
 generalize h.next = bi at s1 ⊢
 rw [ld2 s1.get, kv_some]
 refine kv_of (v := .agg #[i64 id.client, i64 id.seq, i64 4, .slice none 0 0]) rfl ?_
 refine kP_of (v := ptr h1.next 0) (g := h1.new (.cells [i64 0, i64 0, i64 0, .slice none 0 0] 4 .rw)) rfl ?_
 have s2 := s1.box [i64 0, i64 0, i64 0, .slice none 0 0] 4
 clear s1
 generalize h1.new (.cells [i64 0, i64 0, i64 0, .slice none 0 0] 4 .rw) = h2 at s2 ⊢
 generalize h1.next = ba at s2 ⊢
 rw [st_of (n := 4) (vs := [i64 id.client, i64 id.seq, i64 4, .slice none 0 0]) s2.get (by simp) rfl rfl rfl (by simp), kH_some]
 have s3 := s2.write (cs' := [i64 id.client, i64 id.seq, i64 4, .slice none 0 0])
 rw [show setList [i64 0, i64 0, i64 0, .slice none 0 0] 0 [i64 id.client, i64 id.seq, i64 4, .slice none 0 0] = [i64 id.client, i64 id.seq, i64 4, .slice none 0 0] from rfl]
 clear s2
 generalize AHeap.put _ _ _ = h3 at s3 ⊢
 have gt := Sep.get s3.up2
 have t4 : h3.rd bt 4 = some (.bool t.ok) := by rw [rd_of gt 4]; rfl
 have t0 : h3.rd bt 0 = some vo := by rw [rd_of gt 0]; rfl
 simp only [aNil_ptr, kv_some, fieldAddr_ptr, Nat.zero_add, ld_one, t4]
 generalize hT' : ({ t with nows := nowsOf nn t } : TransM) = T'
 refine ⟨fun vs h' => ∃ (t' : Tri), vs = [] ∧ Sep F h' (plBox ba [i64 id.client, i64 id.seq, i64 (ansOf nn id t).err, mkS t'] 4 :: plStrs (mkS t') (ansOf nn id t).vals :: plBox bi (cId id) 2 :: plTr (ptr bt 0) T' :: plBox b [c0, c1, c2, .map (some mk)] 4 :: plGM kdInt anV mk kept :: L), ?_, ?_⟩
 · cases hok : t.ok with
   | false =>
    have e1 : ansOf nn id t = ⟨id, 4, []⟩ := by unfold ansOf; rw [hok]; rfl
    have e2 : nowsOf nn t = t.nows := by unfold nowsOf; rw [hok]; rfl
    rw [e1]
    rw [e2] at hT'
    simp only [ifV_bool, Bool.false_eq_true, if_false]
    have s4 : Sep F h3 (plTr (ptr bt 0) { t with nows := t.nows } :: plBox ba [i64 id.client, i64 id.seq, i64 4, .slice none 0 0] 4 :: plBox bi (cId id) 2 :: plBox b [c0, c1, c2, .map (some mk)] 4 :: plGM kdInt anV mk kept :: L) := Sep.closeTr (t := { t with nows := t.nows }) (s3.re10 [2, 3, 4, 5, 6, 7, 0, 1, 8, 9] rfl)
    subst hT'
    exact ⟨(none, 0, 0), trivial, (Sep.noStrs s4).re6 [2, 0, 3, 1, 4, 5] rfl⟩
   | true =>
   have vi := vi hok
   have e1 : ansOf nn id t = ⟨id, 0, valsF t.ops nn t.votes⟩ := by unfold ansOf; rw [hok]; rfl
   have e2 : nowsOf nn t = nowsF t.ops nn t.votes := by unfold nowsOf; rw [hok]; rfl
   rw [e1]
   rw [e2] at hT'
   rw [hok] at s3 t4
   obtain ⟨fo, qo⟩ := s3.memP (A := plOps vo t.ops) (by simp)
   have qo : SlE dOp h3 fo vo t.ops := qo
   simp only [ifV_bool, if_true, t0, kv_some, qo.len]
   have hlen0 : 0 < t.ops.length ∧ t.ops.length ≤ 8 := ⟨by have := hal.1; omega, hal.2.1⟩
   have z0 : KSt F ba bt vo [vp, .map (some mv), .bool t.decided, .bool true, .map (some md)] id.client id.seq vn t.ops.length (plBox bi (cId id) 2 :: plOps vo t.ops :: plPts vp t.parts :: plGM kdInt vtV mv t.votes :: plGM kdInt dnV md t.done :: plBox b [c0, c1, c2, .map (some mk)] 4 :: plGM kdInt anV mk kept :: L) none none false false false h3 :=
    ⟨(Sep.mkPure trivial (Sep.mkPure trivial (s3.re10 [0, 2, 1, 3, 4, 5, 6, 8, 9] rfl))).re4 [2, 3, 0, 1] rfl⟩
   refine ⟨fun vs g => vs = [] ∧ ∃ t1 t2, KSt F ba bt vo [vp, .map (some mv), .bool t.decided, .bool true, .map (some md)] id.client id.seq vn t.ops.length (plBox bi (cId id) 2 :: plOps vo t.ops :: plPts vp t.parts :: plGM kdInt vtV mv t.votes :: plGM kdInt dnV md t.done :: plBox b [c0, c1, c2, .map (some mk)] 4 :: plGM kdInt anV mk kept :: L) (some t1) (some t2) true true true g, ?_, ?_⟩
   · clear s3 t4 t0 gt qo
     repeat' first
      | exact ⟨rfl, _, _, by assumption⟩
      | exact ⟨trivial, _, _, by assumption⟩
      | refine ⟨KSt.chk (by assumption), ?_⟩
      | refine ⟨?_, ?_⟩
      | refine KSt.mk1 hlen0 (by assumption) fun _ _ _ => ?_
      | refine KSt.mk2 hlen0 (by assumption) fun _ _ _ => ?_
      | refine KSt.st0 (by assumption) fun _ _ => ?_
      | refine KSt.st1 (by assumption) fun _ _ => ?_
      | refine KSt.st2 rfl (by assumption) fun _ _ => ?_
   rintro e8 g0 ⟨-, t1, t2, zz⟩
   have s5 : Sep F g0 (plBox ba [i64 id.client, i64 id.seq, i64 0, mkS t1] 4 :: plBox bt [vo, vp, .map (some mv), .bool t.decided, .bool true, .map (some md), mkS t2] 7 :: plS1 (mkS t1) (List.replicate t.ops.length ⟨#[]⟩) :: plI64s (mkS t2) (List.replicate t.ops.length 0) ::
    plBox bi (cId id) 2 :: plOps vo t.ops :: plPts vp t.parts :: plGM kdInt vtV mv t.votes :: plGM kdInt dnV md t.done :: plBox b [c0, c1, c2, .map (some mk)] 4 :: plGM kdInt anV mk kept :: L) := zz.s
   clear s3 t4 t0 gt qo z0 zz
   have g2 : g0.rd bt 2 = some (.map (some mv)) := by rw [rd_of (Sep.get s5.up1) 2]; rfl
   simp only [g2, kv_some]
   obtain ⟨qs, hqs, s6⟩ := (s5.re11 [6, 7, 0, 1, 2, 3, 4, 5, 8, 9, 10] rfl).openPts
   have s7 : Sep F g0 (plAll (plSls vp (qs.map (·.1)) :: qs.map pzI) :: plGM kdInt vtV mv t.votes :: plBox ba [i64 id.client, i64 id.seq, i64 0, mkS t1] 4 :: plBox bt [vo, vp, .map (some mv), .bool t.decided, .bool true, .map (some md), mkS t2] 7 :: plS1 (mkS t1) (List.replicate t.ops.length ⟨#[]⟩) :: plI64s (mkS t2) (List.replicate t.ops.length 0) ::
    plBox bi (cId id) 2 :: plOps vo t.ops :: plGM kdInt dnV md t.done :: plBox b [c0, c1, c2, .map (some mk)] 4 :: plGM kdInt anV mk kept :: L) := Sep.mkAll (L' := plSls vp (qs.map (·.1)) :: qs.map pzI) s6
   obtain ⟨tt, clk, q, s8⟩ := s7.up1.openM
   have s9 : Sep F g0 (plMap mv (tt.map (Et.m kdInt)) clk :: plAll (tt.map (Et.p vtV)) :: plAll (plSls vp (qs.map (·.1)) :: qs.map pzI) :: plBox ba [i64 id.client, i64 id.seq, i64 0, mkS t1] 4 :: plBox bt [vo, vp, .map (some mv), .bool t.decided, .bool true, .map (some md), mkS t2] 7 :: plS1 (mkS t1) (List.replicate t.ops.length ⟨#[]⟩) :: plI64s (mkS t2) (List.replicate t.ops.length 0) ::
    plBox bi (cId id) 2 :: plOps vo t.ops :: plGM kdInt dnV md t.done :: plBox b [c0, c1, c2, .map (some mk)] 4 :: plGM kdInt anV mk kept :: L) := (Sep.mkAll (L' := tt.map (Et.p vtV)) (s8.perm List.perm_middle.symm)).up1
   clear s5 s6 s7 s8 g2
   have htl : tt.length = t.votes.length := by have := q.perm.length_eq; simpa [absE] using this
   have hn0 : 0 < nn := hn.1
   have hlk : ∀ e ∈ tt, lkp e.k t.votes = some e.x := by
    intro e he
    have h1 : (e.k, e.x) ∈ absE tt := List.mem_map.2 ⟨e, he, rfl⟩
    rw [← q.lkp]
    exact lkp_of q.ndt h1
   have hT0 : Told t.ops nn t.votes (fun i => ∃ e ∈ ([] : List (Et Int VoteM)), e.k = (shO t.ops nn i : Int)) (List.replicate t.ops.length ⟨#[]⟩) (List.replicate t.ops.length 0) := Told.none.imp fun i _ ⟨e, he, _⟩ => by simp at he
   refine Sep.range s9 fun it g1 z1 => ?_
   refine ⟨fun n vs h' => ∃ (td : List (Et Int VoteM)) (seen : Array Nat) (va : List ByteArray) (na : List Int), vs = [] ∧ n = tt.length - td.length ∧ SeenT tt td seen ∧ Told t.ops nn t.votes (fun i => ∃ e ∈ td, e.k = (shO t.ops nn i : Int)) va na ∧
    Sep F h' (plIter it mv clk seen :: plMap mv (tt.map (Et.m kdInt)) clk :: plAll (tt.map (Et.p vtV)) :: plAll (plSls vp (qs.map (·.1)) :: qs.map pzI) :: plBox ba [i64 id.client, i64 id.seq, i64 0, mkS t1] 4 :: plBox bt [vo, vp, .map (some mv), .bool t.decided, .bool true, .map (some md), mkS t2] 7 :: plS1 (mkS t1) va :: plI64s (mkS t2) na ::
    plBox bi (cId id) 2 :: plOps vo t.ops :: plGM kdInt dnV md t.done :: plBox b [c0, c1, c2, .map (some mk)] 4 :: plGM kdInt anV mk kept :: L), tt.length, ⟨[], #[], _, _, rfl, rfl, SeenT.nil tt, hT0, z1⟩, ?_⟩
   clear z1 s9 hT0
   rintro n e0 g2 ⟨td, seen, va, na, -, rfl, hs, hT, z2⟩
   refine Sep.nextT z2 q.lt q.bn hs (fun e he hne g3 z3 hs5 hent hlen => ?_) (fun hp => ?_)
   · simp only [extract_tuple, List.getElem?_toArray, List.getElem?_cons_zero, List.getElem?_cons_succ, kv_some, ifV_bool, if_true]
     rw [hent, kV_some]
     simp only [extract_tuple, List.getElem?_toArray, List.getElem?_cons_zero, List.getElem?_cons_succ, kv_some]
     obtain ⟨hhas, hvl⟩ := vi.each _ _ (hlk e he)
     have form : ∀ {g : AHeap} {L' : List Pl}, Sep F g (plAll (tt.map (Et.p vtV)) :: L') → ∃ t' f', e.v = .agg #[i64 e.x.id.client, i64 e.x.id.seq, i64 e.x.shard, .bool e.x.yes, i64 e.x.now, mkS t'] ∧ Ts g f' (mkS t') e.x.vals := fun sg => by
      obtain ⟨f, qf⟩ := sg.all.memP (A := Et.p vtV e) (List.mem_append.2 (.inl (List.mem_map.2 ⟨e, he, rfl⟩)))
      exact vt_form qf
     obtain ⟨tv, fv, ev, _⟩ := form (z3.re3 [2] rfl)
     have hev : ∀ {t'' : Tri}, e.v = .agg #[i64 e.x.id.client, i64 e.x.id.seq, i64 e.x.shard, .bool e.x.yes, i64 e.x.now, mkS t''] → t'' = tv := fun h' => by
      rw [ev] at h'
      exact (agg6_tri h').symm
     have hkey := hlk e he
     obtain ⟨k, hk⟩ : ∃ k : Nat, e.k = (k : Int) := by
      refine ⟨e.k.toNat, ?_⟩
      unfold hasF at hhas
      simp only [Bool.and_eq_true, decide_eq_true_eq] at hhas
      omega
     have hkn : k < nn := by
      rw [hk, ti.parts] at hhas
      unfold hasF at hhas
      simp only [Bool.and_eq_true, decide_eq_true_eq, Int.toNat_natCast] at hhas
      refine Nat.lt_of_not_le fun hle => ?_
      rw [List.getD_eq_getElem?_getD, List.getElem?_eq_none (by rw [parts_len]; exact hle)] at hhas
      simp at hhas
     have hqk : k < qs.length := by
      have h1 := congrArg List.length hqs
      rw [List.length_map, ti.parts, parts_len] at h1
      omega
     have heq : qs[k]? = some qs[k] := List.getElem?_eq_getElem hqk
     have hpk : (qs[k]).2 = (partsF t.ops nn).getD k [] := by rw [← ti.parts, ← hqs, List.getD_eq_getElem?_getD, List.getElem?_map, heq]; rfl
     rw [hk, ti.parts, Int.toNat_natCast, ← hpk] at hvl
     generalize qs[k] = qk at heq hpk hvl
     obtain ⟨tk, pk⟩ := qk
     have hpk : pk = (partsF t.ops nn).getD k [] := hpk
     have hvl : e.x.vals.length = pk.length := hvl
     have rowk : ∀ {g : AHeap} {L' : List Pl}, Sep F g (plAll (plSls vp (qs.map (·.1)) :: qs.map pzI) :: L') → ∃ bb, indexAddrD (.slice 1) vp (i64 (k : Nat)) = some (ptr bb (k * 1)) ∧ g.rd bb (k * 1) = some (mkS tk) ∧ ∃ f, SlE dInt g f (mkS tk) pk := fun sg => Sep.ptsQ (show Sep F _ (plSls vp (qs.map (·.1)) :: (qs.map pzI ++ _)) from sg.all) heq
     have hplen : pk.length ≤ 8 := by
      have hm : pk ∈ partsF t.ops nn := by
       rw [hpk, List.getD_eq_getElem?_getD, List.getElem?_eq_getElem (by rw [parts_len]; exact hkn)]
       exact List.getElem_mem _
      have := parts_short hm
      omega
     refine kP_of (v := ptr g3.next 0) (g := g3.new (.cells [i64 0, i64 0, i64 0, .bool false, i64 0, .slice none 0 0] 6 .rw)) rfl ?_
     have z4 := z3.box [i64 0, i64 0, i64 0, .bool false, i64 0, .slice none 0 0] 6
     generalize g3.new (.cells [i64 0, i64 0, i64 0, .bool false, i64 0, .slice none 0 0] 6 .rw) = g4 at z4 ⊢
     generalize g3.next = bx at z4 ⊢
     rw [ev, st_of (n := 6) (vs := [i64 e.x.id.client, i64 e.x.id.seq, i64 e.x.shard, .bool e.x.yes, i64 e.x.now, mkS tv]) z4.get (by simp) rfl rfl rfl (by simp), kH_some]
     have z5 := z4.write (cs' := [i64 e.x.id.client, i64 e.x.id.seq, i64 e.x.shard, .bool e.x.yes, i64 e.x.now, mkS tv])
     rw [show setList [i64 0, i64 0, i64 0, .bool false, i64 0, .slice none 0 0] 0 [i64 e.x.id.client, i64 e.x.id.seq, i64 e.x.shard, .bool e.x.yes, i64 e.x.now, mkS tv] = [i64 e.x.id.client, i64 e.x.id.seq, i64 e.x.shard, .bool e.x.yes, i64 e.x.now, mkS tv] from rfl]
     clear z2 z3 z4
     generalize AHeap.put _ _ _ = g5 at z5 ⊢
     have w1 : g5.rd bt 1 = some vp := by rw [rd_of (Sep.get (z5.re7 [6] rfl)) 1]; rfl
     obtain ⟨bb, k1, k2, fk, k3⟩ := rowk (z5.re5 [4] rfl)
     have ek : kdInt.enc e.k = i64 (k : Nat) := by rw [hk]; rfl
     simp only [ek, w1, kv_some, k1, ld_one, k2, k3.len]
     refine ⟨fun n vs h' => ∃ (j : Nat) (va : List ByteArray) (na : List Int), vs = [i64 j] ∧ n = pk.length - j ∧ j ≤ pk.length ∧ Told t.ops nn t.votes (fun i => (∃ e ∈ td, e.k = (shO t.ops nn i : Int)) ∨ (shO t.ops nn i = k ∧ rankO t.ops nn i < j)) va na ∧
      Sep F h' (plBox bx [i64 e.x.id.client, i64 e.x.id.seq, i64 e.x.shard, .bool e.x.yes, i64 e.x.now, mkS tv] 6 :: plIter it mv clk (seen.push e.b) :: plMap mv (tt.map (Et.m kdInt)) clk :: plAll (tt.map (Et.p vtV)) :: plAll (plSls vp (qs.map (·.1)) :: qs.map pzI) :: plBox ba [i64 id.client, i64 id.seq, i64 0, mkS t1] 4 :: plBox bt [vo, vp, .map (some mv), .bool t.decided, .bool true, .map (some md), mkS t2] 7 :: plS1 (mkS t1) va :: plI64s (mkS t2) na ::
      plBox bi (cId id) 2 :: plOps vo t.ops :: plGM kdInt dnV md t.done :: plBox b [c0, c1, c2, .map (some mk)] 4 :: plGM kdInt anV mk kept :: L), pk.length, ⟨0, va, na, rfl, by omega, by omega, hT.imp (fun i _ hi => hi.elim (fun x => x) fun y => absurd y.2 (Nat.not_lt_zero _)), z5⟩, ?_⟩
     clear z5 w1 k2 k3
     rintro n2 e2 g6 ⟨j, va2, na2, he2, rfl, hj, hT2, z6⟩
     simp only [List.cons.injEq, and_true] at he2
     simp only [he2, bin_lss, kv_some, ifV_bool, decide_eq_true_eq]
     by_cases hx : j < pk.length
     case neg =>
      rw [if_neg (show ¬ ((j : Nat) : Int) < (pk.length : Nat) by omega)]
      refine ⟨tt.length - (td.length + 1), by omega, td ++ [e], _, va2, na2, (by first | rfl | trivial), by simp, hs5, hT2.imp (fun i hi ⟨e', he', hk'⟩ => ?_), z6.drop⟩
      rcases List.mem_append.1 he' with he' | he'
      · exact .inl ⟨e', he', hk'⟩
      · rw [List.mem_singleton.1 he', hk] at hk'
        have hsk : shO t.ops nn i = k := by omega
        refine .inr ⟨hsk, ?_⟩
        have := rank_lt hn0 hi
        rw [hsk, ← hpk] at this
        omega
     rw [if_pos (show ((j : Nat) : Int) < (pk.length : Nat) by omega)]
     obtain ⟨bb', k1', k2, fk, k3⟩ := rowk (z6.re5 [4] rfl)
     have hg : pk[j]? = some pk[j] := List.getElem?_eq_getElem hx
     obtain ⟨b3, _, c3, _, c4⟩ := k3.at hg
     have c3 : indexAddrD (.slice 1) (mkS tk) (i64 (j : Nat)) = some (ptr b3 (j * 1)) := c3
     have c4 : g6.rd b3 (j * 1) = some (i64 pk[j]) := c4 0 (by decide)
     obtain ⟨i, hi, hil, hish, hirk⟩ := parts_place (l := t.ops) hn0 hkn (j := j) (x := pk[j]) (by rw [← hpk]; exact hg)
     rw [hi] at c4
     have x3 : g6.rd ba 3 = some (mkS t1) := by rw [rd_of (Sep.get (z6.re6 [5] rfl)) 3]; rfl
     have x6 : g6.rd bt 6 = some (mkS t2) := by rw [rd_of (Sep.get (z6.re7 [6] rfl)) 6]; rfl
     have y5 : g6.rd bx 5 = some (mkS tv) := by rw [rd_of z6.get 5]; rfl
     have y4 : g6.rd bx 4 = some (i64 e.x.now) := by rw [rd_of z6.get 4]; rfl
     obtain ⟨tv', fv', ev', qv⟩ := form (z6.re4 [3] rfl)
     obtain rfl := hev ev'
     have hjv : j < e.x.vals.length := by omega
     have hgv : e.x.vals[j]? = some e.x.vals[j] := List.getElem?_eq_getElem hjv
     obtain ⟨b4, _, d3, _, d4⟩ := (ts_sle.1 qv).at hgv
     have d3 : indexAddrD (.slice 1) (mkS tv') (i64 (j : Nat)) = some (ptr b4 (j * 1)) := d3
     have d4 : g6.rd b4 (j * 1) = some (str e.x.vals[j]) := d4 0 (by decide)
     have htel : telS t.ops nn t.votes i = (e.x.vals[j], e.x.now) := by
      unfold telS
      rw [hish, ← hk, hkey, hirk]
      simp [List.getD_eq_getElem?_getD, hgv]
     generalize e.x.vals[j] = y at d4 htel
     simp only [c3, kv_some, ld_one, c4, aNil_ptr, fieldAddr_ptr, Nat.zero_add, x3, x6, y5, d3, d4, y4]
     obtain ⟨f7, q7, kk7⟩ := Sep.head (z6.re8 [7, 0, 1, 2, 3, 4, 5, 6] rfl)
     have q7 : SlE dStr g6 f7 (mkS t1) va2 := q7
     obtain ⟨b7, g7, i7, w7, q7', m7⟩ := q7.st (i := i) (by rw [hT2.lv]; exact hil) y
     have i7 : indexAddrD (.slice 1) (mkS t1) (i64 (i : Nat)) = some (ptr b7 (i * 1)) := i7
     have w7 : stD (some 1) (ptr b7 (i * 1)) (str y) g6 = some g7 := by rw [← w7]; rfl
     rw [i7, kv_some, w7, kH_some]
     have z7 := kk7 (plS1 (mkS t1) (va2.set i y)) m7 q7'
     have y4' : g7.rd bx 4 = some (i64 e.x.now) := by rw [rd_of (Sep.get z7.up1) 4]; rfl
     refine ⟨y4', ?_⟩
     obtain ⟨f8, q8, kk8⟩ := Sep.head (z7.re9 [8, 0, 1, 2, 3, 4, 5, 6, 7] rfl)
     have q8 : SlE dInt g7 f8 (mkS t2) na2 := q8
     obtain ⟨b8, g8, i8, w8, q8', m8⟩ := q8.st (i := i) (by rw [hT2.ln]; exact hil) e.x.now
     have i8 : indexAddrD (.slice 1) (mkS t2) (i64 (i : Nat)) = some (ptr b8 (i * 1)) := i8
     have w8 : stD (some 1) (ptr b8 (i * 1)) (i64 e.x.now) g7 = some g8 := by rw [← w8]; rfl
     rw [i8, kv_some, w8, kH_some]
     have z8 := kk8 (plI64s (mkS t2) (na2.set i e.x.now)) m8 q8'
     rw [add_i64 _ 1 (by omega) (by omega), kv_some]
     refine ⟨pk.length - (j + 1), by omega, j + 1, va2.set i y, na2.set i e.x.now, by simp, rfl, by omega, (hT2.put hil (by rw [htel]) (by rw [htel])).imp (fun i' hi' hh => ?_), z8.re9 [2, 3, 4, 5, 6, 7, 8, 1, 0] rfl⟩
     rcases hh with hh | ⟨h1, h2⟩
     · exact .inl (.inl hh)
     · by_cases hr : rankO t.ops nn i' = j
       · right
         exact rank_inj (h1.trans hish.symm) (hr.trans hirk.symm)
       · exact .inl (.inr ⟨h1, by omega⟩)
   · simp only [extract_tuple, List.getElem?_toArray, List.getElem?_cons_zero, List.getElem?_cons_succ, kv_some, ifV_bool, Bool.false_eq_true, if_false]
     have hall := hT.all (fun i hi => by
      have h1 := vi.all (shO t.ops nn i : Int) (by rw [ti.parts]; exact has_sh hn0 hi)
      obtain ⟨x, hx⟩ := Option.isSome_iff_exists.1 h1
      rw [← q.lkp] at hx
      obtain ⟨e, he, hek⟩ := List.mem_map.1 (lkp_mem hx)
      simp only [Prod.mk.injEq] at hek
      exact ⟨e, hp.mem_iff.1 he, hek.1⟩)
     obtain ⟨rfl, rfl⟩ := hall
     refine ⟨t1, trivial, ?_⟩
     have w1 := z2.drop.up1
     have w2 := w1.all
     have w4 := Sep.closeM q (w2.perm List.perm_middle)
     have w5 := w4.up1.all
     have w6 := Sep.closePts (qs := qs) w5
     rw [hqs] at w6
     have w7 : Sep F g2 (plBox bt [vo, vp, .map (some mv), .bool t.decided, .bool t.ok, .map (some md), mkS t2] 7 :: plOps vo t.ops :: plPts vp t.parts :: plGM kdInt vtV mv t.votes :: plGM kdInt dnV md t.done :: plI64s (mkS t2) (nowsF t.ops nn t.votes) :: plS1 (mkS t1) (valsF t.ops nn t.votes) :: plBox ba [i64 id.client, i64 id.seq, i64 0, mkS t1] 4 :: plBox bi (cId id) 2 :: plBox b [c0, c1, c2, .map (some mk)] 4 :: plGM kdInt anV mk kept :: L) := by
      rw [hok]
      exact w6.re11 [3, 7, 0, 1, 8, 5, 4, 2, 6, 9, 10] rfl
     have w8 := Sep.closeTr (t := { t with nows := nowsF t.ops nn t.votes }) w7
     rw [hT'] at w8
     exact (Sep.s1Strs w8.up1).re6 [2, 0, 3, 1, 4, 5] rfl
 · rintro e7 g0 ⟨t', -, s4⟩
   have b3 : g0.rd b 3 = some (.map (some mk)) := by rw [rd_of (Sep.get (s4.re5 [4] rfl)) 3]; rfl
   have c0' : g0.rd bi 0 = some (i64 id.client) := by rw [rd_of (Sep.get s4.up2) 0]; rfl
   simp only [aNil_ptr, kv_some, fieldAddr_ptr, Nat.zero_add, ld_one, b3, c0']
   obtain ⟨w, B, k1, s5, hB, hlk⟩ := Sep.lookK2 (s4.re6 [5, 0, 1, 2, 3, 4] rfl) id.client
   rw [k1, kv_some]
   obtain ⟨qs, hqs, s6⟩ := s5.openAns
   generalize ha : ansOf nn id t = a at s6 ⊢
   rw [ld_agg, rdN_of (Sep.get s6.up2)]
   refine kv_of (v := .agg #[i64 id.client, i64 id.seq, i64 a.err, mkS t']) rfl ?_
   have hai : a.id = id := by
    rw [← ha]; unfold ansOf; split <;> rfl
   refine kP_of (v := .slice (some ⟨g0.next, 0, none⟩) 1 2) (g := g0.new (.cells (dAn.enc (a, t')) 4 .rw)) (by rw [show dAn.enc (a, t') = [i64 a.id.client, i64 a.id.seq, i64 a.err, mkS t'] from rfl, hai]; rfl) ?_
   have m : Mod g0 [] (g0.new (.cells (dAn.enc (a, t')) 4 .rw)) [] := ⟨by simp, fun y hy _ => by
    have : y ≠ g0.next := by omega
    simp [this], by simp, by simp⟩
   have hw : aSrc dAn.es (.slice (some ⟨g0.next, 0, none⟩) 1 2) (g0.new (.cells (dAn.enc (a, t')) 4 .rw)) = some (dAn.enc (a, t')) := by
    have : (g0.new (.cells (dAn.enc (a, t')) 4 .rw)).get g0.next = some (.cells (dAn.enc (a, t')) 4 .rw) := by simp
    show (g0.new (.cells (dAn.enc (a, t')) 4 .rw)).rdN g0.next 0 (1 * 4) = _
    rw [rdN_of this]
    rfl
   have s7 := s6.skip m
   generalize g0.new (.cells (dAn.enc (a, t')) 4 .rw) = g1 at s7 hw ⊢
   generalize g0.next = bl at hw ⊢
   clear s6 s5 s4 m
   have b3 : g1.rd b 3 = some (.map (some mk)) := by rw [rd_of (Sep.get (s7.re7 [6] rfl)) 3]; rfl
   have c0' : g1.rd bi 0 = some (i64 id.client) := by rw [rd_of (Sep.get (s7.re5 [4] rfl)) 0]; rfl
   refine ⟨b3, c0', hlk s7.up1, ?_⟩
   have hql : qs.length ≤ 1000 := by have := congrArg List.length hqs; rw [List.length_map] at this; omega
   obtain ⟨v', g2, e2, s8⟩ := Sep.rowSnoc (R := rdAn) (x := (a, t')) (bytes := 48) (z := [(.int .i64 0), (.int .i64 0), (.int .i64 0), (.slice none 0 0)]) (w := .slice (some ⟨bl, 0, none⟩) 1 2) (L := plGM kdInt B mk kept :: plBox ba [i64 id.client, i64 id.seq, i64 a.err, mkS t'] 4 :: plBox bi (cId id) 2 :: plTr (ptr bt 0) T' :: plBox b [c0, c1, c2, .map (some mk)] 4 :: L) (s7.re7 [0, 3, 1, 2, 4, 5, 6] rfl) rfl (by decide) rfl hw (by omega)
   have e2 : appendD (some (4, 48, [(.int .i64 0), (.int .i64 0), (.int .i64 0), (.slice none 0 0)])) w (.slice (some ⟨bl, 0, none⟩) 1 2) g1 = some (v', g2) := e2
   rw [e2, kP_some]
   clear s7 e2 b3 c0'
   have b3 : g2.rd b 3 = some (.map (some mk)) := by rw [rd_of (Sep.get (s8.re6 [5] rfl)) 3]; rfl
   have c0' : g2.rd bi 0 = some (i64 id.client) := by rw [rd_of (Sep.get (s8.re4 [3] rfl)) 0]; rfl
   have hl8 := Sep.rowLen s8
   have hlen : (qs ++ [(a, t')]).length = qs.length + 1 := by simp
   simp only [aNil_ptr, kv_some, fieldAddr_ptr, Nat.zero_add, ld_one, b3, c0', hl8]
   rw [sub_i64 _ 8 (by omega) (by omega), kv_some, max2, kv_some, show max (((qs ++ [(a, t')]).length : Int) - 8) 0 = (((qs ++ [(a, t')]).length - 8 : Nat) : Int) by omega]
   obtain ⟨v2, e3, s9⟩ := Sep.rowCut (t := .i64) s8 (k := (qs ++ [(a, t')]).length - 8) (by omega)
   have e3 : sliceD (.slice 4) v' (some (i64 (((qs ++ [(a, t')]).length - 8 : Nat) : Int))) none none g2 = some v2 := e3
   rw [e3, kv_some]
   have s10 := Sep.closeAns s9
   have hk : ((qs ++ [(a, t')]).drop ((qs ++ [(a, t')]).length - 8)).map (·.1) = keptL ((lkp id.client kept).getD []) a := by
    unfold keptL
    rw [← hqs, List.map_drop, List.map_append]
    simp
   rw [hk] at s10
   obtain ⟨g3, e4, s11⟩ := Sep.insM2 (D := kdInt) (A := anV) (k := id.client) (v := v2) (z := .slice none 0 0) hB s10.up1
   have e4 : mapUpdateD (some (.int, (some (.slice none 0 0)))) (.map (some mk)) (i64 id.client) v2 g2 = some g3 := e4
   rw [e4, kH_some]
   subst hT'
   exact s11.re5 [3, 4, 0] rfl
end Go.Abs

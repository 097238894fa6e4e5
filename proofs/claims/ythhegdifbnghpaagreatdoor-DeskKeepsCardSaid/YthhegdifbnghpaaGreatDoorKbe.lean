/- A desk: which are open; what is wanted. -/
import Derived.Test.YthhegdifbnghpaaGreatDoorKbd
import Derived.Test.YthhegdifbnghpaaGreatDoorKbc
set_option linter.unusedSimpArgs false
set_option linter.unusedVariables false
namespace Go.Abs
open Go Go.Proofs
variable {E : FE} {F : Fr} {h : AHeap} {L : List Pl}
theorem desk_Open {n : Nat} {p : V} {d : DeskM} (so : SortOk E n) (hl : d.opn.length ≤ n) (hn : n ≤ 1000000) (s : Sep F h (plDsk p d :: L)) :
 cl (Go.Abs.F.desk_Desk_Open E) [p] h fun r h' => ∃ l', l'.Perm (keysL d.opn) ∧ Srtd ordI l' ∧ Sep F h' (plIl r l' :: plDsk p d :: L) := by
 refine cl_of ?_
 obtain ⟨b, ml, mo, mk, rfl, s0⟩ := s.openDsk
 have r2 : h.rd b 2 = some (.map (some mo)) := by rw [rd_of s0.get 2]; rfl
 simp only [Go.Abs.F.desk_Desk_Open, ptr_eq_nil, kv_some, ifV_bool, Bool.false_eq_true, if_false, aNil_ptr, fieldAddr_ptr, ld_one, Nat.zero_add, r2]
 refine cl_of ?_
 have e2 : newD none (.map (some mo)) h = some (ptr h.next 0, h.new (.cells [.map (some mo)] 1 .rw)) := rfl
 simp only [Go.Abs.F.maps_Keys_map_api_Id_desk_trans_api_Id_desk_trans, e2, kP_some]
 have s1 := s0.box [.map (some mo)] 1
 generalize h.new (.cells [.map (some mo)] 1 .rw) = h1 at s1 ⊢
 generalize h.next = bx at s1 ⊢
 have hnd := Sep.nodupM (s1.re5 [3] rfl)
 refine keys_collect (s1.re5 [3, 0, 1, 2, 4] rfl) (by omega) (.inr (.inr rfl)) fun r h2 ks hks s2 => ?_
 have hkl : ks.length ≤ n := by
  have := hks.length_eq
  simp only [keysL, List.length_map] at this
  omega
 refine cl_then (ids_New (hks.nodup_iff.2 hnd) (by omega) s2) ?_
 intro q h3 s3
 refine cl_then (ids_All so hkl hn s3) ?_
 rintro r2 h4 ⟨l', hl', hs, s4⟩
 refine ⟨l', hl'.trans hks, hs, ?_⟩
 exact (Sep.closeDsk (s4.re8 [5, 6, 3, 7, 0] rfl)).up1
/-! ### Words -/
structure WdM where
 to : Int
 r : RecM
def dWd : EL (WdM × Tri × Tri) := ⟨4, fun e => [i64 e.1.to, i64 e.1.r.kind, mkS e.2.1, mkS e.2.2], fun _ => rfl, fun _ => rfl, by decide⟩
def rdWd : RD (WdM × Tri × Tri) := ⟨dWd, fun e => [plI64s (mkS e.2.1) e.1.r.nums, plStrs (mkS e.2.2) e.1.r.texts]⟩
def plWds (v : V) (l : List WdM) : Pl := plEx fun (qs : List (WdM × Tri × Tri)) => plAll [plPure (qs.map (·.1) = l), plRow rdWd v qs]
theorem Sep.openWds {v : V} {l : List WdM} (s : Sep F h (plWds v l :: L)) : ∃ qs : List (WdM × Tri × Tri), qs.map (·.1) = l ∧ Sep F h (plRow rdWd v qs :: L) := by
 obtain ⟨qs, s⟩ := s.ex
 have s1 := s.all
 obtain ⟨e, s2⟩ := Sep.pure (L := plRow rdWd v qs :: L) s1
 exact ⟨qs, e, s2⟩
theorem Sep.closeWds {v : V} {qs : List (WdM × Tri × Tri)} (s : Sep F h (plRow rdWd v qs :: L)) : Sep F h (plWds v (qs.map (·.1)) :: L) :=
 Sep.mkEx (A := fun (q : List (WdM × Tri × Tri)) => plAll [plPure (q.map (·.1) = qs.map (·.1)), plRow rdWd v q]) qs
  (Sep.mkAll (L' := [plPure (qs.map (·.1) = qs.map (·.1)), plRow rdWd v qs]) (Sep.mkPure rfl s))
theorem Sep.noWds (s : Sep F h L) : Sep F h (plWds (.slice none 0 0) [] :: L) := Sep.closeWds (qs := []) s.rowNil
theorem Sep.lenWds {v : V} {l : List WdM} (s : Sep F h (plWds v l :: L)) : lenD .slice v h = some (i64 l.length) := by
 obtain ⟨qs, rfl, s1⟩ := s.openWds
 rw [s1.rowLen, List.length_map]
theorem Sep.wdPush {v : V} {l : List WdM} {t u : Tri} {to kind : Int} {nums : List Int} {texts : List ByteArray} (s : Sep F h (plWds v l :: plI64s (mkS t) nums :: plStrs (mkS u) texts :: L)) (hsz : l.length ≤ 1000000)
 {K : V → AHeap → Prop} (hK : ∀ v' h', Sep F h' (plWds v' (l ++ [⟨to, ⟨kind, nums, texts⟩⟩]) :: L) → K v' h') :
 kP (buildSliceD (some (4, [(.int .i64 0), (.int .i64 0), (.slice none 0 0), (.slice none 0 0)])) 1 [(0, .agg #[i64 to, i64 kind, mkS t, mkS u])] h) fun w h => kP (appendD (some (4, 64, [(.int .i64 0), (.int .i64 0), (.slice none 0 0), (.slice none 0 0)])) v w h) K := by
 obtain ⟨qs, rfl, s1⟩ := s.openWds
 rw [List.length_map] at hsz
 refine Sep.rowPush (R := rdWd) (x := ((⟨to, ⟨kind, nums, texts⟩⟩ : WdM), t, u)) s1 rfl rfl (by decide) hsz fun v' h' s' => hK v' h' ?_
 have := Sep.closeWds s'
 rw [List.map_append] at this
 exact this
theorem Sep.wdApp {v w : V} {l m : List WdM} (s : Sep F h (plWds v l :: plWds w m :: L)) (hsz : l.length + m.length ≤ 1000000) :
 ∃ v' h', appendD (some (4, 64, [(.int .i64 0), (.int .i64 0), (.slice none 0 0), (.slice none 0 0)])) v w h = some (v', h') ∧ Sep F h' (plWds v' (l ++ m) :: L) := by
 obtain ⟨qs, rfl, s1⟩ := s.openWds
 obtain ⟨ws, rfl, s2⟩ := s1.up1.openWds
 rw [List.length_map, List.length_map] at hsz
 obtain ⟨v', h', e, s3⟩ := Sep.rowApp (R := rdWd) (bytes := 64) (z := [(.int .i64 0), (.int .i64 0), (.slice none 0 0), (.slice none 0 0)]) s2.up1 rfl (by decide) hsz
 refine ⟨v', h', e, ?_⟩
 have := Sep.closeWds s3
 rw [List.map_append] at this
 exact this
/-! ### What can be read of votes, of what is done -/
theorem Sep.lookVt {mv : Nat} {l : List (Int × VoteM)} (s : Sep F h (plGM kdInt vtV mv l :: L)) (k : Int) : ∃ (c0 c1 c2 c4 : Int) (c3 : Bool) (c5 : Tri),
 lookupD (some (.int, (some (.agg #[(.int .i64 0), (.int .i64 0), (.int .i64 0), (.bool false), (.int .i64 0), (.slice none 0 0)])))) (.map (some mv)) (i64 k) true h = some (.tuple #[.agg #[i64 c0, i64 c1, i64 c2, .bool c3, i64 c4, mkS c5], .bool (lkp k l).isSome]) := by
 cases hk : Go.Abs.lkp k l with
 | none =>
  have h1 := s.lookNone (z := .agg #[(.int .i64 0), (.int .i64 0), (.int .i64 0), (.bool false), (.int .i64 0), (.slice none 0 0)]) hk true
  exact ⟨0, 0, 0, 0, false, (none, 0, 0), h1⟩
 | some x =>
  obtain ⟨w, h1, s1⟩ := s.lookSome (z := .agg #[(.int .i64 0), (.int .i64 0), (.int .i64 0), (.bool false), (.int .i64 0), (.slice none 0 0)]) hk true
  obtain ⟨u, s2⟩ := Sep.ex (A := fun (u : V) => plAll [plPure (w = .agg #[i64 x.id.client, i64 x.id.seq, i64 x.shard, .bool x.yes, i64 x.now, u]), plStrs u x.vals]) s1
  have s3 := s2.all
  obtain ⟨e, s4⟩ := Sep.pure (L := plStrs u x.vals :: plGM kdInt (holeP k w vtV) mv l :: L) s3
  obtain ⟨f, q, _⟩ := s4.head
  have q : Ts h f u x.vals := q
  obtain ⟨t, rfl⟩ := sl_form (ts_sle.1 q)
  subst e
  exact ⟨_, _, _, _, _, t, h1⟩
theorem Sep.lookDn {md : Nat} {l : List (Int × Unit)} (s : Sep F h (plGM kdInt dnV md l :: L)) (k : Int) :
 lookupD (some (.int, (some (.bool false)))) (.map (some md)) (i64 k) false h = some (.bool (lkp k l).isSome) := by
 cases hk : Go.Abs.lkp k l with
 | none => exact s.lookNone (z := .bool false) hk false
 | some x =>
  obtain ⟨w, h1, s1⟩ := s.lookSome (z := .bool false) hk false
  obtain ⟨e, _⟩ := Sep.pure (φ := w = .bool true) s1
  subst e
  exact h1
def wantF (nn : Nat) (id : IdM) (t : TransM) (s : Int) : Option WdM :=
 if t.decided && !(lkp s t.done).isSome then (if (wordV 6 id s t.ok).2 then some ⟨s, (wordV 6 id s t.ok).1⟩ else none)
 else if !t.decided && !(lkp s t.votes).isSome then (if (putV 4 id (ofF t.ops ((partsF t.ops nn).getD s.toNat []))).2 then some ⟨s, (putV 4 id (ofF t.ops ((partsF t.ops nn).getD s.toNat []))).1⟩ else none)
 else none
def wantsF (nn : Nat) (id : IdM) (t : TransM) : List WdM := (shardsF t.parts).filterMap (wantF nn id t)
theorem shards_in {ps : List (List Int)} {s : Int} (hs : s ∈ shardsF ps) : ∃ k : Nat, s = k ∧ k < ps.length ∧ hasF ps s = true := by
 unfold shardsF at hs
 obtain ⟨h1, h2⟩ := List.mem_filter.1 hs
 obtain ⟨k, hk, rfl⟩ := List.mem_map.1 h1
 exact ⟨k, rfl, by simpa using hk, h2⟩
theorem shards_len (ps : List (List Int)) : (shardsF ps).length ≤ ps.length := by
 unfold shardsF
 refine Nat.le_trans (List.length_filter_le _ _) ?_
 simp
theorem ofF_mem {l : List Oq} {p : List Int} : ∀ o ∈ ofF l p, o ∈ l := by
 intro o ho
 obtain ⟨i, _, hi⟩ := List.mem_filterMap.1 ho
 exact List.mem_of_getElem? hi
set_option maxHeartbeats 1000000 in
theorem desk_wants (oe : OpE E) {vt : V} {t : TransM} {b nn : Nat} {c1 c2 c3 : V} (id : IdM) (hn : 1 ≤ nn ∧ nn ≤ 3) (hp : t.parts = partsF t.ops nn) (hl : t.ops.length ≤ 100000) (hz : ∀ o ∈ t.ops, o.space.size ≤ 1000000000)
 (s : Sep F h (plTr vt t :: plBox b [i64 (nn : Nat), c1, c2, c3] 4 :: L)) :
 cl (Go.Abs.F.desk_Desk_wants E) [ptr b 0, id.agg, vt] h fun r h' => Sep F h' (plWds r (wantsF nn id t) :: plTr vt t :: plBox b [i64 (nn : Nat), c1, c2, c3] 4 :: L) := by
 refine cl_of ?_
 obtain ⟨bt, vo, vp, mv, md, vn, rfl, s0⟩ := s.openTr
 clear s
 have hpl : t.parts.length = nn := by rw [hp, parts_len]
 simp only [Go.Abs.F.desk_Desk_wants, new2, kP_some]
 have s1 := s0.box (cId id) 2
 clear s0
 generalize h.new (.cells (cId id) 2 .rw) = h1 at s1 ⊢
 generalize h.next = bi at s1 ⊢
 refine cl_then (trans_shards (cs := [vo, vp, .map (some mv), .bool t.decided, .bool t.ok, .map (some md), vn]) rfl (by omega) (s1.re8 [1, 3, 0, 2, 4, 5, 6, 7] rfl)) ?_
 intro r h2 s2
 clear s1
 generalize hsl : shardsF t.parts = sl at s2
 have hsin : ∀ x ∈ sl, ∃ k : Nat, x = k ∧ k < t.parts.length ∧ hasF t.parts x = true := fun x hx => shards_in (by rw [hsl]; exact hx)
 have hsll : sl.length ≤ nn := by rw [← hsl, ← hpl]; exact shards_len _
 obtain ⟨f, q, _⟩ := s2.head
 have q : SlE dInt h2 f r sl := q
 rw [q.len, kv_some]
 refine ⟨fun n vs h' => ∃ (i : Nat) (w : V), vs = [w, i64 i] ∧ n = sl.length - i ∧ i ≤ sl.length ∧ Sep F h' (plWds w ((sl.take i).filterMap (wantF nn id t)) :: plI64s r sl :: plBox bt [vo, vp, .map (some mv), .bool t.decided, .bool t.ok, .map (some md), vn] 7 :: plPts vp t.parts :: plBox bi (cId id) 2 :: plOps vo t.ops :: plGM kdInt vtV mv t.votes :: plGM kdInt dnV md t.done :: plI64s vn t.nows :: plBox b [i64 (nn : Nat), c1, c2, c3] 4 :: L),
  sl.length, ⟨0, _, rfl, by omega, by omega, Sep.noWds s2⟩, ?_⟩
 rintro n e g1 ⟨i, w, he, rfl, hi, z1⟩
 simp only [List.cons.injEq, and_true] at he
 simp only [he.1, he.2, bin_lss, kv_some, ifV_bool, decide_eq_true_eq]
 by_cases hx : i < sl.length
 case neg =>
  rw [if_neg (show ¬ ((i : Nat) : Int) < (sl.length : Nat) by omega)]
  rw [List.take_of_length_le (by omega)] at z1
  have z2 : Sep F g1 (plTr (ptr bt 0) t :: plWds w (sl.filterMap (wantF nn id t)) :: plBox b [i64 (nn : Nat), c1, c2, c3] 4 :: L) := Sep.closeTr (z1.re10 [2, 5, 3, 6, 7, 8, 0, 9] rfl)
  unfold wantsF
  rw [hsl]
  exact z2.up1
 rw [if_pos (show ((i : Nat) : Int) < (sl.length : Nat) by omega)]
 obtain ⟨f1, q1⟩ := z1.memP (A := plI64s r sl) (by simp)
 have q1 : SlE dInt g1 f1 r sl := q1
 have hg : sl[i]? = some sl[i] := List.getElem?_eq_getElem hx
 obtain ⟨bc, _, a1, _, a3⟩ := q1.at hg
 have a1 : indexAddrD (.slice 1) r (i64 i) = some (ptr bc (i * 1)) := a1
 have a3 : g1.rd bc (i * 1) = some (i64 sl[i]) := a3 0 (by decide)
 obtain ⟨k, hk, hkl, hhas⟩ := hsin _ (List.getElem_mem hx)
 have htk : (sl.take (i + 1)).filterMap (wantF nn id t) = (sl.take i).filterMap (wantF nn id t) ++ (wantF nn id t sl[i]).toList := by
  rw [List.take_add_one, hg, Option.toList_some, List.filterMap_append]
  congr 1
 generalize sl[i] = x at hk a3 htk hhas
 subst hk
 have hlen : ((sl.take i).filterMap (wantF nn id t)).length ≤ 1000000 := by
  have h1 := List.length_filterMap_le (wantF nn id t) (sl.take i)
  rw [List.length_take] at h1
  omega
 generalize (sl.take i).filterMap (wantF nn id t) = out at z1 htk hlen
 rw [a1, kv_some, ld_one, a3, kv_some]
 have e4 : newD none (.agg #[(.int .i64 0), (.int .i64 0), (.slice none 0 0), (.slice none 0 0)]) g1 = some (ptr g1.next 0, g1.new (.cells [i64 0, i64 0, .slice none 0 0, .slice none 0 0] 4 .rw)) := rfl
 rw [e4, kP_some]
 have z2 := z1.box [i64 0, i64 0, .slice none 0 0, .slice none 0 0] 4
 clear z1 q1 a1 a3 e4
 generalize g1.new (.cells [i64 0, i64 0, .slice none 0 0, .slice none 0 0] 4 .rw) = g2 at z2 ⊢
 generalize g1.next = bw at z2 ⊢
 have gt := Sep.get (z2.re11 [3] rfl)
 have t2 : g2.rd bt 2 = some (.map (some mv)) := by rw [rd_of gt 2]; rfl
 obtain ⟨d0, d1, d2, d4, d3, d5, hv⟩ := Sep.lookVt (z2.re11 [7] rfl) (k : Int)
 simp only [aNil_ptr, kv_some, fieldAddr_ptr, Nat.zero_add, ld_one, t2, hv, extract_tuple, List.getElem?_toArray, List.getElem?_cons_zero, List.getElem?_cons_succ]
 have e6 : newD none (.agg #[(.int .i64 0), (.int .i64 0), (.int .i64 0), (.bool false), (.int .i64 0), (.slice none 0 0)]) g2 = some (ptr g2.next 0, g2.new (.cells [i64 0, i64 0, i64 0, .bool false, i64 0, .slice none 0 0] 6 .rw)) := rfl
 rw [e6, kP_some]
 have z3 := z2.box [i64 0, i64 0, i64 0, .bool false, i64 0, .slice none 0 0] 6
 clear z2 gt t2 hv e6
 generalize g2.new (.cells [i64 0, i64 0, i64 0, .bool false, i64 0, .slice none 0 0] 6 .rw) = g3 at z3 ⊢
 generalize g2.next = bv at z3 ⊢
 rw [st_of (n := 6) (vs := [i64 d0, i64 d1, i64 d2, .bool d3, i64 d4, mkS d5]) z3.get (by simp) rfl rfl rfl (by simp), kH_some]
 have z4 := (z3.write (cs' := setList [i64 0, i64 0, i64 0, .bool false, i64 0, .slice none 0 0] 0 [i64 d0, i64 d1, i64 d2, .bool d3, i64 d4, mkS d5])).drop
 clear z3
 generalize AHeap.put _ _ _ = g4 at z4 ⊢
 refine ⟨fun vs h' => ∃ (o : Option WdM) (kind : Int) (tt uu : Tri) (nums : List Int) (texts : List ByteArray), o = wantF nn id t k ∧ vs = [.bool o.isSome] ∧ (∀ y, o = some y → y = ⟨(k : Int), ⟨kind, nums, texts⟩⟩) ∧
  Sep F h' (plI64s (mkS tt) nums :: plStrs (mkS uu) texts :: plBox bw [i64 0, i64 kind, mkS tt, mkS uu] 4 :: plWds w out :: plI64s r sl :: plBox bt [vo, vp, .map (some mv), .bool t.decided, .bool t.ok, .map (some md), vn] 7 :: plPts vp t.parts :: plBox bi (cId id) 2 :: plOps vo t.ops :: plGM kdInt vtV mv t.votes :: plGM kdInt dnV md t.done :: plI64s vn t.nows :: plBox b [i64 (nn : Nat), c1, c2, c3] 4 :: L), ?_, ?_⟩
 · -- the record
   have gt := Sep.get (z4.re11 [3] rfl)
   have t0 : g4.rd bt 0 = some vo := by rw [rd_of gt 0]; rfl
   have t3 : g4.rd bt 3 = some (.bool t.decided) := by rw [rd_of gt 3]; rfl
   have t4 : g4.rd bt 4 = some (.bool t.ok) := by rw [rd_of gt 4]; rfl
   have t5 : g4.rd bt 5 = some (.map (some md)) := by rw [rd_of gt 5]; rfl
   have hd := Sep.lookDn (z4.re11 [8] rfl) (k : Int)
   have li : ldD (.agg 2) (ptr bi 0) g4 = some id.agg := ld2 (Sep.get (z4.re11 [5] rfl))
   have b0 : g4.rd b 0 = some (i64 (nn : Nat)) := by rw [rd_of (Sep.get (z4.re11 [10] rfl)) 0]; rfl
   have none' : wantF nn id t k = none → Sep F g4 (plI64s (mkS (none, 0, 0)) [] :: plStrs (mkS (none, 0, 0)) [] :: plBox bw [i64 0, i64 0, mkS (none, 0, 0), mkS (none, 0, 0)] 4 :: plWds w out :: plI64s r sl :: plBox bt [vo, vp, .map (some mv), .bool t.decided, .bool t.ok, .map (some md), vn] 7 :: plPts vp t.parts :: plBox bi (cId id) 2 :: plOps vo t.ops :: plGM kdInt vtV mv t.votes :: plGM kdInt dnV md t.done :: plI64s vn t.nows :: plBox b [i64 (nn : Nat), c1, c2, c3] 4 :: L) := fun _ => Sep.noInts (Sep.noStrs z4)
   have fin : ∀ {g : AHeap} {v : V} {rr : RecM} {ok : Bool}, Sep F g (plRec v rr :: plBox bw [i64 0, i64 0, .slice none 0 0, .slice none 0 0] 4 :: plWds w out :: plI64s r sl :: plBox bt [vo, vp, .map (some mv), .bool t.decided, .bool t.ok, .map (some md), vn] 7 :: plPts vp t.parts :: plBox bi (cId id) 2 :: plOps vo t.ops :: plGM kdInt vtV mv t.votes :: plGM kdInt dnV md t.done :: plI64s vn t.nows :: plBox b [i64 (nn : Nat), c1, c2, c3] 4 :: L) →
    wantF nn id t k = (if ok then some ⟨(k : Int), rr⟩ else none) → kH (stD (some 3) (ptr bw 1) v g) fun _ h' => ∃ (o : Option WdM) (kind : Int) (tt uu : Tri) (nums : List Int) (texts : List ByteArray), o = wantF nn id t k ∧ [(.bool ok : V)] = [.bool o.isSome] ∧ (∀ y, o = some y → y = ⟨(k : Int), ⟨kind, nums, texts⟩⟩) ∧
   Sep F h' (plI64s (mkS tt) nums :: plStrs (mkS uu) texts :: plBox bw [i64 0, i64 kind, mkS tt, mkS uu] 4 :: plWds w out :: plI64s r sl :: plBox bt [vo, vp, .map (some mv), .bool t.decided, .bool t.ok, .map (some md), vn] 7 :: plPts vp t.parts :: plBox bi (cId id) 2 :: plOps vo t.ops :: plGM kdInt vtV mv t.votes :: plGM kdInt dnV md t.done :: plI64s vn t.nows :: plBox b [i64 (nn : Nat), c1, c2, c3] 4 :: L) := by
    intro g v rr ok sg hw
    obtain ⟨kind, nums, texts⟩ := rr
    obtain ⟨tt, uu, rfl, sg1⟩ := sg.openRec
    rw [st_of (n := 3) (vs := [i64 kind, mkS tt, mkS uu]) (Sep.get sg1.up2) (by simp) rfl rfl rfl (by simp), kH_some]
    have sg2 := Sep.write (cs' := setList [i64 0, i64 0, .slice none 0 0, .slice none 0 0] 1 [i64 kind, mkS tt, mkS uu]) sg1.up2
    refine ⟨_, kind, tt, uu, nums, texts, rfl, ?_, ?_, sg2.dn2⟩
    · rw [hw]; cases ok <;> rfl
    · intro y hy
      rw [hw] at hy
      cases ok with
      | false => cases hy
      | true => exact (Option.some.inj hy).symm
   simp only [t3, kv_some]
   cases hdec : t.decided with
   | true =>
    simp only [gdV_bool, if_true, aNil_ptr, kv_some, fieldAddr_ptr, Nat.zero_add, ld_one, t5, hd, not_bool, pickV_bool]
    cases hdn : (lkp (k : Int) t.done).isSome with
    | true =>
     have hw : wantF nn id t k = none := by unfold wantF; rw [hdec, hdn]; rfl
     rw [hdec] at t3 none'
     simp only [Bool.not_true, ifV_bool, Bool.false_eq_true, if_false, aNil_ptr, kv_some, fieldAddr_ptr, Nat.zero_add, ld_one, t3, not_bool, gdV_bool, pickV_bool]
     exact ⟨_, 0, (none, 0, 0), (none, 0, 0), [], [], rfl, by rw [hw]; rfl, fun y hy => (by rw [hw] at hy; cases hy), none' hw⟩
    | false =>
     have hw : wantF nn id t k = if (wordV 6 id k t.ok).2 then some ⟨(k : Int), (wordV 6 id k t.ok).1⟩ else none := by unfold wantF; rw [hdec, hdn]; rfl
     rw [hdec] at z4 fin
     simp only [Bool.not_false, ifV_bool, if_true, li, aNil_ptr, kv_some, fieldAddr_ptr, Nat.zero_add, ld_one, t4]
     refine cl_then (op_Word (.inl rfl) id (k : Int) t.ok z4) ?_
     rintro r5 g5 ⟨v5, rfl, z5⟩
     simp only [extract_tuple, List.getElem?_toArray, List.getElem?_cons_zero, List.getElem?_cons_succ, kv_some, fieldAddr_ptr, Nat.zero_add]
     exact fin z5 hw
   | false =>
    simp only [gdV_bool, Bool.false_eq_true, if_false, kv_some, pickV_bool, ifV_bool, aNil_ptr, fieldAddr_ptr, Nat.zero_add, ld_one, t3, hdec, not_bool, Bool.not_false, if_true]
    cases hvt : (lkp (k : Int) t.votes).isSome with
    | true =>
     have hw : wantF nn id t k = none := by unfold wantF; rw [hdec, hvt]; rfl
     rw [hdec] at none'
     simp only [Bool.not_true, Bool.false_eq_true, if_false]
     exact ⟨_, 0, (none, 0, 0), (none, 0, 0), [], [], rfl, by rw [hw]; rfl, fun y hy => (by rw [hw] at hy; cases hy), none' hw⟩
    | false =>
     have hw : wantF nn id t k = if (putV 4 id (ofF t.ops ((partsF t.ops nn).getD k []))).2 then some ⟨(k : Int), (putV 4 id (ofF t.ops ((partsF t.ops nn).getD k []))).1⟩ else none := by unfold wantF; rw [hdec, hvt]; rfl
     rw [hdec] at z4 fin
     simp only [Bool.not_false, if_true, li, aNil_ptr, kv_some, fieldAddr_ptr, Nat.zero_add, ld_one, t0, b0]
     refine cl_then (op_Of (sh := k) hn (by omega) hl hz (z4.re11 [6, 0, 1, 2, 3, 4, 5, 7, 8, 9, 10] rfl)) ?_
     intro r5 g5 z5
     have li5 : ldD (.agg 2) (ptr bi 0) g5 = some id.agg := ld2 (Sep.get (z5.re12 [7] rfl))
     refine ⟨li5, ?_⟩
     have hofl : (ofF t.ops ((partsF t.ops nn).getD k [])).length ≤ 100000 := by
      refine Nat.le_trans (ofF_len _ _) ?_
      have hm : (partsF t.ops nn).getD k [] ∈ partsF t.ops nn := by
       rw [List.getD_eq_getElem?_getD, List.getElem?_eq_getElem (by rw [parts_len]; omega)]
       exact List.getElem_mem _
      have := parts_short hm
      omega
     refine cl_then (op_Put oe (.inr rfl) id hofl (fun o ho => by have := hz o (ofF_mem o ho); have : (1000000000 : Nat) ≤ maxLen := by decide
                                                                  omega) z5) ?_
     rintro r6 g6 ⟨v6, rfl, z6⟩
     simp only [extract_tuple, List.getElem?_toArray, List.getElem?_cons_zero, List.getElem?_cons_succ, kv_some, fieldAddr_ptr, Nat.zero_add]
     exact fin (z6.re13 [0, 3, 4, 5, 6, 7, 8, 2, 9, 10, 11, 12] rfl) hw
 · rintro e15 g5 ⟨o, kind, tt, uu, nums, texts, ho, he15, hy, z5⟩
   simp only [List.cons.injEq, and_true] at he15
   simp only [he15, fieldAddr_ptr, Nat.zero_add, kv_some, ifV_bool]
   rw [st_one (Sep.get z5.up2) (by simp) rfl rfl (by simp), kH_some]
   have z6 := Sep.write (cs' := [i64 (k : Int), i64 kind, mkS tt, mkS uu]) z5.up2
   rw [show [i64 0, i64 kind, mkS tt, mkS uu].set 0 (i64 (k : Int)) = [i64 (k : Int), i64 kind, mkS tt, mkS uu] from rfl]
   generalize AHeap.put _ _ _ = g6 at z6 ⊢
   cases o with
   | none =>
    simp only [Option.isSome_none, Bool.false_eq_true, if_false]
    rw [add_i64 _ 1 (by omega) (by omega), kv_some]
    refine ⟨sl.length - (i + 1), by omega, i + 1, w, by simp, rfl, by omega, ?_⟩
    rw [htk, ← ho]
    simp only [Option.toList_none, List.append_nil]
    exact z6.drop.drop.drop
   | some y =>
    have := hy y rfl
    subst this
    simp only [Option.isSome_some, if_true]
    rw [ld_agg, rdN_of z6.get, if_pos (by simp), Option.map_some, kv_some]
    refine Sep.wdPush (to := (k : Int)) (kind := kind) (z6.re4 [3, 1, 2] rfl) hlen fun w' g7 z7 => ?_
    rw [add_i64 _ 1 (by omega) (by omega), kv_some]
    refine ⟨sl.length - (i + 1), by omega, i + 1, w', by simp, rfl, by omega, ?_⟩
    rw [htk, ← ho]
    exact z7
end Go.Abs
namespace Go.Abs
open Go Go.Proofs
variable {E : FE} {F : Fr} {h : AHeap} {L : List Pl}
structure TInv (nn : Nat) (t : TransM) : Prop where
 all : allO t.ops = true
 parts : t.parts = partsF t.ops nn
structure DInv (nn : Nat) (d : DeskM) : Prop where
 n : d.n = (nn : Nat)
 hn : 1 ≤ nn ∧ nn ≤ 3
 opn : ∀ id t, lkp id d.opn = some t → TInv nn t
def wantsA (nn : Nat) (d : DeskM) (ids : List IdM) : List WdM := ids.flatMap fun id => match lkp id d.opn with | some t => wantsF nn id t | none => []
theorem wantsF_len (nn : Nat) (id : IdM) (t : TransM) (hp : t.parts = partsF t.ops nn) : (wantsF nn id t).length ≤ nn := by
 unfold wantsF
 refine Nat.le_trans (List.length_filterMap_le _ _) (Nat.le_trans (shards_len _) ?_)
 rw [hp, parts_len]
 exact Nat.le_refl _
theorem wantsA_len {nn : Nat} {d : DeskM} (di : DInv nn d) (ids : List IdM) : (wantsA nn d ids).length ≤ 3 * ids.length := by
 unfold wantsA
 induction ids with
 | nil => simp
 | cons a l ih =>
  rw [List.flatMap_cons, List.length_append, List.length_cons]
  have : (match lkp a d.opn with | some t => wantsF nn a t | none => []).length ≤ 3 := by
   cases hk : lkp a d.opn with
   | none => simp
   | some t =>
    have h1 := wantsF_len nn a t (di.opn a t hk).parts
    have h2 := di.hn.2
    simp only
    omega
  omega
theorem TInv.ops {nn : Nat} {t : TransM} (ti : TInv nn t) : t.ops.length ≤ 8 ∧ ∀ o ∈ t.ops, o.space.size ≤ 20 := by
 have hal := allF ti.all
 exact ⟨hal.2.1, fun o ho => (mayF (hal.2.2 o ho)).sp.2⟩
set_option maxHeartbeats 1000000 in
theorem desk_Wants (oe : OpE E) {n nn : Nat} {p : V} {d : DeskM} (di : DInv nn d) (so : SortOk E n) (hl : d.opn.length ≤ n) (hn : n ≤ 100000) (s : Sep F h (plDsk p d :: L)) :
 cl (Go.Abs.F.desk_Desk_Wants E) [p] h fun r h' => ∃ ids, ids.Perm (keysL d.opn) ∧ Srtd ordI ids ∧ Sep F h' (plWds r (wantsA nn d ids) :: plDsk p d :: L) := by
 refine cl_of ?_
 simp only [Go.Abs.F.desk_Desk_Wants]
 refine cl_then (desk_Open so hl (by omega) s) ?_
 rintro r h1 ⟨ids, hids, hsr, s1⟩
 obtain ⟨f, q, _⟩ := s1.head
 have q : SlE dId h1 f r ids := q
 have hil : ids.length ≤ n := by
  have := hids.length_eq
  simp only [keysL, List.length_map] at this
  omega
 rw [q.len, kv_some]
 refine ⟨fun m vs h' => ∃ (i : Nat) (w : V), vs = [w, i64 i] ∧ m = ids.length - i ∧ i ≤ ids.length ∧ Sep F h' (plWds w (wantsA nn d (ids.take i)) :: plIl r ids :: plDsk p d :: L), ids.length, ⟨0, _, rfl, by omega, by omega, Sep.noWds s1⟩, ?_⟩
 rintro m e g1 ⟨i, w, he, rfl, hi, z1⟩
 simp only [List.cons.injEq, and_true] at he
 simp only [he.1, he.2, bin_lss, kv_some, ifV_bool, decide_eq_true_eq]
 by_cases hx : i < ids.length
 case neg =>
  rw [if_neg (show ¬ ((i : Nat) : Int) < (ids.length : Nat) by omega)]
  rw [List.take_of_length_le (by omega)] at z1
  exact ⟨ids, hids, hsr, z1.re3 [0, 2] rfl⟩
 rw [if_pos (show ((i : Nat) : Int) < (ids.length : Nat) by omega)]
 obtain ⟨f1, q1⟩ := z1.memP (A := plIl r ids) (by simp)
 have q1 : SlE dId g1 f1 r ids := q1
 have hg : ids[i]? = some ids[i] := List.getElem?_eq_getElem hx
 obtain ⟨c, c1, c2⟩ := q1.ld hg
 have c1 : indexAddrD (.slice 2) r (i64 (i : Nat)) = _ := c1
 have c2 : ldD (.agg 2) _ _ = some (ids[i]).agg := c2
 have hmem : ids[i] ∈ keysL d.opn := hids.subset (List.getElem_mem hx)
 have htk : wantsA nn d (ids.take (i + 1)) = wantsA nn d (ids.take i) ++ (match lkp ids[i] d.opn with | some t => wantsF nn ids[i] t | none => []) := by
  unfold wantsA
  rw [List.take_add_one, hg, Option.toList_some, List.flatMap_append]
  simp
 have hol : (wantsA nn d (ids.take i)).length ≤ 300000 := by
  have := wantsA_len di (ids.take i)
  rw [List.length_take] at this
  omega
 generalize ids[i] = id at c2 hmem htk
 generalize wantsA nn d (ids.take i) = out at z1 htk hol
 obtain ⟨t, ht⟩ : ∃ t, lkp id d.opn = some t := by
  cases hk : Go.Abs.lkp id d.opn with
  | none => exact absurd hmem (lkp_none.1 hk)
  | some t => exact ⟨t, rfl⟩
 have ti := di.opn id t ht
 have hto := ti.ops
 rw [ht] at htk
 simp only at htk
 rw [c1, kv_some, c2, kv_some, newI0, kP_some]
 have z2 := z1.box (cId ⟨0, 0⟩) 2
 rw [st2 z2.get, kH_some]
 have z3 := z2.write (cs' := cId id)
 clear z1 z2 q1 c1 c2
 generalize AHeap.put _ _ _ = g3 at z3 ⊢
 generalize g1.next = bi at z3 ⊢
 obtain ⟨b, ml, mo, mk, rfl, z4⟩ := (z3.re4 [3, 0, 1, 2] rfl).openDsk
 clear z3
 have b2 : g3.rd b 2 = some (.map (some mo)) := by rw [rd_of z4.get 2]; rfl
 have li : ldD (.agg 2) (ptr bi 0) g3 = some id.agg := ld2 (Sep.get (z4.re5 [4] rfl))
 obtain ⟨vt, lo, z5⟩ := (z4.re7 [2, 0, 1, 3, 4, 5, 6] rfl).lookSome (z := nil) ht false
 have lo : lookupD (some ((.struct false [(0, .int), (1, .int)]), (some (.pointer none)))) (.map (some mo)) id.agg false g3 = some vt := lo
 simp only [li, kv_some, aNil_ptr, fieldAddr_ptr, Nat.zero_add, ld_one, b2, lo]
 have z5 : Sep F g3 (plTr vt t :: plGM kdId (holeP id vt trV) mo d.opn :: plBox b [i64 d.n, .map (some ml), .map (some mo), .map (some mk)] 4 :: plGM kdInt lsV ml d.last :: plGM kdInt anV mk d.kept :: plBox bi (cId id) 2 :: plWds w out :: plIl r ids :: L) := z5
 have hdn := di.n
 rw [hdn] at z5
 refine cl_then (desk_wants oe id di.hn ti.parts (by omega) (fun o ho => by have := hto.2 o ho; omega) (z5.re8 [0, 2, 1, 3, 4, 5, 6, 7] rfl)) ?_
 intro r5 g5 z6
 obtain ⟨w', g6, e6, z7⟩ := Sep.wdApp (z6.re8 [7, 0, 1, 2, 3, 4, 5] rfl) (by
  have := wantsF_len nn id t ti.parts
  have := di.hn.2
  omega)
 rw [e6, kP_some, add_i64 _ 1 (by omega) (by omega), kv_some]
 refine ⟨ids.length - (i + 1), by omega, i + 1, w', by simp, rfl, by omega, ?_⟩
 rw [htk]
 have z8 := Sep.backM (A := trV) (k := id) (v := vt) (x' := t) (z7.re7 [1, 3, 0, 2, 4, 5, 6] rfl) ht
 rw [ins_same ht] at z8
 rw [← hdn] at z8
 exact (Sep.closeDsk (z8.re6 [2, 3, 0, 4, 1, 5] rfl)).re3 [1, 2, 0] rfl
end Go.Abs
namespace Go.Abs
open Go Go.Proofs
variable {E : FE} {F : Fr} {h : AHeap} {L : List Pl}
theorem rmv_ins {κ α : Type} [DecidableEq κ] (k : κ) (x : α) : ∀ l : List (κ × α), lkp k l ≠ none → rmv k (ins k x l) = rmv k l
 | [], h => by simp [lkp] at h
 | (a, u) :: l, h => by
  simp only [lkp] at h
  by_cases hk : a = k
  · simp [ins, rmv, hk]
  · rw [if_neg hk] at h
    simp only [ins, rmv, if_neg hk, rmv_ins k x l h]
def doneV (d : DeskM) (id : IdM) (s : Int) : Bool × DeskM :=
 match lkp id d.opn with
 | none => (false, d)
 | some t => if t.decided && hasF t.parts s && !(lkp s t.done).isSome then
  (true, { d with opn := if (ins s () t.done).length = (shardsF t.parts).length then rmv id d.opn else ins id { t with done := ins s () t.done } d.opn })
  else (false, d)
set_option maxHeartbeats 1000000 in
theorem desk_Done {nn : Nat} {p : V} {d : DeskM} (di : DInv nn d) (id : IdM) (sh : Int) (s : Sep F h (plDsk p d :: L)) :
 cl (Go.Abs.F.desk_Desk_Done E) [p, id.agg, i64 sh] h fun r h' => r = .bool (doneV d id sh).1 ∧ Sep F h' (plDsk p (doneV d id sh).2 :: L) := by
 refine cl_of ?_
 obtain ⟨b, ml, mo, mk, rfl, s0⟩ := s.openDsk
 clear s
 simp only [Go.Abs.F.desk_Desk_Done, new2, kP_some]
 have s1 := s0.box (cId id) 2
 clear s0
 generalize h.new (.cells (cId id) 2 .rw) = h1 at s1 ⊢
 generalize h.next = bi at s1 ⊢
 have gb := Sep.get s1.up1
 have b2 : h1.rd b 2 = some (.map (some mo)) := by rw [rd_of gb 2]; rfl
 have li : ldD (.agg 2) (ptr bi 0) h1 = some id.agg := ld2 s1.get
 simp only [ptr_eq_nil, kv_some, ifV_bool, Bool.false_eq_true, if_false, aNil_ptr, fieldAddr_ptr, Nat.zero_add, ld_one, b2, li]
 unfold doneV
 cases ht : Go.Abs.lkp id d.opn with
 | none =>
  have lo := (s1.re5 [3] rfl).lookNone (z := nil) ht false
  have lo : lookupD (some ((.struct false [(0, .int), (1, .int)]), (some (.pointer none)))) (.map (some mo)) id.agg false h1 = some nil := lo
  simp only [lo, kv_some, nil_eq_nil, gdV_bool, Bool.true_eq_false, if_false, pickV_bool, if_true]
  refine gdC_no (by decide) ?_
  simp only [kv_some, gdV_bool, Bool.true_eq_false, if_false, pickV_bool, if_true, ifV_bool]
  exact ⟨trivial, Sep.closeDsk s1.drop⟩
 | some t =>
 have ti := di.opn id t ht
 obtain ⟨w, lo, s2⟩ := (s1.re5 [3, 0, 1, 2, 4] rfl).lookSome (z := nil) ht false
 have lo : lookupD (some ((.struct false [(0, .int), (1, .int)]), (some (.pointer none)))) (.map (some mo)) id.agg false h1 = some w := lo
 obtain ⟨bt, vo, vp, mv, md, vn, rfl, s3⟩ := Sep.openTr (t := t) s2
 clear s1 s2
 have back : ∀ {g : AHeap} {t' : TransM}, Sep F g (plBox bt [vo, vp, .map (some mv), .bool t'.decided, .bool t'.ok, .map (some md), vn] 7 :: plOps vo t'.ops :: plPts vp t'.parts :: plGM kdInt vtV mv t'.votes :: plGM kdInt dnV md t'.done :: plI64s vn t'.nows :: plGM kdId (holeP id (ptr bt 0) trV) mo d.opn :: plBox bi (cId id) 2 :: plBox b [i64 d.n, .map (some ml), .map (some mo), .map (some mk)] 4 :: plGM kdInt lsV ml d.last :: plGM kdInt anV mk d.kept :: L) →
  Sep F g (plGM kdId trV mo (ins id t' d.opn) :: plBox bi (cId id) 2 :: plBox b [i64 d.n, .map (some ml), .map (some mo), .map (some mk)] 4 :: plGM kdInt lsV ml d.last :: plGM kdInt anV mk d.kept :: L) := fun sg =>
  Sep.backM (A := trV) (k := id) (v := ptr bt 0) (Sep.closeTr sg) ht
 have same : ∀ {g : AHeap}, Sep F g (plBox bt [vo, vp, .map (some mv), .bool t.decided, .bool t.ok, .map (some md), vn] 7 :: plOps vo t.ops :: plPts vp t.parts :: plGM kdInt vtV mv t.votes :: plGM kdInt dnV md t.done :: plI64s vn t.nows :: plGM kdId (holeP id (ptr bt 0) trV) mo d.opn :: plBox bi (cId id) 2 :: plBox b [i64 d.n, .map (some ml), .map (some mo), .map (some mk)] 4 :: plGM kdInt lsV ml d.last :: plGM kdInt anV mk d.kept :: L) →
  Sep F g (plDsk (ptr b 0) d :: L) := fun sg => by
  have := back (t' := t) sg
  rw [ins_same ht] at this
  exact Sep.closeDsk (this.re5 [2, 3, 0, 4] rfl)
 have t3 : h1.rd bt 3 = some (.bool t.decided) := by rw [rd_of s3.get 3]; rfl
 have t1 : h1.rd bt 1 = some vp := by rw [rd_of s3.get 1]; rfl
 have t5 : h1.rd bt 5 = some (.map (some md)) := by rw [rd_of s3.get 5]; rfl
 have pr := Sep.ptsR s3.up2
 have hd := Sep.lookDn (s3.re5 [4] rfl) sh
 simp only [lo, kv_some, ptr_eq_nil, gdV_bool, if_true, aNil_ptr, fieldAddr_ptr, Nat.zero_add, ld_one, t3, not_bool, pickV_bool, Bool.false_eq_true, if_false]
 cases hdec : t.decided with
 | false =>
  simp only [Bool.not_false, gdV_bool, Bool.true_eq_false, if_false, kv_some]
  refine gdC_no (by decide) ?_
  simp only [kv_some, gdV_bool, Bool.true_eq_false, if_false, pickV_bool, if_true, ifV_bool, Bool.false_and, Bool.false_eq_true]
  exact ⟨trivial, same s3⟩
 | true =>
 simp only [Bool.not_true, gdV_bool, if_true, kv_some]
 refine gdC_yes rfl (cl_then (trans_has t1 pr sh) ?_)
 rintro r h2 ⟨rfl, rfl⟩
 simp only [not_bool, kv_some, pickV_bool, Bool.false_eq_true, if_false, Bool.true_and]
 cases hh : hasF t.parts sh with
 | false =>
  simp only [Bool.not_false, gdV_bool, Bool.true_eq_false, if_false, kv_some, pickV_bool, if_true, ifV_bool, Bool.false_and, Bool.false_eq_true]
  exact ⟨trivial, same s3⟩
 | true =>
 simp only [Bool.not_true, gdV_bool, if_true, aNil_ptr, fieldAddr_ptr, Nat.zero_add, kv_some, ld_one, t5, hd, pickV_bool, Bool.false_eq_true, if_false, Bool.true_and]
 cases hdn : (lkp sh t.done).isSome with
 | true =>
  simp only [ifV_bool, if_true, Bool.not_true, Bool.false_eq_true, if_false]
  exact ⟨trivial, same s3⟩
 | false =>
 simp only [ifV_bool, Bool.false_eq_true, if_false, Bool.not_false, if_true]
 obtain ⟨h4, e4, s4⟩ := Sep.insM (D := kdInt) (A := dnV) (k := sh) (v := .bool true) (x := ()) (z := .bool false) (Sep.up1 (Sep.mkPure (φ := (Value.bool true : V) = .bool true) rfl (s3.re11 [4, 0, 1, 2, 3, 5, 6, 7, 8, 9, 10] rfl)))
 have e4 : mapUpdateD (some (.int, (some (.bool false)))) (.map (some md)) (i64 sh) (.bool true) h2 = some h4 := e4
 rw [e4, kH_some]
 clear s3 pr hd t1 t3 t5 li b2 gb
 have t5 : h4.rd bt 5 = some (.map (some md)) := by rw [rd_of (Sep.get s4.up1) 5]; rfl
 have ll := Sep.lenM s4
 simp only [t5, ll, kv_some]
 refine cl_then (trans_shards (cs := [vo, vp, .map (some mv), .bool t.decided, .bool t.ok, .map (some md), vn]) rfl (by rw [ti.parts, parts_len]; have := di.hn.2; omega) (s4.re11 [1, 3, 0, 2, 4, 5, 6, 7, 8, 9, 10] rfl)) ?_
 intro r h5 s5
 obtain ⟨f, q, _⟩ := s5.head
 have q : SlE dInt h5 f r (shardsF t.parts) := q
 have s6 := back (t' := { t with done := ins sh () t.done }) (s5.re12 [1, 4, 2, 5, 3, 6, 7, 8, 9, 10, 11] rfl)
 rw [hdec] at s6
 rw [q.len, kv_some, bin_eql, kv_some, ifV_bool]
 have e7 : (((ins sh () t.done).length : Int) == ((shardsF t.parts).length : Int)) = decide ((ins sh () t.done).length = (shardsF t.parts).length) := by
  by_cases hz : (ins sh () t.done).length = (shardsF t.parts).length
  · rw [decide_eq_true hz]; simp [hz]
  · rw [decide_eq_false hz]; simp; omega
 rw [e7]
 by_cases hz : (ins sh () t.done).length = (shardsF t.parts).length
 case neg =>
  simp only [hz, decide_false, Bool.false_eq_true, if_false]
  exact ⟨trivial, Sep.closeDsk (d := { d with opn := ins id { t with decided := true, done := ins sh () t.done } d.opn }) (s6.re5 [2, 3, 0, 4] rfl)⟩
 simp only [hz, decide_true, if_true]
 have b2 : h5.rd b 2 = some (.map (some mo)) := by rw [rd_of (Sep.get s6.up2) 2]; rfl
 have li : ldD (.agg 2) (ptr bi 0) h5 = some id.agg := ld2 (Sep.get s6.up1)
 simp only [b2, li, kv_some]
 obtain ⟨h6, e6, s7⟩ := Sep.delM (D := kdId) (A := trV) (k := id) (z := nil) s6
 have e6 : deleteD (some ((.struct false [(0, .int), (1, .int)]), (some (.pointer none)))) (.map (some mo)) id.agg h5 = some h6 := e6
 rw [e6, kH_some]
 rw [rmv_ins id _ d.opn (by rw [ht]; simp)] at s7
 exact ⟨trivial, Sep.closeDsk (d := { d with opn := rmv id d.opn }) (s7.re5 [2, 3, 0, 4] rfl)⟩
end Go.Abs
namespace Go.Abs
open Go Go.Proofs
section
variable {κ α : Type} [DecidableEq κ] {D : KD κ} {A B : κ → V → α → Pl} {F : Fr} {h : AHeap} {L : List Pl} {m : Nat} {z : V} {l : List (κ × α)}
theorem Sep.insM2 {k : κ} {v : V} {x : α} (hB : ∀ k' v' x', k' ≠ k → B k' v' x' = A k' v' x') (s : Sep F h (plGM D B m l :: A k v x :: L)) :
 ∃ h', mapUpdateD (some (D.kk, some z)) (.map (some m)) (D.enc k) v h = some h' ∧ Sep F h' (plGM D A m (ins k x l) :: L) := by
 obtain ⟨t, clk, p, s⟩ := s.openM
 have hm : ∀ {tt : List (Et κ α)}, (∀ e' ∈ tt, e'.k ≠ k) → tt.map (Et.p B) = tt.map (Et.p A) := fun ht => List.map_congr_left fun e' he' => hB _ _ _ (ht e' he')
 cases hk : Go.Abs.lkp k l with
 | none =>
  have h1 : ∀ e' ∈ t, e'.k ≠ k := by
   intro e' he' hc
   have := (p.lkp k).trans hk
   rw [lkp_none, absE_keys] at this
   exact this (List.mem_map.2 ⟨e', he', hc⟩)
  rw [hm h1] at s
  exact Sep.insM (Sep.closeM p s)
 | some x0 =>
  have g := s.mapGet
  rw [map_meg] at g
  rw [update_G D g k v]
  refine ⟨_, rfl, ?_⟩
  obtain ⟨t1, e, t2, rfl, h1, h2, h3, h4⟩ := split_abs ((p.lkp k).trans hk)
  have h5 : ∀ e' ∈ t2, e'.k ≠ k := by
   have := p.ndt
   rw [absE_keys, List.map_append, List.map_cons, List.nodup_append] at this
   have h6 := (List.nodup_cons.1 this.2.1).1
   intro e' he' hc
   exact h6 (List.mem_map.2 ⟨e', he', hc.trans h1.symm⟩)
  have hg : ¬ getG k ((t1 ++ e :: t2).map Et.g) = none := by rw [h3]; simp
  have e2 : putG k v clk ((t1 ++ e :: t2).map Et.g) = (t1 ++ ⟨k, v, e.b, x⟩ :: t2).map Et.g := by
   rw [List.map_append, List.map_cons, putG_split (fun e' he' => ?_) (by exact h1)]
   · simp [Et.g]
   · obtain ⟨a, ha, rfl⟩ := List.mem_map.1 he'
     exact h4 a ha
  rw [if_neg hg, e2]
  refine Sep.closeM (p.put rfl h1 h4 v x) ?_
  have s1 := s.mapPut (es' := (t1 ++ (⟨k, v, e.b, x⟩ : Et κ α) :: t2).map (Et.m D)) (clk' := clk)
  rw [← map_meg]
  rw [List.map_append (f := Et.p B), List.map_cons (f := Et.p B), hm h4, hm h5] at s1
  have s2 : Sep F (h.put m (.map ((t1 ++ ⟨k, v, e.b, x⟩ :: t2).map (Et.m D)) clk)) (Et.p B e :: plMap m ((t1 ++ ⟨k, v, e.b, x⟩ :: t2).map (Et.m D)) clk :: ((t1 ++ ⟨k, v, e.b, x⟩ :: t2).map (Et.p A) ++ L)) := by
   refine s1.perm ?_
   simp only [List.map_append, List.map_cons, List.append_assoc, List.cons_append]
   refine (List.Perm.cons _ ?_).trans (List.Perm.swap _ _ _)
   refine List.perm_middle.trans (List.Perm.cons _ ?_)
   exact List.Perm.append_left _ List.perm_middle
  exact s2.drop
end
variable {E : FE} {F : Fr} {h : AHeap} {L : List Pl}
theorem Sep.openAns {v : V} {l : List AnsM} (s : Sep F h (plAns v l :: L)) : ∃ qs : List (AnsM × Tri), qs.map (·.1) = l ∧ Sep F h (plRow rdAn v qs :: L) := by
 obtain ⟨qs, s⟩ := s.ex
 have s1 := s.all
 obtain ⟨e, s2⟩ := Sep.pure (L := plRow rdAn v qs :: L) s1
 exact ⟨qs, e, s2⟩
theorem Sep.closeAns {v : V} {qs : List (AnsM × Tri)} (s : Sep F h (plRow rdAn v qs :: L)) : Sep F h (plAns v (qs.map (·.1)) :: L) :=
 Sep.mkEx (A := fun (q : List (AnsM × Tri)) => plAll [plPure (q.map (·.1) = qs.map (·.1)), plRow rdAn v q]) qs
  (Sep.mkAll (L' := [plPure (qs.map (·.1) = qs.map (·.1)), plRow rdAn v qs]) (Sep.mkPure rfl s))
theorem Sep.lookK {mk : Nat} {l : List (Int × List AnsM)} (s : Sep F h (plGM kdInt anV mk l :: L)) (c : Int) :
 ∃ (w : V) (B : Int → V → List AnsM → Pl), lookupD (some (.int, (some (.slice none 0 0)))) (.map (some mk)) (i64 c) false h = some w ∧ Sep F h (plAns w ((lkp c l).getD []) :: plGM kdInt B mk l :: L) ∧
  (∀ k' v' x', k' ≠ c → B k' v' x' = anV k' v' x') ∧ ∀ {g : AHeap} {L' : List Pl}, Sep F g (plAns w ((lkp c l).getD []) :: plGM kdInt B mk l :: L') → Sep F g (plGM kdInt anV mk l :: L') := by
 cases hk : Go.Abs.lkp c l with
 | none =>
  refine ⟨.slice none 0 0, anV, s.lookNone (D := kdInt) (z := .slice none 0 0) hk false, Sep.closeAns (qs := []) s.rowNil, fun _ _ _ _ => rfl, fun s' => s'.drop⟩
 | some x =>
  obtain ⟨w, h1, s1⟩ := s.lookSome (D := kdInt) (z := .slice none 0 0) hk false
  refine ⟨w, holeP c w anV, h1, s1, fun k' v' x' hn => by simp only [holeP, if_neg hn], fun {g L'} s' => ?_⟩
  have s2 := Sep.backM (A := anV) (k := c) (v := w) (x' := x) s' hk
  rwa [ins_same hk] at s2
def plAn1 (v : V) (a : AnsM) : Pl := plEx fun (t : Tri) => plAll [plPure (v = .agg #[i64 a.id.client, i64 a.id.seq, i64 a.err, mkS t]), plStrs (mkS t) a.vals]
theorem Sep.mkAn1 {a : AnsM} {t : Tri} (s : Sep F h (plStrs (mkS t) a.vals :: L)) : Sep F h (plAn1 (.agg #[i64 a.id.client, i64 a.id.seq, i64 a.err, mkS t]) a :: L) :=
 Sep.mkEx (A := fun (u : Tri) => plAll [plPure ((.agg #[i64 a.id.client, i64 a.id.seq, i64 a.err, mkS t] : V) = .agg #[i64 a.id.client, i64 a.id.seq, i64 a.err, mkS u]), plStrs (mkS u) a.vals]) t
  (Sep.mkAll (L' := [plPure ((.agg #[i64 a.id.client, i64 a.id.seq, i64 a.err, mkS t] : V) = .agg #[i64 a.id.client, i64 a.id.seq, i64 a.err, mkS t]), plStrs (mkS t) a.vals]) (Sep.mkPure rfl s))
theorem Sep.openAn1 {v : V} {a : AnsM} (s : Sep F h (plAn1 v a :: L)) : ∃ t, v = .agg #[i64 a.id.client, i64 a.id.seq, i64 a.err, mkS t] ∧ Sep F h (plStrs (mkS t) a.vals :: L) := by
 obtain ⟨t, s⟩ := s.ex
 have s1 := s.all
 obtain ⟨e, s2⟩ := Sep.pure (L := plStrs (mkS t) a.vals :: L) s1
 exact ⟨t, e, s2⟩
def noAns : AnsM := ⟨⟨0, 0⟩, 0, []⟩
def answerV (d : DeskM) (id : IdM) : AnsM × Bool :=
 match ((lkp id.client d.kept).getD []).find? (fun a => decide (a.id = id)) with
 | some a => (a, true)
 | none => if staleV d id then (⟨id, 5, []⟩, true) else (noAns, false)
set_option maxHeartbeats 1000000 in
theorem desk_Answer {p : V} {d : DeskM} (id : IdM) (hsz : ((lkp id.client d.kept).getD []).length ≤ 1000000) (hv : ∀ a ∈ (lkp id.client d.kept).getD [], a.vals.length ≤ 1000000) (s : Sep F h (plDsk p d :: L)) :
 cl (Go.Abs.F.desk_Desk_Answer E) [p, id.agg] h fun r h' => ∃ v, r = .tuple #[v, .bool (answerV d id).2] ∧ Sep F h' (plAn1 v (answerV d id).1 :: plDsk p d :: L) := by
 refine cl_of ?_
 obtain ⟨b, ml, mo, mk, rfl, s0⟩ := s.openDsk
 clear s
 simp only [Go.Abs.F.desk_Desk_Answer, new2, kP_some]
 have s1 := s0.box (cId id) 2
 clear s0
 generalize h.new (.cells (cId id) 2 .rw) = h1 at s1 ⊢
 generalize h.next = bi at s1 ⊢
 have e2 : ∀ g : AHeap, newD none (.agg #[(.int .i64 0), (.int .i64 0), (.int .i64 0), (.slice none 0 0)]) g = some (ptr g.next 0, g.new (.cells [i64 0, i64 0, i64 0, .slice none 0 0] 4 .rw)) := fun _ => rfl
 rw [e2, kP_some]
 have s2 := s1.box [i64 0, i64 0, i64 0, .slice none 0 0] 4
 clear s1
 generalize h1.new (.cells [i64 0, i64 0, i64 0, .slice none 0 0] 4 .rw) = h2 at s2 ⊢
 generalize h1.next = ba at s2 ⊢
 have gb := Sep.get s2.up2
 have b3 : h2.rd b 3 = some (.map (some mk)) := by rw [rd_of gb 3]; rfl
 have i0 : h2.rd bi 0 = some (i64 id.client) := by rw [rd_of (Sep.get s2.up1) 0]; rfl
 obtain ⟨w, B, lk, s3, _, back⟩ := Sep.lookK (s2.re6 [5, 0, 1, 2, 3, 4] rfl) id.client
 have hans : ∀ K : List AnsM, K = (lkp id.client d.kept).getD [] → answerV d id = match K.find? (fun a => decide (a.id = id)) with | some a => (a, true) | none => if staleV d id then (⟨id, 5, []⟩, true) else (noAns, false) := fun K hK => by rw [hK]; rfl
 generalize (lkp id.client d.kept).getD [] = ks at s3 back hsz hv hans
 have hans := hans ks rfl
 obtain ⟨qs, rfl, s4⟩ := s3.openAns
 have hl := s4.rowLen
 rw [List.length_map] at hsz
 simp only [ptr_eq_nil, kv_some, ifV_bool, Bool.false_eq_true, if_false, aNil_ptr, fieldAddr_ptr, ld_one, Nat.zero_add, b3, i0, lk, hl]
 refine ⟨fun n vs h' => ∃ i : Nat, vs = [i64 i] ∧ n = qs.length - i ∧ i ≤ qs.length ∧ (∀ e ∈ qs.take i, e.1.id ≠ id) ∧ Sep F h' (plRow rdAn w qs :: plGM kdInt B mk d.kept :: plBox ba [i64 0, i64 0, i64 0, .slice none 0 0] 4 :: plBox bi (cId id) 2 :: plBox b [i64 d.n, .map (some ml), .map (some mo), .map (some mk)] 4 :: plGM kdInt lsV ml d.last :: plGM kdId trV mo d.opn :: L),
  qs.length, ⟨0, rfl, by omega, by omega, by simp, s4⟩, ?_⟩
 clear s2 s3 s4 gb b3 i0 lk hl
 rintro n e g1 ⟨i, he, rfl, hi, hne, z1⟩
 simp only [List.cons.injEq, and_true] at he
 simp only [he, bin_lss, kv_some, ifV_bool, decide_eq_true_eq]
 by_cases hx : i < qs.length
 · rw [if_pos (show ((i : Nat) : Int) < (qs.length : Nat) by omega)]
   have hg : qs[i]? = some qs[i] := List.getElem?_eq_getElem hx
   obtain ⟨bq, oq, a1, a2, _, _⟩ := z1.rowAt hg
   have a1 : indexAddrD (.slice 4) w (i64 (i : Nat)) = some (ptr bq oq) := a1
   have a2 : g1.rdN bq oq 4 = some ((qs[i]).1.cells (qs[i]).2) := a2
   have htk : qs.take (i + 1) = qs.take i ++ [qs[i]] := by rw [List.take_add_one, hg]; rfl
   have hdr : qs = qs.take i ++ qs[i] :: qs.drop (i + 1) := by rw [← List.drop_eq_getElem_cons hx, List.take_append_drop]
   have hvl : (qs[i]).1.vals.length ≤ 1000000 := hv _ (List.mem_map.2 ⟨qs[i], List.getElem_mem hx, rfl⟩)
   have hmem : (plStrs (mkS (qs[i]).2) (qs[i]).1.vals) ∈ qs.flatMap rdAn.I := List.mem_flatMap.2 ⟨qs[i], List.getElem_mem hx, by simp [rdAn]⟩
   generalize qs[i] = q at a2 htk hdr hmem hvl
   obtain ⟨a, t⟩ := q
   rw [a1, kv_some, ld_agg, a2, Option.map_some, kv_some, e2, kP_some]
   have z2 := z1.box [i64 0, i64 0, i64 0, .slice none 0 0] 4
   clear a1 a2
   generalize g1.new (.cells [i64 0, i64 0, i64 0, .slice none 0 0] 4 .rw) = g2 at z2 ⊢
   generalize g1.next = bx at z2 ⊢
   rw [show (a.cells t).toArray = #[i64 a.id.client, i64 a.id.seq, i64 a.err, mkS t] from rfl]
   rw [st_of (n := 4) (vs := [i64 a.id.client, i64 a.id.seq, i64 a.err, mkS t]) z2.get (by simp) rfl rfl rfl (by simp), kH_some]
   have z3 := z2.write (cs' := [i64 a.id.client, i64 a.id.seq, i64 a.err, mkS t])
   rw [show setList [i64 0, i64 0, i64 0, .slice none 0 0] 0 [i64 a.id.client, i64 a.id.seq, i64 a.err, mkS t] = [i64 a.id.client, i64 a.id.seq, i64 a.err, mkS t] from rfl]
   clear z1 z2
   generalize AHeap.put _ _ _ = g3 at z3 ⊢
   have x0 : g3.rdN bx 0 2 = some [i64 a.id.client, i64 a.id.seq] := by rw [rdN_of z3.get]; rfl
   have x3 : g3.rd bx 3 = some (mkS t) := by rw [rd_of z3.get 3]; rfl
   have li : ldD (.agg 2) (ptr bi 0) g3 = some id.agg := ld2 (Sep.get (z3.re5 [4] rfl))
   simp only [fieldAddr_ptr, Nat.zero_add, kv_some, ld_agg 2 bx 0, x0, Option.map_some, li, show (.agg [i64 a.id.client, i64 a.id.seq].toArray : V) = a.id.agg from rfl, id_eq, ifV_bool, decide_eq_true_eq]
   by_cases hid : a.id = id
   case neg =>
    rw [if_neg hid, add_i64 _ 1 (by omega) (by omega), kv_some]
    refine ⟨qs.length - (i + 1), by omega, i + 1, rfl, rfl, by omega, fun e he => ?_, z3.drop⟩
    rw [htk] at he
    rcases List.mem_append.1 he with he | he
    · exact hne e he
    · rw [List.mem_singleton.1 he]; exact hid
   rw [if_pos hid, ld_one, x3, kv_some]
   obtain ⟨ft, qt⟩ := z3.up1.openRow.memP (A := plStrs (mkS t) a.vals) (List.mem_cons_of_mem _ (List.mem_append.2 (.inl hmem)))
   have qt : Ts g3 ft (mkS t) a.vals := qt
   refine cl_then (clone_strs qt hvl) ?_
   rintro r g4 ⟨f4, q4, m4⟩
   have z4 := z3.alloc (plStrs r a.vals) m4 q4
   obtain ⟨t', rfl⟩ := sl_form (ts_sle.1 q4)
   rw [st_one (Sep.get z4.up1) (by simp) rfl rfl (by simp), kH_some]
   have z5 := Sep.write (cs' := [i64 a.id.client, i64 a.id.seq, i64 a.err, mkS t']) z4.up1
   rw [show [i64 a.id.client, i64 a.id.seq, i64 a.err, mkS t].set 3 (mkS t') = [i64 a.id.client, i64 a.id.seq, i64 a.err, mkS t'] from rfl]
   clear z3 z4 qt
   generalize AHeap.put _ _ _ = g5 at z5 ⊢
   rw [ld_agg, rdN_of z5.get, if_pos (by simp), Option.map_some, kv_some]
   have hf : (qs.map (·.1)).find? (fun a => decide (a.id = id)) = some a := by
    rw [hdr, List.map_append, List.find?_append, List.find?_eq_none.2, Option.none_or, List.map_cons, List.find?_cons]
    · simp [hid]
    · intro x hx'
      obtain ⟨e, he, rfl⟩ := List.mem_map.1 hx'
      simpa using hne e he
   rw [hf] at hans
   refine ret4 (z5.re9 [4, 0, 1, 2, 3, 5, 6, 7, 8] rfl) rfl rfl rfl rfl fun g6 z6 => ?_
   rw [hans]
   refine ⟨_, rfl, Sep.mkAn1 (a := a) ?_⟩
   have z7 := back (Sep.closeAns (z6.re9 [3, 4, 2, 6, 7, 8] rfl))
   exact (Sep.closeDsk (z7.re5 [2, 3, 4, 0, 1] rfl)).up1
 rw [if_neg (show ¬ ((i : Nat) : Int) < (qs.length : Nat) by omega)]
 rw [List.take_of_length_le (by omega)] at hne
 have hf : (qs.map (·.1)).find? (fun a => decide (a.id = id)) = none := by
  rw [List.find?_eq_none]
  intro x hx'
  obtain ⟨e, he, rfl⟩ := List.mem_map.1 hx'
  simpa using hne e he
 rw [hf] at hans
 simp only at hans
 have z2 := back (Sep.closeAns z1)
 have z3 := z2.re6 [1, 2, 3, 4, 5, 0] rfl
 clear z1 z2
 rw [ld2 (Sep.get z3.up1), kv_some]
 refine cl_then (op_Client_ok id z3) ?_
 rintro r h4 ⟨rfl, s4⟩
 clear z3
 have gb := Sep.get s4.up2
 have b1 : h4.rd b 1 = some (.map (some ml)) := by rw [rd_of gb 1]; rfl
 have b2 : h4.rd b 2 = some (.map (some mo)) := by rw [rd_of gb 2]; rfl
 have i0 : h4.rd bi 0 = some (i64 id.client) := by rw [rd_of (Sep.get s4.up1) 0]; rfl
 have i1 : h4.rd bi 1 = some (i64 id.seq) := by rw [rd_of (Sep.get s4.up1) 1]; rfl
 have ia : ldD (.agg 2) (ptr bi 0) h4 = some id.agg := ld2 (Sep.get s4.up1)
 have ll := Sep.lookL (s4.re6 [3] rfl) id.client
 obtain ⟨w', lo, we⟩ := Sep.lookO (s4.re6 [4] rfl) id
 have end0 : staleV d id = false → kH (stD (some 4) (ptr ba 0) (.agg #[i64 0, i64 0, i64 0, .slice none 0 0]) h4) fun _ h => kv (ldD (.agg 4) (ptr ba 0) h) fun r53 => ∃ v, (.tuple #[r53, (.bool false)] : V) = .tuple #[v, .bool (answerV d id).2] ∧ Sep F h (plAn1 v (answerV d id).1 :: plDsk (ptr b 0) d :: L) := by
  intro hs
  rw [hans, hs]
  exact ret4 s4 rfl rfl rfl rfl fun g z => ⟨_, rfl, Sep.mkAn1 (a := noAns) (t := (none, 0, 0)) (Sep.noStrs (Sep.closeDsk z.drop.drop))⟩
 have ez : buildD (.struct [(.int .i64 0), (.int .i64 0), (.int .i64 0), (.slice none 0 0)] [(0, 2), (2, 1), (3, 1)]) [] = some (.agg #[i64 0, i64 0, i64 0, .slice none 0 0]) := rfl
 have e5 : buildD (.struct [(.int .i64 0), (.int .i64 0), (.int .i64 0), (.slice none 0 0)] [(0, 2), (2, 1), (3, 1)]) [(0, id.agg), (1, (.int .i64 5))] = some (.agg #[i64 id.client, i64 id.seq, i64 5, .slice none 0 0]) := rfl
 have hst : staleV d id = (clientB id && decide (id.seq ≤ (lkp id.client d.last).getD 0) && (lkp id d.opn).isNone) := rfl
 cases hc : clientB id with
 | false =>
  simp only [gdV_bool, Bool.false_eq_true, if_false, kv_some, pickV_bool, ifV_bool, ez]
  exact end0 (by rw [hst, hc]; rfl)
 | true =>
 simp only [gdV_bool, if_true, fieldAddr_ptr, kv_some, ld_one, Nat.zero_add, i1, i0, aNil_ptr, b1, ll, bin_leq, pickV_bool]
 by_cases hq : id.seq ≤ (lkp id.client d.last).getD 0
 case neg =>
  simp only [hq, decide_false, gdV_bool, Bool.false_eq_true, if_false, kv_some, pickV_bool, ifV_bool, ez]
  exact end0 (by rw [hst, decide_eq_false hq, Bool.and_false]; rfl)
 simp only [hq, decide_true, gdV_bool, if_true, kv_some, aNil_ptr, fieldAddr_ptr, ld_one, Nat.zero_add, b2, ia, lo, we, pickV_bool, ifV_bool]
 cases ho : (lkp id d.opn).isNone with
 | false =>
  simp only [Bool.false_eq_true, if_false, ez, kv_some]
  exact end0 (by rw [hst, ho, Bool.and_false])
 | true =>
  have hs : staleV d id = true := by rw [hst, hc, decide_eq_true hq, ho]; rfl
  simp only [if_true, e5, kv_some]
  rw [hs] at hans
  rw [hans]
  exact ret4 s4 rfl rfl rfl rfl fun g z => ⟨_, rfl, Sep.mkAn1 (a := ⟨id, 5, []⟩) (t := (none, 0, 0)) (Sep.noStrs (Sep.closeDsk z.drop.drop))⟩
end Go.Abs
namespace Go.Abs
open Go Go.Proofs
variable {l : List Oq} {n : Nat}
def shO (l : List Oq) (n i : Nat) : Nat := match l[i]? with | some o => markN o.space % n | none => 0
theorem parts_upto (hn : 0 < n) : ∀ i, i ≤ l.length → ∀ s, s < n → (partsF (l.take i) n).getD s [] = ((List.range i).filter fun j => decide (shO l n j = s)).map fun j : Nat => (j : Int) := by
 intro i
 induction i with
 | zero =>
  intro _ s hs
  have : partsF (l.take 0) n = List.replicate n [] := by simp [partsF]
  rw [this, List.getD_eq_getElem?_getD, List.getElem?_replicate, if_pos hs]
  rfl
 | succ i ih =>
  intro hi s hs
  have hx : i < l.length := by omega
  rw [parts_step l n i hx]
  have hk : markN l[i].space % n = shO l n i := by unfold shO; rw [List.getElem?_eq_getElem hx]
  have hlen : (partsF (l.take i) n).length = n := parts_len _ _
  have hb : shO l n i < n := by rw [← hk]; exact Nat.mod_lt _ hn
  rw [hk, addP, List.getD_eq_getElem?_getD, List.getElem?_set, List.range_succ, List.filter_append, List.map_append]
  by_cases he : shO l n i = s
  · rw [if_pos he, if_pos (by omega), ih (by omega) _ hb]
    subst he
    simp
  · rw [if_neg he, ← List.getD_eq_getElem?_getD, ih (by omega) s hs]
    simp [he]
theorem parts_get (hn : 0 < n) {s : Nat} (hs : s < n) : (partsF l n).getD s [] = ((List.range l.length).filter fun j => decide (shO l n j = s)).map fun j : Nat => (j : Int) := by
 have := parts_upto (l := l) hn l.length (Nat.le_refl _) s hs
 rwa [List.take_length] at this
theorem shO_lt (hn : 0 < n) (i : Nat) : shO l n i < n := by
 unfold shO
 split
 · exact Nat.mod_lt _ hn
 · exact hn
def rankO (l : List Oq) (n i : Nat) : Nat := ((List.range i).filter fun j => decide (shO l n j = shO l n i)).length
theorem filter_rank (P : Nat → Bool) : ∀ (m j x : Nat), ((List.range m).filter P)[j]? = some x → x < m ∧ P x = true ∧ j = ((List.range x).filter P).length := by
 intro m
 induction m with
 | zero => intro j x h; simp at h
 | succ m ih =>
  intro j x h
  rw [List.range_succ, List.filter_append] at h
  by_cases hj : j < ((List.range m).filter P).length
  · rw [List.getElem?_append_left hj] at h
    obtain ⟨h1, h2, h3⟩ := ih j x h
    exact ⟨by omega, h2, h3⟩
  · rw [List.getElem?_append_right (by omega)] at h
    by_cases hp : P m = true
    · rw [List.filter_cons_of_pos hp, List.filter_nil] at h
      have hj0 : j - ((List.range m).filter P).length = 0 := by
       have := (List.getElem?_eq_some_iff.1 h).1
       simp at this
       omega
      rw [hj0] at h
      simp only [List.getElem?_cons_zero, Option.some.injEq] at h
      subst h
      exact ⟨by omega, hp, by omega⟩
    · rw [List.filter_cons_of_neg (by simpa using hp), List.filter_nil] at h
      simp at h
theorem parts_place (hn : 0 < n) {s j : Nat} (hs : s < n) {x : Int} (hx : ((partsF l n).getD s [])[j]? = some x) : ∃ i : Nat, x = i ∧ i < l.length ∧ shO l n i = s ∧ rankO l n i = j := by
 rw [parts_get hn hs, List.getElem?_map, Option.map_eq_some_iff] at hx
 obtain ⟨i, hi, rfl⟩ := hx
 obtain ⟨h1, h2, h3⟩ := filter_rank _ _ _ _ hi
 have h2 : shO l n i = s := by simpa using h2
 refine ⟨i, rfl, h1, h2, ?_⟩
 unfold rankO
 rw [h2]
 exact h3.symm
theorem rank_lt (hn : 0 < n) {i : Nat} (hi : i < l.length) : rankO l n i < ((partsF l n).getD (shO l n i) []).length := by
 rw [parts_get hn (shO_lt hn i), List.length_map]
 have h1 : (List.range (i + 1)).filter (fun j => decide (shO l n j = shO l n i)) = ((List.range i).filter fun j => decide (shO l n j = shO l n i)) ++ [i] := by
  rw [List.range_succ, List.filter_append]
  simp
 have h2 : ((List.range (i + 1)).filter (fun j => decide (shO l n j = shO l n i))).length ≤ ((List.range l.length).filter (fun j => decide (shO l n j = shO l n i))).length := by
  have : List.range (i + 1) = (List.range l.length).take (i + 1) := by
   rw [List.take_range, Nat.min_eq_left (by omega)]
  rw [this]
  exact ((List.take_sublist _ _).filter _).length_le
 rw [h1, List.length_append, List.length_singleton] at h2
 unfold rankO
 omega
theorem has_sh (hn : 0 < n) {i : Nat} (hi : i < l.length) : hasF (partsF l n) (shO l n i) = true := by
 unfold hasF
 have := rank_lt hn hi
 simp only [Int.toNat_natCast, Bool.and_eq_true, decide_eq_true_eq]
 omega
/-! ### What is told -/
def telS (l : List Oq) (n : Nat) (votes : List (Int × VoteM)) (i : Nat) : ByteArray × Int :=
 match lkp (shO l n i : Int) votes with
 | some v => (v.vals.getD (rankO l n i) ⟨#[]⟩, v.now)
 | none => (⟨#[]⟩, 0)
def valsF (l : List Oq) (n : Nat) (votes : List (Int × VoteM)) : List ByteArray := (List.range l.length).map fun i => (telS l n votes i).1
def nowsF (l : List Oq) (n : Nat) (votes : List (Int × VoteM)) : List Int := (List.range l.length).map fun i => (telS l n votes i).2
structure Told (l : List Oq) (n : Nat) (votes : List (Int × VoteM)) (P : Nat → Prop) (va : List ByteArray) (na : List Int) : Prop where
 lv : va.length = l.length
 ln : na.length = l.length
 val : ∀ i, i < l.length → P i → va[i]? = some (telS l n votes i).1
 now : ∀ i, i < l.length → P i → na[i]? = some (telS l n votes i).2
theorem Told.all {votes : List (Int × VoteM)} {P : Nat → Prop} {va : List ByteArray} {na : List Int} (t : Told l n votes P va na) (hP : ∀ i, i < l.length → P i) : va = valsF l n votes ∧ na = nowsF l n votes := by
 constructor
 · refine List.ext_getElem? fun i => ?_
   unfold valsF
   by_cases hi : i < l.length
   · rw [t.val i hi (hP i hi), List.getElem?_map, List.getElem?_range hi]; rfl
   · rw [List.getElem?_eq_none (by rw [t.lv]; omega), List.getElem?_eq_none (by simp; omega)]
 · refine List.ext_getElem? fun i => ?_
   unfold nowsF
   by_cases hi : i < l.length
   · rw [t.now i hi (hP i hi), List.getElem?_map, List.getElem?_range hi]; rfl
   · rw [List.getElem?_eq_none (by rw [t.ln]; omega), List.getElem?_eq_none (by simp; omega)]
theorem Told.none {votes : List (Int × VoteM)} : Told l n votes (fun _ => False) (List.replicate l.length ⟨#[]⟩) (List.replicate l.length 0) :=
 ⟨by simp, by simp, fun _ _ h => h.elim, fun _ _ h => h.elim⟩
theorem Told.imp {votes : List (Int × VoteM)} {P Q : Nat → Prop} {va : List ByteArray} {na : List Int} (t : Told l n votes P va na) (h : ∀ i, i < l.length → Q i → P i) : Told l n votes Q va na :=
 ⟨t.lv, t.ln, fun i hi hq => t.val i hi (h i hi hq), fun i hi hq => t.now i hi (h i hi hq)⟩
theorem Told.put {votes : List (Int × VoteM)} {P : Nat → Prop} {va : List ByteArray} {na : List Int} (t : Told l n votes P va na) {k : Nat} (hk : k < l.length) {x : ByteArray} {y : Int} (hx : (telS l n votes k).1 = x) (hy : (telS l n votes k).2 = y) :
 Told l n votes (fun i => P i ∨ i = k) (va.set k x) (na.set k y) := by
 refine ⟨by rw [List.length_set, t.lv], by rw [List.length_set, t.ln], fun i hi hp => ?_, fun i hi hp => ?_⟩
 · rw [List.getElem?_set]
   by_cases he : k = i
   · subst he; rw [if_pos rfl, if_pos (by rw [t.lv]; exact hi), hx]
   · rw [if_neg he]
     rcases hp with hp | hp
     · exact t.val i hi hp
     · omega
 · rw [List.getElem?_set]
   by_cases he : k = i
   · subst he; rw [if_pos rfl, if_pos (by rw [t.ln]; exact hi), hy]
   · rw [if_neg he]
     rcases hp with hp | hp
     · exact t.now i hi hp
     · omega
/-! ### Votes -/
def ansOf (nn : Nat) (id : IdM) (t : TransM) : AnsM := if t.ok then ⟨id, 0, valsF t.ops nn t.votes⟩ else ⟨id, 4, []⟩
def nowsOf (nn : Nat) (t : TransM) : List Int := if t.ok then nowsF t.ops nn t.votes else t.nows
def keptL (l : List AnsM) (a : AnsM) : List AnsM := (l ++ [a]).drop ((l ++ [a]).length - 8)
def voteV (nn : Nat) (d : DeskM) (v : VoteM) : Bool × DeskM :=
 match lkp v.id d.opn with
 | none => (false, d)
 | some t =>
  if t.decided || !hasF t.parts v.shard || (lkp v.shard t.votes).isSome || (v.yes && decide (v.vals.length ≠ (t.parts.getD v.shard.toNat []).length)) then (false, d)
  else
   let t1 : TransM := { t with votes := ins v.shard v t.votes }
   if v.yes && decide (t1.votes.length < (shardsF t.parts).length) then (false, { d with opn := ins v.id t1 d.opn })
   else
    let t2 : TransM := { t1 with decided := true, ok := v.yes }
    (true, { d with opn := ins v.id { t2 with nows := nowsOf nn t2 } d.opn, kept := ins v.id.client (keptL ((lkp v.id.client d.kept).getD []) (ansOf nn v.id t2)) d.kept })
end Go.Abs

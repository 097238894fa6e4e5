/- A desk: Vote. -/
import Derived.Test.YthhegdifbnghpaaGreatDoorWbf
import Derived.Test.YthhegdifbnghpaaGreatDoorWbe
import Derived.Test.YthhegdifbnghpaaGreatDoorWbc
set_option linter.unusedSimpArgs false
set_option linter.unusedVariables false
namespace Go.Abs
open Go Go.Proofs
variable {E : FE} {F : Fr} {h : AHeap} {L : List Pl}
theorem lookup_same {m : Nat} {kz : Option (KeyK × Option V)} {k : V} {ok : Bool} {g h : AHeap} (e : g.get m = h.get m) : lookupD kz (.map (some m)) k ok g = lookupD kz (.map (some m)) k ok h := by
 unfold lookupD
 simp only [e]
theorem Sep.mapLt {κ α : Type} [DecidableEq κ] {D : KD κ} {A : κ → V → α → Pl} {m : Nat} {l : List (κ × α)} (s : Sep F h (plGM D A m l :: L)) : m < h.next := by
 obtain ⟨t, clk, p, s⟩ := s.openM
 obtain ⟨f, q, _⟩ := s.head
 exact q.2.1
theorem short_of_sub {α : Type} [DecidableEq α] : ∀ {a b : List α}, a.Nodup → (∀ x ∈ a, x ∈ b) → a.length ≤ b.length
 | [], b, _, _ => Nat.zero_le _
 | y :: a, b, hn, hs => by
  rw [List.nodup_cons] at hn
  have hy := hs y (by simp)
  have := short_of_sub (b := b.erase y) hn.2 fun x hx => by
   have hxy : x ≠ y := fun e => hn.1 (e ▸ hx)
   exact (List.mem_erase_of_ne hxy).2 (hs x (by simp [hx]))
  have hl := List.length_erase_of_mem hy
  have := List.length_pos_of_mem hy
  simp only [List.length_cons]
  omega
structure VU (t : TransM) : Prop where
 nd : (keysL t.votes).Nodup
 each : ∀ k v, lkp k t.votes = some v → hasF t.parts k = true ∧ v.vals.length = (t.parts.getD k.toNat []).length
theorem hasF_mem {ps : List (List Int)} {k : Int} (h : hasF ps k = true) : k ∈ shardsF ps := by
 have h2 := h
 unfold hasF at h2
 simp only [Bool.and_eq_true, decide_eq_true_eq] at h2
 refine List.mem_filter.2 ⟨List.mem_map.2 ⟨k.toNat, List.mem_range.2 (Nat.lt_of_not_le fun hle => ?_), by omega⟩, h⟩
 rw [List.getD_eq_getElem?_getD, List.getElem?_eq_none hle] at h2
 simp at h2
theorem VU.full {t : TransM} (vu : VU t) (hl : (shardsF t.parts).length ≤ t.votes.length) : VtInv t := by
 refine ⟨vu.each, fun k hk => ?_⟩
 cases hx : Go.Abs.lkp k t.votes with
 | some x => rfl
 | none =>
  have hn := lkp_none.1 hx
  have h1 := short_of_sub (a := k :: keysL t.votes) (b := shardsF t.parts) (by rw [List.nodup_cons]; exact ⟨hn, vu.nd⟩) fun x hx => by
   rcases List.mem_cons.1 hx with rfl | hx
   · exact hasF_mem hk
   · have : Go.Abs.lkp x t.votes ≠ none := fun e => (lkp_none.1 e) hx
     obtain ⟨y, hy⟩ := Option.ne_none_iff_exists'.1 this
     exact hasF_mem (vu.each x y hy).1
  simp [keysL] at h1
  omega
theorem vote_mid {y : Bool} {h4 : AHeap} {bv bt : Nat} {vp a row tv : V} {sh : Int} {m k : Nat} (h3 : h4.rd bv 3 = some (.bool y)) (h5 : h4.rd bv 5 = some tv) (h2 : h4.rd bv 2 = some (i64 sh)) (hl : lenD .slice tv h4 = some (i64 m)) (t1 : h4.rd bt 1 = some vp)
 (hi : indexAddrD (.slice 1) vp (i64 sh) = some a) (hr : ldD .one a h4 = some row) (hk : lenD .slice row h4 = some (i64 k)) {X : V → Prop} (hX : X (.bool (y && decide (m ≠ k)))) :
 kv (gdV (Value.bool false) false (some (ptr bv 3))) fun v44 => kv (gdV (Value.bool false) false (ldD Lay.one v44 h4)) fun v45 => kv (gdV (Value.bool false) false (some v45)) fun v46 =>
 kv (gdV v46 true (some (ptr bv 5))) fun v47 => kv (gdV v46 true (ldD Lay.one v47 h4)) fun v48 => kv (gdV v46 true (lenD LenK.slice v48 h4)) fun v49 => kv (gdV v46 true (some (ptr bt 0))) fun v50 => kv (gdV v46 true (aNil v50)) fun v51 =>
 kv (gdV v46 true (fieldAddrD (some 1) v51)) fun v52 => kv (gdV v46 true (ldD Lay.one v52 h4)) fun v53 => kv (gdV v46 true (some (ptr bv 2))) fun v54 => kv (gdV v46 true (ldD Lay.one v54 h4)) fun v55 => kv (gdV v46 true (indexAddrD (IxK.slice 1) v53 v55)) fun v56 =>
 kv (gdV v46 true (ldD Lay.one v56 h4)) fun v57 => kv (gdV v46 true (lenD LenK.slice v57 h4)) fun v58 => kv (gdV v46 true (binD EqK.bad BinOp.neq false v49 v58 h4)) fun v59 =>
 kv (gdV (Value.bool false) false (pickV v46 v59 (Value.bool false))) fun v60 => kv (pickV (Value.bool false) (Value.bool true) v60) X := by
 simp only [gdV_bool, if_true, kv_some, ld_one, h3]
 cases y with
 | false =>
  simp only [Bool.false_eq_true, if_false, kv_some, pickV_bool, Bool.false_and] at hX ⊢
  exact hX
 | true =>
  have e : ((m : Int) != (k : Int)) = decide (m ≠ k) := by
   by_cases hz : m = k
   · subst hz; simp
   · have : (m : Int) ≠ k := by omega
     simp [hz, this]
  simp only [if_true, kv_some, ld_one, h5, hl, aNil_ptr, fieldAddr_ptr, Nat.zero_add, t1, h2, hi, hr, hk, bin_neq, pickV_bool, Bool.true_and, e, Bool.false_eq_true, if_false] at hX ⊢
  exact hX
theorem Sep.mkVt {k : Int} {x : VoteM} {t : Tri} (s : Sep F h (plStrs (mkS t) x.vals :: L)) : Sep F h (vtV k (.agg #[i64 x.id.client, i64 x.id.seq, i64 x.shard, .bool x.yes, i64 x.now, mkS t]) x :: L) :=
 Sep.mkEx (A := fun (w : V) => plAll [plPure ((.agg #[i64 x.id.client, i64 x.id.seq, i64 x.shard, .bool x.yes, i64 x.now, mkS t] : V) = .agg #[i64 x.id.client, i64 x.id.seq, i64 x.shard, .bool x.yes, i64 x.now, w]), plStrs w x.vals]) (mkS t)
  (Sep.mkAll (L' := [plPure ((.agg #[i64 x.id.client, i64 x.id.seq, i64 x.shard, .bool x.yes, i64 x.now, mkS t] : V) = .agg #[i64 x.id.client, i64 x.id.seq, i64 x.shard, .bool x.yes, i64 x.now, mkS t]), plStrs (mkS t) x.vals]) (Sep.mkPure rfl s))
structure DV (d : DeskM) : Prop where
 each : ∀ id t, lkp id d.opn = some t → t.decided = false → VU t
 kept : ∀ c, ((lkp c d.kept).getD []).length ≤ 8
theorem vote_full {y : Bool} {bt mv : Nat} {cs : List V} {vp : V} {ps : List (List Int)} {vs : List (Int × VoteM)} (hc1 : cs[1]? = some vp) (hc2 : cs[2]? = some (.map (some mv))) (hsz : ps.length ≤ 1000000)
 (s : Sep F h (plBox bt cs 7 :: plPts vp ps :: plGM kdInt vtV mv vs :: L)) {X : V → AHeap → Prop} (hX : ∀ h', Sep F h' (plBox bt cs 7 :: plPts vp ps :: plGM kdInt vtV mv vs :: L) → X (.bool (y && decide (vs.length < (shardsF ps).length))) h') :
 kv (gdV (Value.bool y) true (some (ptr bt 0))) fun v76 => kv (gdV (Value.bool y) true (aNil v76)) fun v77 => kv (gdV (Value.bool y) true (fieldAddrD (some 2) v77)) fun v78 => kv (gdV (Value.bool y) true (ldD Lay.one v78 h)) fun v79 =>
 kv (gdV (Value.bool y) true (lenD LenK.map v79 h)) fun v80 => kv (gdV (Value.bool y) true (some (ptr bt 0))) fun v81 => gdC (Value.bool y) true h (fun K66 => cl (Go.Abs.F.desk_trans_shards E) [v81] h fun v h => K66 v h) fun v82 h =>
 kv (gdV (Value.bool y) true (lenD LenK.slice v82 h)) fun v83 => kv (gdV (Value.bool y) true (binD EqK.bad BinOp.lss false v80 v83 h)) fun v84 => kv (pickV (Value.bool y) v84 (Value.bool false)) fun v85 => X v85 h := by
 cases y with
 | false =>
  simp only [gdV_bool, Bool.false_eq_true, if_false, kv_some]
  refine gdC_no (by decide) ?_
  simp only [gdV_bool, Bool.false_eq_true, if_false, kv_some, pickV_bool]
  exact hX h s
 | true =>
  have r2 : h.rd bt 2 = some (.map (some mv)) := by rw [rd_of s.get 2, hc2]
  have ll := Sep.lenM (s.re3 [2] rfl)
  simp only [gdV_bool, if_true, kv_some, aNil_ptr, fieldAddr_ptr, Nat.zero_add, ld_one, r2, ll]
  refine gdC_yes rfl (cl_then (trans_shards (cs := cs) hc1 hsz s) ?_)
  intro r h' s'
  obtain ⟨f, q, _⟩ := s'.head
  have q : SlE dInt h' f r (shardsF ps) := q
  have e : decide ((vs.length : Int) < ((shardsF ps).length : Int)) = decide (vs.length < (shardsF ps).length) := by
   by_cases hz : vs.length < (shardsF ps).length
   · rw [decide_eq_true hz]; exact decide_eq_true (by omega)
   · rw [decide_eq_false hz]; exact decide_eq_false (by omega)
  have := hX h' s'.drop
  simp only [q.len, kv_some, bin_lss, pickV_bool, if_true, e, Bool.true_and] at this ⊢
  exact this
set_option maxHeartbeats 4000000 in
theorem desk_Vote {nn : Nat} {p : V} {d : DeskM} (di : DInv nn d) (dv : DV d) (v : VoteM) {tv : Tri} (hvl : v.vals.length ≤ 1000000) (s : Sep F h (plDsk p d :: plStrs (mkS tv) v.vals :: L)) :
 cl (Go.Abs.F.desk_Desk_Vote E) [p, .agg #[i64 v.id.client, i64 v.id.seq, i64 v.shard, .bool v.yes, i64 v.now, mkS tv]] h fun r h' => r = .bool (voteV nn d v).1 ∧ Sep F h' (plDsk p (voteV nn d v).2 :: plStrs (mkS tv) v.vals :: L) := by
 refine cl_of ?_
 obtain ⟨b, ml, mo, mk, rfl, s0⟩ := s.openDsk
 clear s
 simp only [Go.Abs.F.desk_Desk_Vote]
 refine kP_of (v := ptr h.next 0) (g := h.new (.cells [i64 v.id.client, i64 v.id.seq, i64 v.shard, .bool v.yes, i64 v.now, mkS tv] 6 .rw)) rfl ?_
 have s1 := s0.box [i64 v.id.client, i64 v.id.seq, i64 v.shard, .bool v.yes, i64 v.now, mkS tv] 6
 clear s0
 generalize h.new (.cells [i64 v.id.client, i64 v.id.seq, i64 v.shard, .bool v.yes, i64 v.now, mkS tv] 6 .rw) = h1 at s1 ⊢
 generalize h.next = bv at s1 ⊢
 have gb := Sep.get s1.up1
 have b2 : h1.rd b 2 = some (.map (some mo)) := by rw [rd_of gb 2]; rfl
 have li : ldD (.agg 2) (ptr bv 0) h1 = some v.id.agg := by rw [ld_agg, rdN_of s1.get]; rfl
 have v2 : h1.rd bv 2 = some (i64 v.shard) := by rw [rd_of s1.get 2]; rfl
 simp only [ptr_eq_nil, kv_some, ifV_bool, Bool.false_eq_true, if_false, aNil_ptr, fieldAddr_ptr, Nat.zero_add, ld_one, b2, li]
 unfold voteV
 cases ht : Go.Abs.lkp v.id d.opn with
 | none =>
  have lo := (s1.re5 [3] rfl).lookNone (z := nil) ht false
  have lo : lookupD (some ((.struct false [(0, .int), (1, .int)]), (some (.pointer none)))) (.map (some mo)) v.id.agg false h1 = some nil := lo
  simp only [lo, kv_some, nil_eq_nil, gdV_bool, Bool.true_eq_false, if_false, pickV_bool, if_true]
  refine gdC_no (by decide) ?_
  simp only [kv_some, gdV_bool, Bool.true_eq_false, if_false, pickV_bool, if_true, ifV_bool]
  exact ⟨trivial, Sep.closeDsk s1.drop⟩
 | some t =>
 have ti := di.opn v.id t ht
 obtain ⟨w, lo, s2⟩ := (s1.re6 [3, 0, 1, 2, 4, 5] rfl).lookSome (z := nil) ht false
 have lo : lookupD (some ((.struct false [(0, .int), (1, .int)]), (some (.pointer none)))) (.map (some mo)) v.id.agg false h1 = some w := lo
 obtain ⟨bt, vo, vp, mv, md, vn, rfl, s3⟩ := Sep.openTr (t := t) s2
 clear s1 s2
 have back : ∀ {g : AHeap} {t' : TransM}, Sep F g (plBox bt [vo, vp, .map (some mv), .bool t'.decided, .bool t'.ok, .map (some md), vn] 7 :: plOps vo t'.ops :: plPts vp t'.parts :: plGM kdInt vtV mv t'.votes :: plGM kdInt dnV md t'.done :: plI64s vn t'.nows :: plGM kdId (holeP v.id (ptr bt 0) trV) mo d.opn :: plBox b [i64 d.n, .map (some ml), .map (some mo), .map (some mk)] 4 :: plGM kdInt lsV ml d.last :: plGM kdInt anV mk d.kept :: plStrs (mkS tv) v.vals :: L) →
  Sep F g (plDsk (ptr b 0) { d with opn := ins v.id t' d.opn } :: plStrs (mkS tv) v.vals :: L) := fun sg => by
  have := Sep.backM (A := trV) (k := v.id) (v := ptr bt 0) (Sep.closeTr sg) ht
  exact Sep.closeDsk (d := { d with opn := ins v.id _ d.opn }) (this.re5 [1, 2, 0, 3, 4] rfl)
 have same : ∀ {g : AHeap} {X : Pl}, Sep F g (plBox bt [vo, vp, .map (some mv), .bool t.decided, .bool t.ok, .map (some md), vn] 7 :: plOps vo t.ops :: plPts vp t.parts :: plGM kdInt vtV mv t.votes :: plGM kdInt dnV md t.done :: plI64s vn t.nows :: plGM kdId (holeP v.id (ptr bt 0) trV) mo d.opn :: X :: plBox b [i64 d.n, .map (some ml), .map (some mo), .map (some mk)] 4 :: plGM kdInt lsV ml d.last :: plGM kdInt anV mk d.kept :: plStrs (mkS tv) v.vals :: L) →
  Sep F g (plDsk (ptr b 0) d :: plStrs (mkS tv) v.vals :: L) := fun sg => by
  have := back (t' := t) (sg.re12 [0, 1, 2, 3, 4, 5, 6, 8, 9, 10, 11] rfl)
  rwa [ins_same ht] at this
 have t3 : h1.rd bt 3 = some (.bool t.decided) := by rw [rd_of s3.get 3]; rfl
 have t1 : h1.rd bt 1 = some vp := by rw [rd_of s3.get 1]; rfl
 have t2 : h1.rd bt 2 = some (.map (some mv)) := by rw [rd_of s3.get 2]; rfl
 have pr := Sep.ptsR s3.up2
 simp only [lo, kv_some, ptr_eq_nil, gdV_bool, if_true, aNil_ptr, fieldAddr_ptr, Nat.zero_add, ld_one, t3, pickV_bool, Bool.false_eq_true, if_false]
 cases hdec : t.decided with
 | true =>
  simp only [gdV_bool, Bool.true_eq_false, if_false, kv_some]
  refine gdC_no (by decide) ?_
  simp only [kv_some, gdV_bool, Bool.true_eq_false, if_false, pickV_bool, if_true, ifV_bool, Bool.true_or]
  rw [hdec] at same s3
  exact ⟨trivial, same s3⟩
 | false =>
 have vu := dv.each v.id t ht hdec
 simp only [gdV_bool, if_true, kv_some, ld_one, v2]
 refine gdC_yes rfl (cl_then (trans_has t1 pr v.shard) ?_)
 rintro r h2 ⟨rfl, rfl⟩
 simp only [not_bool, kv_some, pickV_bool, Bool.false_eq_true, if_false, Bool.false_or]
 cases hh : hasF t.parts v.shard with
 | false =>
  simp only [Bool.not_false, if_true, ifV_bool, Bool.true_or]
  exact ⟨trivial, same s3⟩
 | true =>
 obtain ⟨c0, c1, c2, c4, c3, c5, lv⟩ := Sep.lookVt (s3.re4 [3] rfl) v.shard
 have hmv := Sep.mapLt (s3.re4 [3] rfl)
 simp only [Bool.not_true, ifV_bool, Bool.false_eq_true, if_false, Bool.false_or, aNil_ptr, fieldAddr_ptr, Nat.zero_add, kv_some, ld_one, t2, v2, lv, extract_tuple, List.getElem?_toArray, List.getElem?_cons_zero, List.getElem?_cons_succ]
 refine kP_of (v := ptr h2.next 0) (g := h2.new (.cells [i64 0, i64 0, i64 0, .bool false, i64 0, .slice none 0 0] 6 .rw)) rfl ?_
 have s4 := s3.box [i64 0, i64 0, i64 0, .bool false, i64 0, .slice none 0 0] 6
 have hlv : (h2.new (.cells [i64 0, i64 0, i64 0, .bool false, i64 0, .slice none 0 0] 6 .rw)).get mv = h2.get mv := by
  have : mv ≠ h2.next := by omega
  simp [this]
 have lv' := (lookup_same hlv).trans lv
 generalize h2.new (.cells [i64 0, i64 0, i64 0, .bool false, i64 0, .slice none 0 0] 6 .rw) = h3 at s4 lv' ⊢
 generalize h2.next = bx at s4 ⊢
 have t2' : h3.rd bt 2 = some (.map (some mv)) := by rw [rd_of (Sep.get s4.up1) 2]; rfl
 have v2' : h3.rd bv 2 = some (i64 v.shard) := by rw [rd_of (Sep.get (s4.re9 [8] rfl)) 2]; rfl
 refine ⟨t2', v2', lv', ?_⟩
 rw [st_of (n := 6) (vs := [i64 c0, i64 c1, i64 c2, .bool c3, i64 c4, mkS c5]) s4.get (by simp) rfl rfl rfl (by simp), kH_some]
 have s5 := s4.write (cs' := setList [i64 0, i64 0, i64 0, .bool false, i64 0, .slice none 0 0] 0 [i64 c0, i64 c1, i64 c2, .bool c3, i64 c4, mkS c5])
 have s6 := s5.drop
 clear s3 s4 s5 lv lv' hlv t1 t2 t2' v2 v2' t3 pr li b2 gb lo
 generalize AHeap.put _ _ _ = h4 at s6 ⊢
 cases hlk : (Go.Abs.lkp v.shard t.votes).isSome with
 | true =>
  simp only [gdV_bool, Bool.true_eq_false, if_false, kv_some, pickV_bool, if_true, ifV_bool, Bool.true_or]
  exact ⟨trivial, same s6⟩
 | false =>
 obtain ⟨k, hk, hkl⟩ : ∃ k : Nat, v.shard = (k : Int) ∧ k < t.parts.length := by
  have h2 := hh
  unfold hasF at h2
  simp only [Bool.and_eq_true, decide_eq_true_eq] at h2
  refine ⟨v.shard.toNat, by omega, Nat.lt_of_not_le fun hle => ?_⟩
  rw [List.getD_eq_getElem?_getD, List.getElem?_eq_none hle] at h2
  simp at h2
 have hg : t.parts[k]? = some t.parts[k] := List.getElem?_eq_getElem hkl
 have hgd : t.parts.getD v.shard.toNat [] = t.parts[k] := by rw [hk, Int.toNat_natCast, List.getD_eq_getElem?_getD, hg]; rfl
 obtain ⟨a, row, a1, a2, a3, _⟩ := (Sep.ptsR s6.up2).row k _ hg
 rw [← hk] at a1
 have gv := Sep.get (s6.re8 [7] rfl)
 obtain ⟨ft, qt⟩ := s6.memP (A := plStrs (mkS tv) v.vals) (by simp)
 have qt : Ts h4 ft (mkS tv) v.vals := qt
 refine vote_mid (y := v.yes) (sh := v.shard) (by rw [rd_of gv 3]; rfl) (by rw [rd_of gv 5]; rfl) (by rw [rd_of gv 2]; rfl) (Sl.len qt) (by rw [rd_of s6.get 1]; rfl) a1 a2 a3 ?_
 rw [← hgd]
 simp only [Bool.false_or]
 cases hc : (v.yes && decide (v.vals.length ≠ (t.parts.getD v.shard.toNat []).length)) with
 | true =>
  simp only [ifV_bool, if_true]
  exact ⟨trivial, same s6⟩
 | false =>
 simp only [ifV_bool, Bool.false_eq_true, if_false]
 clear a1 a2 a3 hg
 rw [rd_of gv 5]
 refine kv_of (v := mkS tv) rfl ?_
 refine cl_then (clone_strs qt hvl) ?_
 rintro r h5 ⟨f5, q5, m5⟩
 have s7 := s6.alloc (plStrs r v.vals) m5 q5
 obtain ⟨tw, rfl⟩ := sl_form (ts_sle.1 q5)
 have s8 := s7.re13 [8, 0, 1, 2, 3, 4, 5, 6, 7, 9, 10, 11, 12] rfl
 rw [st_one s8.get (by simp) rfl rfl (by simp), kH_some]
 have s9 := s8.write (cs' := [i64 v.id.client, i64 v.id.seq, i64 v.shard, .bool v.yes, i64 v.now, mkS tw])
 rw [show [i64 v.id.client, i64 v.id.seq, i64 v.shard, .bool v.yes, i64 v.now, mkS tv].set 5 (mkS tw) = [i64 v.id.client, i64 v.id.seq, i64 v.shard, .bool v.yes, i64 v.now, mkS tw] from rfl]
 clear s6 s7 s8 qt q5 m5 gv
 generalize AHeap.put _ _ _ = h6 at s9 ⊢
 have t2 : h6.rd bt 2 = some (.map (some mv)) := by rw [rd_of (Sep.get s9.up2) 2]; rfl
 have v2 : h6.rd bv 2 = some (i64 v.shard) := by rw [rd_of s9.get 2]; rfl
 simp only [t2, v2, kv_some]
 rw [ld_agg, rdN_of s9.get]
 refine kv_of (v := .agg #[i64 v.id.client, i64 v.id.seq, i64 v.shard, .bool v.yes, i64 v.now, mkS tw]) rfl ?_
 have s10 : Sep F h6 (vtV v.shard (.agg #[i64 v.id.client, i64 v.id.seq, i64 v.shard, .bool v.yes, i64 v.now, mkS tw]) v :: plGM kdInt vtV mv t.votes :: plBox bv [i64 v.id.client, i64 v.id.seq, i64 v.shard, .bool v.yes, i64 v.now, mkS tw] 6 :: plBox bt [vo, vp, .map (some mv), .bool t.decided, .bool t.ok, .map (some md), vn] 7 :: plOps vo t.ops :: plPts vp t.parts :: plGM kdInt dnV md t.done :: plI64s vn t.nows :: plGM kdId (holeP v.id (ptr bt 0) trV) mo d.opn :: plBox b [i64 d.n, .map (some ml), .map (some mo), .map (some mk)] 4 :: plGM kdInt lsV ml d.last :: plGM kdInt anV mk d.kept :: plStrs (mkS tv) v.vals :: L) :=
  Sep.mkVt (s9.re13 [1, 5, 0, 2, 3, 4, 6, 7, 8, 9, 10, 11, 12] rfl)
 obtain ⟨h7, e7, s11⟩ := Sep.insM (D := kdInt) (A := vtV) (k := v.shard) (z := .agg #[(.int .i64 0), (.int .i64 0), (.int .i64 0), (.bool false), (.int .i64 0), (.slice none 0 0)]) s10.up1
 have e7 : mapUpdateD (some (.int, (some (.agg #[(.int .i64 0), (.int .i64 0), (.int .i64 0), (.bool false), (.int .i64 0), (.slice none 0 0)])))) (.map (some mv)) (i64 v.shard) (.agg #[i64 v.id.client, i64 v.id.seq, i64 v.shard, .bool v.yes, i64 v.now, mkS tw]) h6 = some h7 := e7
 rw [e7, kH_some]
 clear s9 s10 t2 v2 e7
 have v3 : h7.rd bv 3 = some (.bool v.yes) := by rw [rd_of (Sep.get s11.up1) 3]; rfl
 have t2 : h7.rd bt 2 = some (.map (some mv)) := by rw [rd_of (Sep.get s11.up2) 2]; rfl
 have ll := Sep.lenM s11
 simp only [v3, kv_some]
 refine vote_full (cs := [vo, vp, .map (some mv), .bool t.decided, .bool t.ok, .map (some md), vn]) rfl rfl (by rw [ti.parts, parts_len]; have := di.hn.2; omega) (s11.re12 [2, 4, 0, 1, 3, 5, 6, 7, 8, 9, 10, 11] rfl) fun h8 s12 => ?_
 clear s11 v3 t2 ll
 have vu1 : v.yes = true → VU { t with votes := ins v.shard v t.votes } := fun hy => by
  refine ⟨nodup_ins vu.nd, fun k' v' hk' => ?_⟩
  rw [lkp_ins] at hk'
  split at hk'
  · rename_i he
    subst he
    cases hk'
    refine ⟨hh, ?_⟩
    rw [hy] at hc
    simpa using hc
  · exact vu.each k' v' hk'
 cases hf : (v.yes && decide ((ins v.shard v t.votes).length < (shardsF t.parts).length)) with
 | true =>
  simp only [ifV_bool, if_true]
  refine ⟨trivial, ?_⟩
  have := back (t' := { t with votes := ins v.shard v t.votes }) (s12.re12 [0, 4, 1, 2, 5, 6, 7, 8, 9, 10, 11] rfl)
  rwa [hdec] at this
 | false =>
 simp only [ifV_bool, Bool.false_eq_true, if_false]
 have v3 : h8.rd bv 3 = some (.bool v.yes) := by rw [rd_of (Sep.get (s12.re4 [3] rfl)) 3]; rfl
 rw [v3, kv_some, st_one s12.get (by simp) rfl rfl (by simp), kH_some]
 have s13 := s12.write (cs' := [vo, vp, .map (some mv), .bool true, .bool t.ok, .map (some md), vn])
 rw [show [vo, vp, .map (some mv), .bool t.decided, .bool t.ok, .map (some md), vn].set 3 (.bool true) = [vo, vp, .map (some mv), .bool true, .bool t.ok, .map (some md), vn] from rfl]
 clear s12 v3
 generalize AHeap.put _ _ _ = h9 at s13 ⊢
 have v3 : h9.rd bv 3 = some (.bool v.yes) := by rw [rd_of (Sep.get (s13.re4 [3] rfl)) 3]; rfl
 refine ⟨v3, ?_⟩
 rw [st_one s13.get (by simp) rfl rfl (by simp), kH_some]
 have s14 := s13.write (cs' := [vo, vp, .map (some mv), .bool true, .bool v.yes, .map (some md), vn])
 rw [show [vo, vp, .map (some mv), .bool true, .bool t.ok, .map (some md), vn].set 4 (.bool v.yes) = [vo, vp, .map (some mv), .bool true, .bool v.yes, .map (some md), vn] from rfl]
 clear s13 v3
 generalize AHeap.put _ _ _ = h10 at s14 ⊢
 rw [ld_agg, rdN_of (Sep.get (s14.re4 [3] rfl))]
 refine kv_of (v := v.id.agg) rfl ?_
 have s15 := Sep.closeTr (t := { t with votes := ins v.shard v t.votes, decided := true, ok := v.yes }) (s14.re12 [0, 4, 1, 2, 5, 6, 8, 10, 7, 9, 11] rfl)
 clear s14
 have vi : v.yes = true → VtInv { t with votes := ins v.shard v t.votes, decided := true, ok := v.yes } := fun hy => by
  have h1 := (vu1 hy).full (by
   rw [hy] at hf
   simpa using hf)
  exact ⟨h1.each, h1.all⟩
 refine cl_then (desk_keep v.id di.hn (t := { t with votes := ins v.shard v t.votes, decided := true, ok := v.yes }) ⟨ti.all, ti.parts⟩ vi (by have := dv.kept v.id.client; omega) s15) ?_
 intro r h11 s16
 refine ⟨trivial, ?_⟩
 have s17 := Sep.backM (A := trV) (k := v.id) (v := ptr bt 0) (s16.re6 [0, 3, 1, 2, 4, 5] rfl) ht
 exact Sep.closeDsk (d := { d with opn := ins v.id _ d.opn, kept := ins v.id.client _ d.kept }) (s17.re5 [1, 3, 0, 2, 4] rfl)
end Go.Abs
namespace Go.Abs
open Go Go.Proofs
variable {E : FE} {h : AHeap}
theorem begun15_spec : cl (Go.Abs.F.estafettelaw15_begun E) [] h fun r h' => r = .bool true ∧ h' = h := cl_of ⟨rfl, rfl, rfl⟩
end Go.Abs
namespace Go.Abs
open Go Go.Proofs
variable {E : FE} {F : Fr} {h : AHeap} {L : List Pl}
theorem ref12_Client (id : IdM) (s : Sep F h L) : cl (Go.Abs.F.estafetteref12_Client E) [id.agg] h fun r h' => r = .bool (clientB id) ∧ Sep F h' L := op_Client_ok (E := E) id s
abbrev opAK : Oq := ⟨3, ⟨#[97]⟩, ⟨#[107]⟩, ⟨#[]⟩, 0⟩
end Go.Abs
namespace Go.Abs
open Go Go.Proofs
variable {E : FE} {F : Fr} {h : AHeap} {L : List Pl}
structure DkE (E : FE) : Prop where
 op : OpE E
 nord : ∃ E1 : FE, E.I (E.k 10) = some (cl (Go.Abs.F.name_order E1))
theorem DkE.sort (de : DkE E) : SortOk E 12 := fun h fp v l s hl => by
 obtain ⟨E1, hE1⟩ := de.nord
 exact sort_id de.op.mono ordI_ord s (cmp_id hE1) hl
/-! ### One client, one operation each -/
def yesF (l : List Bool) (i : Nat) : Bool := decide (l.length ≤ i) || l.getD i false
def voteK (l : List Bool) (i : Nat) : VoteM := ⟨⟨3, (i : Int)⟩, 0, yesF l i, 0, if yesF l i then [⟨#[45]⟩] else []⟩
structure KInv (l : List Bool) (m : Nat) (d : DeskM) : Prop where
 n : d.n = ((1 : Nat) : Int)
 opn : d.opn = []
 last : (lkp 3 d.last).getD 0 = (m : Int)
 last2 : lkp 2 d.last = none
 kept2 : lkp 2 d.kept = none
 other : ∀ c, c ≠ 3 → lkp c d.kept = none
 kept : ((lkp 3 d.kept).getD []).map (fun a => (a.id, a.err)) = ((List.range m).drop (m - 8)).map fun j : Nat => ((⟨3, (j : Int) + 1⟩ : IdM), if yesF l (j + 1) then (0 : Int) else 4)
 vals : ∀ a ∈ (lkp 3 d.kept).getD [], a.vals.length ≤ 1
variable {l : List Bool} {m : Nat} {d : DeskM}
theorem KInv.len (k : KInv l m d) : ((lkp 3 d.kept).getD []).length ≤ 8 := by
 have := congrArg List.length k.kept
 simp only [List.length_map, List.length_drop, List.length_range] at this
 omega
def dB (d : DeskM) (m : Nat) : DeskM := { d with last := ins 3 ((m : Int) + 1) d.last, opn := [(⟨3, (m : Int) + 1⟩, newTr [opAK] 1)] }
def tV (l : List Bool) (m : Nat) : TransM := { newTr [opAK] 1 with votes := [(0, voteK l (m + 1))], decided := true, ok := yesF l (m + 1) }
def dV (l : List Bool) (d : DeskM) (m : Nat) : DeskM := { dB d m with
 opn := [(⟨3, (m : Int) + 1⟩, { tV l m with nows := nowsOf 1 (tV l m) })]
 kept := ins 3 (keptL ((lkp 3 d.kept).getD []) (ansOf 1 ⟨3, (m : Int) + 1⟩ (tV l m))) d.kept }
def dD (l : List Bool) (d : DeskM) (m : Nat) : DeskM := { dV l d m with opn := [] }
theorem drop_next {α : Type} {g : Nat → α} (m : Nat) : ((((List.range m).drop (m - 8)).map g ++ [g m]).drop ((m - (m - 8) + 1) - 8)) = ((List.range (m + 1)).drop (m + 1 - 8)).map g := by
 have h1 : ((List.range m).drop (m - 8)).map g ++ [g m] = ((List.range (m + 1)).drop (m - 8)).map g := by
  rw [List.range_succ, List.drop_append_of_le_length (by simp), List.map_append]
  rfl
 rw [h1, ← List.map_drop, List.drop_drop]
 congr 2
 omega
theorem KInv.next (k : KInv l m d) : KInv l (m + 1) (dD l d m) := by
 have hk : (lkp 3 (dD l d m).kept).getD [] = keptL ((lkp 3 d.kept).getD []) (ansOf 1 ⟨3, (m : Int) + 1⟩ (tV l m)) := by
  show (lkp 3 (ins 3 _ d.kept)).getD [] = _
  rw [lkp_ins, if_pos rfl]
  rfl
 have ha : (ansOf 1 ⟨3, (m : Int) + 1⟩ (tV l m)).id = ⟨3, (m : Int) + 1⟩ ∧ (ansOf 1 ⟨3, (m : Int) + 1⟩ (tV l m)).err = if yesF l (m + 1) then 0 else 4 := by
  unfold ansOf
  rw [show (tV l m).ok = yesF l (m + 1) from rfl]
  by_cases hy : yesF l (m + 1) = true <;> simp [hy]
 refine ⟨k.n, rfl, ?_, ?_, ?_, fun c hc => ?_, ?_, fun a haa => ?_⟩
 · show (lkp 3 (ins 3 ((m : Int) + 1) d.last)).getD 0 = _
   rw [lkp_ins, if_pos rfl]
   simp
 · show lkp 2 (ins 3 ((m : Int) + 1) d.last) = none
   rw [lkp_ins, if_neg (by decide)]
   exact k.last2
 · show lkp 2 (ins 3 _ d.kept) = none
   rw [lkp_ins, if_neg (by decide)]
   exact k.kept2
 · show lkp c (ins 3 _ d.kept) = none
   rw [lkp_ins, if_neg (fun e => hc e.symm)]
   exact k.other c hc
 · rw [hk]
   have hl : ((lkp 3 d.kept).getD []).length = m - (m - 8) := by
    have := congrArg List.length k.kept
    simpa only [List.length_map, List.length_drop, List.length_range] using this
   unfold keptL
   rw [List.map_drop, List.map_append, k.kept, List.length_append, hl, List.length_singleton, List.map_singleton, ha.1, ha.2]
   exact drop_next (g := fun j : Nat => ((⟨3, (j : Int) + 1⟩ : IdM), if yesF l (j + 1) then (0 : Int) else 4)) m
 · rw [hk] at haa
   unfold keptL at haa
   rcases List.mem_append.1 (List.mem_of_mem_drop haa) with h1 | h1
   · exact k.vals a h1
   · rw [List.mem_singleton.1 h1]
     unfold ansOf
     split
     · show (valsF [opAK] 1 _).length ≤ 1
       simp [valsF]
     · simp
end Go.Abs
namespace Go.Abs
open Go Go.RowKit
def AllRo (h : AHeap) : Prop := ∀ b o, h.get b = some o → o.isRo
structure More (r : Ren) (h : AHeap) (r' : Ren) (h' : AHeap) : Prop where
 ren : r.le r'
 next : h.next ≤ h'.next
 get : ∀ b, b < h.next → h'.get b = h.get b
theorem Ro.more {r r' : Ren} {h h' : AHeap} {v : V} {es n : Nat} {cs : List V} (m : More r h r' h') (s : Ro h.next h v es n cs) : Ro h'.next h' v es n cs := by
 obtain ⟨h0, h1, ⟨rfl, rfl⟩ | ⟨b, o, c, all, rfl, hb, hc, hg, ha⟩⟩ := s
 · exact ⟨h0, Nat.le_refl _, .inl ⟨rfl, rfl⟩⟩
 · exact ⟨h0, Nat.le_refl _, .inr ⟨b, o, c, all, rfl, Nat.lt_of_lt_of_le hb m.next, hc, by rw [m.get b hb, hg], ha⟩⟩
theorem R.addSlice {J : World → Prop} {W : World} {r : Ren} {h : AHeap} (hR : R J W.heap.size r h W) (hro : AllRo h) {a : Addr} {len cap es : Nat} (hs : a.spot = none) {cc : Array V} {el : TypeId} {fr : Nat × Nat}
 (hb : W.heap[a.block]? = some (.cells cc el fr)) (hsz : a.off + cap * es ≤ cc.size) (hlc : len ≤ cap) {cs : List V} (hcs : cs.length = len * es) (hc : ∀ j, j < len * es → cc[a.off + j]? = cs[j]?) (hcl : ∀ v ∈ cs, closedV v = true) :
 ∃ r' h' v, R J W.heap.size r' h' W ∧ VR r' v (.slice (some a) len cap) ∧ Ro h'.next h' v es len cs ∧ More r h r' h' := by
 obtain ⟨blk, off, spot⟩ := a
 simp only at hs hb hsz hc
 subst hs
 have hlt : blk < W.heap.size := (Array.getElem?_eq_some_iff.1 hb).1
 have hm : len * es ≤ cap * es := Nat.mul_le_mul_right _ hlc
 have hle := hR.le_upd ⟨blk, cc.size, es, 0⟩
 have old : ∀ b o1, (h.new (.cells (List.replicate off junk ++ cs) es .ro)).get b = some o1 → (b = h.next ∧ o1 = .cells (List.replicate off junk ++ cs) es .ro) ∨ (b ≠ h.next ∧ h.get b = some o1) := by
  intro b o1 hb
  by_cases e : b = h.next
  · subst e; simp [AHeap.new] at hb; exact .inl ⟨rfl, hb.symm⟩
  · exact .inr ⟨e, by simpa [AHeap.new, e] using hb⟩
 refine ⟨r.upd h.next ⟨blk, cc.size, es, 0⟩, h.new (.cells (List.replicate off junk ++ cs) es .ro), .slice (some ⟨h.next, off, none⟩) len (2 * len + 1), ?_, ?_, ?_, hle, Nat.le_succ _, fun b hb => ?_⟩
 · refine ⟨Nat.le_refl _, ?_, ?_, ?_, hR.inv⟩
   · intro b t' hb
     by_cases e : b = h.next
     · subst e; rw [Ren.upd_same] at hb; cases hb; exact ⟨hlt, by simp [AHeap.new]⟩
     · rw [Ren.upd_ne _ _ e] at hb
       have := hR.lt b t' hb
       refine ⟨this.1, ?_⟩
       simp [AHeap.new]; omega
   · intro b o1 hb1
     rcases old b o1 hb1 with ⟨rfl, rfl⟩ | ⟨e, hb'⟩
     · refine ⟨_, Ren.upd_same _ _ _, rfl, ⟨cc, el, fr, hb, rfl, by simp; omega, fun i h1 h2 => ?_, fun hk => absurd rfl hk, fun hk => by cases hk⟩, fun hk => absurd rfl hk, fun _ => rfl⟩
       have h2 : i < cc.size := h2
       show VR _ _ cc[i]
       rw [List.getElem_append]
       split
       · rw [List.getElem_replicate]; exact .junk _
       · rename_i hi
         simp only [List.length_replicate] at hi
         have hj : i - off < cs.length := by simp at h1; omega
         have := hc (i - off) (by omega)
         rw [show off + (i - off) = i by omega, Array.getElem?_eq_getElem h2, List.getElem?_eq_getElem hj, Option.some.injEq] at this
         simp only [List.length_replicate]
         rw [this]
         exact VR.closed (hcl _ (List.getElem_mem _))
     · obtain ⟨t', h3, h4⟩ := hR.live b o1 hb'
       exact ⟨t', hle _ _ h3, h4.mono hle⟩
   · intro b b' o1 o1' t1 t1' hb hb' g1 g1' e
     rcases old b o1 hb with ⟨rfl, rfl⟩ | ⟨e1, hb⟩ <;> rcases old b' o1' hb' with ⟨rfl, rfl⟩ | ⟨e2, hb'⟩
     · exact .inl rfl
     · exact .inr ⟨⟨_, _, rfl⟩, hro _ _ hb'⟩
     · exact .inr ⟨hro _ _ hb, _, _, rfl⟩
     · rw [Ren.upd_ne _ _ e1] at g1; rw [Ren.upd_ne _ _ e2] at g1'
       exact hR.inj b b' o1 o1' t1 t1' hb hb' g1 g1' e
 · exact VR.slice (b := h.next) (o := off) (n := len) (c := 2 * len + 1) (c' := cap) (t := ⟨blk, cc.size, es, 0⟩) (Ren.upd_same _ _ _) ⟨by omega, fun he => by omega⟩ (by omega) hsz
 · refine ⟨hcs, Nat.le_refl _, .inr ⟨h.next, off, 2 * len + 1, List.replicate off junk ++ cs, rfl, by simp [AHeap.new], by omega, by simp [AHeap.new], ?_⟩⟩
   rw [List.drop_append, List.drop_of_length_le (by simp)]
   simp [← hcs]
 · have : b ≠ h.next := by omega
   simp [AHeap.new, this]
theorem More.refl (r : Ren) (h : AHeap) : More r h r h := ⟨Ren.le_refl r, Nat.le_refl _, fun _ _ => rfl⟩
theorem open_i64s {H : Type} {enc : TypeId × Value → H} {P : Program} {J : World → Prop} {W : World} {held : Bool} {base : Nat} {t e : TypeId} {v : V} {d : DataW H} {p : List MemPlace}
 (ht : P.underlying t = some (.slice e)) (he : P.underlying e = some (.int .i64)) (ce : P.cellsOf e = 1) {r : Ren} {h : AHeap} (hR : R J W.heap.size r h W) (hro : AllRo h)
 (hval : Value.okWide P W .any base t v) (hd : DataW.Trod enc P W 0 (fun _ => true) held t v d p) :
 ∃ (l : List Int) (r' : Ren) (h' : AHeap) (v' : V), R J W.heap.size r' h' W ∧ VR r' v' v ∧ Ints h'.next h' v' l ∧ More r h r' h' := by
 obtain ⟨fuel, hd⟩ := hd
 obtain ⟨a, len, cap, rfl⟩ := WideShapes.okWide_slice ht hval
 rcases Deep.open_slice ht hd with ⟨h1, _⟩ | ⟨a', len', cap', m, n, D, Pl, h1, _, hlc, hcap, hm, hx, hr⟩
 · simp only [Value.cells, List.cons.injEq, Value.slice.injEq, and_true] at h1
   obtain ⟨rfl, rfl, rfl⟩ := h1
   exact ⟨[], r, h, .slice none 0 0, hR, .sliceNil, ⟨rfl, Nat.le_refl _, .inl ⟨rfl, rfl⟩⟩, More.refl r h⟩
 · simp only [Value.cells, List.cons.injEq, Value.slice.injEq, and_true] at h1
   obtain ⟨h11, h12, h13⟩ := h1
   subst h11
   simp only [if_true] at hm
   rw [← h12, ← h13] at hlc
   rw [← h13] at hcap hm
   rw [hm] at hr
   clear h12 h13 hm hx
   obtain ⟨hs, cc, el, fr, hb, ho⟩ := okWide_slice_at ht hval
   rw [ce] at hr
   have hadd : ∀ k, a'.add k = ⟨a'.block, a'.off + k, none⟩ := by
    intro k
    obtain ⟨bb, oo, ss⟩ := a'
    simp only at hs
    subst hs
    exact addr_add _ _ _
   have each : ∀ i, i < cap → ∃ x : Int, cc[a'.off + i]? = some (i64 x) := by
    intro i hi
    obtain ⟨cs', h2, h3⟩ := hr i hi
    obtain ⟨h5, _, h4⟩ := World.cells?_some h2
    obtain ⟨c0, rfl⟩ : ∃ c0, cs' = [c0] := by
     match cs', h5 with
     | [c0], _ => exact ⟨c0, rfl⟩
    obtain ⟨x, h6, _⟩ := DataW.trod_int he h3
    simp only [List.cons.injEq, and_true] at h6
    have h7 := h4 0 (by decide)
    refine ⟨x, ?_⟩
    rw [hadd, addr_add, cell_of_block hb, Nat.add_zero, Nat.mul_one] at h7
    rw [h7, h6]
    rfl
   have hsz : a'.off + cap * 1 ≤ cc.size := by
    by_cases hc0 : cap = 0
    · omega
    · obtain ⟨x, h5⟩ := each (cap - 1) (by omega)
      have := (Array.getElem?_eq_some_iff.1 h5).1
      omega
   obtain ⟨X, hX⟩ := Deep.choose_lt (n := len) (p := fun i (x : Int) => cc[a'.off + i]? = some (i64 x)) fun i hi => each i (by omega)
   have hc1 : (((List.range len).map X).map i64).length = len * 1 := by simp
   have hc2 : ∀ j, j < len * 1 → cc[a'.off + j]? = (((List.range len).map X).map i64)[j]? := by
    intro j hj
    rw [hX j (by omega)]
    simp [show j < len by omega]
   have hc3 : ∀ u ∈ ((List.range len).map X).map i64, closedV u = true := by
    intro u hu
    obtain ⟨s, _, rfl⟩ := List.mem_map.1 hu
    rfl
   obtain ⟨r', h', v', hR', hv, hro', hm⟩ := R.addSlice hR hro (es := 1) hs hb hsz hlc hc1 hc2 hc3
   refine ⟨(List.range len).map X, r', h', v', hR', hv, ?_, hm⟩
   unfold Ints
   rw [List.length_map, List.length_range]
   exact hro'
end Go.Abs
namespace Go.Abs
open Go Go.RowKit
theorem R.start {J : World → Prop} {W : World} (hJ : J W) : ∃ r h, R J W.heap.size r h W := by
 obtain ⟨r, h, _, hR, _, _⟩ := R.ofNil (W := W) hJ 1
 exact ⟨r, h, hR⟩
def AHeap.ros (h : AHeap) : AHeap := ⟨fun x => match h.get x with | some (.cells c e .ro) => some (.cells c e .ro) | _ => none, h.next⟩
theorem ros_get {h : AHeap} {b : Nat} {o : AObj} (hb : h.ros.get b = some o) : ∃ c e, h.get b = some (.cells c e .ro) ∧ o = .cells c e .ro := by
 simp only [AHeap.ros] at hb
 split at hb
 · rename_i c e he
   cases hb
   exact ⟨c, e, he, rfl⟩
 · cases hb
theorem R.roOnly {J : World → Prop} {B : Nat} {r : Ren} {h : AHeap} {W : World} (hR : R J B r h W) : R J B r h.ros W ∧ AllRo h.ros :=
 ⟨hR.sub ⟨Nat.le_refl _, fun b o hb => by
  obtain ⟨c, e, h1, rfl⟩ := ros_get hb
  exact h1⟩, fun b o hb => by
  obtain ⟨c, e, _, rfl⟩ := ros_get hb
  exact ⟨_, _, rfl⟩⟩
theorem Ro.ros {N : Nat} {h : AHeap} {v : V} {es n : Nat} {cs : List V} (s : Ro N h v es n cs) : Ro N h.ros v es n cs := by
 obtain ⟨h0, h1, ⟨rfl, rfl⟩ | ⟨b, o, c, all, rfl, hb, hc, hg, ha⟩⟩ := s
 · exact ⟨h0, h1, .inl ⟨rfl, rfl⟩⟩
 · exact ⟨h0, h1, .inr ⟨b, o, c, all, rfl, hb, hc, by simp only [AHeap.ros, hg], ha⟩⟩
theorem oq_space {H : Type} {enc : TypeId × Value → H} {P : Program} {w : World} {base : Nat} {spare : Nat → Bool} {held : Bool} {fuel : Nat} {e : TypeId} {fs : Array Field} {cs : List V} {x : DataW H × List MemPlace}
 (he : P.underlying e = some (.struct fs)) (ce : P.cellsOf e = 5) (hf : ∀ i, i < 5 → ∃ f, fs[i]? = some f ∧ f.offset = i ∧ P.cellsOf f.type = 1 ∧ P.underlying f.type = some (qField i)) (hn : fs.size = 5)
 (h : DataW.trod enc P w base spare held fuel e cs = some x) {o : Oq} (ho : cs = o.cells) : o.space.size ≤ maxLen := by
 obtain ⟨xs, n, _, hx1, hl, hxs, hr⟩ := DataW.trod_struct he h
 obtain ⟨f, h1, h2, h3, h4⟩ := hf 1 (by decide)
 have h5 := hr 1 f h1
 rw [h2, h3] at h5
 have h6 : (cs.drop 1).take 1 = [str o.space] := by rw [ho]; rfl
 rw [h6] at h5
 rw [ce] at hl
 have hxi : 1 < xs.length := by omega
 rw [List.getElem?_eq_getElem hxi] at h5
 obtain ⟨m, h7, _, h8⟩ := DataW.trod_string (show P.underlying f.type = some .string from h4) h5
 simp only [List.cons.injEq, Value.string.injEq, and_true] at h7
 rw [h7]
 exact h8
theorem open_opsX {H : Type} {enc : TypeId × Value → H} {P : Program} {J : World → Prop} {W : World} {held : Bool} {base : Nat} {t e : TypeId} {fs : Array Field} {v : V} {d : DataW H} {p : List MemPlace}
 (ht : P.underlying t = some (.slice e)) (he : P.underlying e = some (.struct fs)) (ce : P.cellsOf e = 5) (hf : ∀ i, i < 5 → ∃ f, fs[i]? = some f ∧ f.offset = i ∧ P.cellsOf f.type = 1 ∧ P.underlying f.type = some (qField i)) (hn : fs.size = 5)
 {r : Ren} {h : AHeap} (hR : R J W.heap.size r h W) (hval : Value.okWide P W .any base t v) (hd : DataW.Trod enc P W 0 (fun _ => true) held t v d p) :
 ∃ (l : List Oq) (r' : Ren) (h' : AHeap) (v' : V), R J W.heap.size r' h' W ∧ VR r' v' v ∧ Oqs h'.next h' v' l ∧ More r h.ros r' h' ∧ ∀ o ∈ l, o.space.size ≤ maxLen := by
 obtain ⟨hR0, hro⟩ := hR.roOnly
 obtain ⟨fuel, hd⟩ := hd
 obtain ⟨a, len, cap, rfl⟩ := WideShapes.okWide_slice ht hval
 rcases Deep.open_slice ht hd with ⟨h1, _⟩ | ⟨a', len', cap', m, n, D, Pl, h1, _, hlc, hcap, hm, hx, hr⟩
 · simp only [Value.cells, List.cons.injEq, Value.slice.injEq, and_true] at h1
   obtain ⟨rfl, rfl, rfl⟩ := h1
   exact ⟨[], r, h.ros, .slice none 0 0, hR0, .sliceNil, ⟨rfl, Nat.le_refl _, .inl ⟨rfl, rfl⟩⟩, More.refl r h.ros, by simp⟩
 · simp only [Value.cells, List.cons.injEq, Value.slice.injEq, and_true] at h1
   obtain ⟨h11, h12, h13⟩ := h1
   subst h11
   simp only [if_true] at hm
   rw [← h12, ← h13] at hlc
   rw [← h13] at hcap hm
   rw [hm] at hr
   clear h12 h13 hm hx
   obtain ⟨hs, cc, el, fr, hb, ho⟩ := okWide_slice_at ht hval
   rw [ce] at hr
   have hadd : ∀ k, a'.add k = ⟨a'.block, a'.off + k, none⟩ := by
    intro k
    obtain ⟨bb, oo, ss⟩ := a'
    simp only at hs
    subst hs
    exact addr_add _ _ _
   have each : ∀ i, i < cap → ∃ o : Oq, (∀ j, j < 5 → cc[a'.off + (i * 5 + j)]? = o.cells[j]?) ∧ o.space.size ≤ maxLen := by
    intro i hi
    obtain ⟨cs', h2, h3⟩ := hr i hi
    obtain ⟨o, hoc, _, hz⟩ := open_oq he ce hf hn h3
    have hsp := oq_space he ce hf hn h3 hoc
    subst hoc
    obtain ⟨_, _, h4⟩ := World.cells?_some h2
    refine ⟨o, fun j hj => ?_, hsp⟩
    rw [← h4 j hj, hadd, addr_add]
    rw [cell_of_block hb, Nat.add_assoc]
   have hsz : a'.off + cap * 5 ≤ cc.size := by
    by_cases hc0 : cap = 0
    · omega
    · obtain ⟨o, h5, _⟩ := each (cap - 1) (by omega)
      have h6 := h5 4 (by decide)
      have h7 : o.cells[4]? = some (i64 o.n) := rfl
      rw [h7] at h6
      have := (Array.getElem?_eq_some_iff.1 h6).1
      omega
   obtain ⟨O, hO⟩ := Deep.choose_lt (n := len) (p := fun i (o : Oq) => (∀ j, j < 5 → cc[a'.off + (i * 5 + j)]? = o.cells[j]?) ∧ o.space.size ≤ maxLen) fun i hi => each i (by omega)
   have hlen : ∀ l : List Oq, (l.flatMap Oq.cells).length = l.length * 5 := by
    intro l
    induction l with
    | nil => rfl
    | cons o l ih => simp [List.flatMap_cons, ih, Oq.cells]; omega
   have hc1 : (((List.range len).map O).flatMap Oq.cells).length = len * 5 := by rw [hlen, List.length_map, List.length_range]
   have hc2 : ∀ j, j < len * 5 → cc[a'.off + j]? = (((List.range len).map O).flatMap Oq.cells)[j]? := by
    intro j hj
    have h1 : j / 5 < len := by omega
    have h2 := oqs_cells ((List.range len).map O) (j / 5) (O (j / 5)) (by simp [h1]) (j % 5) (by omega)
    rw [show j / 5 * 5 + j % 5 = j by omega] at h2
    rw [h2, ← (hO (j / 5) h1).1 (j % 5) (by omega), show j / 5 * 5 + j % 5 = j by omega]
   have hc3 : ∀ u ∈ ((List.range len).map O).flatMap Oq.cells, closedV u = true := by
    intro u hu
    simp only [List.mem_flatMap] at hu
    obtain ⟨o, _, hu⟩ := hu
    simp only [Oq.cells, List.mem_cons, List.not_mem_nil, or_false] at hu
    rcases hu with rfl | rfl | rfl | rfl | rfl <;> rfl
   obtain ⟨r', h', v', hR', hv, hro', hm⟩ := R.addSlice hR0 hro (es := 5) hs hb hsz hlc hc1 hc2 hc3
   refine ⟨(List.range len).map O, r', h', v', hR', hv, ?_, hm, fun o ho => ?_⟩
   · unfold Oqs
     rw [List.length_map, List.length_range]
     exact hro'
   · obtain ⟨i, hi, rfl⟩ := List.mem_map.1 ho
     exact (hO i (by simpa using hi)).2
theorem open_intsX {H : Type} {enc : TypeId × Value → H} {P : Program} {J : World → Prop} {W : World} {held : Bool} {base : Nat} {t e : TypeId} {v : V} {d : DataW H} {p : List MemPlace}
 (ht : P.underlying t = some (.slice e)) (he : P.underlying e = some (.int .i64)) (ce : P.cellsOf e = 1) {r : Ren} {h : AHeap} (hR : R J W.heap.size r h W)
 (hval : Value.okWide P W .any base t v) (hd : DataW.Trod enc P W 0 (fun _ => true) held t v d p) :
 ∃ (l : List Int) (r' : Ren) (h' : AHeap) (v' : V), R J W.heap.size r' h' W ∧ VR r' v' v ∧ Ints h'.next h' v' l ∧ More r h.ros r' h' :=
 have h1 := hR.roOnly
 open_i64s ht he ce h1.1 h1.2 hval hd
theorem Ro.on {r r' : Ren} {h h' : AHeap} {v : V} {es n : Nat} {cs : List V} (m : More r h.ros r' h') (s : Ro h.next h v es n cs) : Ro h'.next h' v es n cs := Ro.more (h := h.ros) m (Ro.ros (h := h) s)
end Go.Abs
namespace Go.Abs
open Go Go.Proofs
variable {id : IdM} {nn : Nat} {ops : List Oq} {left : Int} {dec no : Bool} {voted : List Bool} {d : DeskM}
theorem lkp_one {κ α : Type} [DecidableEq κ] (k : κ) (x : α) : lkp k [(k, x)] = some x := by simp [lkp]
theorem ins_one {κ α : Type} [DecidableEq κ] (k : κ) (x y : α) : ins k y [(k, x)] = [(k, y)] := by simp [ins]
end Go.Abs
namespace Go.Abs
open Go Go.Proofs
def idW : IdM := ⟨2, 1⟩
section
variable {nn : Nat} {ops : List Oq}
def shW (nn : Nat) (ops : List Oq) (s : Nat) : List Nat := (List.range s).filter fun k => hasF (partsF ops nn) (k : Int)
def voteW (nn : Nat) (ops : List Oq) (k : Nat) : VoteM := ⟨idW, k, true, 0, List.replicate ((partsF ops nn).getD k []).length ⟨#[]⟩⟩
def votesW (nn : Nat) (ops : List Oq) (s : Nat) : List (Int × VoteM) := (shW nn ops s).map fun k : Nat => ((k : Int), voteW nn ops k)
def doneW (nn : Nat) (ops : List Oq) (s : Nat) : List (Int × Unit) := (shW nn ops s).map fun k : Nat => ((k : Int), ())
def tW (nn : Nat) (ops : List Oq) : TransM := { newTr ops nn with votes := votesW nn ops nn, decided := true, ok := true }
def tD (nn : Nat) (ops : List Oq) (done : List (Int × Unit)) : TransM := { tW nn ops with nows := nowsOf nn (tW nn ops), done := done }
def dW (nn : Nat) (ops : List Oq) (s : Nat) : DeskM :=
 if (shW nn ops s).length < (shW nn ops nn).length then ⟨(nn : Nat), [(2, 1)], [(idW, { newTr ops nn with votes := votesW nn ops s })], []⟩
 else ⟨(nn : Nat), [(2, 1)], [(idW, tD nn ops [])], [(2, [ansOf nn idW (tW nn ops)])]⟩
def dF (nn : Nat) (ops : List Oq) (s : Nat) : DeskM :=
 if (shW nn ops s).length < (shW nn ops nn).length then ⟨(nn : Nat), [(2, 1)], [(idW, tD nn ops (doneW nn ops s))], [(2, [ansOf nn idW (tW nn ops)])]⟩
 else ⟨(nn : Nat), [(2, 1)], [], [(2, [ansOf nn idW (tW nn ops)])]⟩
theorem shW_step (s : Nat) : shW nn ops (s + 1) = shW nn ops s ++ if hasF (partsF ops nn) (s : Int) = true then [s] else [] := by
 unfold shW
 rw [List.range_succ, List.filter_append]
 congr 1
 simp only [List.filter_cons, List.filter_nil]
theorem shW_no {s : Nat} (h : hasF (partsF ops nn) (s : Int) = false) : shW nn ops (s + 1) = shW nn ops s := by
 rw [shW_step, h]
 simp
theorem shW_yes {s : Nat} (h : hasF (partsF ops nn) (s : Int) = true) : shW nn ops (s + 1) = shW nn ops s ++ [s] := by
 rw [shW_step, h]
 simp
theorem shW_mem {s k : Nat} : k ∈ shW nn ops s ↔ k < s ∧ hasF (partsF ops nn) (k : Int) = true := by
 unfold shW
 simp
theorem shW_le {s m : Nat} (h : s ≤ m) : (shW nn ops s).length ≤ (shW nn ops m).length := by
 induction m with
 | zero => obtain rfl : s = 0 := by omega
           exact Nat.le_refl _
 | succ m ih =>
  by_cases he : s = m + 1
  · subst he; exact Nat.le_refl _
  · refine Nat.le_trans (ih (by omega)) ?_
    rw [shW_step, List.length_append]
    omega
theorem shW_eq {s m : Nat} (h : s ≤ m) (hl : (shW nn ops m).length ≤ (shW nn ops s).length) : shW nn ops m = shW nn ops s := by
 induction m with
 | zero => obtain rfl : s = 0 := by omega
           rfl
 | succ m ih =>
  by_cases he : s = m + 1
  · subst he; rfl
  · have h1 := shW_le (nn := nn) (ops := ops) (show s ≤ m by omega)
    rw [shW_step, List.length_append] at hl
    rw [shW_step, ih (by omega) (by omega)]
    split at hl
    · simp at hl; omega
    · rename_i hh; rw [if_neg hh, List.append_nil]
theorem shardsW : (shardsF (partsF ops nn)).length = (shW nn ops nn).length := by
 unfold shardsF shW
 rw [parts_len, List.filter_map, List.length_map]
 rfl
theorem lkp_map {α : Type} (f : Nat → α) (s : Nat) : ∀ l : List Nat, lkp (s : Int) (l.map fun k : Nat => ((k : Int), f k)) = if s ∈ l then some (f s) else none
 | [] => rfl
 | a :: l => by
  simp only [List.map_cons, lkp]
  by_cases h : (a : Int) = (s : Int)
  · have : a = s := by omega
    subst this
    simp
  · rw [if_neg h, lkp_map f s l]
    have : ¬ s = a := by omega
    simp [this]
theorem lkp_map' {α : Type} (f : Nat → α) {k : Int} {x : α} : ∀ {l : List Nat}, lkp k (l.map fun k : Nat => ((k : Int), f k)) = some x → ∃ s ∈ l, k = (s : Int) ∧ x = f s
 | [], h => by cases h
 | a :: l, h => by
  simp only [List.map_cons, lkp] at h
  split at h
  · rename_i he; cases h; exact ⟨a, by simp, he.symm, rfl⟩
  · obtain ⟨s, h1, h2, h3⟩ := lkp_map' f h
    exact ⟨s, by simp [h1], h2, h3⟩
theorem shW_nd (s : Nat) : (shW nn ops s).Nodup := List.nodup_range.filter _
theorem votesW_nd (s : Nat) : (keysL (votesW nn ops s)).Nodup := by
 unfold keysL votesW
 rw [List.map_map]
 have : ((fun p : Int × VoteM => p.1) ∘ fun k : Nat => ((k : Int), voteW nn ops k)) = fun k : Nat => (k : Int) := rfl
 rw [this]
 refine List.Pairwise.map _ (fun a b h => ?_) (shW_nd s)
 intro e
 exact h (by omega)
theorem votesW_vu (s : Nat) : VU { newTr ops nn with votes := votesW nn ops s } := by
 refine ⟨votesW_nd s, fun k v hk => ?_⟩
 obtain ⟨j, h1, rfl, rfl⟩ := lkp_map' (voteW nn ops) hk
 exact ⟨(shW_mem.1 h1).2, by simp [voteW, newTr]⟩
theorem voteV_W (hn : 1 ≤ nn ∧ nn ≤ 3) {s : Nat} (hs : s < nn) (hh : hasF (partsF ops nn) (s : Int) = true) : (voteV nn (dW nn ops s) (voteW nn ops s)).2 = dW nn ops (s + 1) := by
 have hlt : (shW nn ops s).length < (shW nn ops nn).length := by
  have := shW_le (nn := nn) (ops := ops) (show s + 1 ≤ nn by omega)
  rw [shW_yes hh, List.length_append] at this
  simp at this
  omega
 have hd : dW nn ops s = ⟨(nn : Nat), [(2, 1)], [(idW, { newTr ops nn with votes := votesW nn ops s })], []⟩ := by unfold dW; rw [if_pos hlt]
 have hnew : lkp (s : Int) (votesW nn ops s) = none := by
  unfold votesW
  rw [lkp_map, if_neg]
  intro h
  have := (shW_mem.1 h).1
  omega
 have hins : ins (s : Int) (voteW nn ops s) (votesW nn ops s) = votesW nn ops (s + 1) := by
  rw [ins_new hnew]
  unfold votesW
  rw [shW_yes hh, List.map_append]
  rfl
 have hlen : (votesW nn ops (s + 1)).length = (shW nn ops (s + 1)).length := by unfold votesW; rw [List.length_map]
 have hc : (true && decide ((voteW nn ops s).vals.length ≠ ((partsF ops nn).getD ((s : Int)).toNat []).length)) = false := by
  rw [Int.toNat_natCast]
  simp [voteW]
 rw [hd]
 unfold voteV
 rw [show (voteW nn ops s).id = idW from rfl, lkp_one]
 show (if (false || !hasF (partsF ops nn) (s : Int) || (lkp (s : Int) (votesW nn ops s)).isSome || (true && decide ((voteW nn ops s).vals.length ≠ ((partsF ops nn).getD ((s : Int)).toNat []).length))) = true then _ else
  (if (true && decide ((ins (s : Int) (voteW nn ops s) (votesW nn ops s)).length < (shardsF (partsF ops nn)).length)) = true then (false, (⟨(nn : Nat), [(2, 1)], ins idW { newTr ops nn with votes := ins (s : Int) (voteW nn ops s) (votesW nn ops s) } [(idW, { newTr ops nn with votes := votesW nn ops s })], []⟩ : DeskM))
   else (true, (⟨(nn : Nat), [(2, 1)], ins idW { newTr ops nn with votes := ins (s : Int) (voteW nn ops s) (votesW nn ops s), decided := true, ok := true, nows := nowsOf nn { newTr ops nn with votes := ins (s : Int) (voteW nn ops s) (votesW nn ops s), decided := true, ok := true } } [(idW, { newTr ops nn with votes := votesW nn ops s })],
    ins (2 : Int) (keptL ((lkp (2 : Int) ([] : List (Int × List AnsM))).getD []) (ansOf nn idW { newTr ops nn with votes := ins (s : Int) (voteW nn ops s) (votesW nn ops s), decided := true, ok := true })) []⟩ : DeskM)))).2 = _
 rw [show (false || !hasF (partsF ops nn) (s : Int) || (lkp (s : Int) (votesW nn ops s)).isSome || (true && decide ((voteW nn ops s).vals.length ≠ ((partsF ops nn).getD ((s : Int)).toNat []).length))) = false from by rw [hh, hnew, hc]; rfl, if_neg (by decide), hins, ins_one, ins_one, hlen, shardsW]
 unfold dW
 by_cases hf : (shW nn ops (s + 1)).length < (shW nn ops nn).length
 · rw [if_pos hf, if_pos (by simp [hf])]
 · rw [if_neg hf, if_neg (by simp [hf])]
   have he : shW nn ops nn = shW nn ops (s + 1) := shW_eq (by omega) (by omega)
   have hv : votesW nn ops (s + 1) = votesW nn ops nn := by unfold votesW; rw [he]
   rw [hv]
   rfl
theorem dW_no {s : Nat} (h : hasF (partsF ops nn) (s : Int) = false) : dW nn ops (s + 1) = dW nn ops s := by
 unfold dW votesW
 rw [shW_no h]
theorem dF_no {s : Nat} (h : hasF (partsF ops nn) (s : Int) = false) : dF nn ops (s + 1) = dF nn ops s := by
 unfold dF doneW
 rw [shW_no h]
theorem dW_dF (h : 0 < (shW nn ops nn).length) : dW nn ops nn = dF nn ops 0 := by
 unfold dW dF
 rw [if_neg (Nat.lt_irrefl _), if_pos (by simpa [shW] using h)]
 rfl
theorem doneV_F (hn : 1 ≤ nn ∧ nn ≤ 3) {s : Nat} (hs : s < nn) (hh : hasF (partsF ops nn) (s : Int) = true) :
 doneV (dF nn ops s) idW (s : Int) = (true, dF nn ops (s + 1)) ∧ (doneV (dF nn ops (s + 1)) idW (s : Int)) = (false, dF nn ops (s + 1)) := by
 have hlt : (shW nn ops s).length < (shW nn ops nn).length := by
  have := shW_le (nn := nn) (ops := ops) (show s + 1 ≤ nn by omega)
  rw [shW_yes hh, List.length_append] at this
  simp at this
  omega
 have hd : dF nn ops s = ⟨(nn : Nat), [(2, 1)], [(idW, tD nn ops (doneW nn ops s))], [(2, [ansOf nn idW (tW nn ops)])]⟩ := by unfold dF; rw [if_pos hlt]
 have hnew : lkp (s : Int) (doneW nn ops s) = none := by
  unfold doneW
  rw [lkp_map (fun _ => ()), if_neg]
  intro h
  have := (shW_mem.1 h).1
  omega
 have hins : ins (s : Int) () (doneW nn ops s) = doneW nn ops (s + 1) := by
  rw [ins_new hnew]
  unfold doneW
  rw [shW_yes hh, List.map_append]
  rfl
 have hlen : (doneW nn ops (s + 1)).length = (shW nn ops (s + 1)).length := by unfold doneW; rw [List.length_map]
 constructor
 · rw [hd]
   unfold doneV
   rw [lkp_one]
   show (if (true && hasF (partsF ops nn) (s : Int) && !(lkp (s : Int) (doneW nn ops s)).isSome) = true then (true, (⟨(nn : Nat), [(2, 1)], if (ins (s : Int) () (doneW nn ops s)).length = (shardsF (partsF ops nn)).length then rmv idW [(idW, tD nn ops (doneW nn ops s))] else ins idW (tD nn ops (ins (s : Int) () (doneW nn ops s))) [(idW, tD nn ops (doneW nn ops s))], [(2, [ansOf nn idW (tW nn ops)])]⟩ : DeskM)) else _) = _
   rw [hh, hnew, if_pos (show (true && true && !(none : Option Unit).isSome) = true from rfl), hins, hlen, shardsW, ins_one]
   unfold dF
   by_cases hf : (shW nn ops (s + 1)).length < (shW nn ops nn).length
   · rw [if_pos hf, if_neg (by omega)]
   · have := shW_le (nn := nn) (ops := ops) (show s + 1 ≤ nn by omega)
     rw [if_neg hf, if_pos (by omega)]
     simp [rmv]
 · unfold dF
   by_cases hf : (shW nn ops (s + 1)).length < (shW nn ops nn).length
   · rw [if_pos hf]
     unfold doneV
     rw [lkp_one]
     have hold : (lkp (s : Int) (doneW nn ops (s + 1))).isSome = true := by
      unfold doneW
      rw [lkp_map (fun _ => ()), if_pos (shW_mem.2 ⟨by omega, hh⟩)]
      rfl
     show (if (true && hasF (partsF ops nn) (s : Int) && !(lkp (s : Int) (doneW nn ops (s + 1))).isSome) = true then _ else _) = _
     rw [hh, hold, if_neg (by decide)]
   · rw [if_neg hf]
     unfold doneV
     rfl
end
end Go.Abs
namespace Go.Abs
open Go Go.Proofs
variable {E : FE} {F : Fr} {h : AHeap} {L : List Pl}
theorem len_str (x : ByteArray) (h : AHeap) : lenD .str (str x) h = some (i64 (x.size : Nat)) := rfl
theorem ref12_small (s : ByteArray) (hsz : s.size ≤ maxLen) : cl (Go.Abs.F.estafetteref12_small E) [str s] h fun r h' => h' = h ∧ r = .bool (smallT s && decide (1 ≤ s.size) && decide (s.size ≤ 20)) := by
 have hM : maxLen ≤ 9223372036854775807 := by decide
 refine cl_of ?_
 simp only [Go.Abs.F.estafetteref12_small]
 refine ⟨fun n vs h' => ∃ i : Nat, vs = [i64 i] ∧ n = s.size - i ∧ i ≤ s.size ∧ h' = h ∧ ∀ j, j < i → small1 (s.get! j) = true, s.size, ⟨0, rfl, rfl, by omega, rfl, fun j hj => by omega⟩, ?_⟩
 rintro n e h1 ⟨i, he, rfl, hi, rfl, hs⟩
 simp only [List.cons.injEq, and_true] at he
 simp only [he, len_str, kv_some, bin_lss, ifV_bool, decide_eq_true_eq]
 by_cases hx : i < s.size
 case neg =>
  rw [if_neg (show ¬ ((i : Nat) : Int) < (s.size : Nat) by omega)]
  have hsm : smallT s = true := smallT_of fun j hj => hs j (by omega)
  rw [hsm]
  by_cases h1 : 1 ≤ s.size
  · have h1' : ((s.size : Nat) : Int) ≥ 1 := by omega
    have e2 : decide (((s.size : Nat) : Int) ≤ 20) = decide (s.size ≤ 20) := by
     by_cases hz : s.size ≤ 20
     · rw [decide_eq_true hz]; exact decide_eq_true (by omega)
     · rw [decide_eq_false hz]; exact decide_eq_false (by omega)
    simp only [bin_geq, h1, h1', decide_true, kv_some, gdV_bool, if_true, len_str, bin_leq, pickV_bool, e2, Bool.true_and]
    constructor <;> first | rfl | trivial
  · have h1' : ¬ ((s.size : Nat) : Int) ≥ 1 := by omega
    simp only [bin_geq, h1, h1', decide_false, kv_some, gdV_bool, Bool.false_eq_true, if_false, pickV_bool, Bool.true_and, Bool.false_and]
    constructor <;> first | rfl | trivial
 rw [if_pos (show ((i : Nat) : Int) < (s.size : Nat) by omega)]
 have e8 := index_str s i hx
 rw [e8, kv_some]
 have hbad : small1 (s.get! i) = false → smallT s = false := fun hb => smallT_not hx hb
 have hgo : small1 (s.get! i) = true → kv (binD .bad .add true (i64 (i : Nat)) (.int .i64 1) h1) fun v9 => ∃ m, m < s.size - i ∧ ∃ i' : Nat, [v9] = [i64 i'] ∧ m = s.size - i' ∧ i' ≤ s.size ∧ h1 = h1 ∧ ∀ j, j < i' → small1 (s.get! j) = true := fun hb => by
  rw [add_i64 _ 1 (by omega) (by omega), kv_some]
  exact ⟨s.size - (i + 1), by omega, i + 1, rfl, rfl, by omega, rfl, fun j hj => by
   by_cases hji : j = i
   · rw [hji]; exact hb
   · exact hs j (by omega)⟩
 unfold small1 at hbad hgo
 generalize s.get! i = c at hbad hgo e8 ⊢
 simp only [bin_lss, bin_gtr, kv_some]
 by_cases c1 : c.toNat < 97
 · have c1' : ((c.toNat : Nat) : Int) < 97 := by omega
   have hb := hbad (by simp; omega)
   simp only [c1', decide_true, gdV_bool, Bool.true_eq_false, if_false, kv_some, pickV_bool, if_true, ifV_bool, hb, Bool.false_and]
   exact ⟨trivial, trivial⟩
 have c1' : ¬ ((c.toNat : Nat) : Int) < 97 := by omega
 have e9 : (decide (((c.toNat : Nat) : Int) > 122)) = !decide (c.toNat ≤ 122) := by
  by_cases hz : c.toNat ≤ 122
  · rw [decide_eq_true hz]; exact decide_eq_false (by omega)
  · rw [decide_eq_false hz]; exact decide_eq_true (by omega)
 simp only [c1', decide_false, gdV_bool, if_true, kv_some, e8, bin_gtr, pickV_bool, Bool.false_eq_true, if_false, ifV_bool, e9]
 by_cases c2 : c.toNat ≤ 122
 · simp only [c2, decide_true, Bool.not_true, Bool.false_eq_true, if_false]
   have := hgo (by simp; omega)
   rw [add_i64 _ 1 (by omega) (by omega), kv_some] at this ⊢
   obtain ⟨m, h1, i', h2, h3, h4, _, h5⟩ := this
   exact ⟨m, h1, i', h2, h3, h4, trivial, h5⟩
 · have hb := hbad (by simp; omega)
   simp only [c2, decide_false, Bool.not_false, if_true, hb, Bool.false_and]
   exact ⟨trivial, trivial⟩
theorem or_join {a b : Bool} {h : AHeap} {x : Nat} {A B : AHeap → Prop} (hP : if (a || b) = true then A h else B h) :
 ∃ K : List V → AHeap → Prop, (if a = true then K [.bool a] h else K [.bool b] h) ∧ ∀ (e : Nat → V) (h : AHeap), K [e x] h → ifV (e x) (A h) (B h) := by
 refine ⟨fun vs g => vs = [.bool (a || b)] ∧ g = h, ?_, ?_⟩
 · cases a <;> simp
 · rintro e g ⟨he, rfl⟩
   simp only [List.cons.injEq, and_true] at he
   rw [he, ifV_bool]
   exact hP
set_option maxHeartbeats 2000000 in
theorem ref12_May (o : Oq) (hsz : o.space.size ≤ maxLen) : cl (Go.Abs.F.estafetteref12_May E) [o.agg] h fun r h' => r = .bool (mayO o) ∧ Mod h [] h' [] := by
 refine cl_of ?_
 simp only [Go.Abs.F.estafetteref12_May, new5, kP_some]
 generalize hh : h.new (.cells o.cells 5 .rw) = h1
 have m1 : Mod h [] h1 [] := by
  rw [← hh]
  exact ⟨by simp, fun x hx _ => by have : x ≠ h.next := by omega
                                   simp [this], by simp, by simp⟩
 have g : h1.get h.next = some (.cells o.cells 5 .rw) := by rw [← hh]; simp
 have r0 : h1.rd h.next 0 = some (i64 o.fn) := rd_of g 0
 have r1 : h1.rd h.next 1 = some (str o.space) := rd_of g 1
 have r2 : h1.rd h.next 2 = some (str o.key) := rd_of g 2
 have r3 : h1.rd h.next 3 = some (str o.val) := rd_of g 3
 have r4 : h1.rd h.next 4 = some (i64 o.n) := rd_of g 4
 clear g hh
 generalize h.next = bx at r0 r1 r2 r3 r4 ⊢
 simp only [fieldAddr_ptr, Nat.zero_add, kv_some, ld_one, r1]
 refine cl_then (ref12_small o.space hsz) ?_
 rintro r h2 ⟨rfl, rfl⟩
 obtain ⟨fn, sp, key, val, n⟩ := o
 simp only at r0 r1 r2 r3 r4 ⊢
 have e0 : mayO ⟨fn, sp, key, val, n⟩ = ((smallT sp && decide (1 ≤ sp.size) && decide (sp.size ≤ 20)) && (decide (key.size ≤ 20) && decide (val.size ≤ 100) && decide (0 ≤ n) && decide (n ≤ 1099511627776)) &&
  (decide (1 ≤ fn) && decide (fn ≤ 12) && ((namesO fn).1 || decide (key.size = 0)) && ((namesO fn).2.1 || decide (val.size = 0)) && ((namesO fn).2.2 || decide (n = 0)) && (decide (fn ≠ 1) || makesO ⟨fn, sp, key, val, n⟩))) := by
  simp only [mayO]
  cases decide (1 ≤ fn) <;> cases decide (fn ≤ 12) <;> cases smallT sp <;> cases decide (1 ≤ sp.size) <;> cases decide (sp.size ≤ 20) <;> cases decide (key.size ≤ 20) <;> cases decide (val.size ≤ 100) <;> cases decide (0 ≤ n) <;> cases decide (n ≤ 1099511627776) <;> simp
 rw [e0]
 generalize hA : (smallT sp && decide (1 ≤ sp.size) && decide (sp.size ≤ 20)) = A
 cases A with
 | false =>
  simp only [not_bool, Bool.not_false, kv_some, gdV_bool, Bool.true_eq_false, if_false, pickV_bool, if_true, ifV_bool, Bool.false_and]
  exact ⟨trivial, m1⟩
 | true =>
 simp only [not_bool, Bool.not_true, kv_some, gdV_bool, if_true, pickV_bool, Bool.false_eq_true, if_false, fieldAddr_ptr, Nat.zero_add, ld_one, r2, r3, r4, len_str, bin_gtr, bin_lss, Bool.true_and]
 by_cases k1 : key.size ≤ 20
 case neg =>
  have k1' : ((key.size : Nat) : Int) > 20 := by omega
  simp only [k1, k1', decide_true, decide_false, gdV_bool, Bool.true_eq_false, if_false, kv_some, pickV_bool, if_true, ifV_bool, Bool.false_and]
  exact ⟨trivial, m1⟩
 have k1' : ¬ ((key.size : Nat) : Int) > 20 := by omega
 by_cases k2 : val.size ≤ 100
 case neg =>
  have k2' : ((val.size : Nat) : Int) > 100 := by omega
  simp only [k1, k1', k2, k2', decide_true, decide_false, gdV_bool, Bool.true_eq_false, if_false, kv_some, pickV_bool, if_true, ifV_bool, Bool.false_and, Bool.and_false, Bool.true_and, fieldAddr_ptr, Nat.zero_add, ld_one, r3, len_str, bin_gtr, Bool.false_eq_true]
  exact ⟨trivial, m1⟩
 have k2' : ¬ ((val.size : Nat) : Int) > 100 := by omega
 by_cases k3 : 0 ≤ n
 case neg =>
  have k3' : n < 0 := by omega
  simp only [k1, k1', k2, k2', k3, k3', decide_true, decide_false, gdV_bool, Bool.true_eq_false, if_false, kv_some, pickV_bool, if_true, ifV_bool, Bool.false_and, Bool.and_false, Bool.true_and, fieldAddr_ptr, Nat.zero_add, ld_one, r3, r4, len_str, bin_gtr, bin_lss, Bool.false_eq_true]
  exact ⟨trivial, m1⟩
 have k3' : ¬ n < 0 := by omega
 by_cases k4 : n ≤ 1099511627776
 case neg =>
  have k4' : n > 1099511627776 := by omega
  simp only [k1, k1', k2, k2', k3, k3', k4, k4', decide_true, decide_false, gdV_bool, Bool.true_eq_false, if_false, kv_some, pickV_bool, if_true, ifV_bool, Bool.false_and, Bool.and_false, Bool.true_and, fieldAddr_ptr, Nat.zero_add, ld_one, r3, r4, len_str, bin_gtr, bin_lss, Bool.false_eq_true]
  exact ⟨trivial, m1⟩
 have k4' : ¬ n > 1099511627776 := by omega
 simp only [k1, k1', k2, k2', k3, k3', k4, k4', decide_true, decide_false, gdV_bool, Bool.true_eq_false, if_false, kv_some, pickV_bool, if_true, ifV_bool, Bool.false_and, Bool.and_false, Bool.true_and, fieldAddr_ptr, Nat.zero_add, ld_one, r0, r2, r3, r4, len_str, bin_gtr, bin_lss, Bool.false_eq_true, str_nonnil, bin_neq, bin_eql]
 have nz : (n != 0) = !decide (n = 0) := by
  by_cases hz : n = 0
  · subst hz; rfl
  · simp [hz]
 by_cases f1 : fn = 1
 · subst f1
   have en : namesO 1 = (true, false, true) := rfl
   have eq1 : ((1 : Int) == 1) = true := rfl
   rw [if_pos eq1]
   have em : makesO ⟨1, sp, key, val, n⟩ = (decide (1 ≤ n) && decide (n ≤ 3) && (digitK key || (decide (key.size = 0) && decide (n ≠ 2)))) := rfl
   rw [em]
   by_cases kk1 : key.size = 1
   · have hb : (((key.size : Nat) : Int) == 1) = true := by rw [kk1]; rfl
     have hi : indexD .str (str key) (.int .i64 0) = some (.int .u8 (key.get! 0).toNat) := index_str key 0 (by omega)
     rw [digit_eq kk1]
     generalize (key.get! 0).toNat = c at hi ⊢
     have k0 : ¬ key.size = 0 := by omega
     by_cases c1 : 49 ≤ c <;> by_cases c2 : c ≤ 57 <;> by_cases n1 : 1 ≤ n <;> by_cases n3 : n ≤ 3 <;> by_cases v0 : val.size = 0 <;>
      simp [hb, hi, r2, r4, len_str, gdV_bool, pickV_bool, en, m1, k0, c1, c2, n1, n3, v0, show ((49 : Int) ≤ (c : Int)) ↔ 49 ≤ c by omega, show ((c : Int) ≤ (57 : Int)) ↔ c ≤ 57 by omega]
   · have hb : (((key.size : Nat) : Int) == 1) = false := by
      cases hc : (((key.size : Nat) : Int) == 1) with
      | false => rfl
      | true => rw [beq_iff_eq] at hc; omega
     rw [digit_no kk1]
     by_cases k0 : key.size = 0 <;> by_cases n1 : 1 ≤ n <;> by_cases n3 : n ≤ 3 <;> by_cases v0 : val.size = 0 <;> by_cases n2 : n = 2 <;>
      simp [hb, r2, r4, len_str, gdV_bool, pickV_bool, en, m1, k0, n1, n3, v0, n2]
 rw [if_neg (show ¬ (fn == 1) = true by simpa using f1)]
 refine or_join ?_
 by_cases f2 : fn = 2 ∨ fn = 9
 · have b2 : (fn == 2 || fn == 9) = true := by simpa using f2
   have en : namesO fn = (false, false, false) := by rcases f2 with rfl | rfl <;> rfl
   have h1 : 1 ≤ fn ∧ fn ≤ 12 := by omega
   rw [if_pos b2]
   simp only [not_bool, Bool.not_not, kv_some, en, f1, h1.1, h1.2, decide_true, Bool.false_or, Bool.true_and, ne_eq, not_false_eq_true, Bool.true_or, Bool.and_true, nz, gdV_bool]
   generalize decide (key.size = 0) = A
   generalize decide (val.size = 0) = B
   generalize decide (n = 0) = C
   cases A <;> cases B <;> cases C <;> simp [m1, gdV_bool, pickV_bool]
 rw [if_neg (show ¬ (fn == 2 || fn == 9) = true by simpa using f2)]
 refine or_join ?_
 by_cases f3 : fn = 3 ∨ fn = 5
 · have en : namesO fn = (true, false, false) := by rcases f3 with rfl | rfl <;> rfl
   have h1 : 1 ≤ fn ∧ fn ≤ 12 := by omega
   rw [if_pos (show (fn == 3 || fn == 5) = true by simpa using f3)]
   simp only [not_bool, Bool.not_not, kv_some, en, f1, h1.1, h1.2, decide_true, Bool.false_or, Bool.true_and, ne_eq, not_false_eq_true, Bool.true_or, Bool.and_true, nz, gdV_bool]
   generalize decide (val.size = 0) = B
   generalize decide (n = 0) = C
   cases B <;> cases C <;> simp [m1, gdV_bool, pickV_bool]
 rw [if_neg (show ¬ (fn == 3 || fn == 5) = true by simpa using f3)]
 by_cases f4 : fn = 4
 · subst f4
   have eq4 : ((4 : Int) == 4) = true := rfl
   have en : namesO 4 = (true, true, false) := rfl
   rw [if_pos eq4]
   simp only [not_bool, Bool.not_not, kv_some, en, f1, decide_true, Bool.false_or, Bool.true_and, ne_eq, not_false_eq_true, Bool.true_or, Bool.and_true, nz]
   exact ⟨by first | rfl | trivial | simp, m1⟩
 rw [if_neg (show ¬ (fn == 4) = true by simpa using f4)]
 refine or_join ?_
 by_cases f6 : fn = 6 ∨ fn = 10
 · have en : namesO fn = (false, true, false) := by rcases f6 with rfl | rfl <;> rfl
   have h1 : 1 ≤ fn ∧ fn ≤ 12 := by omega
   rw [if_pos (show (fn == 6 || fn == 10) = true by simpa using f6)]
   simp only [not_bool, Bool.not_not, kv_some, en, f1, h1.1, h1.2, decide_true, Bool.false_or, Bool.true_and, ne_eq, not_false_eq_true, Bool.true_or, Bool.and_true, nz, gdV_bool]
   generalize decide (key.size = 0) = B
   generalize decide (n = 0) = C
   cases B <;> cases C <;> simp [m1, gdV_bool, pickV_bool]
 rw [if_neg (show ¬ (fn == 6 || fn == 10) = true by simpa using f6)]
 by_cases f7 : fn = 7
 · subst f7
   have eq7 : ((7 : Int) == 7) = true := rfl
   have en : namesO 7 = (false, false, true) := rfl
   rw [if_pos eq7]
   simp only [not_bool, Bool.not_not, kv_some, en, f1, decide_true, Bool.false_or, Bool.true_and, ne_eq, not_false_eq_true, Bool.true_or, Bool.and_true, nz, gdV_bool]
   generalize decide (key.size = 0) = B
   generalize decide (val.size = 0) = C
   cases B <;> cases C <;> simp [m1, gdV_bool, pickV_bool]
 rw [if_neg (show ¬ (fn == 7) = true by simpa using f7)]
 refine or_join ?_
 by_cases f8 : fn = 8 ∨ fn = 11
 · have en : namesO fn = (true, false, true) := by rcases f8 with rfl | rfl <;> rfl
   have h1 : 1 ≤ fn ∧ fn ≤ 12 := by omega
   rw [if_pos (show (fn == 8 || fn == 11) = true by simpa using f8)]
   simp only [not_bool, Bool.not_not, kv_some, en, f1, h1.1, h1.2, decide_true, Bool.false_or, Bool.true_and, ne_eq, not_false_eq_true, Bool.true_or, Bool.and_true, nz, gdV_bool]
   exact ⟨by first | rfl | trivial | simp, m1⟩
 rw [if_neg (show ¬ (fn == 8 || fn == 11) = true by simpa using f8)]
 by_cases f12 : fn = 12
 · subst f12
   have eq12 : ((12 : Int) == 12) = true := rfl
   have en : namesO 12 = (true, true, true) := rfl
   rw [if_pos eq12]
   simp [en, m1]
 rw [if_neg (show ¬ (fn == 12) = true by simpa using f12)]
 have hno : (decide (1 ≤ fn) && decide (fn ≤ 12)) = false := by
  simp only [Bool.and_eq_false_iff, decide_eq_false_iff_not]
  omega
 rw [hno]
 simp [m1]
theorem ref12_All {fp : List Nat} {v : V} {l : List Oq} (s : SlE dOp h fp v l) (hsz : l.length ≤ 1000000) (hz : ∀ o ∈ l, o.space.size ≤ maxLen) :
 cl (Go.Abs.F.estafetteref12_All E) [v] h fun r h' => r = .bool (allO l) ∧ Mod h [] h' [] := by
 refine cl_of ?_
 simp only [Go.Abs.F.estafetteref12_All]
 refine ⟨fun n vs h' => ∃ i : Nat, vs = [i64 i] ∧ n = l.length - i ∧ i ≤ l.length ∧ Mod h [] h' [] ∧ ∀ o ∈ l.take i, mayO o = true, l.length, ⟨0, rfl, rfl, by omega, Mod.refl (by simp), by simp⟩, ?_⟩
 rintro n e h1 ⟨i, he, rfl, hi, m1, hm⟩
 simp only [List.cons.injEq, and_true] at he
 have s1 := s.mod m1 (by simp)
 simp only [he, s1.len, kv_some, bin_lss, ifV_bool, decide_eq_true_eq]
 by_cases hx : i < l.length
 case neg =>
  rw [if_neg (show ¬ ((i : Nat) : Int) < (l.length : Nat) by omega)]
  have ha : l.all mayO = true := by
   rw [List.all_eq_true]
   rw [List.take_of_length_le (by omega)] at hm
   exact hm
  unfold allO
  rw [ha, Bool.and_true]
  have e1 : decide (((l.length : Nat) : Int) ≥ 1) = decide (1 ≤ l.length) := by
   by_cases hz : 1 ≤ l.length
   · rw [decide_eq_true hz]; exact decide_eq_true (by omega)
   · rw [decide_eq_false hz]; exact decide_eq_false (by omega)
  have e2 : decide (((l.length : Nat) : Int) ≤ 8) = decide (l.length ≤ 8) := by
   by_cases hz : l.length ≤ 8
   · rw [decide_eq_true hz]; exact decide_eq_true (by omega)
   · rw [decide_eq_false hz]; exact decide_eq_false (by omega)
  simp only [bin_geq, kv_some, e1]
  cases decide (1 ≤ l.length) with
  | false =>
   simp only [gdV_bool, Bool.false_eq_true, if_false, kv_some, pickV_bool, Bool.false_and]
   exact ⟨trivial, m1⟩
  | true =>
   simp only [gdV_bool, if_true, kv_some, s1.len, bin_leq, e2, pickV_bool, Bool.true_and]
   exact ⟨trivial, m1⟩
 rw [if_pos (show ((i : Nat) : Int) < (l.length : Nat) by omega)]
 have hg : l[i]? = some l[i] := List.getElem?_eq_getElem hx
 obtain ⟨b, i1, i2⟩ := s1.ld hg
 have i1 : indexAddrD (.slice 5) v (i64 (i : Nat)) = some (ptr b (i * 5)) := i1
 have hmem : l[i] ∈ l := List.getElem_mem hx
 have htk : l.take (i + 1) = l.take i ++ [l[i]] := by rw [List.take_add_one, hg]; rfl
 generalize l[i] = o at i2 hmem htk
 have i2 : ldD (.agg 5) (ptr b (i * 5)) h1 = some o.agg := i2
 rw [i1, kv_some, i2, kv_some]
 refine cl_then (ref12_May o (hz o hmem)) ?_
 rintro r h2 ⟨rfl, m2⟩
 rw [not_bool, kv_some, ifV_bool]
 cases hmo : mayO o with
 | false =>
  have : allO l = false := by
   unfold allO
   have : l.all mayO = false := by
    cases hh : l.all mayO with
    | false => rfl
    | true => rw [List.all_eq_true] at hh; rw [hh o hmem] at hmo; cases hmo
   rw [this, Bool.and_false]
  simp only [Bool.not_false, if_true, this]
  exact ⟨trivial, m1.trans m2⟩
 | true =>
  simp only [Bool.not_true, Bool.false_eq_true, if_false]
  rw [add_i64 _ 1 (by omega) (by omega), kv_some]
  refine ⟨l.length - (i + 1), by omega, i + 1, rfl, rfl, by omega, m1.trans m2, fun o' ho' => ?_⟩
  rw [htk] at ho'
  rcases List.mem_append.1 ho' with ho' | ho'
  · exact hm o' ho'
  · rw [List.mem_singleton.1 ho']; exact hmo
end Go.Abs
namespace Go.Abs
open Go Go.Proofs
variable {E : FE} {F : Fr} {h : AHeap} {L : List Pl}
theorem ref1_bytes {bx c : Nat} {l : List UInt8} {k : BK} (hg : h.get bx = some (.cells (l.map fun x => .int .u8 x.toNat) 1 k)) (hl : l.length ≤ 1000000000) :
 cl (Go.Abs.F.estafetteref1_Mark E) [.slice (some ⟨bx, 0, none⟩) l.length c] h fun r h' => h' = h ∧ r = .int .u32 (((l.foldl markS (1, 0)).2 * 65536 + (l.foldl markS (1, 0)).1 : Nat) : Int) := by
 refine cl_of ?_
 simp only [Go.Abs.F.estafetteref1_Mark]
 refine cl_of ?_
 have ln : lenD .slice (.slice (some ⟨bx, 0, none⟩) l.length c) h = some (i64 (l.length : Nat)) := rfl
 have c1 : binD .bad .rem true (.int .u32 1) (.int .u32 65536) h = some (.int .u32 1) := by rfl
 have c2 : binD .bad .rem true (.int .u32 1) (.int .u32 65521) h = some (.int .u32 1) := by rfl
 have c3 : binD .bad .quo true (.int .u32 1) (.int .u32 65536) h = some (.int .u32 0) := by rfl
 have c4 : binD .bad .rem true (.int .u32 0) (.int .u32 65521) h = some (.int .u32 0) := by rfl
 simp only [Go.Abs.F.estafetteref1_Add, c1, c2, c3, c4, kv_some]
 refine ⟨fun n vs h' => h' = h ∧ ∃ i : Nat, i ≤ l.length ∧ n = l.length - i ∧ vs = [.int .u32 (((l.take i).foldl markS (1, 0)).1 : Nat), .int .u32 (((l.take i).foldl markS (1, 0)).2 : Nat), i64 i], l.length, ⟨rfl, 0, by omega, by omega, rfl⟩, ?_⟩
 rintro n e h1 ⟨rfl, i, hi, rfl, he⟩
 simp only [List.cons.injEq, and_true] at he
 obtain ⟨he1, he2, he3⟩ := he
 obtain ⟨b1, b2⟩ := mark_lt (l.take i) (1, 0) (by decide) (by decide)
 simp only [he1, he2, he3, ln, bin_lss, kv_some, ifV_bool, decide_eq_true_eq]
 by_cases hx : i < l.length
 · rw [if_pos (show ((i : Nat) : Int) < (l.length : Nat) by omega)]
   have hg2 : l[i]? = some l[i] := List.getElem?_eq_getElem hx
   have e1 : indexAddrD (.slice 1) (.slice (some ⟨bx, 0, none⟩) l.length c) (i64 i) = some (ptr bx i) := by
    have b3 : (0 : Int) ≤ (i : Int) ∧ (i : Int) < (l.length : Nat) := by omega
    simp only [indexAddrD, if_pos b3, Int.toNat_natCast, Nat.zero_add, Nat.mul_one]
   have e2 : ldD .one (ptr bx i) h1 = some (.int .u8 (l[i]).toNat) := by
    rw [ld_one, rd_of hg i, List.getElem?_map, hg2]
    rfl
   have hstep : (l.take (i + 1)).foldl markS (1, 0) = markS ((l.take i).foldl markS (1, 0)) l[i] := by
    rw [List.take_add_one, hg2, Option.toList_some, List.foldl_append]
    rfl
   generalize (l.take i).foldl markS (1, 0) = p at b1 b2 hstep ⊢
   have hc := (l[i]).toNat_lt
   generalize l[i] = ch at e2 hstep hc ⊢
   rw [e1, kv_some, e2, kv_some]
   have e3 : (convD (.int .u32) (.int .u8 (ch.toNat : Nat)) h1).map (·.1) = some (.int .u32 (ch.toNat : Nat)) := by
    simp only [convD, Option.map_some]
    rw [wrap32 (by omega) (by omega)]
   rw [e3, kv_some]
   have e4 : IntKind.wrap .u32 ((p.1 : Nat) + (ch.toNat : Nat) : Int) = ((p.1 + ch.toNat : Nat) : Int) := by
    rw [wrap32 (by omega) (by omega)]
    omega
   simp only [bin_add, e4, kv_some, bin_rem]
   rw [if_neg (by decide), kv_some]
   have e5 : ((p.1 + ch.toNat : Nat) : Int).tmod 65521 = (((p.1 + ch.toNat) % 65521 : Nat) : Int) := tmod_nat _ 65521
   rw [e5]
   have hlt := Nat.mod_lt (p.1 + ch.toNat) (show 65521 > 0 by decide)
   have e6 : IntKind.wrap .u32 ((p.2 : Nat) + (((p.1 + ch.toNat) % 65521 : Nat) : Int) : Int) = ((p.2 + (p.1 + ch.toNat) % 65521 : Nat) : Int) := by
    rw [wrap32 (by omega) (by omega)]
    omega
   simp only [bin_add, e6, kv_some, bin_rem]
   rw [if_neg (by decide), kv_some]
   have e7 : ((p.2 + (p.1 + ch.toNat) % 65521 : Nat) : Int).tmod 65521 = (((p.2 + (p.1 + ch.toNat) % 65521) % 65521 : Nat) : Int) := tmod_nat _ 65521
   have e8 : IntKind.wrap .i64 ((i : Nat) + 1 : Int) = ((i + 1 : Nat) : Int) := by
    have := add_i64 (h := h1) (k := .bad) (c := true) (i : Nat) 1 (by omega) (by omega)
    simpa using this
   rw [e7, e8]
   exact ⟨l.length - (i + 1), by omega, trivial, i + 1, by omega, rfl, by rw [hstep]; rfl⟩
 · rw [if_neg (show ¬ ((i : Nat) : Int) < (l.length : Nat) by omega)]
   have hl : l.take i = l := List.take_of_length_le (by omega)
   rw [hl] at b1 b2 ⊢
   generalize l.foldl markS (1, 0) = p at b1 b2 ⊢
   have e4 : IntKind.wrap .u32 ((p.2 : Nat) * 65536 : Int) = ((p.2 * 65536 : Nat) : Int) := by
    rw [wrap32 (by omega) (by omega)]
    omega
   have e5 : IntKind.wrap .u32 (((p.2 * 65536 : Nat) : Int) + (p.1 : Nat)) = ((p.2 * 65536 + p.1 : Nat) : Int) := by
    rw [wrap32 (by omega) (by omega)]
    omega
   simp only [bin_mul, e4, kv_some, bin_add, e5]
   exact ⟨trivial, trivial⟩
theorem ref1_Shard (s : ByteArray) (hs : s.size ≤ 1000000000) (n : Nat) (hn : 1 ≤ n ∧ n ≤ 1000) : cl (Go.Abs.F.estafetteref1_Shard E) [str s, i64 n] h fun r h' => r = i64 ((markN s % n : Nat) : Int) ∧ Mod h [] h' [] := by
 refine cl_of ?_
 have hn1 : ¬ (n : Int) < 1 := by omega
 have hb : convD .toBytes (str s) h = some (.slice (some ⟨h.next, 0, none⟩) s.size (2 * s.size + 1), h.new (.cells (s.data.toList.map fun x => .int .u8 x.toNat) 1 .str)) := rfl
 simp only [Go.Abs.F.estafetteref1_Shard, bin_lss, kv_some, hn1, decide_false, ifV_bool, Bool.false_eq_true, if_false, hb, kP_some]
 have hm : Mod h [] (h.new (.cells (s.data.toList.map fun x => .int .u8 x.toNat) 1 .str)) [] := ⟨by simp, fun x hx _ => by
  have : x ≠ h.next := by omega
  simp [this], by simp, by simp⟩
 have hg : (h.new (.cells (s.data.toList.map fun x => (.int .u8 x.toNat : V)) 1 .str)).get h.next = some (.cells (s.data.toList.map fun x => .int .u8 x.toNat) 1 .str) := by simp
 have hlen : s.data.toList.length = s.size := by rw [Array.length_toList]; rfl
 have hmk := ref1_bytes (E := E) (c := 2 * s.size + 1) hg (by omega)
 rw [hlen] at hmk
 refine cl_then hmk ?_
 rintro r h1 ⟨rfl, rfl⟩
 have hN : (s.data.toList.foldl markS (1, 0)).2 * 65536 + (s.data.toList.foldl markS (1, 0)).1 = markN s := rfl
 rw [hN]
 have hlt : markN s < 4294967296 := by
  have := mark_lt s.data.toList (1, 0) (by decide) (by decide)
  unfold markN
  omega
 have w64 : ∀ x : Nat, x < 4294967296 → IntKind.wrap .u64 (x : Int) = x := fun x hx => by simp [IntKind.wrap, IntKind.bits, IntKind.signed]; omega
 have wi64 : ∀ x : Nat, x < 4294967296 → IntKind.wrap .i64 (x : Int) = x := fun x hx => by
  have := add_i64 (h := h) (k := .bad) (c := true) (x : Nat) 0 (by omega) (by omega)
  simpa using this
 simp only [convD, Option.map_some, kv_some, bin_rem]
 rw [if_neg (by omega), kv_some, wi64 _ hlt, tmod_nat]
 exact ⟨rfl, hm⟩
theorem ref12_Parts {v : V} {l : List Oq} {n : Nat} (hn : 1 ≤ n ∧ n ≤ 3) (hl : l.length ≤ 100000) (hz : ∀ o ∈ l, o.space.size ≤ 1000000000) (s : Sep F h (plOps v l :: L)) :
 cl (Go.Abs.F.estafetteref12_Parts E) [v, i64 n] h fun r h' => Sep F h' (plPts r (partsF l n) :: plOps v l :: L) := by
 refine cl_of ?_
 have h1 : ¬ (n : Int) < 1 := by omega
 have h3 : ¬ (n : Int) > 3 := by omega
 simp only [Go.Abs.F.estafetteref12_Parts, bin_lss, bin_gtr, kv_some, gdV_bool, h1, h3, decide_false, if_true, pickV_bool, Bool.false_eq_true, if_false, ifV_bool]
 refine parts_make hn s fun w h1 s1 _ => ?_
 obtain ⟨f0, q0, _⟩ := s1.up1.head
 have q0 : SlE dOp h1 f0 v l := q0
 refine ⟨fun m vs h' => ∃ i : Nat, vs = [i64 i] ∧ m = l.length - i ∧ i ≤ l.length ∧ Sep F h' (plPts w (partsF (l.take i) n) :: plOps v l :: L), l.length, ⟨0, rfl, by omega, by omega, by simpa [partsF] using s1⟩, ?_⟩
 rintro m e h2 ⟨i, he, rfl, hi, s2⟩
 simp only [List.cons.injEq, and_true] at he
 obtain ⟨f1, q1, _⟩ := s2.up1.head
 have q1 : SlE dOp h2 f1 v l := q1
 simp only [he, q1.len, bin_lss, kv_some, ifV_bool, decide_eq_true_eq]
 by_cases hx : i < l.length
 case neg =>
  rw [if_neg (show ¬ ((i : Nat) : Int) < (l.length : Nat) by omega)]
  rw [List.take_of_length_le (by omega)] at s2
  exact s2
 rw [if_pos (show ((i : Nat) : Int) < (l.length : Nat) by omega)]
 have hg : l[i]? = some l[i] := List.getElem?_eq_getElem hx
 obtain ⟨c, _, i1, _, i3⟩ := q1.at hg
 have i1 : indexAddrD (.slice 5) v (i64 (i : Nat)) = some (ptr c (i * 5)) := i1
 have i3 : h2.rd c (i * 5 + 1) = some (str (l[i]).space) := i3 1 (by decide)
 rw [i1, kv_some, fieldAddr_ptr, kv_some, ld_one, i3, kv_some]
 refine cl_then (ref1_Shard (l[i]).space (hz _ (List.getElem_mem hx)) n (by omega)) ?_
 rintro r h5 ⟨rfl, m5⟩
 have s5 := s2.skip m5
 have hk : markN (l[i]).space % n < (partsF (l.take i) n).length := by rw [parts_len]; exact Nat.mod_lt _ (by omega)
 refine parts_add hk (fun p hp => ?_) i s5 fun h6 s6 => ?_
 · have := parts_small (l.take i).zipIdx n (List.replicate n []) 0 (fun p hp => by rw [(List.mem_replicate.1 hp).2]; simp) p hp
   rw [List.length_zipIdx, List.length_take] at this
   omega
 · rw [← parts_step l n i hx] at s6
   rw [add_i64 _ 1 (by omega) (by omega), kv_some]
   exact ⟨l.length - (i + 1), by omega, i + 1, by simp, rfl, by omega, s6⟩
end Go.Abs
namespace Go.Abs
open Go Go.Proofs
variable {E : FE} {F : Fr} {h : AHeap} {L : List Pl}
theorem ref12_in (a lo hi : Int) : cl (Go.Abs.F.estafetteref12_in E) [i64 a, i64 lo, i64 hi] h fun r h' => r = .bool (decide (lo ≤ a) && decide (a ≤ hi)) ∧ h' = h := by
 refine cl_of ?_
 by_cases h1 : lo ≤ a
 · have h1' : a ≥ lo := h1
   simp only [Go.Abs.F.estafetteref12_in, bin_geq, h1, h1', decide_true, kv_some, gdV_bool, if_true, bin_leq, pickV_bool, Bool.true_and]
   exact ⟨trivial, trivial⟩
 · have h1' : ¬ a ≥ lo := h1
   simp only [Go.Abs.F.estafetteref12_in, bin_geq, h1, h1', decide_false, kv_some, gdV_bool, Bool.false_eq_true, if_false, bin_leq, pickV_bool, Bool.false_and]
   exact ⟨trivial, trivial⟩
theorem op_at {v : V} {l : List Oq} (s : Sep F h L) (hm : plOps v l ∈ L) {i : Nat} {o : Oq} (hg : l[i]? = some o) : ∃ b, indexAddrD (.slice 5) v (i64 i) = some (ptr b (i * 5)) ∧
 h.rd b (i * 5) = some (i64 o.fn) ∧ h.rd b (i * 5 + 1) = some (str o.space) ∧ h.rd b (i * 5 + 2) = some (str o.key) ∧ h.rd b (i * 5 + 3) = some (str o.val) ∧ h.rd b (i * 5 + 4) = some (i64 o.n) := by
 obtain ⟨f, q⟩ := s.memP hm
 have q : SlE dOp h f v l := q
 obtain ⟨b, _, c1, _, c3⟩ := q.at hg
 exact ⟨b, c1, c3 0 (by decide), c3 1 (by decide), c3 2 (by decide), c3 3 (by decide), c3 4 (by decide)⟩
set_option maxHeartbeats 1000000 in
theorem ref12_PutOk {kind : Int} (hk : kind = 3 ∨ kind = 4) {v : V} {l : List Oq} (id : IdM) (hc : clientB id = true) (ha : allO l = true) (hz : ∀ o ∈ l, o.space.size ≤ maxLen) (s : Sep F h (plOps v l :: L)) :
 cl (Go.Abs.F.estafetteref12_Put E) [id.agg, v, i64 kind] h fun r h' => ∃ t u : Tri, r = .tuple #[.agg #[i64 kind, mkS t, mkS u], .bool true] ∧ Sep F h' (plOps v l :: L) := by
 refine cl_of ?_
 simp only [Go.Abs.F.estafetteref12_Put, new2, kP_some]
 have s1 := s.box (cId id) 2
 generalize h.new (.cells (cId id) 2 .rw) = h1 at s1 ⊢
 generalize h.next = bi at s1 ⊢
 have e2 : ∀ g : AHeap, newD none (.agg #[(.int .i64 0), (.slice none 0 0), (.slice none 0 0)]) g = some (ptr g.next 0, g.new (.cells [i64 0, .slice none 0 0, .slice none 0 0] 3 .rw)) := fun _ => rfl
 rw [e2, kP_some]
 have s2 := s1.box [i64 0, .slice none 0 0, .slice none 0 0] 3
 clear s1
 generalize h1.new (.cells [i64 0, .slice none 0 0, .slice none 0 0] 3 .rw) = h2 at s2 ⊢
 generalize h1.next = br at s2 ⊢
 have first : ∀ X : V → Prop, X (.bool false) → kv (binD .bad .neq true (i64 kind) (.int .i64 3) h2) fun v11 => kv (gdV v11 true (some (i64 kind))) fun v13 => kv (gdV v11 true (binD .bad .neq true v13 (.int .i64 4) h2)) fun v14 => kv (pickV v11 v14 (.bool false)) X := by
  intro X hX
  rcases hk with rfl | rfl
  · simp only [bin_neq, show ((3 : Int) != 3) = false from rfl, kv_some, gdV_bool, Bool.false_eq_true, if_false, pickV_bool]
    exact hX
  · simp only [bin_neq, show ((4 : Int) != 3) = true from rfl, show ((4 : Int) != 4) = false from rfl, kv_some, gdV_bool, if_true, pickV_bool]
    exact hX
 refine first _ ?_
 have li : ldD (.agg 2) (ptr bi 0) h2 = some id.agg := ld2 (Sep.get s2.up1)
 simp only [gdV_bool, if_true, li, kv_some]
 refine gdC_yes rfl (cl_then (ref12_Client id s2) ?_)
 rintro r h3 ⟨rfl, s3⟩
 simp only [hc, not_bool, Bool.not_true, kv_some, pickV_bool, Bool.false_eq_true, if_false, gdV_bool, if_true]
 obtain ⟨fo, qo⟩ := s3.memP (A := plOps v l) (by simp)
 have hal := allF ha
 have hl8 : l.length ≤ 8 := hal.2.1
 refine gdC_yes rfl (cl_then (ref12_All qo (by omega) hz) ?_)
 rintro r h4 ⟨rfl, m4⟩
 have s4 := s3.skip m4
 clear s3 s2 qo m4 li
 simp only [ha, not_bool, Bool.not_true, kv_some, pickV_bool, Bool.false_eq_true, if_false]
 have i0 : h4.rd bi 0 = some (i64 id.client) := by rw [rd_of (Sep.get s4.up1) 0]; rfl
 have i1 : h4.rd bi 1 = some (i64 id.seq) := by rw [rd_of (Sep.get s4.up1) 1]; rfl
 simp only [ifV_bool, Bool.false_eq_true, if_false, fieldAddr_ptr, Nat.zero_add, ld_one, i0, i1, kv_some]
 rw [show buildSliceD (some (1, [(.int .i64 0)])) 2 [(0, i64 id.client), (1, i64 id.seq)] h4 = some (.slice (some ⟨h4.next, 0, none⟩) 2 4, h4.new (.cells (dInt.flat [id.client, id.seq]) 1 .rw)) from rfl, kP_some]
 have s5 := s4.litInts [id.client, id.seq] (by simp)
 generalize h4.new (.cells (dInt.flat [id.client, id.seq]) 1 .rw) = h5 at s5 ⊢
 generalize h4.next = bn at s5 ⊢
 rw [show buildD (.struct [(.int .i64 0), (.slice none 0 0), (.slice none 0 0)] [(0, 1), (1, 1), (2, 1)]) [(0, i64 kind), (1, .slice (some ⟨bn, 0, none⟩) 2 4)] = some (.agg #[i64 kind, mkS (some ⟨bn, 0, none⟩, 2, 4), .slice none 0 0]) from rfl, kv_some, e2, kP_some]
 have s6 := s5.box [i64 0, .slice none 0 0, .slice none 0 0] 3
 generalize h5.new (.cells [i64 0, .slice none 0 0, .slice none 0 0] 3 .rw) = h6 at s6 ⊢
 generalize h5.next = bx at s6 ⊢
 rw [st_of (n := 3) (vs := [i64 kind, mkS (some ⟨bn, 0, none⟩, 2, 4), .slice none 0 0]) s6.get (by simp) rfl rfl rfl (by simp), kH_some]
 have s7 := s6.write (cs' := [i64 kind, mkS (some ⟨bn, 0, none⟩, 2, 4), .slice none 0 0])
 rw [show setList [i64 0, .slice none 0 0, .slice none 0 0] 0 [i64 kind, mkS (some ⟨bn, 0, none⟩, 2, 4), .slice none 0 0] = [i64 kind, mkS (some ⟨bn, 0, none⟩, 2, 4), .slice none 0 0] from rfl]
 generalize AHeap.put _ _ _ = h7 at s7 ⊢
 have s8 : Sep F h7 (plBox bx [i64 kind, mkS (some ⟨bn, 0, none⟩, 2, 4), mkS (none, 0, 0)] 3 :: plI64s (mkS (some ⟨bn, 0, none⟩, 2, 4)) [id.client, id.seq] :: plStrs (mkS (none, 0, 0)) [] :: plBox br [i64 0, .slice none 0 0, .slice none 0 0] 3 :: plOps v l :: L) := (Sep.noStrs s7).re6 [1, 2, 0, 3, 5] rfl
 refine ⟨fun m vs h' => ∃ (i : Nat) (t u : Tri) (xs : List Int) (ys : List ByteArray), vs = [i64 i] ∧ m = l.length - i ∧ i ≤ l.length ∧ xs.length = 2 + 2 * i ∧ ys.length = 3 * i ∧ Sep F h' (plBox bx [i64 kind, mkS t, mkS u] 3 :: plI64s (mkS t) xs :: plStrs (mkS u) ys :: plBox br [i64 0, .slice none 0 0, .slice none 0 0] 3 :: plOps v l :: L),
  l.length, ⟨0, _, _, _, _, rfl, by omega, by omega, rfl, rfl, s8⟩, ?_⟩
 clear s4 s5 s6 s7 s8 i0 i1
 rintro m e g1 ⟨i, t, u, xs, ys, he, rfl, hi, hxs, hys, z1⟩
 simp only [List.cons.injEq, and_true] at he
 obtain ⟨f1, q1⟩ := z1.memP (A := plOps v l) (by simp)
 have q1 : SlE dOp g1 f1 v l := q1
 simp only [he, q1.len, bin_lss, kv_some, ifV_bool, decide_eq_true_eq]
 by_cases hx : i < l.length
 case neg =>
  rw [if_neg (show ¬ ((i : Nat) : Int) < (l.length : Nat) by omega)]
  rw [ld_agg, rdN_of z1.get, if_pos (by simp), Option.map_some, kv_some]
  exact ret3 (z1.re5 [3, 1, 2, 4] rfl) rfl rfl rfl fun h' s' => ⟨t, u, rfl, s'.re4 [3] rfl⟩
 rw [if_pos (show ((i : Nat) : Int) < (l.length : Nat) by omega)]
 have hg : l[i]? = some l[i] := List.getElem?_eq_getElem hx
 generalize l[i] = o at hg
 obtain ⟨c, c1, o0, _, _, _, o4⟩ := op_at (v := v) z1 (by simp) hg
 have x1 : g1.rd bx 1 = some (mkS t) := by rw [rd_of z1.get 1]; rfl
 simp only [fieldAddr_ptr, Nat.zero_add, Nat.add_zero, kv_some, ld_one, x1, c1, o0, o4]
 obtain ⟨t', g4, e4, z4⟩ := Sep.appI z1.up1 [o.fn, o.n] (by simp) (by simp only [List.length_cons, List.length_nil]; omega)
 refine kP_of (v := .slice (some ⟨g1.next, 0, none⟩) 2 4) (g := g1.new (.cells (dInt.flat [o.fn, o.n]) 1 .rw)) rfl ⟨?_, kP_of e4 ?_⟩
 · rw [rd_of (Sep.get (z1.skip (Mod.newBox (by simp)))) 1]; rfl
 rw [st_one (Sep.get z4.up1) (by simp) rfl rfl (by simp), kH_some]
 have z5 := Sep.write (cs' := [i64 kind, mkS t', mkS u]) z4.up1
 rw [show [i64 kind, mkS t, mkS u].set 1 (mkS t') = [i64 kind, mkS t', mkS u] from rfl]
 clear z4 e4 x1 o0 o4 q1
 generalize AHeap.put _ _ _ = g5 at z5 ⊢
 have x2 : g5.rd bx 2 = some (mkS u) := by rw [rd_of z5.get 2]; rfl
 obtain ⟨c', c1', _, o1, o2, o3, _⟩ := op_at (v := v) z5 (by simp) hg
 rw [c1] at c1'
 cases c1'
 simp only [x2, o1, o2, o3, kv_some]
 obtain ⟨u', g6, e6, z6⟩ := Sep.appS (z5.re5 [2, 0, 1, 3, 4] rfl) [o.space, o.key, o.val] (by simp) (by simp only [List.length_cons, List.length_nil]; omega)
 refine kP_of (v := .slice (some ⟨g5.next, 0, none⟩) 3 6) (g := g5.new (.cells (dStr.flat [o.space, o.key, o.val]) 1 .rw)) rfl ⟨?_, kP_of e6 ?_⟩
 · rw [rd_of (Sep.get (z5.skip (Mod.newBox (by simp)))) 2]; rfl
 rw [st_one (Sep.get z6.up1) (by simp) rfl rfl (by simp), kH_some]
 have z7 := Sep.write (cs' := [i64 kind, mkS t', mkS u']) z6.up1
 rw [show [i64 kind, mkS t', mkS u].set 2 (mkS u') = [i64 kind, mkS t', mkS u'] from rfl]
 generalize AHeap.put _ _ _ = g7 at z7 ⊢
 rw [add_i64 _ 1 (by omega) (by omega), kv_some]
 exact ⟨l.length - (i + 1), by omega, i + 1, t', u', _, _, by simp, rfl, by omega, by simp; omega, by simp; omega, z7.re5 [0, 2, 1, 3, 4] rfl⟩
theorem mul_i64 {k : EqK} {c : Bool} (a b : Int) (h1 : -9223372036854775808 ≤ a * b) (h2 : a * b ≤ 9223372036854775807) : binD k .mul c (i64 a) (i64 b) h = some (i64 (a * b)) := by
 rw [bin_mul, wrap_i64 h1 h2]
theorem flat2_get : ∀ (l : List Oq) (i : Nat) (o : Oq), l[i]? = some o → (l.flatMap fun o : Oq => [o.fn, o.n])[2 * i]? = some o.fn ∧ (l.flatMap fun o : Oq => [o.fn, o.n])[2 * i + 1]? = some o.n
 | [], i, o, h => by simp at h
 | a :: l, 0, o, h => by
  simp only [List.getElem?_cons_zero, Option.some.injEq] at h
  subst h
  exact ⟨rfl, rfl⟩
 | a :: l, i + 1, o, h => by
  rw [List.getElem?_cons_succ] at h
  obtain ⟨h1, h2⟩ := flat2_get l i o h
  rw [List.flatMap_cons, show 2 * (i + 1) = 2 * i + 2 by omega]
  exact ⟨h1, h2⟩
theorem flat3_get : ∀ (l : List Oq) (i : Nat) (o : Oq), l[i]? = some o → (l.flatMap fun o : Oq => [o.space, o.key, o.val])[3 * i]? = some o.space ∧ (l.flatMap fun o : Oq => [o.space, o.key, o.val])[3 * i + 1]? = some o.key ∧ (l.flatMap fun o : Oq => [o.space, o.key, o.val])[3 * i + 2]? = some o.val
 | [], i, o, h => by simp at h
 | a :: l, 0, o, h => by
  simp only [List.getElem?_cons_zero, Option.some.injEq] at h
  subst h
  exact ⟨rfl, rfl, rfl⟩
 | a :: l, i + 1, o, h => by
  rw [List.getElem?_cons_succ] at h
  obtain ⟨h1, h2, h3⟩ := flat3_get l i o h
  rw [List.flatMap_cons, show 3 * (i + 1) = 3 * i + 3 by omega]
  exact ⟨h1, h2, h3⟩
theorem int_at {v : V} {l : List Int} (s : Sep F h L) (hm : plI64s v l ∈ L) {i : Nat} {x : Int} (hg : l[i]? = some x) : ∃ b, indexAddrD (.slice 1) v (i64 i) = some b ∧ ldD .one b h = some (i64 x) := by
 obtain ⟨f, q⟩ := s.memP hm
 have q : SlE dInt h f v l := q
 obtain ⟨b, _, c1, _, c3⟩ := q.at hg
 exact ⟨ptr b (i * 1), c1, c3 0 (by decide)⟩
theorem str_at {v : V} {l : List ByteArray} (s : Sep F h L) (hm : plStrs v l ∈ L) {i : Nat} {x : ByteArray} (hg : l[i]? = some x) : ∃ b, indexAddrD (.slice 1) v (i64 i) = some b ∧ ldD .one b h = some (str x) := by
 obtain ⟨f, q⟩ := s.memP hm
 have q : Ts h f v l := q
 obtain ⟨b, _, c1, _, c3⟩ := (ts_sle.1 q).at hg
 exact ⟨ptr b (i * 1), c1, c3 0 (by decide)⟩
end Go.Abs

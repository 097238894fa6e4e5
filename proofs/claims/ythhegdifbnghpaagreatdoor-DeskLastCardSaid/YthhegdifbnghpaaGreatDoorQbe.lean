/- A desk: Begin. -/
import Derived.Test.YthhegdifbnghpaaGreatDoorQbd
set_option linter.unusedSimpArgs false
set_option linter.unusedVariables false
namespace Go.Abs
open Go Go.Proofs
variable {E : FE} {F : Fr} {h : AHeap} {L : List Pl}
set_option maxHeartbeats 2000000 in
theorem desk_Begin (oe : OpE E) {p a2 : V} {d : DeskM} {nn : Nat} (hd : d.n = (nn : Nat)) (hn : 1 ≤ nn ∧ nn ≤ 3) (id : IdM) {ops : List Oq} (hl : ops.length ≤ 1000000) (hz : ∀ o ∈ ops, o.space.size ≤ maxLen)
 (s : Sep F h (plDsk p d :: plOps a2 ops :: L)) : cl (Go.Abs.F.desk_Desk_Begin E) [p, id.agg, a2] h fun r h' => r = .bool (beginV d id ops).1 ∧ Sep F h' (plDsk p (beginV d id ops).2 :: plOps a2 ops :: L) := by
 refine cl_of ?_
 obtain ⟨b, ml, mo, mk, rfl, s0⟩ := s.openDsk
 clear s
 simp only [Go.Abs.F.desk_Desk_Begin, new2, kP_some, ptr_eq_nil, kv_some, gdV_bool, if_true]
 have s1 := s0.box (cId id) 2
 clear s0
 generalize h.new (.cells (cId id) 2 .rw) = h1 at s1 ⊢
 generalize h.next = bi at s1 ⊢
 rw [ld2 s1.get, kv_some]
 refine gdC_yes rfl (cl_then (op_Client_ok id s1) ?_)
 rintro r h2 ⟨rfl, s2⟩
 clear s1
 have back : ∀ {g : AHeap}, Sep F g (plBox bi (cId id) 2 :: plBox b [i64 d.n, .map (some ml), .map (some mo), .map (some mk)] 4 :: plGM kdInt lsV ml d.last :: plGM kdId trV mo d.opn :: plGM kdInt anV mk d.kept :: plOps a2 ops :: L) → Sep F g (plDsk (ptr b 0) d :: plOps a2 ops :: L) := fun s => Sep.closeDsk s.drop
 simp only [not_bool, kv_some, pickV_bool, Bool.false_eq_true, if_false]
 unfold beginV
 cases hc : clientB id with
 | false =>
  simp only [Bool.not_false, gdV_bool, Bool.true_eq_false, if_false, kv_some, Bool.false_and, Bool.false_eq_true]
  refine gdC_no (by decide) ?_
  simp only [kv_some, pickV_bool, if_true, gdV_bool, Bool.true_eq_false, if_false, ifV_bool]
  exact ⟨trivial, back s2⟩
 | true =>
 simp only [Bool.not_true, gdV_bool, if_true, kv_some]
 obtain ⟨fo, qo⟩ := s2.memP (A := plOps a2 ops) (by simp)
 refine gdC_yes rfl (cl_then (op_All oe qo hl hz) ?_)
 rintro r h3 ⟨rfl, m3⟩
 have s3 := s2.skip m3
 clear s2 qo
 simp only [not_bool, kv_some, pickV_bool, Bool.false_eq_true, if_false]
 cases ha : allO ops with
 | false =>
  simp only [Bool.not_false, gdV_bool, Bool.true_eq_false, if_false, kv_some, Bool.and_false, Bool.false_and, Bool.false_eq_true, pickV_bool, if_true, ifV_bool]
  exact ⟨trivial, back s3⟩
 | true =>
 have r1 : h3.rd bi 1 = some (i64 id.seq) := by rw [rd_of s3.get 1]; rfl
 have r0 : h3.rd bi 0 = some (i64 id.client) := by rw [rd_of s3.get 0]; rfl
 have gb := Sep.get s3.up1
 have b1 : h3.rd b 1 = some (.map (some ml)) := by rw [rd_of gb 1]; rfl
 have b2 : h3.rd b 2 = some (.map (some mo)) := by rw [rd_of gb 2]; rfl
 simp only [Bool.not_true, gdV_bool, if_true, fieldAddr_ptr, kv_some, ld_one, Nat.zero_add, r1, r0, aNil_ptr, b1, Sep.lookL s3.up2 id.client, bin_leq, pickV_bool, Bool.false_eq_true, if_false, ifV_bool, decide_eq_true_eq]
 by_cases hq : id.seq ≤ (lkp id.client d.last).getD 0
 · rw [if_pos hq]
   have : ¬ (lkp id.client d.last).getD 0 < id.seq := by omega
   simp only [this, decide_false, Bool.and_false, Bool.false_eq_true, if_false]
   exact ⟨trivial, back s3⟩
 rw [if_neg hq]
 have hq' : (lkp id.client d.last).getD 0 < id.seq := by omega
 simp only [hq', decide_true, Bool.and_self, if_true]
 obtain ⟨h4, e4, s4⟩ := Sep.insM (D := kdInt) (A := lsV) (k := id.client) (v := i64 id.seq) (x := id.seq) (z := .int .i64 0) (Sep.up1 (Sep.mkPure (φ := (i64 id.seq : V) = i64 id.seq) rfl s3.up2))
 have e4 : mapUpdateD (some (.int, (some (.int .i64 0)))) (.map (some ml)) (i64 id.client) (i64 id.seq) h3 = some h4 := e4
 rw [e4, kH_some]
 have gb4 := Sep.get (s4.re6 [2] rfl)
 have c2 : h4.rd b 2 = some (.map (some mo)) := by rw [rd_of gb4 2]; rfl
 have c0 : h4.rd b 0 = some (i64 d.n) := by rw [rd_of gb4 0]; rfl
 have i4 : ldD (.agg 2) (ptr bi 0) h4 = some id.agg := ld2 (Sep.get s4.up1)
 have c2' : ldD .one (ptr b 2) h4 = some (.map (some mo)) := by rw [ld_one]; exact c2
 have c0' : ldD .one (ptr b 0) h4 = some (i64 d.n) := by rw [ld_one]; exact c0
 simp only [aNil_ptr, kv_some, fieldAddr_ptr, Nat.zero_add, c2, c0, i4]
 have hal := allF ha
 have hz9 : ∀ o ∈ ops, o.space.size ≤ 1000000000 := fun o ho => by
  have := hz o ho
  have h20 := (mayF (hal.2.2 o ho)).sp.2
  omega
 have hnn : d.n.toNat = nn := by rw [hd]; rfl
 rw [hnn, hd]
 rw [hd] at s4
 have s5 : Sep F h4 (plBox bi (cId id) 2 :: plBox b [i64 (nn : Nat), .map (some ml), .map (some mo), .map (some mk)] 4 :: plOps a2 ops :: plGM kdId trV mo d.opn :: plGM kdInt lsV ml (ins id.client id.seq d.last) :: plGM kdInt anV mk d.kept :: L) := s4.re6 [1, 2, 5, 3, 0, 4] rfl
 refine begin_tree hn (by omega) hz9 s5 ?_
 intro h' s'
 exact ⟨trivial, s'⟩
end Go.Abs
namespace Go.Abs
open Go Go.Proofs
variable {E : FE} {F : Fr} {h : AHeap} {L : List Pl}
theorem shard_Now {p : V} {me n now : Int} (s : Sep F h (plShd p me n now :: L)) : cl (Go.Abs.F.shard_Shard_Now E) [p] h fun r h' => h' = h ∧ r = i64 now := by
 refine cl_of ?_
 obtain ⟨b, v, d, rfl, s0⟩ := s.openShd
 have r2 : h.rd b 2 = some (i64 now) := by rw [rd_of s0.get 2]; rfl
 simp only [Go.Abs.F.shard_Shard_Now, ptr_eq_nil, kv_some, ifV_bool, Bool.false_eq_true, if_false, aNil_ptr, fieldAddr_ptr, ld_one, Nat.zero_add, r2]
 exact ⟨trivial, trivial⟩
theorem Sep.lookO {mo : Nat} {l : List (IdM × TransM)} (s : Sep F h (plGM kdId trV mo l :: L)) (id : IdM) :
 ∃ w, lookupD (some ((.struct false [(0, .int), (1, .int)]), (some (.pointer none)))) (.map (some mo)) id.agg false h = some w ∧ binD (.ptr true) .eql true w (.pointer none) h = some (.bool (lkp id l).isNone) := by
 cases hk : Go.Abs.lkp id l with
 | none => exact ⟨nil, s.lookNone (z := nil) hk false, nil_eq_nil ..⟩
 | some x =>
  obtain ⟨w, h1, s1⟩ := s.lookSome (z := nil) hk false
  obtain ⟨b, _, _, _, _, _, rfl, _⟩ := Sep.openTr (t := x) s1
  exact ⟨_, h1, ptr_eq_nil ..⟩
def staleV (d : DeskM) (id : IdM) : Bool := clientB id && decide (id.seq ≤ (lkp id.client d.last).getD 0) && (lkp id d.opn).isNone
end Go.Abs
namespace Go.Abs
open Go Go.Proofs
variable {d : DeskM} {id : IdM} {ops : List Oq}
theorem beginV_fst (ha : allO ops = true) : (beginV d id ops).1 = (clientB id && decide ((lkp id.client d.last).getD 0 < id.seq)) := by
 unfold beginV
 rw [ha, Bool.and_true]
 split
 · rename_i h; rw [h]
 · rename_i h; simpa using h
theorem beginV_n : (beginV d id ops).2.n = d.n ∧ (beginV d id ops).2.kept = d.kept := by
 unfold beginV
 split <;> exact ⟨rfl, rfl⟩
theorem beginV_last : (lkp id.client (beginV d id ops).2.last).getD 0 = if (beginV d id ops).1 = true then id.seq else (lkp id.client d.last).getD 0 := by
 unfold beginV
 split
 · simp only [if_true, lkp_ins, Option.getD_some]
 · simp only [Bool.false_eq_true, if_false]
theorem stale_next {c : Int} : staleV d ⟨c, (lkp c d.last).getD 0 + 1⟩ = false := by
 unfold staleV
 have : ¬ (lkp c d.last).getD 0 + 1 ≤ (lkp c d.last).getD 0 := by omega
 simp [this]
theorem get_ak : allO [⟨3, ⟨#[97]⟩, ⟨#[107]⟩, ⟨#[]⟩, 0⟩] = true := by decide
end Go.Abs
namespace Go.Abs
open Go Go.Proofs
variable {E : FE} {F : Fr} {h : AHeap} {L : List Pl}
theorem Sep.litInts (s : Sep F h L) (l : List Int) (hl : l ≠ []) : Sep F (h.new (.cells (dInt.flat l) 1 .rw)) (plI64s (.slice (some ⟨h.next, 0, none⟩) l.length (2 * l.length)) l :: L) :=
 s.alloc (a' := [h.next]) (plI64s (.slice (some ⟨h.next, 0, none⟩) l.length (2 * l.length)) l) ⟨by simp, fun x hx _ => by
  have : x ≠ h.next := by omega
  simp [this], by simp, by simp⟩ (SlE.lit dInt h l hl)
theorem Sep.litStrs (s : Sep F h L) (l : List ByteArray) (hl : l ≠ []) : Sep F (h.new (.cells (dStr.flat l) 1 .rw)) (plStrs (.slice (some ⟨h.next, 0, none⟩) l.length (2 * l.length)) l :: L) :=
 s.alloc (a' := [h.next]) (plStrs (.slice (some ⟨h.next, 0, none⟩) l.length (2 * l.length)) l) ⟨by simp, fun x hx _ => by
  have : x ≠ h.next := by omega
  simp [this], by simp, by simp⟩ (ts_sle.2 (SlE.lit dStr h l hl))
theorem Sep.noStrs (s : Sep F h L) : Sep F h (plStrs (.slice none 0 0) [] :: L) := s.alloc (a' := []) (plStrs (.slice none 0 0) []) (Mod.refl (by simp)) Sl.nil
theorem rec_build (k : Int) (t u : Tri) :
 buildD (.struct [(.int .i64 0), (.slice none 0 0), (.slice none 0 0)] [(0, 1), (1, 1), (2, 1)]) [(0, i64 k), (1, mkS t)] = some (.agg #[i64 k, mkS t, .slice none 0 0]) ∧
 buildD (.struct [(.int .i64 0), (.slice none 0 0), (.slice none 0 0)] [(0, 1), (1, 1), (2, 1)]) [(0, i64 k), (1, mkS t), (2, mkS u)] = some (.agg #[i64 k, mkS t, mkS u]) := ⟨rfl, rfl⟩
theorem clock1 (now x : Int) : clockV now [x] [] = if x ≤ 1099511627776 then max now x else now := rfl
theorem clock2 (now x y : Int) : clockV now [x, y] [] = now := rfl
theorem clock3 (now x : Int) (t : ByteArray) : clockV now [x] [t] = now := rfl
end Go.Abs
namespace Go.Abs
open Go Go.Proofs
variable {E : FE} {F : Fr} {h : AHeap} {L : List Pl}
theorem ret4 {b : Nat} {c0 c1 c2 c3 x0 x1 x2 x3 : V} (s : Sep F h (plBox b [c0, c1, c2, c3] 4 :: L)) (h0 : oneCell x0 = true) (h1 : oneCell x1 = true) (h2 : oneCell x2 = true) (h3 : oneCell x3 = true) {K : V → AHeap → Prop}
 (hK : ∀ h', Sep F h' (plBox b [x0, x1, x2, x3] 4 :: L) → K (.agg #[x0, x1, x2, x3]) h') : kH (stD (some 4) (ptr b 0) (.agg #[x0, x1, x2, x3]) h) fun _ h => kv (ldD (.agg 4) (ptr b 0) h) fun r => K r h := by
 rw [st_of (n := 4) (vs := [x0, x1, x2, x3]) s.get (by simp) rfl rfl (by simp [h0, h1, h2, h3]) (by simp), kH_some]
 have s1 := s.write (cs' := setList [c0, c1, c2, c3] 0 [x0, x1, x2, x3])
 have e : setList [c0, c1, c2, c3] 0 [x0, x1, x2, x3] = [x0, x1, x2, x3] := rfl
 rw [e] at s1 ⊢
 rw [ld_agg, rdN_of s1.get]
 exact hK _ s1
end Go.Abs
namespace Go.Abs
open Go Go.Proofs
section
variable {κ α : Type} [DecidableEq κ] {D : KD κ} {A B : κ → V → α → Pl} {F : Fr} {h : AHeap} {L : List Pl} {m : Nat} {z : V} {l : List (κ × α)}
end
variable {E : FE} {F : Fr} {h : AHeap} {L : List Pl}
theorem Sep.openAns {v : V} {l : List AnsM} (s : Sep F h (plAns v l :: L)) : ∃ qs : List (AnsM × Tri), qs.map (·.1) = l ∧ Sep F h (plRow rdAn v qs :: L) := by
 obtain ⟨qs, s⟩ := s.ex
 have s1 := s.all
 obtain ⟨e, s2⟩ := Sep.pure (L := plRow rdAn v qs :: L) s1
 exact ⟨qs, e, s2⟩
theorem Sep.closeAns {v : V} {qs : List (AnsM × Tri)} (s : Sep F h (plRow rdAn v qs :: L)) : Sep F h (plAns v (qs.map (·.1)) :: L) :=
 Sep.mkEx (A := fun (q : List (AnsM × Tri)) => plAll [plPure (q.map (·.1) = qs.map (·.1)), plRow rdAn v q]) qs
  (Sep.mkAll (L' := [plPure (qs.map (·.1) = qs.map (·.1)), plRow rdAn v qs]) (Sep.mkPure rfl s))
theorem Sep.lookK {mk : Nat} {l : List (Int × List AnsM)} (s : Sep F h (plGM kdInt anV mk l :: L)) (c : Int) :
 ∃ (w : V) (B : Int → V → List AnsM → Pl), lookupD (some (.int, (some (.slice none 0 0)))) (.map (some mk)) (i64 c) false h = some w ∧ Sep F h (plAns w ((lkp c l).getD []) :: plGM kdInt B mk l :: L) ∧
  (∀ k' v' x', k' ≠ c → B k' v' x' = anV k' v' x') ∧ ∀ {g : AHeap} {L' : List Pl}, Sep F g (plAns w ((lkp c l).getD []) :: plGM kdInt B mk l :: L') → Sep F g (plGM kdInt anV mk l :: L') := by
 cases hk : Go.Abs.lkp c l with
 | none =>
  refine ⟨.slice none 0 0, anV, s.lookNone (D := kdInt) (z := .slice none 0 0) hk false, Sep.closeAns (qs := []) s.rowNil, fun _ _ _ _ => rfl, fun s' => s'.drop⟩
 | some x =>
  obtain ⟨w, h1, s1⟩ := s.lookSome (D := kdInt) (z := .slice none 0 0) hk false
  refine ⟨w, holeP c w anV, h1, s1, fun k' v' x' hn => by simp only [holeP, if_neg hn], fun {g L'} s' => ?_⟩
  have s2 := Sep.backM (A := anV) (k := c) (v := w) (x' := x) s' hk
  rwa [ins_same hk] at s2
def plAn1 (v : V) (a : AnsM) : Pl := plEx fun (t : Tri) => plAll [plPure (v = .agg #[i64 a.id.client, i64 a.id.seq, i64 a.err, mkS t]), plStrs (mkS t) a.vals]
theorem Sep.mkAn1 {a : AnsM} {t : Tri} (s : Sep F h (plStrs (mkS t) a.vals :: L)) : Sep F h (plAn1 (.agg #[i64 a.id.client, i64 a.id.seq, i64 a.err, mkS t]) a :: L) :=
 Sep.mkEx (A := fun (u : Tri) => plAll [plPure ((.agg #[i64 a.id.client, i64 a.id.seq, i64 a.err, mkS t] : V) = .agg #[i64 a.id.client, i64 a.id.seq, i64 a.err, mkS u]), plStrs (mkS u) a.vals]) t
  (Sep.mkAll (L' := [plPure ((.agg #[i64 a.id.client, i64 a.id.seq, i64 a.err, mkS t] : V) = .agg #[i64 a.id.client, i64 a.id.seq, i64 a.err, mkS t]), plStrs (mkS t) a.vals]) (Sep.mkPure rfl s))
theorem Sep.openAn1 {v : V} {a : AnsM} (s : Sep F h (plAn1 v a :: L)) : ∃ t, v = .agg #[i64 a.id.client, i64 a.id.seq, i64 a.err, mkS t] ∧ Sep F h (plStrs (mkS t) a.vals :: L) := by
 obtain ⟨t, s⟩ := s.ex
 have s1 := s.all
 obtain ⟨e, s2⟩ := Sep.pure (L := plStrs (mkS t) a.vals :: L) s1
 exact ⟨t, e, s2⟩
def noAns : AnsM := ⟨⟨0, 0⟩, 0, []⟩
def answerV (d : DeskM) (id : IdM) : AnsM × Bool :=
 match ((lkp id.client d.kept).getD []).find? (fun a => decide (a.id = id)) with
 | some a => (a, true)
 | none => if staleV d id then (⟨id, 5, []⟩, true) else (noAns, false)
set_option maxHeartbeats 1000000 in
theorem desk_Answer {p : V} {d : DeskM} (id : IdM) (hsz : ((lkp id.client d.kept).getD []).length ≤ 1000000) (hv : ∀ a ∈ (lkp id.client d.kept).getD [], a.vals.length ≤ 1000000) (s : Sep F h (plDsk p d :: L)) :
 cl (Go.Abs.F.desk_Desk_Answer E) [p, id.agg] h fun r h' => ∃ v, r = .tuple #[v, .bool (answerV d id).2] ∧ Sep F h' (plAn1 v (answerV d id).1 :: plDsk p d :: L) := by
 refine cl_of ?_
 obtain ⟨b, ml, mo, mk, rfl, s0⟩ := s.openDsk
 clear s
 simp only [Go.Abs.F.desk_Desk_Answer, new2, kP_some]
 have s1 := s0.box (cId id) 2
 clear s0
 generalize h.new (.cells (cId id) 2 .rw) = h1 at s1 ⊢
 generalize h.next = bi at s1 ⊢
 have e2 : ∀ g : AHeap, newD none (.agg #[(.int .i64 0), (.int .i64 0), (.int .i64 0), (.slice none 0 0)]) g = some (ptr g.next 0, g.new (.cells [i64 0, i64 0, i64 0, .slice none 0 0] 4 .rw)) := fun _ => rfl
 rw [e2, kP_some]
 have s2 := s1.box [i64 0, i64 0, i64 0, .slice none 0 0] 4
 clear s1
 generalize h1.new (.cells [i64 0, i64 0, i64 0, .slice none 0 0] 4 .rw) = h2 at s2 ⊢
 generalize h1.next = ba at s2 ⊢
 have gb := Sep.get s2.up2
 have b3 : h2.rd b 3 = some (.map (some mk)) := by rw [rd_of gb 3]; rfl
 have i0 : h2.rd bi 0 = some (i64 id.client) := by rw [rd_of (Sep.get s2.up1) 0]; rfl
 obtain ⟨w, B, lk, s3, _, back⟩ := Sep.lookK (s2.re6 [5, 0, 1, 2, 3, 4] rfl) id.client
 have hans : ∀ K : List AnsM, K = (lkp id.client d.kept).getD [] → answerV d id = match K.find? (fun a => decide (a.id = id)) with | some a => (a, true) | none => if staleV d id then (⟨id, 5, []⟩, true) else (noAns, false) := fun K hK => by rw [hK]; rfl
 generalize (lkp id.client d.kept).getD [] = ks at s3 back hsz hv hans
 have hans := hans ks rfl
 obtain ⟨qs, rfl, s4⟩ := s3.openAns
 have hl := s4.rowLen
 rw [List.length_map] at hsz
 simp only [ptr_eq_nil, kv_some, ifV_bool, Bool.false_eq_true, if_false, aNil_ptr, fieldAddr_ptr, ld_one, Nat.zero_add, b3, i0, lk, hl]
 refine ⟨fun n vs h' => ∃ i : Nat, vs = [i64 i] ∧ n = qs.length - i ∧ i ≤ qs.length ∧ (∀ e ∈ qs.take i, e.1.id ≠ id) ∧ Sep F h' (plRow rdAn w qs :: plGM kdInt B mk d.kept :: plBox ba [i64 0, i64 0, i64 0, .slice none 0 0] 4 :: plBox bi (cId id) 2 :: plBox b [i64 d.n, .map (some ml), .map (some mo), .map (some mk)] 4 :: plGM kdInt lsV ml d.last :: plGM kdId trV mo d.opn :: L),
  qs.length, ⟨0, rfl, by omega, by omega, by simp, s4⟩, ?_⟩
 clear s2 s3 s4 gb b3 i0 lk hl
 rintro n e g1 ⟨i, he, rfl, hi, hne, z1⟩
 simp only [List.cons.injEq, and_true] at he
 simp only [he, bin_lss, kv_some, ifV_bool, decide_eq_true_eq]
 by_cases hx : i < qs.length
 · rw [if_pos (show ((i : Nat) : Int) < (qs.length : Nat) by omega)]
   have hg : qs[i]? = some qs[i] := List.getElem?_eq_getElem hx
   obtain ⟨bq, oq, a1, a2, _, _⟩ := z1.rowAt hg
   have a1 : indexAddrD (.slice 4) w (i64 (i : Nat)) = some (ptr bq oq) := a1
   have a2 : g1.rdN bq oq 4 = some ((qs[i]).1.cells (qs[i]).2) := a2
   have htk : qs.take (i + 1) = qs.take i ++ [qs[i]] := by rw [List.take_add_one, hg]; rfl
   have hdr : qs = qs.take i ++ qs[i] :: qs.drop (i + 1) := by rw [← List.drop_eq_getElem_cons hx, List.take_append_drop]
   have hvl : (qs[i]).1.vals.length ≤ 1000000 := hv _ (List.mem_map.2 ⟨qs[i], List.getElem_mem hx, rfl⟩)
   have hmem : (plStrs (mkS (qs[i]).2) (qs[i]).1.vals) ∈ qs.flatMap rdAn.I := List.mem_flatMap.2 ⟨qs[i], List.getElem_mem hx, by simp [rdAn]⟩
   generalize qs[i] = q at a2 htk hdr hmem hvl
   obtain ⟨a, t⟩ := q
   rw [a1, kv_some, ld_agg, a2, Option.map_some, kv_some, e2, kP_some]
   have z2 := z1.box [i64 0, i64 0, i64 0, .slice none 0 0] 4
   clear a1 a2
   generalize g1.new (.cells [i64 0, i64 0, i64 0, .slice none 0 0] 4 .rw) = g2 at z2 ⊢
   generalize g1.next = bx at z2 ⊢
   rw [show (a.cells t).toArray = #[i64 a.id.client, i64 a.id.seq, i64 a.err, mkS t] from rfl]
   rw [st_of (n := 4) (vs := [i64 a.id.client, i64 a.id.seq, i64 a.err, mkS t]) z2.get (by simp) rfl rfl rfl (by simp), kH_some]
   have z3 := z2.write (cs' := [i64 a.id.client, i64 a.id.seq, i64 a.err, mkS t])
   rw [show setList [i64 0, i64 0, i64 0, .slice none 0 0] 0 [i64 a.id.client, i64 a.id.seq, i64 a.err, mkS t] = [i64 a.id.client, i64 a.id.seq, i64 a.err, mkS t] from rfl]
   clear z1 z2
   generalize AHeap.put _ _ _ = g3 at z3 ⊢
   have x0 : g3.rdN bx 0 2 = some [i64 a.id.client, i64 a.id.seq] := by rw [rdN_of z3.get]; rfl
   have x3 : g3.rd bx 3 = some (mkS t) := by rw [rd_of z3.get 3]; rfl
   have li : ldD (.agg 2) (ptr bi 0) g3 = some id.agg := ld2 (Sep.get (z3.re5 [4] rfl))
   simp only [fieldAddr_ptr, Nat.zero_add, kv_some, ld_agg 2 bx 0, x0, Option.map_some, li, show (.agg [i64 a.id.client, i64 a.id.seq].toArray : V) = a.id.agg from rfl, id_eq, ifV_bool, decide_eq_true_eq]
   by_cases hid : a.id = id
   case neg =>
    rw [if_neg hid, add_i64 _ 1 (by omega) (by omega), kv_some]
    refine ⟨qs.length - (i + 1), by omega, i + 1, rfl, rfl, by omega, fun e he => ?_, z3.drop⟩
    rw [htk] at he
    rcases List.mem_append.1 he with he | he
    · exact hne e he
    · rw [List.mem_singleton.1 he]; exact hid
   rw [if_pos hid, ld_one, x3, kv_some]
   obtain ⟨ft, qt⟩ := z3.up1.openRow.memP (A := plStrs (mkS t) a.vals) (List.mem_cons_of_mem _ (List.mem_append.2 (.inl hmem)))
   have qt : Ts g3 ft (mkS t) a.vals := qt
   refine cl_then (clone_strs qt hvl) ?_
   rintro r g4 ⟨f4, q4, m4⟩
   have z4 := z3.alloc (plStrs r a.vals) m4 q4
   obtain ⟨t', rfl⟩ := sl_form (ts_sle.1 q4)
   rw [st_one (Sep.get z4.up1) (by simp) rfl rfl (by simp), kH_some]
   have z5 := Sep.write (cs' := [i64 a.id.client, i64 a.id.seq, i64 a.err, mkS t']) z4.up1
   rw [show [i64 a.id.client, i64 a.id.seq, i64 a.err, mkS t].set 3 (mkS t') = [i64 a.id.client, i64 a.id.seq, i64 a.err, mkS t'] from rfl]
   clear z3 z4 qt
   generalize AHeap.put _ _ _ = g5 at z5 ⊢
   rw [ld_agg, rdN_of z5.get, if_pos (by simp), Option.map_some, kv_some]
   have hf : (qs.map (·.1)).find? (fun a => decide (a.id = id)) = some a := by
    rw [hdr, List.map_append, List.find?_append, List.find?_eq_none.2, Option.none_or, List.map_cons, List.find?_cons]
    · simp [hid]
    · intro x hx'
      obtain ⟨e, he, rfl⟩ := List.mem_map.1 hx'
      simpa using hne e he
   rw [hf] at hans
   refine ret4 (z5.re9 [4, 0, 1, 2, 3, 5, 6, 7, 8] rfl) rfl rfl rfl rfl fun g6 z6 => ?_
   rw [hans]
   refine ⟨_, rfl, Sep.mkAn1 (a := a) ?_⟩
   have z7 := back (Sep.closeAns (z6.re9 [3, 4, 2, 6, 7, 8] rfl))
   exact (Sep.closeDsk (z7.re5 [2, 3, 4, 0, 1] rfl)).up1
 rw [if_neg (show ¬ ((i : Nat) : Int) < (qs.length : Nat) by omega)]
 rw [List.take_of_length_le (by omega)] at hne
 have hf : (qs.map (·.1)).find? (fun a => decide (a.id = id)) = none := by
  rw [List.find?_eq_none]
  intro x hx'
  obtain ⟨e, he, rfl⟩ := List.mem_map.1 hx'
  simpa using hne e he
 rw [hf] at hans
 simp only at hans
 have z2 := back (Sep.closeAns z1)
 have z3 := z2.re6 [1, 2, 3, 4, 5, 0] rfl
 clear z1 z2
 rw [ld2 (Sep.get z3.up1), kv_some]
 refine cl_then (op_Client_ok id z3) ?_
 rintro r h4 ⟨rfl, s4⟩
 clear z3
 have gb := Sep.get s4.up2
 have b1 : h4.rd b 1 = some (.map (some ml)) := by rw [rd_of gb 1]; rfl
 have b2 : h4.rd b 2 = some (.map (some mo)) := by rw [rd_of gb 2]; rfl
 have i0 : h4.rd bi 0 = some (i64 id.client) := by rw [rd_of (Sep.get s4.up1) 0]; rfl
 have i1 : h4.rd bi 1 = some (i64 id.seq) := by rw [rd_of (Sep.get s4.up1) 1]; rfl
 have ia : ldD (.agg 2) (ptr bi 0) h4 = some id.agg := ld2 (Sep.get s4.up1)
 have ll := Sep.lookL (s4.re6 [3] rfl) id.client
 obtain ⟨w', lo, we⟩ := Sep.lookO (s4.re6 [4] rfl) id
 have end0 : staleV d id = false → kH (stD (some 4) (ptr ba 0) (.agg #[i64 0, i64 0, i64 0, .slice none 0 0]) h4) fun _ h => kv (ldD (.agg 4) (ptr ba 0) h) fun r53 => ∃ v, (.tuple #[r53, (.bool false)] : V) = .tuple #[v, .bool (answerV d id).2] ∧ Sep F h (plAn1 v (answerV d id).1 :: plDsk (ptr b 0) d :: L) := by
  intro hs
  rw [hans, hs]
  exact ret4 s4 rfl rfl rfl rfl fun g z => ⟨_, rfl, Sep.mkAn1 (a := noAns) (t := (none, 0, 0)) (Sep.noStrs (Sep.closeDsk z.drop.drop))⟩
 have ez : buildD (.struct [(.int .i64 0), (.int .i64 0), (.int .i64 0), (.slice none 0 0)] [(0, 2), (2, 1), (3, 1)]) [] = some (.agg #[i64 0, i64 0, i64 0, .slice none 0 0]) := rfl
 have e5 : buildD (.struct [(.int .i64 0), (.int .i64 0), (.int .i64 0), (.slice none 0 0)] [(0, 2), (2, 1), (3, 1)]) [(0, id.agg), (1, (.int .i64 5))] = some (.agg #[i64 id.client, i64 id.seq, i64 5, .slice none 0 0]) := rfl
 have hst : staleV d id = (clientB id && decide (id.seq ≤ (lkp id.client d.last).getD 0) && (lkp id d.opn).isNone) := rfl
 cases hc : clientB id with
 | false =>
  simp only [gdV_bool, Bool.false_eq_true, if_false, kv_some, pickV_bool, ifV_bool, ez]
  exact end0 (by rw [hst, hc]; rfl)
 | true =>
 simp only [gdV_bool, if_true, fieldAddr_ptr, kv_some, ld_one, Nat.zero_add, i1, i0, aNil_ptr, b1, ll, bin_leq, pickV_bool]
 by_cases hq : id.seq ≤ (lkp id.client d.last).getD 0
 case neg =>
  simp only [hq, decide_false, gdV_bool, Bool.false_eq_true, if_false, kv_some, pickV_bool, ifV_bool, ez]
  exact end0 (by rw [hst, decide_eq_false hq, Bool.and_false]; rfl)
 simp only [hq, decide_true, gdV_bool, if_true, kv_some, aNil_ptr, fieldAddr_ptr, ld_one, Nat.zero_add, b2, ia, lo, we, pickV_bool, ifV_bool]
 cases ho : (lkp id d.opn).isNone with
 | false =>
  simp only [Bool.false_eq_true, if_false, ez, kv_some]
  exact end0 (by rw [hst, ho, Bool.and_false])
 | true =>
  have hs : staleV d id = true := by rw [hst, hc, decide_eq_true hq, ho]; rfl
  simp only [if_true, e5, kv_some]
  rw [hs] at hans
  rw [hans]
  exact ret4 s4 rfl rfl rfl rfl fun g z => ⟨_, rfl, Sep.mkAn1 (a := ⟨id, 5, []⟩) (t := (none, 0, 0)) (Sep.noStrs (Sep.closeDsk z.drop.drop))⟩
end Go.Abs

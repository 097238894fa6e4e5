/- A vault: Decide. -/
import Derived.Test.YtldjlkbjbkielaaGreatDoorVabe
import Derived.Test.YtldjlkbjbkielaaGreatDoorVaaw
import Derived.Test.YtldjlkbjbkielaaGreatDoorVabb
import Derived.Test.YtldjlkbjbkielaaGreatDoorVaat
set_option linter.unusedSimpArgs false
set_option linter.unusedVariables false
namespace Go.Abs
open Go
variable {E : FE} {F : Fr} {h : AHeap} {L : List Pl} {k : Nat} {p : V} {st : VltM}
def blV (_ : ByteArray) (v : V) (x : Bool) : Pl := plPure (v = .bool x)
theorem Sep.lookB {ma : Nat} {l : List (ByteArray × Bool)} (s : Sep F h (plGM kdStr blV ma l :: L)) (n : ByteArray) :
 lookupD (some (.string, (some (.bool false)))) (.map (some ma)) (str n) false h = some (.bool ((lkp n l).getD false)) := by
 cases hk : Go.Abs.lkp n l with
 | none =>
  have h1 := s.lookNone (z := .bool false) hk false
  have h1 : lookupD (some (.string, (some (.bool false)))) (.map (some ma)) (str n) false h = some (.bool false) := h1
  rw [h1]; rfl
 | some x =>
  obtain ⟨w, h1, s1⟩ := s.lookSome (z := .bool false) hk false
  have h1 : lookupD (some (.string, (some (.bool false)))) (.map (some ma)) (str n) false h = some w := h1
  obtain ⟨hw, _⟩ := Sep.pure (φ := w = .bool x) s1
  rw [h1, hw]; rfl
theorem Sep.ofHole {κ α : Type} [DecidableEq κ] {D : KD κ} {A : κ → V → α → Pl} {m : Nat} {l : List (κ × α)} {k : κ} {w : V} (s : Sep F h (plGM D (holeP k w A) m l :: L)) (hk : Go.Abs.lkp k l = none) :
 Sep F h (plGM D A m l :: L) := by
 obtain ⟨t, clk, q, s1⟩ := s.openM
 have ht : ∀ e ∈ t, e.k ≠ k := fun e he hc => by
  have h1 : k ∉ keysL l := lkp_none.1 hk
  exact h1 ((keys_perm q.perm).mem_iff.1 (by rw [absE_keys]; exact List.mem_map.2 ⟨e, he, hc⟩))
 rw [hole_map (v := w) ht] at s1
 exact Sep.closeM q s1
theorem alls_in {v : V} {ks : List KeyM} {ma : Nat} (s : Sep F h (plGM kdStr blV ma [] :: plKs v ks :: L)) (hsz : ks.length ≤ 1000000) {K : AHeap → Prop}
 (hK : ∀ h' l, (∀ n, (lkp n l).getD false = ks.any fun x => decide (x.space = n) && x.all) → Sep F h' (plGM kdStr blV ma l :: plKs v ks :: L) → K h') :
 kv (lenD .slice v h) fun v23 =>
∃ (Inv24 : Nat → List V → AHeap → Prop) (n24 : Nat), Inv24 n24 [(.int .i64 0)] h ∧ ∀ (n24 : Nat) (e24 : Nat → V) (h : AHeap), Inv24 n24 [(e24 39)] h →
kv (binD .bad .lss false (e24 39) v23 h) fun v25 =>
ifV v25 (
kv (indexAddrD (.slice 3) v (e24 39)) fun v26 =>
kv (ldD (.agg 3) v26 h) fun v27 =>
kP (newD none (.agg #[(.string ⟨#[]⟩), (.string ⟨#[]⟩), (.bool false)]) h) fun v28 h =>
kH (stD (some 3) v28 v27 h) fun _ h =>
kv (fieldAddrD (some 0) v28) fun v29 =>
kv (ldD .one v29 h) fun v30 =>
kv (fieldAddrD (some 0) v28) fun v31 =>
kv (ldD .one v31 h) fun v32 =>
kv (lookupD (some (.string, (some (.bool false)))) (.map (some ma)) v32 false h) fun v33 =>
kv (gdV v33 false (fieldAddrD (some 2) v28)) fun v34 =>
kv (gdV v33 false (ldD .one v34 h)) fun v35 =>
kv (pickV v33 (.bool true) v35) fun v36 =>
kH (mapUpdateD (some (.string, (some (.bool false)))) (.map (some ma)) v30 v36 h) fun _ h =>
kv (binD .bad .add true (e24 39) (.int .i64 1) h) fun v37 =>
∃ m, m < n24 ∧ Inv24 m [v37] h) (
K h) := by
 obtain ⟨f0, q0, _⟩ := s.up1.head
 have q0 : SlE dKey h f0 v ks := q0
 rw [q0.len, kv_some]
 refine ⟨fun n vs h' => ∃ (i : Nat) (l : List (ByteArray × Bool)), vs = [i64 i] ∧ n = ks.length - i ∧ i ≤ ks.length ∧ (∀ n, (lkp n l).getD false = (ks.take i).any fun x => decide (x.space = n) && x.all) ∧ Sep F h' (plGM kdStr blV ma l :: plKs v ks :: L),
  ks.length, ⟨0, [], rfl, by omega, by omega, fun n => by simp [lkp], s⟩, ?_⟩
 rintro n e h1 ⟨i, l, he, rfl, hi, hl, s1⟩
 simp only [List.cons.injEq, and_true] at he
 simp only [he, bin_lss, kv_some, ifV_bool, decide_eq_true_eq]
 rcases Nat.lt_or_ge i ks.length with hx | hx
 case inr =>
  rw [if_neg (show ¬ ((i : Nat) : Int) < (ks.length : Nat) by omega)]
  rw [List.take_of_length_le hx] at hl
  exact hK _ _ hl s1
 rw [if_pos (show ((i : Nat) : Int) < (ks.length : Nat) by omega)]
 obtain ⟨f1, q1, _⟩ := s1.up1.head
 have q1 : SlE dKey h1 f1 v ks := q1
 have hg : ks[i]? = some ks[i] := List.getElem?_eq_getElem hx
 obtain ⟨c, i1, i2⟩ := q1.ld hg
 have i1 : indexAddrD (.slice 3) _ _ = _ := i1
 have i2 : ldD (.agg 3) _ _ = some (ks[i]).agg := i2
 have hnext : ∀ n, ((ks.take (i + 1)).any fun x => decide (x.space = n) && x.all) = (((ks.take i).any fun x => decide (x.space = n) && x.all) || (decide (ks[i].space = n) && ks[i].all)) := fun n => by
  rw [List.take_add_one, hg, Option.toList_some, List.any_append, List.any_cons, List.any_nil, Bool.or_false]
 generalize ks[i] = kx at i2 hnext
 simp only [i1, kv_some, i2, newK0, kP_some]
 have s2 := s1.box (dKey.enc ⟨⟨#[]⟩, ⟨#[]⟩, false⟩) 3
 rw [st3 s2.get, kH_some]
 have s3 := s2.write (cs' := dKey.enc kx)
 generalize (h1.new (.cells (dKey.enc ⟨⟨#[]⟩, ⟨#[]⟩, false⟩) 3 .rw)).put h1.next (.cells (dKey.enc kx) 3 .rw) = h3 at s3 ⊢
 generalize h1.next = bk at s3 ⊢
 have r0 : h3.rd bk 0 = some (str kx.space) := by rw [rd_of s3.get 0]; rfl
 have r2 : h3.rd bk 2 = some (.bool kx.all) := by rw [rd_of s3.get 2]; rfl
 simp only [fieldAddr_ptr, kv_some, ld_one, Nat.zero_add, r0, Sep.lookB s3.drop kx.space, gdV_bool, r2]
 have hb : ∀ X : V → Prop, X (.bool ((lkp kx.space l).getD false || kx.all)) → kv (if (lkp kx.space l).getD false = false then some (ptr bk 2) else some gone) fun v51 => kv (if (lkp kx.space l).getD false = false then ldD .one v51 h3 else some gone) fun v52 => kv (pickV (.bool ((lkp kx.space l).getD false)) (.bool true) v52) X := by
  intro X hX
  cases hv : (lkp kx.space l).getD false with
  | true =>
   rw [hv] at hX
   simpa [pickV_bool] using hX
  | false =>
   rw [hv] at hX
   simpa [pickV_bool, r2] using hX
 refine hb _ ?_
 obtain ⟨h4, e4, s4⟩ := Sep.insM (D := kdStr) (A := blV) (k := kx.space) (v := .bool ((lkp kx.space l).getD false || kx.all)) (x := (lkp kx.space l).getD false || kx.all) (z := .bool false) (Sep.up1 (Sep.mkPure (φ := (Value.bool ((lkp kx.space l).getD false || kx.all) : V) = .bool ((lkp kx.space l).getD false || kx.all)) rfl s3.drop))
 have e4 : mapUpdateD (some (.string, (some (.bool false)))) (.map (some ma)) (str kx.space) (.bool ((lkp kx.space l).getD false || kx.all)) h3 = some h4 := e4
 rw [e4, kH_some, add_i64 _ 1 (by omega) (by omega), kv_some]
 refine ⟨ks.length - (i + 1), by omega, i + 1, _, by simp, rfl, by omega, fun n => ?_, s4⟩
 rw [lkp_ins, hnext n, ← hl n]
 by_cases e : kx.space = n
 · rw [if_pos e, e]; simp
 · rw [if_neg e]; simp [e]
set_option maxHeartbeats 1000000 in
theorem vault_Decide (ve : VlE E) (id : IdM) (yes : Bool) (hi : VInv k st) (hk : k ≤ 900) (s : Sep F h (plVlt k p st :: L)) :
 cl (Go.Abs.F.vault_Vault_Decide E) [p, id.agg, .bool yes] h fun r h' => r = .bool (decV st id yes).1 ∧ Sep F h' (plVlt (k + 8) p (decV st id yes).2 :: L) := by
 obtain ⟨E9, hE9⟩ := ve.ord
 have hM := ve.op.mono
 refine cl_of ?_
 obtain ⟨b, ms, a, mp, c, rfl, s0⟩ := s.openVlt
 clear s
 simp only [Go.Abs.F.vault_Vault_Decide, new2, kP_some, ptr_eq_nil, kv_some, gdV_bool, if_true, aNil_ptr, fieldAddr_ptr, ld_one, Nat.zero_add]
 have s1 := s0.box (cId id) 2
 clear s0
 generalize h.new (.cells (cId id) 2 .rw) = h1 at s1 ⊢
 generalize h.next = bi at s1 ⊢
 have r3 : h1.rd b 3 = some c := by rw [rd_of s1.drop.get 3]; rfl
 rw [r3, kv_some, ld2 s1.get, kv_some]
 refine gdC_yes rfl (cl_then (ids_Add id s1.up5) ?_)
 rintro r h2 ⟨rfl, s2⟩
 clear s1 r3
 simp only [not_bool, kv_some, pickV_bool, Bool.false_eq_true, if_false, ifV_bool, Bool.not_not, decide_eq_true_eq]
 rw [decV_eq]
 by_cases hov : id ∈ st.ov
 · rw [if_pos hov, if_pos hov]
   rw [if_pos hov] at s2
   exact ⟨rfl, mono_vlt (Nat.le_add_right k 8) (Sep.closeVlt (s2.re6 [2, 3, 4, 5, 0] rfl))⟩
 rw [if_neg hov, if_neg hov]
 rw [if_neg hov] at s2
 have r2 : h2.rd b 2 = some (.map (some mp)) := by rw [rd_of s2.drop.drop.get 2]; rfl
 rw [r2, kv_some, ld2 s2.drop.get, kv_some]
 cases hk1 : Go.Abs.lkp id st.pt with
 | none =>
  have e1 := s2.up5.lookNone (z := nil) hk1 false
  have e1 : lookupD (some ((.struct false [(0, .int), (1, .int)]), (some (.pointer none)))) (.map (some mp)) id.agg false h2 = some nil := e1
  rw [e1, kv_some]
  simp only [nil_eq_nil, kv_some, ifV_bool, if_true]
  exact ⟨trivial, mono_vlt (Nat.le_add_right k 8) (Sep.closeVlt (st := ({ st with ov := id :: st.ov } : VltM)) (s2.re6 [2, 3, 4, 5, 0] rfl))⟩
 | some x =>
 obtain ⟨w, e1, s3⟩ := s2.up5.lookSome (z := nil) hk1 false
 have e1 : lookupD (some ((.struct false [(0, .int), (1, .int)]), (some (.pointer none)))) (.map (some mp)) id.agg false h2 = some w := e1
 obtain ⟨bp, oa, va, mv, rfl, s4⟩ := Sep.openPart (k := k) (x := x) s3
 clear s2 s3
 rw [e1, kv_some]
 simp only [ptr_eq_nil, kv_some, ifV_bool, Bool.false_eq_true, if_false]
 have em : ∀ h : AHeap, makeMapD true none h = some (.map (some h.next), h.new (.map [] 0)) := fun _ => rfl
 rw [em, kP_some]
 have s5 := s4.newM (D := kdStr) (A := blV)
 clear s4 e1 r2
 generalize h2.new (.map [] 0) = h3 at s5 ⊢
 generalize h2.next = ma at s5 ⊢
 have r1 : h3.rd b 1 = some a := by rw [rd_of (Sep.get (s5.re11 [8] rfl)) 1]; rfl
 rw [r1, kv_some, ld2 (Sep.get (s5.re11 [7] rfl)), kv_some]
 have hnlk := hi.nlk
 have hfew := hi.few id
 refine cl_then (lock_Has hM hE9 id (s5.re11 [10, 0, 1, 2, 3, 4, 5, 6, 7, 8, 9] rfl) (by omega) (by omega)) ?_
 rintro kv_ h4 ⟨ks, hks, hkl, s6⟩
 clear s5 r1
 refine alls_in (s6.re12 [2, 0, 1, 3, 4, 5, 6, 7, 8, 9, 10, 11] rfl) (by omega) fun h5 la hla s7 => ?_
 clear s6
 have hal : ∀ n, (lkp n la).getD false = allOf st.lk id n := fun n => by
  rw [hla n, Bool.eq_iff_iff]
  unfold allOf
  rw [List.any_eq_true, List.any_eq_true]
  constructor
  · rintro ⟨y, h1, h2⟩
    exact ⟨(y, id), (hks y).1 h1, by simpa using h2⟩
  · rintro ⟨y, h1, h2⟩
    simp only [Bool.and_eq_true, decide_eq_true_eq] at h2
    obtain ⟨⟨h3, h4⟩, h5⟩ := h2
    exact ⟨y.1, (hks y.1).2 (by rw [← h3]; exact h1), by simp [h4, h5]⟩
 have r1 : h5.rd b 1 = some a := by rw [rd_of (Sep.get (s7.re12 [10] rfl)) 1]; rfl
 rw [r1, kv_some, ld2 (Sep.get (s7.re12 [9] rfl)), kv_some]
 refine cl_then (lock_Free hM hE9 id (s7.re12 [2, 0, 3, 4, 5, 6, 7, 8, 9, 10, 11] rfl) (by omega) (by omega)) ?_
 rintro r h6 ⟨_, s8⟩
 clear s7 r1
 have r2 : h6.rd b 2 = some (.map (some mp)) := by rw [rd_of (Sep.get (s8.re11 [9] rfl)) 2]; rfl
 rw [r2, kv_some, ld2 (Sep.get (s8.re11 [8] rfl)), kv_some]
 obtain ⟨h7, e7, s9⟩ := Sep.delM (D := kdId) (k := id) (z := nil) (s8.re11 [6, 0, 1, 2, 3, 5, 7, 8, 9, 10] rfl)
 have e7 : deleteD (some ((.struct false [(0, .int), (1, .int)]), (some (.pointer none)))) (.map (some mp)) id.agg h6 = some h7 := e7
 have s9 := Sep.ofHole s9 (by rw [lkp_rmv hi.dpt, if_pos rfl])
 clear s8 r2
 rw [e7, kH_some]
 have r3 : h7.rd bp 3 = some (.map (some mv)) := by rw [rd_of (Sep.get (s9.re10 [3] rfl)) 3]; rfl
 rw [aNil_ptr, kv_some, fieldAddr_ptr, kv_some, ld_one, Nat.zero_add, r3, kv_some]
 have hpm := lkp_mem hk1
 obtain ⟨t, clk, q, s10⟩ := Sep.openM (s9.re10 [5, 9, 2, 8, 3, 4, 1, 0, 6] rfl)
 have htl : t.length = x.view.length := by have := q.perm.length_eq; simpa [absE] using this
 have htk : (t.map (·.k)).Nodup := by rw [← absE_keys]; exact q.ndt
 clear s9 r3 e7
 refine Sep.range s10 (fun it h8 s11 => ?_)
 clear s10
 refine ⟨fun n vs h' => ∃ td rem seen, vs = [] ∧ n = t.length - td.length ∧ SeenT t td seen ∧ t.Perm (td ++ rem) ∧
  Sep F h' (plIter it mv clk seen :: plMap mv (t.map (Et.m kdStr)) clk :: (rem.map (Et.p (vwV k)) ++ plGM kdStr (spV (k + ((td.map fun e => onN e.k x.ops).sum))) ms (if yes = true then laysA x (allOf st.lk id) (absE td) st.sp else st.sp) :: plGM kdStr blV ma la ::
   plBox b [.map (some ms), a, .map (some mp), c] 4 :: plBox bp [oa, va, i64 x.now, .map (some mv)] 4 :: plOps oa x.ops :: plLk a (freeL id st.lk) :: plGM kdId (ptV k) mp (rmv id st.pt) :: plIds c (id :: st.ov) :: L)),
  t.length, ⟨[], t, #[], rfl, rfl, SeenT.nil t, by simp, by
   have e0 : (if yes = true then laysA x (allOf st.lk id) (absE []) st.sp else st.sp) = st.sp := by split <;> rfl
   rw [e0]; exact s11⟩, ?_⟩
 clear s11
 rintro n e0 h9 ⟨td, rem, seen, _, rfl, hs, hpr, s12⟩
 have tdk : (td.map (·.k)).Nodup := by
  have := (hpr.map (·.k)).nodup_iff.1 htk
  rw [List.map_append, List.nodup_append] at this
  exact this.1
 refine Sep.nextT s12 q.lt q.bn hs (fun e he hne h10 s13 hs5 hent hlen => ?_) (fun hperm => ?_)
 · simp only [extract_tuple, List.getElem?_toArray, List.getElem?_cons_zero, List.getElem?_cons_succ, kv_some, ifV_bool, if_true]
   rw [hent, kV_some]
   simp only [extract_tuple, List.getElem?_toArray, List.getElem?_cons_zero, List.getElem?_cons_succ, kv_some]
   have hrem : e ∈ rem := by
    rcases List.mem_append.1 (hpr.mem_iff.1 he) with h | h
    · exact absurd h hne
    · exact h
   obtain ⟨r1, r2, hr⟩ := List.append_of_mem hrem
   have hpr' : t.Perm ((td ++ [e]) ++ (r1 ++ r2)) := by
    rw [hr] at hpr
    refine hpr.trans ?_
    rw [List.append_assoc, List.singleton_append]
    exact List.Perm.append_left _ List.perm_middle
   have hkn : e.k ∉ td.map (·.k) := by
    have := (hpr'.map (·.k)).nodup_iff.1 htk
    rw [List.map_append, List.map_append, List.nodup_append] at this
    have h2 := this.1
    rw [List.nodup_append] at h2
    intro hm
    exact h2.2.2 _ hm e.k (by simp) rfl
   have hsum : ((td ++ [e]).map fun e => onN e.k x.ops).sum = (td.map fun e => onN e.k x.ops).sum + onN e.k x.ops := by simp
   have s14 : Sep F h10 (vwV k e.k e.v e.x :: plIter it mv clk (seen.push e.b) :: plMap mv (t.map (Et.m kdStr)) clk :: ((r1 ++ r2).map (Et.p (vwV k)) ++ plGM kdStr (spV (k + ((td.map fun e => onN e.k x.ops).sum))) ms (if yes = true then laysA x (allOf st.lk id) (absE td) st.sp else st.sp) :: plGM kdStr blV ma la ::
    plBox b [.map (some ms), a, .map (some mp), c] 4 :: plBox bp [oa, va, i64 x.now, .map (some mv)] 4 :: plOps oa x.ops :: plLk a (freeL id st.lk) :: plGM kdId (ptV k) mp (rmv id st.pt) :: plIds c (id :: st.ov) :: L)) := by
    refine s13.perm ?_
    rw [hr]
    simp only [List.map_append, List.map_cons, List.append_assoc, List.cons_append]
    refine (List.Perm.trans ?_ (List.perm_middle (l₁ := [plIter it mv clk (seen.push e.b), plMap mv (t.map (Et.m kdStr)) clk])))
    exact List.Perm.append_left [plIter it mv clk (seen.push e.b), plMap mv (t.map (Et.m kdStr)) clk] List.perm_middle
   clear s13 s12
   cases yes with
   | false =>
    simp only [Bool.false_eq_true, if_false] at s14 ⊢
    refine ⟨t.length - (td.length + 1), by omega, td ++ [e], r1 ++ r2, _, trivial, by simp, hs5, hpr', ?_⟩
    rw [hsum]
    have s15 := s14.drop
    have s16 : Sep F h10 (plGM kdStr (spV (k + ((td.map fun e => onN e.k x.ops).sum))) ms st.sp :: plIter it mv clk (seen.push e.b) :: plMap mv (t.map (Et.m kdStr)) clk :: ((r1 ++ r2).map (Et.p (vwV k)) ++ plGM kdStr blV ma la ::
     plBox b [.map (some ms), a, .map (some mp), c] 4 :: plBox bp [oa, va, i64 x.now, .map (some mv)] 4 :: plOps oa x.ops :: plLk a (freeL id st.lk) :: plGM kdId (ptV k) mp (rmv id st.pt) :: plIds c (id :: st.ov) :: L)) :=
     s15.perm (List.perm_middle (l₁ := plIter it mv clk (seen.push e.b) :: plMap mv (t.map (Et.m kdStr)) clk :: ((r1 ++ r2).map (Et.p (vwV k)))))
    have s17 := Sep.monoM (mono_sp (show k + ((td.map fun e => onN e.k x.ops).sum) ≤ k + ((td.map fun e => onN e.k x.ops).sum + onN e.k x.ops) by omega)) s16
    exact s17.perm (List.perm_middle (l₁ := plIter it mv clk (seen.push e.b) :: plMap mv (t.map (Et.m kdStr)) clk :: ((r1 ++ r2).map (Et.p (vwV k))))).symm
   | true =>
    simp only [if_true] at s14 ⊢
    have s15 := mono_vw (Nat.le_add_right k ((td.map fun e => onN e.k x.ops).sum)) _ _ _ _ _ _ s14
    generalize hS : (td.map fun e => onN e.k x.ops).sum = S at s14 s15 hsum ⊢
    clear s14
    have s16 : Sep F h10 (plGM kdStr (spV (k + S)) ms (laysA x (allOf st.lk id) (absE td) st.sp) :: plGM kdStr blV ma la :: plBox b [.map (some ms), a, .map (some mp), c] 4 :: plBox bp [oa, va, i64 x.now, .map (some mv)] 4 :: plOps oa x.ops :: plLk a (freeL id st.lk) :: plGM kdId (ptV k) mp (rmv id st.pt) :: plIds c (id :: st.ov) ::
     vwV (k + S) e.k e.v e.x :: plIter it mv clk (seen.push e.b) :: plMap mv (t.map (Et.m kdStr)) clk :: ((r1 ++ r2).map (Et.p (vwV k)) ++ L)) := by
     refine s15.perm ?_
     exact List.perm_append_comm_assoc (vwV (k + S) e.k e.v e.x :: plIter it mv clk (seen.push e.b) :: plMap mv (t.map (Et.m kdStr)) clk :: ((r1 ++ r2).map (Et.p (vwV k))))
      [plGM kdStr (spV (k + S)) ms (laysA x (allOf st.lk id) (absE td) st.sp), plGM kdStr blV ma la, plBox b [.map (some ms), a, .map (some mp), c] 4, plBox bp [oa, va, i64 x.now, .map (some mv)] 4, plOps oa x.ops, plLk a (freeL id st.lk), plGM kdId (ptV k) mp (rmv id st.pt), plIds c (id :: st.ov)] L
    clear s15
    rw [show kdStr.enc e.k = str e.k from rfl, Sep.lookB s16.up1 e.k, kv_some, hal e.k]
    have hlx : lkp e.k (laysA x (allOf st.lk id) (absE td) st.sp) = lkp e.k st.sp := by
     rw [laysA_lkp x _ _ hi.dsp (by rw [absE_keys]; exact tdk), lkp_none.2 (by rw [absE_keys]; exact hkn)]
    have hev : (e.k, e.x) ∈ x.view := q.perm.mem_iff.1 (List.mem_map.2 ⟨e, he, rfl⟩)
    have hmay := allF (hi.may _ hpm)
    refine cl_then (vault_lays (allOf st.lk id e.k) he q (fun hf => ?_) (fun o ho => ?_) hmay.2.1 (s16.re11 [8, 0, 10, 2, 3, 4, 9, 1, 5, 6, 7] rfl)) ?_
    · rw [hlx]
      exact hi.tab _ hpm _ hev (not_all hi hpm hf)
    · have := (mayF (hmay.2.2 o ho)).key
      simp only [maxLen]
      omega
    · intro r h11 s17
      refine ⟨t.length - (td.length + 1), by omega, td ++ [e], r1 ++ r2, _, trivial, by simp, hs5, hpr', ?_⟩
      have hla2 : laysA x (allOf st.lk id) (absE (td ++ [e])) st.sp = laysV x (allOf st.lk id e.k) e.k e.x (laysA x (allOf st.lk id) (absE td) st.sp) := by
       unfold laysA absE
       rw [List.map_append, List.foldl_append]
       rfl
      rw [hsum, hla2, ← Nat.add_assoc]
      have s18 : Sep F h11 ([plIter it mv clk (seen.push e.b), plMap mv (t.map (Et.m kdStr)) clk] ++ ([plGM kdStr (spV (k + S + onN e.k x.ops)) ms (laysV x (allOf st.lk id e.k) e.k e.x (laysA x (allOf st.lk id) (absE td) st.sp)), plGM kdStr blV ma la, plBox b [.map (some ms), a, .map (some mp), c] 4, plBox bp [oa, va, i64 x.now, .map (some mv)] 4, plOps oa x.ops, plLk a (freeL id st.lk), plGM kdId (ptV k) mp (rmv id st.pt), plIds c (id :: st.ov)] ++ ((r1 ++ r2).map (Et.p (vwV k)) ++ L))) := s17.re10 [5, 1, 0, 6, 2, 3, 4, 7, 8, 9] rfl
      exact s18.perm (List.Perm.append_left _ (List.perm_append_comm_assoc _ ((r1 ++ r2).map (Et.p (vwV k))) L))
 · simp only [extract_tuple, List.getElem?_toArray, List.getElem?_cons_zero, List.getElem?_cons_succ, kv_some, ifV_bool, Bool.false_eq_true, if_false]
   have hrem : rem = [] := by
    have h1 := hperm.length_eq
    have h2 := hpr.length_eq
    rw [List.length_append] at h2
    exact List.eq_nil_of_length_eq_zero (by omega)
   subst hrem
   simp only [List.map_nil, List.nil_append] at s12
   have hS : (td.map fun e => onN e.k x.ops).sum ≤ 8 := by
    have h1 := onN_sum x.ops tdk
    rw [List.map_map] at h1
    have h2 := hi.ops8 _ hpm
    have h2 : x.ops.length ≤ 8 := h2
    have h3 : (td.map ((fun n => onN n x.ops) ∘ fun e => e.k)) = td.map fun e => onN e.k x.ops := rfl
    rw [h3] at h1
    omega
   have hab : (absE td).Perm x.view := ((hperm.map _).symm).trans q.perm
   have hvn : (keysL (absE td)).Nodup := by rw [absE_keys]; exact tdk
   have s13 : Sep F h9 (plGM kdStr (spV (k + 8)) ms (if yes = true then laysA x (allOf st.lk id) x.view st.sp else st.sp) :: plBox b [.map (some ms), a, .map (some mp), c] 4 :: plLk a (freeL id st.lk) :: plGM kdId (ptV (k + 8)) mp (rmv id st.pt) :: plIds c (id :: st.ov) :: L) := by
    have s14 := Sep.monoM (mono_pt (Nat.le_add_right k 8)) (s12.re10 [8, 2, 4, 7, 9] rfl)
    have s15 := Sep.monoM (mono_sp (show k + (td.map fun e => onN e.k x.ops).sum ≤ k + 8 by omega)) s14.up1
    have s16 := s15.re5 [0, 2, 3, 1, 4] rfl
    cases yes with
    | false => exact s16
    | true => exact Sep.permM (laysA_perm x _ hi.dsp hvn hab) s16
   exact ⟨trivial, Sep.closeVlt (st := (⟨if yes = true then laysA x (allOf st.lk id) x.view st.sp else st.sp, freeL id st.lk, rmv id st.pt, id :: st.ov⟩ : VltM)) (s13.re5 [1, 0, 2, 3, 4] rfl)⟩
end Go.Abs
namespace Go.Abs
open Go Go.Proofs
variable {E : FE} {F : Fr} {h : AHeap} {L : List Pl} {k : Nat} {p v : V} {st : VltM} {ov : List IdM}
def plIl (v : V) (l : List IdM) : Pl := ⟨fun h f => SlE dId h f v l, fun _ _ q => q.lt, fun _ _ _ q hl hs => SlE.same q hl hs⟩
theorem col_row (ks : List IdM) (h : AHeap) : ∃ fp', SlE dId (colH ks h) fp' (colV ks h) ks ∧ Mod h [] (colH ks h) fp' := by
 unfold colH colV
 by_cases hk : ks = []
 · subst hk
   exact ⟨[], SlE.nil (D := dId), Mod.refl (by simp)⟩
 · rw [if_neg hk, if_neg hk]
   refine ⟨[h.next], ⟨dId.flat_len ks, .inr ⟨h.next, 2 * ks.length + 1, flatI ks, rfl, rfl, by simp, by omega, by simp; rfl, ?_, ?_⟩⟩, by simp, fun x hx _ => ?_, by simp, by simp⟩
   · rw [flatI_len]
     have : (2 * ks.length + 1) / 2 = ks.length := by omega
     rw [this]
     exact Nat.le_refl _
   · rw [List.take_of_length_le (by rw [flatI_len]; exact Nat.le_refl _)]
     rfl
   · have a : x ≠ h.next := by omega
     simp [a]
theorem keys_collect {α : Type} {A : IdM → V → α → Pl} {m b g : Nat} {l : List (IdM × α)} (s : Sep F h (plGM kdId A m l :: plBox b [.map (some m)] 1 :: L)) (hl : l.length ≤ 1000000) (hg : g = E.k 11 ∨ g = E.k 13 ∨ g = E.k 16) {K : V → AHeap → Prop}
 (hK : ∀ r h' ks, ks.Perm (keysL l) → Sep F h' (plIl r ks :: plGM kdId A m l :: plBox b [.map (some m)] 1 :: L) → K r h') :
 cl (Go.Abs.F.slices_Collect_api_Id E) [.func (.func g) #[] #[ptr b 0]] h K := by
 refine cl_of ?_
 obtain ⟨t, clk, q, s1⟩ := s.openM
 have gm := s1.mapGet
 rw [map_meg] at gm
 have htl : t.length = l.length := by have := q.perm.length_eq; simpa [absE] using this
 refine ⟨rfl, hg, b, m, t.map Et.g, clk, 1, .rw, rfl, s.drop.get, gm, by simp; omega, ?_, ?_, fun ks hks => ?_⟩
 · rw [List.map_map]; exact q.bn
 · intro e he
   obtain ⟨e', he', rfl⟩ := List.mem_map.1 he
   exact q.lt e' he'
 · obtain ⟨fp', r1, r2⟩ := col_row ks h
   refine hK _ _ ks ?_ (s.alloc (plIl (colV ks h) ks) r2 r1)
   rw [keysG_g, ← absE_keys] at hks
   exact hks.trans (keys_perm q.perm)
def SortOk (E : FE) (n : Nat) : Prop := ∀ (h : AHeap) (fp : List Nat) (v : V) (l : List IdM), SlE dId h fp v l → l.length ≤ n →
 cl (Go.Abs.F.slices_SortFunc_Sapi_Id_api_Id E) [v, .func (.func (E.k 10)) #[] #[]] h fun r h' => ∃ l', l'.Perm l ∧ Srtd ordI l' ∧ SlE dId h' fp v l' ∧ Mod h fp h' fp
theorem sort12 (ve : VlE E) : SortOk E 12 := fun h fp v l s hl => by
 obtain ⟨E1, hE1⟩ := ve.nord
 exact sort_id ve.op.mono ordI_ord s (cmp_id hE1) hl
theorem ids_All {n : Nat} (so : SortOk E n) (hl : ov.length ≤ n) (hn : n ≤ 1000000) (s : Sep F h (plIds p ov :: L)) :
 cl (Go.Abs.F.name_Ids_All E) [p] h fun r h' => ∃ l', l'.Perm ov ∧ Srtd ordI l' ∧ Sep F h' (plIl r l' :: plIds p ov :: L) := by
 refine cl_of ?_
 obtain ⟨b, m, l, rfl, hp, s0⟩ := s.openIds
 have r0 : h.rd b 0 = some (.map (some m)) := by rw [rd_of s0.get 0]; rfl
 simp only [Go.Abs.F.name_Ids_All, ptr_eq_nil, kv_some, ifV_bool, Bool.false_eq_true, if_false, aNil_ptr, fieldAddr_ptr, ld_one, Nat.zero_add, r0]
 refine cl_of ?_
 have e2 : newD none (.map (some m)) h = some (ptr h.next 0, h.new (.cells [.map (some m)] 1 .rw)) := rfl
 simp only [Go.Abs.F.maps_Keys_map_api_Id_bool_api_Id_bool, e2, kP_some]
 have s1 := s0.box [.map (some m)] 1
 generalize h.new (.cells [.map (some m)] 1 .rw) = h1 at s1 ⊢
 generalize h.next = bx at s1 ⊢
 refine cl_of ?_
 simp only [Go.Abs.F.slices_SortedFunc_api_Id]
 have hll : l.length ≤ n := by
  have := hp.length_eq
  simp only [keysL, List.length_map] at this
  omega
 refine keys_collect (s1.re3 [2, 0, 1] rfl) (by omega) (.inr (.inl rfl)) fun r h2 ks hks s2 => ?_
 obtain ⟨f, q, kk⟩ := s2.head
 have q : SlE dId h2 f r ks := q
 have hkl : ks.length ≤ n := by
  have := hks.length_eq
  simp only [keysL, List.length_map] at this
  omega
 refine cl_then (so h2 f r ks q hkl) ?_
 rintro r2 h3 ⟨l', hl', hs, q2, m2⟩
 refine ⟨l', (hl'.trans hks).trans hp, hs, ?_⟩
 have s3 := kk (plIl r l') m2 q2
 exact (Sep.closeIds hp (s3.re4 [3, 1, 0] rfl)).up1
theorem ids_New {l : List IdM} (hnd : l.Nodup) (hl : l.length ≤ 1000000) (s : Sep F h (plIl v l :: L)) :
 cl (Go.Abs.F.name_New E) [v] h fun r h' => Sep F h' (plIds r l :: plIl v l :: L) := by
 refine cl_of ?_
 simp only [Go.Abs.F.name_New]
 have e1 : makeMapD true none h = some (.map (some h.next), h.new (.map [] 0)) := rfl
 rw [e1, kP_some]
 have s1 := s.newM (D := kdId) (A := idV)
 generalize h.new (.map [] 0) = h1 at s1 ⊢
 generalize h.next = m at s1 ⊢
 have e2 : buildD (.struct [(.map none)] [(0, 1)]) [(0, .map (some m))] = some (.agg #[.map (some m)]) := rfl
 have e3 : newD none (.agg #[.map (some m)]) h1 = some (ptr h1.next 0, h1.new (.cells [.map (some m)] 1 .rw)) := rfl
 rw [e2, kv_some, e3, kP_some]
 have s2 := s1.box [.map (some m)] 1
 generalize h1.new (.cells [.map (some m)] 1 .rw) = h2 at s2 ⊢
 generalize h1.next = b at s2 ⊢
 obtain ⟨f0, q0, _⟩ := s2.up2.head
 have q0 : SlE dId h2 f0 v l := q0
 rw [q0.len, kv_some]
 refine ⟨fun n vs h' => ∃ (i : Nat) (ls : List (IdM × Unit)), vs = [i64 i] ∧ n = l.length - i ∧ i ≤ l.length ∧ keysL ls = l.take i ∧ Sep F h' (plBox b [.map (some m)] 1 :: plGM kdId idV m ls :: plIl v l :: L), l.length, ⟨0, [], rfl, by omega, by omega, by simp [keysL], s2⟩, ?_⟩
 rintro n e h3 ⟨i, ls, he, rfl, hi, hk, s3⟩
 simp only [List.cons.injEq, and_true] at he
 simp only [he, bin_lss, kv_some, ifV_bool, decide_eq_true_eq]
 rcases Nat.lt_or_ge i l.length with hx | hx
 case inr =>
  rw [if_neg (show ¬ ((i : Nat) : Int) < (l.length : Nat) by omega)]
  rw [List.take_of_length_le hx] at hk
  exact Sep.closeIds (by rw [hk]) s3
 rw [if_pos (show ((i : Nat) : Int) < (l.length : Nat) by omega)]
 obtain ⟨f1, q1, _⟩ := s3.up2.head
 have q1 : SlE dId h3 f1 v l := q1
 have hg : l[i]? = some l[i] := List.getElem?_eq_getElem hx
 obtain ⟨c, i1, i2⟩ := q1.ld hg
 have i1 : indexAddrD (.slice 2) _ _ = _ := i1
 have i2 : ldD (.agg 2) _ _ = some (l[i]).agg := i2
 have htk : l.take (i + 1) = l.take i ++ [l[i]] := by rw [List.take_add_one, hg]; rfl
 have hni : l[i] ∉ l.take i := by
  have := hnd
  rw [← List.take_append_drop (i + 1) l, htk, List.append_assoc, List.nodup_append] at this
  intro hm
  exact this.2.2 _ hm l[i] (List.mem_append_left _ (List.mem_singleton.2 rfl)) rfl
 generalize l[i] = x at i2 htk hni
 simp only [i1, kv_some, i2, newI0, kP_some]
 have s4 := s3.box (cId ⟨0, 0⟩) 2
 rw [st2 s4.get, kH_some]
 have s5 := s4.write (cs' := cId x)
 generalize AHeap.put _ _ _ = h5 at s5 ⊢
 have r0 : h5.rd b 0 = some (.map (some m)) := by rw [rd_of s5.drop.get 0]; rfl
 simp only [aNil_ptr, kv_some, fieldAddr_ptr, ld_one, Nat.zero_add, r0, ld2 s5.get]
 obtain ⟨h6, e6, s6⟩ := Sep.insM (D := kdId) (A := idV) (k := x) (v := .bool true) (x := ()) (z := .bool false) (Sep.up1 (Sep.mkPure (φ := (Value.bool true : V) = .bool true) rfl s5.drop.up1))
 have e6 : mapUpdateD (some ((.struct false [(0, .int), (1, .int)]), (some (.bool false)))) (.map (some m)) x.agg (.bool true) h5 = some h6 := e6
 rw [e6, kH_some, add_i64 _ 1 (by omega) (by omega), kv_some]
 refine ⟨l.length - (i + 1), by omega, i + 1, _, by simp, rfl, by omega, ?_, s6.up1⟩
 have hk2 : Go.Abs.lkp x ls = none := lkp_none.2 (by rw [hk]; exact hni)
 rw [keys_ins, if_pos hk2, hk, htk]
theorem vault_Waits {n : Nat} (so : SortOk E n) (hl : st.pt.length ≤ n) (hn : n ≤ 1000000) (s : Sep F h (plVlt k p st :: L)) :
 cl (Go.Abs.F.vault_Vault_Waits E) [p] h fun r h' => ∃ l', l'.Perm (keysL st.pt) ∧ Srtd ordI l' ∧ Sep F h' (plIl r l' :: plVlt k p st :: L) := by
 refine cl_of ?_
 obtain ⟨b, ms, a, mp, c, rfl, s0⟩ := s.openVlt
 have r2 : h.rd b 2 = some (.map (some mp)) := by rw [rd_of s0.get 2]; rfl
 simp only [Go.Abs.F.vault_Vault_Waits, ptr_eq_nil, kv_some, ifV_bool, Bool.false_eq_true, if_false, aNil_ptr, fieldAddr_ptr, ld_one, Nat.zero_add, r2]
 refine cl_of ?_
 have e2 : newD none (.map (some mp)) h = some (ptr h.next 0, h.new (.cells [.map (some mp)] 1 .rw)) := rfl
 simp only [Go.Abs.F.maps_Keys_map_api_Id_vault_part_api_Id_vault_part, e2, kP_some]
 have s1 := s0.box [.map (some mp)] 1
 generalize h.new (.cells [.map (some mp)] 1 .rw) = h1 at s1 ⊢
 generalize h.next = bx at s1 ⊢
 have hnd := Sep.nodupM (s1.re6 [4] rfl)
 refine keys_collect (s1.re6 [4, 0, 1, 2, 3, 5] rfl) (by omega) (.inl rfl) fun r h2 ks hks s2 => ?_
 have hkl : ks.length ≤ n := by
  have := hks.length_eq
  simp only [keysL, List.length_map] at this
  omega
 refine cl_then (ids_New (hks.nodup_iff.2 hnd) (by omega) s2) ?_
 intro q h3 s3
 refine cl_then (ids_All so hkl hn s3) ?_
 rintro r2 h4 ⟨l', hl', hs, s4⟩
 refine ⟨l', hl'.trans hks, hs, ?_⟩
 exact (Sep.closeVlt (s4.re9 [5, 6, 7, 3, 8, 0] rfl)).up1
theorem vault_Space (n : ByteArray) (s : Sep F h (plVlt k p st :: L)) :
 cl (Go.Abs.F.vault_Vault_Space E) [p, str n] h fun r h' => Sep F h' (vwV k n r (lkp n st.sp) :: plVlt k p st :: L) := by
 refine cl_of ?_
 obtain ⟨b, ms, a, mp, c, rfl, s0⟩ := s.openVlt
 have r0 : h.rd b 0 = some (.map (some ms)) := by rw [rd_of s0.get 0]; rfl
 simp only [Go.Abs.F.vault_Vault_Space, ptr_eq_nil, kv_some, ifV_bool, Bool.false_eq_true, if_false, aNil_ptr, fieldAddr_ptr, ld_one, Nat.zero_add, r0]
 cases hk : Go.Abs.lkp n st.sp with
 | none =>
  have h1 := s0.up1.lookNone (z := nil) hk false
  have h1 : lookupD (some (.string, (some (.pointer none)))) (.map (some ms)) (str n) false h = some nil := h1
  rw [h1, kv_some]
  refine cl_then clone_nil ?_
  rintro r h2 ⟨rfl, rfl⟩
  exact Sep.mkPure (φ := (nil : V) = nil) rfl (Sep.closeVlt s0)
 | some x =>
  obtain ⟨w, h1, s1⟩ := s0.up1.lookSome (z := nil) hk false
  have h1 : lookupD (some (.string, (some (.pointer none)))) (.map (some ms)) (str n) false h = some w := h1
  rw [h1, kv_some]
  refine cl_then (clone_SpM s1) ?_
  intro r h2 s2
  have s3 := Sep.backM (A := spV k) (k := n) (v := w) (x' := x) (s2.re7 [1, 2, 0, 3, 4, 5, 6] rfl) hk
  rw [ins_same hk] at s3
  exact (Sep.closeVlt (s3.re6 [2, 0, 3, 4, 5, 1] rfl)).up1
def namesT (l : List (ByteArray × SpM)) : List ByteArray := (((keysL l).map kl).mergeSort fun x y => decide (x ≤ y)).map fun k => ⟨k.toArray⟩
theorem namesT_len (l : List (ByteArray × SpM)) : (namesT l).length = l.length := by simp [namesT, keysL]
theorem vault_Spaces (hl : st.sp.length ≤ 1000) (hz : ∀ n ∈ keysL st.sp, n.size ≤ 20) (s : Sep F h (plVlt k p st :: L)) :
 cl (Go.Abs.F.vault_Vault_Spaces E) [p] h fun r h' => Sep F h' (plStrs r (namesT st.sp) :: plVlt k p st :: L) := by
 refine cl_of ?_
 obtain ⟨b, ms, a, mp, c, rfl, s0⟩ := s.openVlt
 have r0 : h.rd b 0 = some (.map (some ms)) := by rw [rd_of s0.get 0]; rfl
 simp only [Go.Abs.F.vault_Vault_Spaces, ptr_eq_nil, kv_some, ifV_bool, Bool.false_eq_true, if_false, aNil_ptr, fieldAddr_ptr, ld_one, Nat.zero_add, r0]
 refine cl_of ?_
 have e2 : newD none (.map (some ms)) h = some (ptr h.next 0, h.new (.cells [.map (some ms)] 1 .rw)) := rfl
 simp only [Go.Abs.F.maps_Keys_map_string_space_Space_string_space_Space, e2, kP_some]
 have s1 := s0.box [.map (some ms)] 1
 generalize h.new (.cells [.map (some ms)] 1 .rw) = h1 at s1 ⊢
 generalize h.next = bx at s1 ⊢
 obtain ⟨t, clk, q, s2⟩ := Sep.openM (s1.re6 [2, 0, 1, 3, 4, 5] rfl)
 have htl : t.length = st.sp.length := by have := q.perm.length_eq; simpa [absE] using this
 have hkp : (t.map (·.k)).Perm (keysL st.sp) := by rw [← absE_keys]; exact keys_perm q.perm
 have htk : (t.map (·.k)).Nodup := hkp.nodup_iff.2 q.nd
 have e1 : srtK (t.map (Et.m kdStr)) = ((keysL st.sp).map kl).mergeSort fun x y => decide (x ≤ y) := by
  unfold srtK
  have : (t.map (Et.m kdStr)).map (fun e => keyB e.key) = (t.map (·.k)).map kl := by
   rw [List.map_map, List.map_map]
   rfl
  rw [this]
  exact mergeSort_of_perm (hkp.map kl)
 obtain ⟨fp', q1, q2⟩ := sorted_row (srtK (t.map (Et.m kdStr))) h1
 have q3 : Ts (sortH (srtK (t.map (Et.m kdStr))) h1) fp' (sortV (srtK (t.map (Et.m kdStr))) h1) (namesT st.sp) := by
  unfold Ts
  have e3 : (srtK (t.map (Et.m kdStr))).length = (namesT st.sp).length := by rw [e1]; simp [namesT]
  have e4 : (srtK (t.map (Et.m kdStr))).map encStr = (namesT st.sp).map str := by
   rw [e1]
   unfold namesT
   rw [List.map_map]
   rfl
  rw [← e3, ← e4]
  exact q1
 refine cl_of ?_
 refine ⟨rfl, .inr (.inr rfl), bx, ms, t.map (Et.m kdStr), clk, 1, .rw, rfl, Sep.get (s1.re6 [0] rfl), s2.mapGet, by simp; omega, fun x hx => ?_, ?_, ?_, ?_⟩
 · obtain ⟨e, he, rfl⟩ := List.mem_map.1 hx
   have h1 := hz e.k (hkp.mem_iff.1 (List.mem_map.2 ⟨e, he, rfl⟩))
   exact ⟨⟨e.k, rfl, by simp only [maxLen]; omega⟩, q.lt e he⟩
 · rw [map_born]
   exact q.bn
 · rw [List.map_map]
   exact List.pairwise_map.2 ((List.pairwise_map.1 htk).imp fun {a b} hab e => hab (Value.string.inj e))
 · have s3 := Sep.closeM q s2
   have s4 := s3.alloc (plStrs _ (namesT st.sp)) q2 q3
   exact (Sep.closeVlt (s4.re7 [3, 1, 4, 5, 6, 0] rfl)).up1
end Go.Abs
namespace Go.Abs
open Go Go.Proofs
variable {E : FE} {F : Fr} {h : AHeap} {L : List Pl} {k : Nat} {p v : V} {st : VltM}
theorem kv_of {x : Option V} {v : V} {K : V → Prop} (hx : x = some v) (hk : K v) : kv x K := by subst hx; rwa [kv_some]
theorem kP_of {x : Option (V × AHeap)} {v : V} {g : AHeap} {K : V → AHeap → Prop} (hx : x = some (v, g)) (hk : K v g) : kP x K := by subst hx; rwa [kP_some]
theorem begun_spec : cl (Go.Abs.F.estafettelaw14_begun E) [] h fun r h' => r = .bool true ∧ h' = h := cl_of ⟨rfl, rfl, rfl⟩
theorem Sep.litOps (s : Sep F h L) (l : List Oq) (hl : l ≠ []) : Sep F (h.new (.cells (dOp.flat l) 5 .rw)) (plOps (.slice (some ⟨h.next, 0, none⟩) l.length (2 * l.length)) l :: L) :=
 s.alloc (a' := [h.next]) (plOps (.slice (some ⟨h.next, 0, none⟩) l.length (2 * l.length)) l) ⟨by simp, fun x hx _ => by
  have : x ≠ h.next := by omega
  simp [this], by simp, by simp⟩ (SlE.lit dOp h l hl)
theorem Ro.pre {N es n k : Nat} {cs : List V} (s : Ro N h v es n cs) (he : 0 < es) (hk : k ≤ n) : ∃ v', sliceD (.slice es) v none (some (i64 k)) none h = some v' ∧ aLenOf v' = some k ∧ (k ≠ 0 → aSrc es v' h = some (cs.take (k * es))) := by
 obtain ⟨h0, h1, ⟨rfl, rfl⟩ | ⟨b, o, c, all, rfl, hb, hc, hg, ha⟩⟩ := s
 · obtain rfl : k = 0 := by omega
   exact ⟨.slice none 0 0, by simp [sliceD, aBoundO, aBound], rfl, fun h => absurd rfl h⟩
 · have hk2 : (0 : Int) ≤ k ∧ (k : Int) ≤ ((c / 2 : Nat) : Int) := by omega
   refine ⟨.slice (some ⟨b, o, none⟩) k c, ?_, rfl, fun hk0 => ?_⟩
   · simp only [sliceD, hg, if_true, aBoundO, aBound, if_pos hk2, Int.toNat_natCast]
   · show h.rdN b o (k * es) = _
     have h2 : k * es ≤ n * es := Nat.mul_le_mul_right _ hk
     have h3 : ((all.drop o).take (n * es)).length = n * es := by rw [ha, h0]
     rw [List.length_take, List.length_drop] at h3
     have h4 : 0 < k * es := Nat.mul_pos (by omega) he
     rw [rdN_of hg, if_pos (by omega), ← ha, List.take_take, Nat.min_eq_left h2]
def G.cut (n : Int) : Spec := fun args h K => match args with
| [a0] =>
kv (lenD .slice a0 h) fun v5_0 =>
kv (aMinMax false [v5_0, (.int .i64 n)]) fun v6_1 =>
kv (sliceD (.slice 5) a0 none (some v6_1) none h) fun v7_2 =>
kP (appendD (some (5, 64, [(.int .i64 0), (.string ⟨#[]⟩), (.string ⟨#[]⟩), (.string ⟨#[]⟩), (.int .i64 0)])) (.slice none 0 0) v7_2 h) fun v8_3 h =>
K v8_3 h
| _ => False
theorem Ops_cut (E : FE) : Go.Abs.F.estafettelaw12_Ops E = G.cut 10 := rfl
theorem few_cut (E : FE) : Go.Abs.F.estafettelaw14_few E = G.cut 8 := rfl
theorem cut_ops {N : Nat} {l : List Oq} (n : Nat) (hn : n ≤ 1000) (hO : Oqs N h v l) (s : Sep F h L) : cl (G.cut n) [v] h fun r h' => Sep F h' (plOps r (l.take n) :: L) := by
 refine cl_of ?_
 have hO : Ro N h v 5 l.length (l.flatMap Oq.cells) := hO
 have e : min ((l.length : Nat) : Int) (n : Int) = ((min l.length n : Nat) : Int) := by omega
 simp only [G.cut]
 rw [Ro.len hO h, kv_some, min2, kv_some, e]
 obtain ⟨v', e1, e2, e3⟩ := Ro.pre hO (by decide) (k := min l.length n) (by omega)
 rw [e1, kv_some]
 have ht : l.take (min l.length n) = l.take n := by
  by_cases hl : l.length ≤ n
  · rw [Nat.min_eq_left hl, List.take_length, List.take_of_length_le hl]
  · rw [Nat.min_eq_right (by omega)]
 have hf : (l.flatMap Oq.cells).take (min l.length n * 5) = dOp.flat (l.take n) := by rw [← ht]; exact dOp.flat_take l _
 have hlen : (l.take n).length = min l.length n := by rw [List.length_take, Nat.min_comm]
 rw [hf] at e3
 obtain ⟨w, h', fp', a1, a2, a3⟩ := Sl.append (Sl.nil (h := h) (es := 5)) (bytes := 64) (z := zOp) (new := dOp.flat (l.take n)) rfl (by decide) (by decide) e2 e3 (by rw [dOp.flat_len, hlen]; rfl) (dOp.flat_one _) (by omega)
 simp only [zOp] at a1
 rw [a1, kP_some]
 refine s.alloc (plOps w (l.take n)) a3 ?_
 rw [Nat.zero_add, List.nil_append, ← hlen] at a2
 exact a2
theorem texts14 (E : FE) : Go.Abs.F.estafettelaw14_texts E = Go.Abs.F.estafettelaw8_texts E := rfl
theorem texts_ok {x y : V} {a b : List ByteArray} (hsz : a.length ≤ 1000000) (s : Sep F h (plStrs x a :: plStrs y b :: L)) : cl (Go.Abs.F.estafettelaw14_texts E) [x, y] h fun r h' => h' = h ∧ r = .bool (decide (a = b)) := by
 obtain ⟨f1, q1, _⟩ := s.head
 obtain ⟨f2, q2, _⟩ := s.up1.head
 have q1 : Ts h f1 x a := q1
 have q2 : Ts h f2 y b := q2
 rw [texts14]
 exact law_texts q1.rdt q2.rdt hsz
def nowOf : Option PartM → Int
 | some x => x.now
 | none => 0
theorem vault_AtN (id : IdM) (s : Sep F h (plVlt k p st :: L)) :
 cl (Go.Abs.F.vault_Vault_At E) [p, id.agg] h fun r h' => r = i64 (nowOf (lkp id st.pt)) ∧ Sep F h' (plVlt k p st :: L) := by
 refine cl_then (vault_At id s) ?_
 rintro r h' ⟨rfl, s1⟩
 exact ⟨by cases lkp id st.pt <;> rfl, s1⟩
/-! ### Plain -/
variable {id : IdM} {ops : List Oq} {now : Int}
theorem prep_ov : (prepV st id ops now).2.ov = st.ov := by
 unfold prepV
 split
 · rfl
 · split
   · rfl
   · split
     · rfl
     · split <;> rfl
theorem prep_only (ho : ∀ e ∈ st.pt, e.1 = id) : ∀ e ∈ (prepV st id ops now).2.pt, e.1 = id := by
 unfold prepV
 split
 · exact ho
 · split
   · exact ho
   · rename_i hp
     split
     · exact ho
     · split
       · exact ho
       · intro e he
         have he : e ∈ ins id _ st.pt := he
         rw [ins_new hp] at he
         rcases List.mem_append.1 he with he | he
         · exact ho e he
         · rw [List.mem_singleton.1 he]
theorem prep_again {p : PartM} (ho : id ∉ st.ov) (ha : allO ops = true) (hp : lkp id st.pt = some p) : prepV st id ops now = ((p.vals, true), st) := by
 unfold prepV
 rw [if_neg (by simp [ho, ha])]
 simp only [hp]
theorem prep_some (h : (prepV st id ops now).1.2 = true) : id ∉ st.ov ∧ allO ops = true ∧ ∃ p, lkp id (prepV st id ops now).2.pt = some p ∧ p.vals = (prepV st id ops now).1.1 ∧ (lkp id st.pt = none → p.now = now) := by
 unfold prepV at h ⊢
 by_cases h0 : id ∈ st.ov ∨ allO ops = false
 · rw [if_pos h0] at h; cases h
 rw [if_neg h0] at h ⊢
 refine ⟨fun hh => h0 (.inl hh), ?_, ?_⟩
 · cases ha : allO ops with
   | true => rfl
   | false => exact absurd (.inr ha) h0
 cases hp : lkp id st.pt with
 | some p => exact ⟨p, hp, rfl, fun hh => by cases hh⟩
 | none =>
  rw [hp] at h
  simp only at h ⊢
  by_cases hb : blocked id (ops.map lockOf) st.lk = true
  · rw [if_pos hb] at h; cases h
  rw [if_neg hb] at h ⊢
  cases hv : partV st.sp st.pt now ops [] [] with
  | none => rw [hv] at h; cases h
  | some r =>
   obtain ⟨vals, vw⟩ := r
   exact ⟨⟨ops, vals, now, vw⟩, by simp only [lkp_ins, if_true], rfl, fun _ => rfl⟩
theorem prep_over (ho : id ∈ st.ov) : prepV st id ops now = (([], false), st) := by
 unfold prepV
 rw [if_pos (.inl ho)]
theorem dec_ov (yes : Bool) : id ∈ (decV st id yes).2.ov := by
 unfold decV
 split
 · assumption
 · split <;> simp
theorem dec_ov_eq {yes : Bool} (ho : id ∉ st.ov) : (decV st id yes).2.ov = id :: st.ov ∧ (decV st id yes).1 = true := by
 unfold decV
 rw [if_neg ho]
 split <;> exact ⟨rfl, rfl⟩
theorem dec_only {yes : Bool} (ho : id ∉ st.ov) (hd : (keysL st.pt).Nodup) (hp : ∀ e ∈ st.pt, e.1 = id) : (decV st id yes).2.pt = [] := by
 unfold decV
 rw [if_neg ho]
 cases hk : lkp id st.pt with
 | none =>
  show st.pt = []
  cases hpt : st.pt with
  | nil => rfl
  | cons a l =>
   exfalso
   have h1 := hp a (by rw [hpt]; simp)
   refine lkp_none.1 hk ?_
   rw [hpt]
   exact List.mem_map.2 ⟨a, by simp, h1⟩
 | some x =>
  show rmv id st.pt = []
  cases hr : rmv id st.pt with
  | nil => rfl
  | cons a l =>
   exfalso
   obtain ⟨h1, h2⟩ := mem_rmv hd (show a ∈ rmv id st.pt by rw [hr]; simp)
   exact h2 (hp a h1)
theorem one_pt {yes : Bool} (i : VInv k st) (ho : id ∉ st.ov) (hp : st.pt = []) : (decV (prepV st id ops now).2 id yes).2.pt = [] :=
 dec_only (by rw [prep_ov]; exact ho) (inv_prep i id ops now).dpt (prep_only (by rw [hp]; simp))
theorem prep_vals8 (i : VInv k st) : (prepV st id ops now).1.1.length ≤ 8 := by
 have i2 := inv_prep i id ops now
 by_cases h : (prepV st id ops now).1.2 = true
 · obtain ⟨_, _, p, h1, h2, _⟩ := prep_some h
   rw [← h2]
   exact i2.val8 _ (lkp_mem h1)
 · unfold prepV at h ⊢
   split
   · simp
   · rename_i h0
     rw [if_neg h0] at h
     cases hp : lkp id st.pt with
     | some p => rw [hp] at h; exact absurd rfl h
     | none =>
      rw [hp] at h
      simp only at h ⊢
      split
      · simp
      · rename_i hb
        rw [if_neg hb] at h
        cases hv : partV st.sp st.pt now ops [] [] with
        | none => simp
        | some r =>
         rw [hv] at h
         exact absurd rfl h
end Go.Abs
